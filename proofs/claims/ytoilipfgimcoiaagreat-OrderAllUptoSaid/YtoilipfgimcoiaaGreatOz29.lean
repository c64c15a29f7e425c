/- PmH OdFi, joined. -/
import Derived.Test.YtoilipfgimcoiaaGreatOz10
import Derived.Test.YtoilipfgimcoiaaGreatOz11
import Derived.Test.YtoilipfgimcoiaaGreatOz28
set_option linter.unusedVariables false
set_option linter.unusedSimpArgs false
namespace Go.Proofs.YtoilipfgimcoiaaGreat
open Go Go.RowKit
def flS (x : ShX) : ShX := if x.done = true then x else { x with done := true }
theorem flS_t {x : ShX} (h : x.done = true) : flS x = x := if_pos h
theorem flS_f {x : ShX} (h : x.done = false) : flS x = { x with done := true } := if_neg (by rw [h]; simp)
structure ShW (w : World) (K : Nat → Nat) (ρ : Nat) (x : ShX) : Prop where
 l0 : x.h.n ≤ 1000000
 l1 : x.s.n ≤ 1000000
 l2 : x.i.n ≤ 1000000
 l3 : x.m.n ≤ 1000000
 l4 : x.d.n ≤ 1000000
 o0 : OwnO w K (ρ + 0) 1 mkI x.h.A x.h.c (marks x.mark x.h.n)
 o1 : OwnO w K (ρ + 1) 2 mkS x.s.A x.s.c (marks x.mark x.s.n)
 o2 : OwnO w K (ρ + 2) 9 mkT x.i.A x.i.c (marks x.mark x.i.n)
 o3 : OwnO w K (ρ + 3) 4 mkM x.m.A x.m.c (marks x.mark x.m.n)
 o4 : OwnO w K (ρ + 4) 4 mkD x.d.A x.d.c (marks x.mark x.d.n)
def ShH (w : World) (K : Nat → Nat) (ρ : Nat) (x : ShX) : Prop := x.mark ≤ 1000000 ∧ ((x.done = true ∧ ShD w K ρ x) ∨ (x.done = false ∧ ShW w K ρ x))
section
variable {K K' Kk : Nat → Nat} {w w' W : World} {b T ρ q g off : Nat} {Y : PyX} {Q : Nat → Prop} {x y : ShX}
theorem ShW.ro (h : ShW w K ρ x) (r : Ro Q K K' w w') (hr : ∀ z, ρ ≤ z → z < ρ + 5 → ¬ Q z) : ShW w' K' ρ x := ⟨h.l0, h.l1, h.l2, h.l3, h.l4, h.o0.ro r (hr _ (by omega) (by omega)), h.o1.ro r (hr _ (by omega) (by omega)), h.o2.ro r (hr _ (by omega) (by omega)), h.o3.ro r (hr _ (by omega) (by omega)), h.o4.ro r (hr _ (by omega) (by omega))⟩
theorem ShH.ro (h : ShH w K ρ x) (r : Ro Q K K' w w') (hr : ∀ z, ρ ≤ z → z < ρ + 5 → ¬ Q z) : ShH w' K' ρ x := by
 obtain ⟨hm, ⟨hd, H⟩ | ⟨hd, H⟩⟩ := h
 · exact ⟨hm, .inl ⟨hd, H.ro r hr⟩⟩
 · exact ⟨hm, .inr ⟨hd, H.ro r hr⟩⟩
theorem Gr1.dn {r sz mark : Nat} {mk : Int → List Value} {x y : LsX} (h : Gr1 w K r sz mk mark x y 64) (hl : x.n ≤ 1000000) : LsD w K r sz mk mark y := ⟨by rw [h.en]; exact hl, by rw [h.n2, h.en], by rw [h.eA, h.ec, h.en]; exact h.two.1, by rw [h.en]; exact h.two.2.1.rowB⟩
theorem GrS.dn' (h : GrS w K x g off q ρ 64 64 64 64 64 y Kk W) (l0 : x.h.n ≤ 1000000) (l1 : x.s.n ≤ 1000000) (l2 : x.i.n ≤ 1000000) (l3 : x.m.n ≤ 1000000) (l4 : x.d.n ≤ 1000000) : ShD W Kk ρ y := ⟨by rw [h.me]; exact h.G0.dn l0, by rw [h.me]; exact h.G1.dn l1, by rw [h.me]; exact h.G2.dn l2, by rw [h.me]; exact h.G3.dn l3, by rw [h.me]; exact h.G4.dn l4⟩
def stQ (τ n z : Nat) : Prop := z = τ ∨ z = 3 ∨ (shR 0 ≤ z ∧ z < shR n)
structure StJ (w1 : World) (K1 : Nat → Nat) (Y : PyX) (τ bf i : Nat) (W : World) : Prop where
 row : OwnO W K1 3 17 eSh Y.A Y.c ((Y.sh.take i).map flS ++ Y.sh.drop i)
 lo : ∀ (p : Nat) (x : ShX), Y.sh[p]? = some x → p < i → ShH W K1 (shR p) x
 hi : ∀ (p : Nat) (x : ShX), Y.sh[p]? = some x → i ≤ p → ShAt W K1 (shR p) Y.bk.ps.length x
 fr : OwnO W K1 τ 1 eBo (some ⟨bf, 0, none⟩) Y.sh.length ((Y.sh.take i).map fun x => !x.done)
 ro : Ro (stQ τ Y.sh.length) K1 K1 w1 W
structure SgJ (w1 : World) (K1 : Nat → Nat) (Y : PyX) (τ bf i : Nat) (fs : List ShX) (Kk : Nat → Nat) (W : World) : Prop where
 fl : fs.length = i
 row : OwnO W Kk 3 17 eSh Y.A Y.c (fs ++ (Y.sh.drop i).map flS)
 lo : ∀ (p : Nat) (x : ShX), fs[p]? = some x → x.mark ≤ 1000000 ∧ x.done = true ∧ ShD W Kk (shR p) x
 hi : ∀ (p : Nat) (x : ShX), Y.sh[p]? = some x → i ≤ p → ShH W Kk (shR p) x
 fr : OwnO W Kk τ 1 eBo (some ⟨bf, 0, none⟩) Y.sh.length (Y.sh.map fun x => !x.done)
 ro : Ro (stQ τ Y.sh.length) K1 Kk w1 W
 kz : ∀ y, W.heap.size ≤ y → Kk y = 0
theorem rg_book {X' : BkX} (rg : w.rangeAt b 0 (ePy Y)) (h : BookAt w' K' 1 b 6 X') (ho : w'.heap[b]? = w.heap[b]?) : w'.rangeAt b 0 (ePy { Y with bk := X' }) := fun j u hu => by
 have hj : j < 10 := (List.getElem?_eq_some_iff.1 hu).1
 by_cases h6 : 6 ≤ j ∧ j < 9
 · obtain ⟨i, rfl⟩ : ∃ i, j = 6 + i := ⟨j - 6, by omega⟩
   have := h.rg i u (by
     have hi : i < 3 := by omega
     match i, hi with
     | 0, _ => exact hu
     | 1, _ => exact hu
     | 2, _ => exact hu)
   rw [Nat.zero_add]
   exact this
 · refine range_same rg ho j u ?_
   rw [← hu]
   match j, hj with
   | 0, _ => rfl
   | 1, _ => rfl
   | 2, _ => rfl
   | 3, _ => rfl
   | 4, _ => rfl
   | 5, _ => rfl
   | 6, _ => exact absurd ⟨by omega, by omega⟩ h6
   | 7, _ => exact absurd ⟨by omega, by omega⟩ h6
   | 8, _ => exact absurd ⟨by omega, by omega⟩ h6
   | 9, _ => rfl
theorem ePy_sh {fs : List ShX} (h : fs.length = Y.sh.length) : ePy { Y with sh := fs } = ePy Y := by unfold ePy; rw [h]
theorem PyB.settled {U : World} {K6 : Nat → Nat} {w6 : World} {fs : List ShX} {X6 : BkX} (B : PyB w K b Y) (qU : Ro Q K Kk w U) (n1 : ¬ Q 1) (hfl : fs.length = Y.sh.length) (rowE : OwnO U Kk 3 17 eSh Y.A Y.c fs) (hsh : ∀ (p : Nat) (x : ShX), fs[p]? = some x → x.mark ≤ 1000000 ∧ x.done = true ∧ ShD U Kk (shR p) x) (Bk6 : BookAt w6 K6 1 b 6 X6) (q6 : Ro (fun z => z = 2 ∨ (1000 ≤ z ∧ z < 1000 + Y.bk.ps.length)) Kk K6 U w6) (hl : X6.ps.length = Y.bk.ps.length) (hx : X6.next = Y.bk.next) : PyB w6 K6 b { Y with sh := fs, bk := X6 } := by
 have hP := B.bk.len
 have hb := B.hb
 have kU : Kk b = 1 := (qU.kk b B.hb).trans B.kb
 have bU : b < U.heap.size := Nat.lt_of_lt_of_le B.hb qU.size
 have n6 : ∀ {z}, (z < 2 ∨ (2 < z ∧ z < 1000) ∨ 2000 ≤ z) → ¬ (z = 2 ∨ (1000 ≤ z ∧ z < 1000 + Y.bk.ps.length)) := fun h e => by omega
 have g1 : w6.heap[b]? = w.heap[b]? := (q6.same b bU (by rw [kU]; exact n6 (by omega))).trans (qU.same b B.hb (by rw [B.kb]; exact n1))
 have r1 : w.rangeAt b 0 (ePy { Y with sh := fs }) := by rw [ePy_sh hfl]; exact B.rg
 refine ⟨Nat.lt_of_lt_of_le bU q6.size, Bk6.kg, rg_book (Y := { Y with sh := fs }) r1 Bk6 g1, there_same B.th g1, Bk6, rowE.ro q6 (n6 (by omega)), by show fs.length ≤ 36; rw [hfl]; exact B.sl, fun p x hx => ?_, by show X6.next = X6.ps.length; rw [hl, hx]; exact B.nx⟩
 obtain ⟨h1, h2, h3⟩ := hsh p x hx
 exact ⟨h1, .inr ⟨h2, h3.ro q6 fun z h4 h5 => n6 (by unfold shR at h4; omega)⟩⟩
set_option maxRecDepth 100000 in
set_option maxHeartbeats 16000000 in
theorem settle_any (H : PlayAt T w K b Y) (hT : T ≤ 100000) :
   Calls Tryz.prog 13 #[.pointer (some ⟨b, 0, none⟩)] w fun e w' => e = .returned (.bool true) ∧ StP T w K b w' := by
 refine calls_vc tab_ok Tryz.func13 rfl ?_
 conv => whnf
 repeat ((conv => whnf); first | refine Xt ?_ | refine Xq ?_ | refine Xn ?_ | refine Xj ?_ | refine Xo ?_); try (conv => whnf)
 refine VCall.mk _ (intact_any H.py) ?_
 rintro _ w0 ⟨rfl, b0⟩
 refine ⟨_, rfl, ?_⟩
 have B0 := H.py.below b0
 have hlen := B0.sl
 have hP := B0.bk.len
 have L0 := B0.l_sheets (l := [b]) (by simp)
 have s0 := Sm.refl [b] w0
 repeat ((conv => whnf); first | refine Xl (L0.at s0) ?_ | refine Xt ?_ | refine Xq ?_ | refine Xn ?_ | refine Xj ?_ | refine Xo ?_); try (conv => whnf)
 obtain ⟨n, hn⟩ : ∃ n, n = Y.sh.length := ⟨_, rfl⟩
 refine VW.run (v := .slice (some ⟨w0.heap.size, 0, none⟩) n n) (w' := w0.alloc (.cells (madeCells #[.bool false] n) 4)) (fun a ha => ?_) ?_
 · have h3 := ha (.tmp 14) _ rfl
   have := run_mk55 w0 n (by omega)
   rw [hn] at this ⊢
   simp only [execOp, h3, Sem.run_bind, Sem.run_pure, Result.andThen_ok]
   exact congrArg (fun z => Result.andThen z fun v w' => Result.ok (Next.value v) w') this
 have b1 : Below w0.heap.size w0 (w0.alloc (.cells (madeCells #[.bool false] n) 4)) := (Below.refl _ _).alloc (Nat.le_refl _) _
 have z1 : (w0.alloc (.cells (madeCells #[.bool false] n) 4)).heap.size = w0.heap.size + 1 := World.size_alloc _ _
 have t1 : (w0.alloc (.cells (madeCells #[.bool false] n) 4)).there w0.heap.size 0 n := by
   have := there_new w0 (madeCells #[.bool false] n) 4
   have e : (madeCells #[Value.bool false] n).size = n := by simp [madeCells]
   rwa [e] at this
 generalize w0.alloc (.cells (madeCells #[.bool false] n) 4) = w1 at b1 z1 t1 ⊢
 obtain ⟨bf, hbf⟩ : ∃ bf, bf = w0.heap.size := ⟨_, rfl⟩
 rw [← hbf] at t1 ⊢
 obtain ⟨p0, hp0⟩ := hiRole K w0.heap.size B0.bk.kz
 obtain ⟨τ, hτ⟩ : ∃ τ, τ = p0 + 200000 := ⟨_, rfl⟩
 obtain ⟨K1, hK1⟩ : ∃ K1 : Nat → Nat, K1 = fun y => if y = bf then τ else K y := ⟨_, rfl⟩
 have k1b : K1 bf = τ := by rw [hK1]; exact if_pos rfl
 have k1o : ∀ y, y ≠ bf → K1 y = K y := fun y hy => by rw [hK1]; exact if_neg hy
 have q1 : Ro (fun _ => False) K K1 w w1 := ((Ro.below b0).trans (Ro.below b1)).role fun y hy => k1o y (by have := b0.size; omega)
 have kz1 : ∀ y, w1.heap.size ≤ y → K1 y = 0 := fun y hy => (k1o y (by omega)).trans (B0.bk.kz y (by omega))
 have B1 := H.py.ro q1 kz1 fun _ e => e.elim
 have I0 : StJ w1 K1 Y τ bf 0 w1 := ⟨by simpa using B1.row, fun p x _ hp => absurd hp (by omega), fun p x hx _ => B1.sh p x hx, .inr ⟨bf, 0, rfl, by omega, k1b, by simp, by rw [Nat.mul_one, ← hn]; exact t1, fun k x hx => by simp at hx⟩, Ro.refl _ _ _⟩
 have sR0 : shR 0 = 100000 := rfl
 have sRn : shR Y.sh.length ≤ 100300 := by unfold shR; omega
 have nQ : ∀ {z}, z < 100000 → z ≠ 3 → ¬ stQ τ Y.sh.length z := fun h1 h2 e => by unfold stQ at e; omega
 rw [hn]
 repeat ((conv => whnf); first | refine Xt ?_ | refine Xq ?_ | refine Xn ?_ | refine Xj ?_ | refine Xo ?_); try (conv => whnf)
 refine VLoop.mk Nat (fun i => [(0, .pointer (some ⟨b, 0, none⟩)), (3, .slice (some ⟨bf, 0, none⟩) Y.sh.length Y.sh.length), (4, .int .i64 i)]) (fun i W => i ≤ Y.sh.length ∧ StJ w1 K1 Y τ bf i W) (fun i => Y.sh.length - i) 0 ⟨rfl, rfl, rfl, trivial⟩ ⟨Nat.zero_le _, I0⟩ ?_
 clear I0
 rintro i W ⟨hi, I⟩
 have gW : W.heap[b]? = w1.heap[b]? := I.ro.same b B1.hb (by rw [B1.kb]; exact nQ (by omega) (by omega))
 have zW := I.ro.size
 have M0 : Ld Tryz.prog 34 b 9 (Sm [b] W) (.slice Y.A Y.sh.length Y.c) := ⟨fun W' hW => (B1.l_sheets (l := [b]) (by simp)).out W' fun y hy => (hW y hy).trans (by rw [List.mem_singleton.1 hy]; exact gW)⟩
 have sW := Sm.refl [b] W
 have hlm : ((Y.sh.take i).map flS ++ Y.sh.drop i).length = Y.sh.length := by rw [List.length_append, List.length_map, List.length_take, List.length_drop]; omega
 by_cases hin : i < Y.sh.length
 case pos =>
   obtain ⟨x, hx⟩ : ∃ x, Y.sh[i]? = some x := ⟨_, List.getElem?_eq_getElem hin⟩
   have hxm : ((Y.sh.take i).map flS ++ Y.sh.drop i)[i]? = some x := by rw [List.getElem?_append_right (by rw [List.length_map, List.length_take]; omega), List.length_map, List.length_take, List.getElem?_drop, show i + (i - min i Y.sh.length) = i by omega]; exact hx
   obtain ⟨gP, oP, eP, gP1, gPk, gPc, gP4, gP5⟩ := I.row.get (by omega)
   rw [hlm] at gPc
   have M0' := M0
   rw [eP] at M0'
   have LD : Ld Tryz.prog 4 gP (addO (oP + mulO i 17) 16) (Eq W) (.bool x.done) := .of (load4 (by rw [addO_eq, mulO_eq]; exact gP5 i x hxm 16 _ rfl))
   obtain ⟨gf, of_, ef, gf1, gfk, gf4⟩ : ∃ gf of_, (some (⟨bf, 0, none⟩ : Addr)) = some ⟨gf, of_, none⟩ ∧ gf < W.heap.size ∧ K1 gf = τ ∧ W.there gf of_ (Y.sh.length * 1) := by
     rcases I.fr with ⟨e, -⟩ | ⟨gf, of_, e, h1, h2, -, h4, -⟩
     · cases e
     · exact ⟨gf, of_, e, h1, h2, h4⟩
   injection ef with ef
   injection ef with e1 e2 _
   subst e1 e2
   have tfi := gf4 i (by omega)
   repeat ((conv => whnf); first | refine Xl (M0'.at sW) ?_ | refine Xl LD ?_ | refine Xt ?_ | refine Xq ?_ | refine Xn ?_ | refine Xj ?_ | refine Xo ?_); try (conv => whnf)
   refine VStore.cell (by kernel_rfl) (by rw [show 0 + mulO i 1 = 0 + i from rfl]; exact tfi.1) (by rw [show 0 + mulO i 1 = 0 + i from rfl]; exact tfi.2) rfl rfl fun w2 hw2 => ?_
   have hfl : ((Y.sh.take i).map fun x : ShX => !x.done).length = i := by rw [List.length_map, List.length_take]; omega
   obtain ⟨F2, q2⟩ := I.fr.push (w' := w2) (fun _ => rfl) (by rw [hfl]; omega) (!x.done) (by rw [hw2.out, hfl, Nat.mul_one]; rfl)
   clear hw2
   have F2' : OwnO w2 K1 τ 1 eBo (some ⟨bf, 0, none⟩) Y.sh.length ((Y.sh.take (i + 1)).map fun x => !x.done) := by rw [take_one hx, List.map_append]; exact F2
   have z2 := q2.size
   have row2 := I.row.ro q2 (by omega)
   have lo2 : ∀ (p : Nat) (y : ShX), Y.sh[p]? = some y → p < i → ShH w2 K1 (shR p) y := fun p y hy hp => (I.lo p y hy hp).ro q2 fun z h1 h2 => by have := (List.getElem?_eq_some_iff.1 hy).1; unfold shR at h1 h2; omega
   have hi2 : ∀ (p : Nat) (y : ShX), Y.sh[p]? = some y → i ≤ p → ShAt w2 K1 (shR p) Y.bk.ps.length y := fun p y hy hp => (I.hi p y hy hp).ro q2 (fun z h1 h2 => by have := (List.getElem?_eq_some_iff.1 hy).1; unfold shR at h1 h2; omega) (by omega) (fun σ h1 h2 => by omega) (Nat.le_refl _)
   have ro2 := I.ro.trans (q2.more (R' := stQ τ Y.sh.length) fun z e => .inl e)
   have LF : Ld Tryz.prog 4 bf (0 + mulO i 1) (Eq w2) (.bool (!x.done)) := .of (load4 (by
     obtain ⟨gf', of', ef', -, -, -, -, h5⟩ := F2'.get (by rw [List.length_map, List.length_take]; omega)
     injection ef' with ef'
     injection ef' with e1 e2 _
     subst e1 e2
     have := h5 i (!x.done) (by rw [take_one hx, List.map_append, List.getElem?_append_right (by rw [hfl]; omega), hfl, Nat.sub_self]; rfl) 0 _ rfl
     rw [Nat.mul_one] at this
     exact this))
   obtain ⟨hxmk, hxA⟩ := hi2 i x hx (Nat.le_refl _)
   cases hd : x.done with
   | true =>
     rw [hd] at LF
     repeat ((conv => whnf); first | refine Xl LF ?_ | refine Xt ?_ | refine Xq ?_ | refine Xn ?_ | refine Xj ?_ | refine Xo ?_); try (conv => whnf)
     refine .mk (i + 1) ⟨rfl, rfl, rfl, trivial⟩ ⟨hin, ⟨by rw [mix_same hx (flS_t hd)]; exact row2, fun p y hy hp => ?_, fun p y hy hp => hi2 p y hy (by omega), F2', ro2⟩⟩ (by show Y.sh.length - (i + 1) < Y.sh.length - i; omega)
     by_cases e : p = i
     · subst e
       rw [hx] at hy
       injection hy with hy
       subst hy
       refine ⟨hxmk, .inl ⟨hd, ?_⟩⟩
       rcases hxA with ⟨h, -⟩ | ⟨-, h⟩
       · rw [hd] at h; cases h
       · exact h
     · exact lo2 p y hy (by omega)
   | false =>
     rw [hd] at LF
     have g2W : w2.heap[b]? = W.heap[b]? := q2.same b (by have := B1.hb; omega) (by rw [B1.kb]; omega)
     have M2 : Ld Tryz.prog 34 b 9 (Eq w2) (.slice Y.A Y.sh.length Y.c) := ⟨fun W' hW => M0.out W' fun y hy => by rw [← hW, List.mem_singleton.1 hy]; exact g2W⟩
     rw [eP] at M2
     repeat ((conv => whnf); first | refine Xl LF ?_ | refine Xl M2 ?_ | refine Xt ?_ | refine Xq ?_ | refine Xn ?_ | refine Xj ?_ | refine Xo ?_); try (conv => whnf)
     obtain ⟨gP', oP', eP', gP1', gPk', gPc', gP4', gP5'⟩ := row2.get (by omega)
     rw [eP] at eP'
     injection eP' with eP'
     injection eP' with e1 e2 _
     subst e1 e2
     have eo : oP + mulO i 17 = oP + i * 17 := by rw [mulO_eq]
     obtain ⟨a, s, it, m, d, SK⟩ : ∃ a s it m d, ShK w2 K1 (shR i) Y.bk.ps.length x a s it m d := by
       rcases hxA with ⟨-, h⟩ | ⟨h, -⟩
       · exact h
       · rw [hd] at h; cases h
     have l0 : x.h.n ≤ 1000000 := by rw [SK.fh.n]; exact SK.fh.le
     have l1 : x.s.n ≤ 1000000 := by rw [SK.fs.n]; exact SK.fs.le
     have l2 : x.i.n ≤ 1000000 := by rw [SK.fi.n]; exact SK.fi.le
     have l3 : x.m.n ≤ 1000000 := by rw [SK.fm.n]; exact SK.fm.le
     have l4 : x.d.n ≤ 1000000 := by rw [SK.fd.n]; exact SK.fd.le
     refine VCall.mk _ (swrite_any (ρ := shR i) (q := 3) (x := x) (off := oP + mulO i 17) (fun j u hu => by rw [eo]; exact gP5' i x hxm j u hu) (by rw [eo]; exact there_mid gP4' hin gPc) gP1' gPk' (by unfold shR; omega) hxmk (SK.fh.o.room SK.fh.n.symm) l0 (SK.fs.o.room SK.fs.n.symm) l1 (SK.fi.o.room SK.fi.n.symm) l2 (SK.fm.o.room SK.fm.n.symm) l3 (SK.fd.o.room SK.fd.n.symm) l4) ?_
     rintro _ w3 ⟨rfl, r3, t3, o0, o1, o2, o3, o4, q3, oth3⟩
     refine ⟨_, rfl, ?_⟩
     have z3 := q3.size
     have row3 : OwnO w3 K1 3 17 eSh Y.A Y.c ((Y.sh.take (i + 1)).map flS ++ Y.sh.drop (i + 1)) := by
       rw [← mix_set hx, eP]
       rw [eP] at row2
       exact row2.setOth eSh_len (by rw [hlm]; exact hin) (by rw [flS_f hd, ← eo]; exact r3) (by rw [← eo]; exact oth3) z3 rfl
     have ro3 := ro2.trans (q3.more (R' := stQ τ Y.sh.length) fun z e => e.elim (fun e => .inr (.inr (by unfold shR at e ⊢; omega))) fun e => .inr (.inl e))
     repeat ((conv => whnf); first | refine Xt ?_ | refine Xq ?_ | refine Xn ?_ | refine Xj ?_ | refine Xo ?_); try (conv => whnf)
     refine .mk (i + 1) ⟨rfl, rfl, rfl, trivial⟩ ⟨hin, ⟨row3, fun p y hy hp => ?_, fun p y hy hp => (hi2 p y hy (by omega)).ro q3 (fun z h1 h2 e => by unfold shQ shR at *; omega) (fun e => by unfold shQ shR at *; omega) (fun σ h1 h2 e => by unfold shQ shR at *; omega) (Nat.le_refl _), F2'.ro q3 (fun e => by unfold shQ shR at *; omega), ro3⟩⟩ (by show Y.sh.length - (i + 1) < Y.sh.length - i; omega)
     by_cases e : p = i
     · subst e
       rw [hx] at hy
       injection hy with hy
       subst hy
       exact ⟨hxmk, .inr ⟨hd, l0, l1, l2, l3, l4, o0, o1, o2, o3, o4⟩⟩
     · exact (lo2 p y hy (by omega)).ro q3 fun z h1 h2 e2 => by unfold shQ shR at *; omega
 obtain rfl : i = Y.sh.length := by omega
 repeat ((conv => whnf); first | refine Xl (M0.at sW) ?_ | refine Xt ?_ | refine Xq ?_ | refine Xn ?_ | refine Xj ?_ | refine Xo ?_); try (conv => whnf)
 have J0 : SgJ w1 K1 Y τ bf 0 [] K1 W := ⟨rfl, by
   have := I.row
   simpa using this, fun p x hx => by simp at hx, fun p x hx _ => I.lo p x hx (List.getElem?_eq_some_iff.1 hx).1, by
   have := I.fr
   simpa using this, I.ro, fun y hy => kz1 y (by omega)⟩
 refine VLoop.mk Nat (fun i => [(0, .pointer (some ⟨b, 0, none⟩)), (3, .slice (some ⟨bf, 0, none⟩) Y.sh.length Y.sh.length), (5, .int .i64 i)]) (fun i W => i ≤ Y.sh.length ∧ ∃ fs Kk, SgJ w1 K1 Y τ bf i fs Kk W) (fun i => Y.sh.length - i) 0 ⟨rfl, rfl, rfl, trivial⟩ ⟨Nat.zero_le _, [], K1, J0⟩ ?_
 clear J0 I
 rintro i U ⟨hi, fs, Kk, J⟩
 have gU : U.heap[b]? = w1.heap[b]? := J.ro.same b B1.hb (by rw [B1.kb]; exact nQ (by omega) (by omega))
 have zU := J.ro.size
 have P0 : Ld Tryz.prog 34 b 9 (Eq U) (.slice Y.A Y.sh.length Y.c) := ⟨fun W' hW => (B1.l_sheets (l := [b]) (by simp)).out W' fun y hy => by rw [← hW, List.mem_singleton.1 hy]; exact gU⟩
 have hlm : (fs ++ (Y.sh.drop i).map flS).length = Y.sh.length := by rw [List.length_append, List.length_map, List.length_drop, J.fl]; omega
 by_cases hin : i < Y.sh.length
 case pos =>
   obtain ⟨x, hx⟩ : ∃ x, Y.sh[i]? = some x := ⟨_, List.getElem?_eq_getElem hin⟩
   have hxm : (fs ++ (Y.sh.drop i).map flS)[i]? = some (flS x) := by rw [List.getElem?_append_right (by rw [J.fl]; omega), J.fl, Nat.sub_self, List.getElem?_map, List.getElem?_drop, Nat.add_zero, hx]; rfl
   obtain ⟨gP, oP, eP, gP1, gPk, gPc, gP4, gP5⟩ := J.row.get (by omega)
   rw [hlm] at gPc
   have LF : Ld Tryz.prog 4 bf (0 + mulO i 1) (Eq U) (.bool (!x.done)) := .of (load4 (by
     obtain ⟨gf', of', ef', -, -, -, -, h5⟩ := J.fr.get (by rw [List.length_map]; omega)
     injection ef' with ef'
     injection ef' with e1 e2 _
     subst e1 e2
     have := h5 i (!x.done) (by rw [List.getElem?_map, hx]; rfl) 0 _ rfl
     rw [Nat.mul_one] at this
     exact this))
   cases hd : x.done with
   | true =>
     rw [hd] at LF
     repeat ((conv => whnf); first | refine Xl P0 ?_ | refine Xl LF ?_ | refine Xt ?_ | refine Xq ?_ | refine Xn ?_ | refine Xj ?_ | refine Xo ?_); try (conv => whnf)
     have hxx : (fs ++ [x]) ++ (Y.sh.drop (i + 1)).map flS = fs ++ (Y.sh.drop i).map flS := by
       have hdr : Y.sh.drop i = x :: Y.sh.drop (i + 1) := by
         rw [List.drop_eq_getElem_cons hin]
         congr 1
         exact (List.getElem?_eq_some_iff.1 hx).2
       rw [hdr, List.map_cons, flS_t hd]; simp
     refine .mk (i + 1) ⟨rfl, rfl, rfl, trivial⟩ ⟨hin, fs ++ [x], Kk, ⟨by rw [List.length_append, J.fl]; rfl, by rw [hxx]; exact J.row, fun p y hy => ?_, fun p y hy hp => J.hi p y hy (by omega), J.fr, J.ro, J.kz⟩⟩ (by show Y.sh.length - (i + 1) < Y.sh.length - i; omega)
     by_cases e : p < i
     · rw [List.getElem?_append_left (by rw [J.fl]; exact e)] at hy
       exact J.lo p y hy
     · have hp2 := (List.getElem?_eq_some_iff.1 hy).1
       rw [List.length_append, List.length_singleton, J.fl] at hp2
       obtain rfl : p = i := by omega
       rw [List.getElem?_append_right (by rw [J.fl]; omega), J.fl, Nat.sub_self] at hy
       injection hy with hy
       subst hy
       obtain ⟨hmk, ⟨-, h2⟩ | ⟨h2, -⟩⟩ := J.hi p x hx (Nat.le_refl _)
       · exact ⟨hmk, hd, h2⟩
       · rw [hd] at h2; cases h2
   | false =>
     rw [hd] at LF
     obtain ⟨hmk, HW⟩ : x.mark ≤ 1000000 ∧ ShW U Kk (shR i) x := by
       obtain ⟨hmk, ⟨h2, -⟩ | ⟨-, h2⟩⟩ := J.hi i x hx (Nat.le_refl _)
       · rw [hd] at h2; cases h2
       · exact ⟨hmk, h2⟩
     have P0' := P0
     rw [eP] at P0'
     repeat ((conv => whnf); first | refine Xl P0' ?_ | refine Xl LF ?_ | refine Xt ?_ | refine Xq ?_ | refine Xn ?_ | refine Xj ?_ | refine Xo ?_); try (conv => whnf)
     obtain ⟨x4, hx4⟩ : ∃ x4 : ShX, x4 = flS x := ⟨_, rfl⟩
     have f4 := hx4.trans (flS_f hd)
     have ek : x4.mark = x.mark := by rw [f4]
     have eh : x4.h = x.h := by rw [f4]
     have es : x4.s = x.s := by rw [f4]
     have ei : x4.i = x.i := by rw [f4]
     have em : x4.m = x.m := by rw [f4]
     have ed : x4.d = x.d := by rw [f4]
     have e4d : x4.done = true := by rw [f4]
     rw [← hx4] at hxm
     have eo : oP + mulO i 17 = oP + i * 17 := by rw [mulO_eq]
     have l0 : x4.h.n ≤ 1000000 := by rw [eh]; exact HW.l0
     have l1 : x4.s.n ≤ 1000000 := by rw [es]; exact HW.l1
     have l2 : x4.i.n ≤ 1000000 := by rw [ei]; exact HW.l2
     have l3 : x4.m.n ≤ 1000000 := by rw [em]; exact HW.l3
     have l4 : x4.d.n ≤ 1000000 := by rw [ed]; exact HW.l4
     refine VCall.mk _ (sgrow_any (ρ := shR i) (q := 3) (x := x4) (off := oP + mulO i 17) (fun j u hu => by rw [eo]; exact gP5 i x4 hxm j u hu) (by rw [eo]; exact there_mid gP4 hin gPc) gP1 gPk (by unfold shR; omega) (by rw [ek]; exact hmk) J.kz (by rw [eh, ek]; exact HW.o0) l0 (by rw [es, ek]; exact HW.o1) l1 (by rw [ei, ek]; exact HW.o2) l2 (by rw [em, ek]; exact HW.o3) l3 (by rw [ed, ek]; exact HW.o4) l4) ?_
     rintro _ w5 ⟨rfl, x5, K5, G5⟩
     refine ⟨_, rfl, ?_⟩
     have q5 := G5.ro
     have z5 := q5.size
     have row5 : OwnO w5 K5 3 17 eSh Y.A Y.c ((fs ++ [x5]) ++ (Y.sh.drop (i + 1)).map flS) := by
       rw [← two_set x5 J.fl hx, eP]
       have row2 := J.row
       rw [eP] at row2
       exact row2.setOth eSh_len (by rw [hlm]; exact hin) (by rw [← eo]; exact G5.P) (by rw [← eo]; exact G5.oth) z5 (q5.kk gP gP1)
     have D6 := G5.dn' l0 l1 l2 l3 l4
     have ro5 := J.ro.trans (q5.more (R' := stQ τ Y.sh.length) fun z e => e.elim (fun e => .inr (.inr (by unfold shR at e ⊢; omega))) fun e => .inr (.inl e))
     repeat ((conv => whnf); first | refine Xt ?_ | refine Xq ?_ | refine Xn ?_ | refine Xj ?_ | refine Xo ?_); try (conv => whnf)
     refine .mk (i + 1) ⟨rfl, rfl, rfl, trivial⟩ ⟨hin, fs ++ [x5], K5, ⟨by rw [List.length_append, J.fl]; rfl, row5, fun p y hy => ?_, fun p y hy hp => (J.hi p y hy (by omega)).ro q5 (fun z h1 h2 e2 => by unfold shQ shR at *; omega), J.fr.ro q5 (fun e => by unfold shQ shR at *; omega), ro5, G5.kz⟩⟩ (by show Y.sh.length - (i + 1) < Y.sh.length - i; omega)
     by_cases e : p < i
     · rw [List.getElem?_append_left (by rw [J.fl]; exact e)] at hy
       obtain ⟨h1, h2, h3⟩ := J.lo p y hy
       exact ⟨h1, h2, h3.ro q5 (fun z h1 h2 e2 => by unfold shQ shR at *; omega)⟩
     · have hp2 := (List.getElem?_eq_some_iff.1 hy).1
       rw [List.length_append, List.length_singleton, J.fl] at hp2
       obtain rfl : p = i := by omega
       rw [List.getElem?_append_right (by rw [J.fl]; omega), J.fl, Nat.sub_self] at hy
       injection hy with hy
       subst hy
       exact ⟨by rw [G5.me, ek]; exact hmk, by rw [G5.dn]; exact e4d, D6⟩
 obtain rfl : i = Y.sh.length := by omega
 have hfl : fs.length = Y.sh.length := J.fl
 have rowE : OwnO U Kk 3 17 eSh Y.A Y.c fs := by
   have := J.row
   rw [List.drop_length] at this
   simpa using this
 have qU : Ro (stQ τ Y.sh.length) K Kk w U := (q1.more fun _ e => e.elim).trans J.ro
 have nQ0 : ¬ stQ τ Y.sh.length 0 := nQ (by omega) (by omega)
 have BkU : BookAt U Kk 1 b 6 Y.bk := B1.bk.ro J.ro J.kz (nQ (by omega) (by omega)) (nQ (by omega) (by omega)) nQ0 fun p hp => nQ (by omega) (by omega)
 repeat ((conv => whnf); first | refine Xl P0 ?_ | refine Xt ?_ | refine Xq ?_ | refine Xn ?_ | refine Xj ?_ | refine Xo ?_); try (conv => whnf)
 refine VCall.mk _ (bsettle_any BkU (by omega) (by omega) (fun p => by omega)) ?_
 rintro _ w6 ⟨rfl, X6, K6, Bk6, q6, hl6, hx6⟩
 refine ⟨_, rfl, ?_⟩
 obtain ⟨Y3, hY3⟩ : ∃ Y3 : PyX, Y3 = { Y with sh := fs, bk := X6 } := ⟨_, rfl⟩
 have n0S : ¬ stQ τ Y.sh.length 1 := nQ (by omega) (by omega)
 have B6 : PyB w6 K6 b Y3 := by rw [hY3]; exact H.py.settled qU n0S hfl rowE J.lo Bk6 q6 hl6 hx6
 have qE : Ro (fun z => z = 2 ∨ (1000 ≤ z ∧ z < 2000) ∨ stQ τ Y.sh.length z) K K6 w w6 := (qU.more fun z e => .inr (.inr e)).trans (q6.more fun z e => by omega)
 have H6 : PlayAt T w6 K6 b Y3 := ⟨B6, fun j hj => (H.os j hj).ro qE Bk6.kz (by rw [hY3]) (by rw [hY3]) (Nat.le_refl _) fun z hz => by unfold rP rD; unfold stQ at hz; omega⟩
 have qF : Ro (fun z => z ≠ 0) K K6 w w6 := qE.more fun z e => by unfold stQ at e; omega
 clear J qE qU q6 Bk6 rowE BkU
 repeat ((conv => whnf); first | refine Xt ?_ | refine Xq ?_ | refine Xn ?_ | refine Xj ?_ | refine Xo ?_); try (conv => whnf)
 refine VCall.mk _ (intact_any B6) ?_
 rintro _ w7 ⟨rfl, b7⟩
 refine ⟨_, rfl, ?_⟩
 have H7 := H6.below b7
 repeat ((conv => whnf); first | refine Xt ?_ | refine Xq ?_ | refine Xn ?_ | refine Xj ?_ | refine Xo ?_); try (conv => whnf)
 refine VLoop.mk Nat (fun j => [(0, .pointer (some ⟨b, 0, none⟩)), (6, .int .i64 j)]) (fun j W => j ≤ 3 ∧ Below w7.heap.size w7 W) (fun j => 3 - j) 0 ⟨rfl, rfl, trivial⟩ ⟨by omega, Below.refl _ _⟩ ?_
 rintro j W ⟨hj, bW⟩
 have H8 := H7.below bW
 by_cases hj3 : j < 3
 case neg =>
   repeat ((conv => whnf); first | refine Xt ?_ | refine Xq ?_ | refine Xn ?_ | refine Xj ?_ | refine Xo ?_); try (conv => whnf)
   refine VCall.mk _ (intact_any H8.py) ?_
   rintro _ w9 ⟨rfl, b9⟩
   refine ⟨_, rfl, ?_⟩
   repeat ((conv => whnf); first | refine Xt ?_ | refine Xq ?_ | refine Xn ?_ | refine Xj ?_ | refine Xo ?_); try (conv => whnf)
   exact .mk ⟨rfl, Y3, K6, H8.below b9, ((qF.trans (.below b7)).trans (.below bW)).trans (.below b9)⟩
 have LP := H8.py.l_p (l := [b]) (by simp) hj3
 have LD := H8.py.l_d (l := [b]) (by simp) hj3
 have sr := Sm.refl [b] W
 rcases H8.os j hj3 with ⟨hp, hd⟩ | ⟨p, d, o, X, hp, hd, A, R⟩
 · rw [hp] at LP
   repeat ((conv => whnf); first | refine Xl (LP.at sr) ?_ | refine Xt ?_ | refine Xq ?_ | refine Xn ?_ | refine Xj ?_ | refine Xo ?_); try (conv => whnf)
   exact .mk (j + 1) ⟨rfl, rfl, trivial⟩ ⟨hj3, bW⟩ (by show 3 - (j + 1) < 3 - j; omega)
 rw [hp] at LP
 rw [hd] at LD
 obtain ⟨f, Xf, AF, hpo, S, F⟩ := R
 have Wf := S.wf hT
 have hsl : o.slots.length ≤ 1000000000 := by have := Wf.kn; unfold Os.known at this; omega
 have hbl : ∀ d ∈ o.held, d.b.length ≤ 256 := fun d hd => by rw [S.hd] at hd; exact S.bl d (List.mem_filter.1 hd).1
 have hhl : o.held.length ≤ 100000 := by
   have h1 : o.held.length ≤ f.came.length := by rw [S.hd]; exact List.length_filter_le _ _
   have := S.T1; omega
 have hb8 := H8.py.hb
 have hlb : ∀ y ∈ [b], y < W.heap.size := fun y hy => by rw [List.mem_singleton.1 hy]; exact hb8
 have sd : Sm [b] W W.drew := fun _ _ => rfl
 have d0 : Below W.heap.size W W.drew := (Below.refl _ _).drew
 obtain ⟨N, hN⟩ : ∃ N, N = clampN 16 := ⟨_, rfl⟩
 have hN16 : N ≤ 16 := by rw [hN]; exact clampN_le _
 repeat ((conv => whnf); first | refine Xl (LP.at sr) ?_ | refine Xl (LD.at sr) ?_ | refine Xt ?_ | refine Xq ?_ | refine Xn ?_ | refine Xj ?_ | refine Xo ?_); try (conv => whnf)
 refine VDraw.pl 1000 (.one [0, 1, 2, 3, 4, 5, 7, 8, 9, 10, 11, 12] 6 (.one [] 13 (.one [] 14 (.one [15, 16, 17, 18, 19, 20, 21, 22, 24, 25, 26, 27, 28, 29] 23 (.one [] 30 (.one [] 31 (.stop [32, 33]))))))) (Sm [b] W) (by kernel_rfl) (sd) ?_
 repeat ((conv => whnf); first | refine Xl LP ?_ | refine Xl LD ?_ | refine Xt ?_ | refine Xq ?_ | refine Xn ?_ | refine Xj ?_ | refine Xo ?_); try (conv => whnf)
 refine VCall.mk _ (content_any (A.below d0) hsl 16) ?_
 rintro _ y1 ⟨A1, c1, G1, rfl, nA1, nH1, -, e1⟩
 refine ⟨_, rfl, ?_⟩
 rw [← hN] at nH1 ⊢
 have f1 : Below W.heap.size W y1 := d0.trans (e1.mono d0.size)
 repeat ((conv => whnf); first | (refine VS.mk (Sm.below f1 hlb) ?_) | refine Xl LP ?_ | refine Xl LD ?_ | refine Xt ?_ | refine Xq ?_ | refine Xn ?_ | refine Xj ?_ | refine Xo ?_); try (conv => whnf)
 refine VCall.mk _ (rcontent_any (AF.below f1) S hT 16) ?_
 rintro _ y2 ⟨A2, c2, G2, h2, rfl, rA2, rH2, e2⟩
 refine ⟨_, rfl, ?_⟩
 rw [← hN] at rH2 ⊢
 have f2 : Below W.heap.size W y2 := f1.trans (e2.mono f1.size)
 repeat ((conv => whnf); first | (refine VS.mk (Sm.below f2 hlb) ?_) | refine Xl LP ?_ | refine Xl LD ?_ | refine Xt ?_ | refine Xq ?_ | refine Xn ?_ | refine Xj ?_ | refine Xo ?_); try (conv => whnf)
 refine VCall.mk _ (sameFlush_any ⟨o.id, o.pre, o.slots, (List.range N).map o.taken⟩ ⟨o.id, o.pre, o.slots, (List.range N).map o.taken⟩ A1 A2 G1 G2 c1 c2 N h2 o.slots.length o.slots.length N N y2 rfl rfl (by simp) (by simp) (nA1.below e2).row rA2 (nH1.below e2).row rH2 hsl (by omega)) ?_
 rintro _ y3 ⟨rfl, e3⟩
 refine ⟨_, rfl, ?_⟩
 rw [decide_eq_true rfl]
 have f3 : Below W.heap.size W y3 := f2.trans (e3.mono f2.size)
 repeat ((conv => whnf); first | (refine VS.mk (Sm.below f3 hlb) ?_) | refine Xl LP ?_ | refine Xl LD ?_ | refine Xt ?_ | refine Xq ?_ | refine Xn ?_ | refine Xj ?_ | refine Xo ?_); try (conv => whnf)
 refine VCall.mk _ (messages_any (A.below f3) Wf (fun d hd => by have := hbl d hd; omega) (by omega)) ?_
 rintro _ y4 ⟨A4, c4, xs4, rfl, nA4, nB4, -, mo4, e4⟩
 refine ⟨_, rfl, ?_⟩
 have f4 : Below W.heap.size W y4 := f3.trans (e4.mono f3.size)
 have s4 := e4.size
 repeat ((conv => whnf); first | (refine VS.mk (Sm.below f4 hlb) ?_) | refine Xl LP ?_ | refine Xl LD ?_ | refine Xt ?_ | refine Xq ?_ | refine Xn ?_ | refine Xj ?_ | refine Xo ?_); try (conv => whnf)
 refine VCall.mk _ (rmessages_any (AF.below f4) hpo S hT) ?_
 rintro _ y5 ⟨A5, c5, xs5, rfl, rA5, rB5, mo5, e5⟩
 refine ⟨_, rfl, ?_⟩
 have f5 : Below W.heap.size W y5 := f4.trans (e5.mono f4.size)
 have s5 := e5.size
 have ln : ∀ {xs : List DtX}, MsgOf o.held (xs.map (·.d)) → xs.length ≤ 100000 ∧ ∀ x ∈ xs, x.d.b.length ≤ 256 := fun {xs} mo => by
   have h1 := mo.perm.length_eq
   rw [List.length_map] at h1
   exact ⟨by omega, fun x hx => hbl x.d (mo.perm.mem_iff.1 (List.mem_map.2 ⟨x, hx, rfl⟩))⟩
 obtain ⟨l4, lb4⟩ := ln mo4
 repeat ((conv => whnf); first | (refine VS.mk (Sm.below f5 hlb) ?_) | refine Xl LP ?_ | refine Xl LD ?_ | refine Xt ?_ | refine Xq ?_ | refine Xn ?_ | refine Xj ?_ | refine Xo ?_); try (conv => whnf)
 refine VCall.mk _ (sameDatas_any A4 A5 c4 c5 _ _ y5.heap.size xs4 xs5 y5 rfl rfl (Nat.le_refl _) (nA4.below e5).row rA5 (fun z hz => ((nB4 z hz).below e5).row) rB5 (fun z hz => by have := lb4 z hz; omega) (by omega)) ?_
 rintro _ y6 ⟨rfl, e6⟩
 refine ⟨_, rfl, ?_⟩
 rw [decide_eq_true (mo4.uniq mo5)]
 have f6 : Below W.heap.size W y6 := f5.trans (e6.mono f5.size)
 repeat ((conv => whnf); first | (refine VS.mk (Sm.below f6 hlb) ?_) | refine Xl LP ?_ | refine Xl LD ?_ | refine Xt ?_ | refine Xq ?_ | refine Xn ?_ | refine Xj ?_ | refine Xo ?_); try (conv => whnf)
 exact .mk (j + 1) ⟨rfl, rfl, trivial⟩ ⟨hj3, bW.trans (f6.mono bW.size)⟩ (by show 3 - (j + 1) < 3 - j; omega)
end
end Go.Proofs.YtoilipfgimcoiaaGreat
namespace Go.Proofs.YtoilipfgimcoiaaGreat
open Go Go.RowKit
def vd1 : Vd := ⟨1, 3, 1, 1⟩
def ms1 : List Mbr := [⟨3, 1, 1⟩]
theorem build47 (W : World) (a b c d : Int) : (Instr.build 38 #[(0, .int .i64 a), (1, .int .i64 b), (2, .int .i64 c), (3, .int .i64 d)]).run Tryz.prog W = .ok (.agg #[.int .i64 a, .int .i64 b, .int .i64 c, .int .i64 d]) W := by kernel_rfl
theorem build65 (W : World) (a b c : Int) : (Instr.build 70 #[(0, .int .i64 a), (1, .int .i64 b), (2, .int .i64 c)]).run Tryz.prog W = .ok (.agg #[.int .i64 a, .int .i64 b, .int .i64 c]) W := by kernel_rfl
theorem bs61 (W : World) (a b c : Int) : (Instr.buildSlice 39 1 #[(0, .agg #[.int .i64 a, .int .i64 b, .int .i64 c])]).run Tryz.prog W = .ok (.slice (some ⟨W.heap.size, 0, none⟩) 1 1) (W.alloc (.cells #[.int .i64 a, .int .i64 b, .int .i64 c] 70)) := by kernel_rfl
theorem build63 (W : World) (a b c d : Int) (A : Option Addr) (n m : Nat) : (Instr.build 41 #[(0, .agg #[.int .i64 a, .int .i64 b, .int .i64 c, .int .i64 d]), (1, .slice A n m)]).run Tryz.prog W = .ok (.agg #[.int .i64 a, .int .i64 b, .int .i64 c, .int .i64 d, .slice A n m]) W := by kernel_rfl
abbrev zero63 : Value := .agg #[.int .i64 0, .int .i64 0, .int .i64 0, .int .i64 0, .slice none 0 0]
theorem run_zero63 (W : World) : (zeroValue 41).run Tryz.prog W = .ok zero63 W := by kernel_rfl
theorem one_vwA (v : Vd) (A : Option Addr) (n c : Nat) : (vwA v A n c).all (·.oneCell') = true := by
 have : ∀ u ∈ [Value.int .i64 v.e, .int .i64 v.l, .int .i64 v.i, .int .i64 v.c, .slice A n c], u.oneCell' = true := fun u hu => by
   simp only [List.mem_cons, List.not_mem_nil, or_false] at hu
   rcases hu with rfl | rfl | rfl | rfl | rfl <;> rfl
 exact all_oneCell_toArray this
theorem pids1 : pidsOf vd1 ms1 3 = some [3] := by kernel_rfl
theorem bsB (W : World) (x : Int) : (Instr.buildSlice 42 1 #[(0, .int .u8 x)]).run Tryz.prog W = .ok (.slice (some ⟨W.heap.size, 0, none⟩) 1 1) (W.alloc (.cells #[.int .u8 x] 5)) := by kernel_rfl
def of0 : Os := Os.new vd1 [3] 3 1
def of1 : Os := of0.keep ⟨3, 1, 0, [5]⟩
def of2 : Os := of1.asgK 1
def of3 : Os := { of2 with done := 1, mine := 1 }
def of4 : Os := of3.rise of3.least
theorem wf_small {o : Os} (h1 : o.mem = [3]) (h2 : o.self = 3) (h3 : o.win = 1) (hs : o.slots = [] ∨ o.slots = [⟨3, 1⟩]) (hq : o.queue = [] ∨ o.queue = [⟨3, 1⟩]) (hh : o.held = [] ∨ o.held = [⟨3, 1, 0, [5]⟩]) (ht : ∀ s, o.taken s ≤ 1) (hp : ∀ s, o.placed s ≤ 1) (hg : ∀ s, o.gone s ≤ 1) (h4 : o.taken 3 = 1 ∨ o.held = []) (h5 : o.pre ≤ 1) (h6 : o.done ≤ 1) (h7 : o.mine ≤ 1) : WfO o := by
 have sl : ∀ l : List Sl, (l = [] ∨ l = [⟨3, 1⟩]) → (∀ x ∈ l, x.s < 16 ∧ x.q ≤ 1000000000) ∧ l.length ≤ 1 := fun l hl => by
   rcases hl with rfl | rfl
   · exact ⟨fun x hx => (List.not_mem_nil hx).elim, by simp⟩
   · exact ⟨fun x hx => by rw [List.mem_singleton.1 hx]; decide, by simp⟩
 obtain ⟨s1, s2⟩ := sl _ hs
 obtain ⟨q1, q2⟩ := sl _ hq
 have hd : (∀ d ∈ o.held, d.s < 16 ∧ d.q ≤ 1000000000) ∧ (o.held.map Dt.sl).Nodup ∧ ∀ d ∈ o.held, d.q ≤ o.taken d.s := by
   rcases hh with e | e
   · rw [e]; exact ⟨fun x hx => (List.not_mem_nil hx).elim, by simp, fun x hx => (List.not_mem_nil hx).elim⟩
   · have h4' : o.taken 3 = 1 := by
       rcases h4 with h4 | h4
       · exact h4
       · rw [e] at h4; cases h4
     rw [e]
     exact ⟨fun x hx => by rw [List.mem_singleton.1 hx]; decide, by simp, fun x hx => by rw [List.mem_singleton.1 hx]; show 1 ≤ o.taken 3; omega⟩
 refine ⟨by rw [h1]; decide, by rw [h1]; decide, fun q hq => by rw [h1] at hq; rw [List.mem_singleton.1 hq]; decide, by omega, by omega, s1, q1, by omega, hd.1, hd.2.1, hd.2.2, fun s => by have := ht s; omega, fun s => by have := hp s; omega, fun s => by have := hg s; omega, by unfold Os.known; omega, by omega, by omega⟩
theorem up3 (k v s : Nat) (h : v ≤ 1) : upN (fun _ => 0) k v s ≤ 1 := by unfold upN; split; exact h; exact Nat.zero_le _
theorem wf0 : WfO of0 := wf_small rfl rfl rfl (.inl rfl) (.inl rfl) (.inl rfl) (fun _ => Nat.zero_le _) (fun _ => Nat.zero_le _) (fun _ => Nat.zero_le _) (.inr rfl) (Nat.zero_le _) (Nat.zero_le _) (Nat.zero_le _)
theorem wf1 : WfO of1 := wf_small rfl rfl rfl (.inl rfl) (.inr rfl) (.inr rfl) (fun s => up3 3 1 s (by omega)) (fun _ => Nat.zero_le _) (fun _ => Nat.zero_le _) (.inl rfl) (Nat.zero_le _) (Nat.zero_le _) (Nat.zero_le _)
theorem wf2 : WfO of2 := wf_small rfl rfl rfl (.inr rfl) (.inl rfl) (.inr rfl) (fun s => up3 3 1 s (by omega)) (fun s => up3 3 1 s (by omega)) (fun _ => Nat.zero_le _) (.inl rfl) (Nat.zero_le _) (Nat.zero_le _) (Nat.zero_le _)
theorem send1 : of0.send [5] = (⟨3, 1, 0, [5]⟩, 0, of1) := by kernel_rfl
theorem send2 : of1.send [6] = (dt0, 71, of1) := by kernel_rfl
theorem assign1 : of1.assign 2 = ([⟨1, 0, ⟨3, 1⟩⟩], of2) := by kernel_rfl
theorem next1 : of2.next = some (⟨1, 3, 1, [5]⟩, of3) := by kernel_rfl
theorem next2 : of3.next = none := by kernel_rfl
theorem rma1 : RmA of1 := ⟨fun _ => by show 0 + 1 ≤ _; omega, by decide, fun _ => by show 0 + 0 + 1 ≤ _; omega⟩
theorem dvi2 : DvI of2 := ⟨wf2, Nat.le_refl _, Nat.le_refl _, fun d hd => by
 have hd : d ∈ [(⟨3, 1, 0, [5]⟩ : Dt)] := hd
 rw [List.mem_singleton.1 hd]; decide⟩
theorem deliver1 {ms : List Mg} {o' : Os} (h : DvAns of2 2 ms o') : ms = [⟨1, 3, 1, [5]⟩] ∧ o' = of4 := by
 rcases h with ⟨h, -⟩ | ⟨-, -, o1, hd, hl, -, rfl⟩
 · rcases h with h | h
   · exact absurd h (by decide)
   · exact absurd h (by decide)
 have inv : ∀ {ms : List Mg} {o1 : Os}, Dlv of2 ms o1 → (ms = [] ∧ o1 = of2) ∨ (ms = [⟨1, 3, 1, [5]⟩] ∧ o1 = of3) := fun {ms o1} hd => by
   induction hd with
   | nil => exact .inl ⟨rfl, rfl⟩
   | snoc h hn ih =>
     rcases ih with ⟨rfl, rfl⟩ | ⟨rfl, rfl⟩
     · rw [next1] at hn
       injection hn with hn
       injection hn with h1 h2
       rw [← h1, ← h2]
       exact .inr ⟨rfl, rfl⟩
     · rw [next2] at hn; cases hn
 rcases inv hd with ⟨rfl, rfl⟩ | ⟨rfl, rfl⟩
 · rcases hl with hl | ⟨-, hl⟩
   · simp at hl
   · rw [next1] at hl; cases hl
 · exact ⟨rfl, rfl⟩
set_option maxRecDepth 100000 in
set_option maxHeartbeats 8000000 in
theorem first_any (w : World) : Calls Tryz.prog 14 #[] w fun e w' => e = .returned (.bool true) ∧ Below w.heap.size w w' := by
 refine calls_vc (args := []) tab_ok Tryz.func14 rfl ?_
 conv => whnf
 refine VBuild.mk _ (fun W => build47 W 1 3 1 1) ?_
 repeat ((conv => whnf); first | refine Xt ?_ | refine Xq ?_ | refine Xn ?_ | refine Xj ?_ | refine Xo ?_); try (conv => whnf)
 refine VBuild.mk _ (fun W => build65 W 3 1 1) ?_
 repeat ((conv => whnf); first | refine Xt ?_ | refine Xq ?_ | refine Xn ?_ | refine Xj ?_ | refine Xo ?_); try (conv => whnf)
 refine VBs.mk _ _ (bs61 w 3 1 1) ?_
 have b1 : Below w.heap.size w (w.alloc (.cells #[.int .i64 3, .int .i64 1, .int .i64 1] 70)) := (Below.refl _ _).alloc (Nat.le_refl _) _
 have z1 : (w.alloc (.cells #[.int .i64 3, .int .i64 1, .int .i64 1] 70)).heap.size = w.heap.size + 1 := World.size_alloc _ _
 have r1 := range_new w #[.int .i64 3, .int .i64 1, .int .i64 1] 70
 generalize w.alloc (.cells #[.int .i64 3, .int .i64 1, .int .i64 1] 70) = w1 at b1 z1 r1 ⊢
 repeat ((conv => whnf); first | refine Xt ?_ | refine Xq ?_ | refine Xn ?_ | refine Xj ?_ | refine Xo ?_); try (conv => whnf)
 refine VBuild.mk _ (fun W => build63 W 1 3 1 1 (some ⟨w.heap.size, 0, none⟩) 1 1) ?_
 repeat ((conv => whnf); first | refine Xt ?_ | refine Xq ?_ | refine Xn ?_ | refine Xj ?_ | refine Xo ?_); try (conv => whnf)
 refine .mk _ run_zero63 ?_
 conv => whnf
 refine .mk fun u2 hu2 => ?_
 repeat ((conv => whnf); first | refine Xt ?_ | refine Xq ?_ | refine Xn ?_ | refine Xj ?_ | refine Xo ?_); try (conv => whnf)
 refine VStore.new (c' := vwA vd1 (some ⟨w.heap.size, 0, none⟩) 1 1) hu2 (by kernel_rfl) rfl (one_vwA _ _ _ _) fun w2 hw2 => ?_
 have b2 : Below w1.heap.size w1 w2 := by rw [hw2.out]; exact (Below.refl _ _).alloc (Nat.le_refl _) _
 have r2 : w2.rangeAt w1.heap.size 0 (vwA vd1 (some ⟨w.heap.size, 0, none⟩) 1 1).toList := by rw [hw2.out]; exact range_new w1 _ 41
 have z2 : w2.heap.size = w1.heap.size + 1 := by rw [hw2.out]; exact World.size_alloc _ _
 clear hu2 hw2 u2
 have bw2 : Below w.heap.size w w2 := b1.trans (b2.mono (by omega))
 have LV : Ld Tryz.prog 41 w1.heap.size 0 (Eq w2) (.agg (vwA vd1 (some ⟨w.heap.size, 0, none⟩) 1 1)) := .of (load_agg (by kernel_rfl) (by kernel_rfl) r2)
 have rM : RowAt w2 w2.heap.size 3 eMbr (some ⟨w.heap.size, 0, none⟩) ms1 := fun _ => ⟨w.heap.size, 0, rfl, by omega, fun k x hx j u hu => by
   match k, hx with
   | 0, hx =>
     injection hx with hx
     subst hx
     have := r1 j u hu
     exact (World.cell?_of_block (a := ⟨w.heap.size, _, none⟩) (b2.block w.heap.size (by omega))).trans (by rw [show 0 + 0 * 3 + j = 0 + j by omega]; exact this)
   | k + 1, hx => simp [ms1] at hx⟩
 repeat ((conv => whnf); first | refine Xl LV ?_ | refine Xt ?_ | refine Xq ?_ | refine Xn ?_ | refine Xj ?_ | refine Xo ?_); try (conv => whnf)
 refine VCall.mk _ (new_any vd1 ms1 3 1 w2 rfl rM (by decide) (fun _ => 0) (fun _ _ => rfl) 1 (by omega)) ?_
 rintro _ w3 ⟨b3, ⟨hbad, -⟩ | ⟨-, hbad, -⟩ | ⟨-, l, b, K3, X3, hl, rfl, A3, q3, hb3⟩⟩
 · omega
 · rw [pids1] at hbad; cases hbad
 obtain rfl : l = [3] := by rw [pids1] at hl; exact (Option.some.inj hl).symm
 refine ⟨_, rfl, ?_⟩
 repeat ((conv => whnf); first | refine Xt ?_ | refine Xq ?_ | refine Xn ?_ | refine Xj ?_ | refine Xo ?_); try (conv => whnf)
 refine VCall.mk _ (num_any 0 w3) ?_
 rintro _ x5 ⟨rfl, e5⟩
 subst x5
 refine ⟨_, rfl, ?_⟩
 have A3 : OrdAt w3 K3 1 b of0 X3 := A3
 have bw3 : Below w.heap.size w w3 := bw2.trans (b3.mono bw2.size)
 have hbw : w.heap.size ≤ b := Nat.le_trans bw2.size hb3
 repeat ((conv => whnf); first | refine Xt ?_ | refine Xq ?_ | refine Xn ?_ | refine Xj ?_ | refine Xo ?_); try (conv => whnf)
 refine VBs.mk _ _ (bsB w3 5) ?_
 have b4 : Below w3.heap.size w3 (w3.alloc (.cells #[.int .u8 5] 5)) := (Below.refl _ _).alloc (Nat.le_refl _) _
 have z4 : (w3.alloc (.cells #[.int .u8 5] 5)).heap.size = w3.heap.size + 1 := World.size_alloc _ _
 have r4 := range_new w3 #[.int .u8 5] 5
 generalize w3.alloc (.cells #[.int .u8 5] 5) = w4 at b4 z4 r4 ⊢
 have row4 : RowAt w4 w4.heap.size 1 eByte (some ⟨w3.heap.size, 0, none⟩) [5] := fun _ => ⟨w3.heap.size, 0, rfl, by omega, fun k x hx j u hu => by
   match k, hx with
   | 0, hx =>
     injection hx with hx
     subst hx
     have := r4 j u hu
     rwa [show 0 + 0 * 1 + j = 0 + j by omega]
   | k + 1, hx => simp at hx⟩
 repeat ((conv => whnf); first | refine Xt ?_ | refine Xq ?_ | refine Xn ?_ | refine Xj ?_ | refine Xo ?_); try (conv => whnf)
 refine VCall.mk _ (send_any (A3.below b4) wf0 [5] (by decide) (fun e he => (List.not_mem_nil he).elim) (by decide) rfl row4) ?_
 rintro _ w5 ⟨B5, c5, rfl, -, K5, X5, A5, q5, -⟩
 refine ⟨_, rfl, ?_⟩
 rw [send1] at A5 ⊢
 have A5 : OrdAt w5 K5 1 b of1 X5 := A5
 repeat ((conv => whnf); first | refine Xt ?_ | refine Xq ?_ | refine Xn ?_ | refine Xj ?_ | refine Xo ?_); try (conv => whnf)
 refine .mk _ run_zero71 ?_
 conv => whnf
 refine .mk fun u6 hu6 => ?_
 repeat ((conv => whnf); first | refine Xt ?_ | refine Xq ?_ | refine Xn ?_ | refine Xj ?_ | refine Xo ?_); try (conv => whnf)
 refine VStore.new (c' := dtA ⟨3, 1, 0, [5]⟩ B5 c5 1) hu6 (by kernel_rfl) rfl (one_dtA _ _ _ _) fun w6 hw6 => ?_
 have b6 : Below w5.heap.size w5 w6 := by rw [hw6.out]; exact (Below.refl _ _).alloc (Nat.le_refl _) _
 have r6 : w6.rangeAt w5.heap.size 0 (dtA ⟨3, 1, 0, [5]⟩ B5 c5 1).toList := by rw [hw6.out]; exact range_new w5 _ 44
 have z6 : w6.heap.size = w5.heap.size + 1 := by rw [hw6.out]; exact World.size_alloc _ _
 obtain ⟨bd, hbd⟩ : ∃ bd, bd = w5.heap.size := ⟨_, rfl⟩
 rw [← hbd] at r6
 rw [← hbd]
 clear hu6 hw6
 clear u6
 have A6 := A5.below b6
 repeat ((conv => whnf); first | refine Xt ?_ | refine Xq ?_ | refine Xn ?_ | refine Xj ?_ | refine Xo ?_); try (conv => whnf)
 refine VBs.mk _ _ (bsB w6 6) ?_
 have b7 : Below w6.heap.size w6 (w6.alloc (.cells #[.int .u8 6] 5)) := (Below.refl _ _).alloc (Nat.le_refl _) _
 have z7 : (w6.alloc (.cells #[.int .u8 6] 5)).heap.size = w6.heap.size + 1 := World.size_alloc _ _
 have r7 := range_new w6 #[.int .u8 6] 5
 generalize w6.alloc (.cells #[.int .u8 6] 5) = w7 at b7 z7 r7 ⊢
 have row7 : RowAt w7 w7.heap.size 1 eByte (some ⟨w6.heap.size, 0, none⟩) [6] := fun _ => ⟨w6.heap.size, 0, rfl, by omega, fun k x hx j u hu => by
   match k, hx with
   | 0, hx =>
     injection hx with hx
     subst hx
     have := r7 j u hu
     rwa [show 0 + 0 * 1 + j = 0 + j by omega]
   | k + 1, hx => simp at hx⟩
 repeat ((conv => whnf); first | refine Xt ?_ | refine Xq ?_ | refine Xn ?_ | refine Xj ?_ | refine Xo ?_); try (conv => whnf)
 refine VCall.mk _ (send_any (A6.below b7) wf1 [6] (by decide) (wf1.new (by decide)) (by decide) rfl row7) ?_
 rintro _ w8 ⟨B8, c8, rfl, -, K8, X8, A8, q8, -⟩
 refine ⟨_, rfl, ?_⟩
 rw [send2] at A8 ⊢
 have A8 : OrdAt w8 K8 1 b of1 X8 := A8
 have q68 : Ro (inR 1) K5 K8 w6 w8 := (Ro.below b7).trans q8
 have kbd : K5 bd = 0 := A5.kz bd (by omega)
 have r8 : w8.rangeAt bd 0 (dtA ⟨3, 1, 0, [5]⟩ B5 c5 1).toList := range_same r6 (q68.same bd (by omega) (by rw [kbd]; unfold inR; omega))
 have z8 := q68.size
 repeat ((conv => whnf); first | refine Xt ?_ | refine Xq ?_ | refine Xn ?_ | refine Xj ?_ | refine Xo ?_); try (conv => whnf)
 refine .mk _ run_zero71 ?_
 conv => whnf
 refine .mk fun u9 hu9 => ?_
 repeat ((conv => whnf); first | refine Xt ?_ | refine Xq ?_ | refine Xn ?_ | refine Xj ?_ | refine Xo ?_); try (conv => whnf)
 refine VStore.new (c' := dtA dt0 B8 c8 0) hu9 (by kernel_rfl) rfl (one_dtA _ _ _ _) fun w9 hw9 => ?_
 have b9 : Below w8.heap.size w8 w9 := by rw [hw9.out]; exact (Below.refl _ _).alloc (Nat.le_refl _) _
 clear hu9 hw9
 clear u9
 have A9 := A8.below b9
 have r9 := range_same r8 (b9.block bd (by omega))
 have TS : Ld Tryz.prog 3 bd 0 (Eq w9) (.int .i64 3) := .of (load3 (r9 0 _ rfl))
 have TQ : Ld Tryz.prog 3 bd 1 (Eq w9) (.int .i64 1) := .of (load3 (r9 1 _ rfl))
 repeat ((conv => whnf); first | refine Xt ?_ | refine Xq ?_ | refine Xn ?_ | refine Xj ?_ | refine Xo ?_); try (conv => whnf)
 refine VCall.mk _ (num_any 0 w9) ?_
 rintro _ x5 ⟨rfl, e5⟩
 subst x5
 refine ⟨_, rfl, ?_⟩
 repeat ((conv => whnf); first | refine Xt ?_ | refine Xq ?_ | refine Xn ?_ | refine Xj ?_ | refine Xo ?_); try (conv => whnf)
 refine VCall.mk _ (num_any 71 w9) ?_
 rintro _ x5 ⟨rfl, e5⟩
 subst x5
 refine ⟨_, rfl, ?_⟩
 repeat ((conv => whnf); first | refine Xl TS ?_ | refine Xl TQ ?_ | refine Xt ?_ | refine Xq ?_ | refine Xn ?_ | refine Xj ?_ | refine Xo ?_); try (conv => whnf)
 refine VCall.mk _ (held_any A9) ?_
 rintro _ x5 ⟨rfl, e5⟩
 subst x5
 refine ⟨_, rfl, ?_⟩
 have eh : of1.held.length = 1 := rfl
 rw [eh]
 repeat ((conv => whnf); first | refine Xt ?_ | refine Xq ?_ | refine Xn ?_ | refine Xj ?_ | refine Xo ?_); try (conv => whnf)
 refine VCall.mk _ (assign_any A9 wf1 rma1 2) ?_
 rintro _ w10 ⟨A10, c10, rfl, own10, K10, X10, A10', q10, k10⟩
 refine ⟨_, rfl, ?_⟩
 have e10 : (of1.assign 2).1.length = 1 := by rw [assign1]; rfl
 rw [e10]
 rw [assign1] at own10 A10'
 have A10' : OrdAt w10 K10 1 b of2 X10 := A10'
 have R10 : RowK w10 K10 9 eIS A10 [⟨1, 0, ⟨3, 1⟩⟩] := RowK.at_ (own10.row fun _ => rfl) k10
 obtain ⟨gI, oI, rfl, gI1, kI, cI⟩ := R10 (by decide)
 repeat ((conv => whnf); first | refine Xt ?_ | refine Xq ?_ | refine Xn ?_ | refine Xj ?_ | refine Xo ?_); try (conv => whnf)
 refine VCall.mk _ (deliver_any A10' dvi2 (by decide) 2) ?_
 rintro _ w11 ⟨ms, o', xs, A11, c11, K11, X11, rfl, hD, A11', q11, R11, hxs, hxb, -, kx⟩
 refine ⟨_, rfl, ?_⟩
 obtain ⟨rfl, rfl⟩ := deliver1 hD
 obtain ⟨x, rfl⟩ : ∃ x, xs = [x] := by
   cases xs with
   | nil => cases hxs
   | cons x t => cases t with
     | nil => exact ⟨x, rfl⟩
     | cons y t => simp at hxs
 have hxm : x.m = ⟨1, 3, 1, [5]⟩ := by injection hxs
 have hrr := R11.row (by simp)
 obtain ⟨gM, oM, rfl, gM1, cM⟩ := hrr
 have hx0 : RowK w11 K11 1 eByte x.A [5] := by
   have h1 := hxb x List.mem_cons_self
   rw [hxm] at h1
   exact RowK.at_ h1.row fun g hg => kx x.A (by simp) g hg
 have cI' : w11.cell? ⟨gI, oI + 5, none⟩ = some (.int .i64 1) := (World.cell?_of_block (a := ⟨gI, _, none⟩) (q11.same gI gI1 (by rw [kI]; unfold inR; omega))).trans (by have := cI 0 _ rfl 5 _ rfl; simpa using this)
 have cM' : w11.cell? ⟨gM, oM + 3, none⟩ = some (.slice x.A 1 x.c) := by
   have := cM 0 _ rfl 3 (.slice x.A x.m.b.length x.c) rfl
   rw [hxm] at this
   simpa using this
 have TI : Ld Tryz.prog 3 gI (oI + 5) (Eq w11) (.int .i64 1) := .of (load3 cI')
 have TM : Ld Tryz.prog 42 gM (oM + 3) (Eq w11) (.slice x.A 1 x.c) := .of (load27 cM')
 have em : ([⟨1, 3, 1, [5]⟩] : List Mg).length = 1 := rfl
 rw [em]
 repeat ((conv => whnf); first | refine Xl TI ?_ | refine Xl TM ?_ | refine Xt ?_ | refine Xq ?_ | refine Xn ?_ | refine Xj ?_ | refine Xo ?_); try (conv => whnf)
 refine VBs.mk _ _ (bsB w11 5) ?_
 have b12 : Below w11.heap.size w11 (w11.alloc (.cells #[.int .u8 5] 5)) := (Below.refl _ _).alloc (Nat.le_refl _) _
 have z12 : (w11.alloc (.cells #[.int .u8 5] 5)).heap.size = w11.heap.size + 1 := World.size_alloc _ _
 have r12 := range_new w11 #[.int .u8 5] 5
 generalize w11.alloc (.cells #[.int .u8 5] 5) = w12 at b12 z12 r12 ⊢
 have row12 : RowAt w12 w12.heap.size 1 eByte (some ⟨w11.heap.size, 0, none⟩) [5] := fun _ => ⟨w11.heap.size, 0, rfl, by omega, fun k x hx j u hu => by
   match k, hx with
   | 0, hx =>
     injection hx with hx
     subst hx
     have := r12 j u hu
     rwa [show 0 + 0 * 1 + j = 0 + j by omega]
   | k + 1, hx => simp at hx⟩
 have hx12 := (hx0.ro (Ro.below (R := fun _ => False) b12) id).row
 repeat ((conv => whnf); first | refine Xt ?_ | refine Xq ?_ | refine Xn ?_ | refine Xj ?_ | refine Xo ?_); try (conv => whnf)
 refine VCall.mk _ (sameBytes_any x.A (some ⟨w11.heap.size, 0, none⟩) x.c 1 1 1 w12.heap.size [5] [5] w12 rfl rfl (Nat.le_refl _) hx12 row12 (by decide)) ?_
 rintro _ w13 ⟨rfl, b13⟩
 refine ⟨_, rfl, ?_⟩
 rw [decide_eq_true rfl]
 have A13 : OrdAt w13 K11 1 b of4 X11 := (A11'.below b12).below b13
 repeat ((conv => whnf); first | refine Xt ?_ | refine Xq ?_ | refine Xn ?_ | refine Xj ?_ | refine Xo ?_); try (conv => whnf)
 refine VCall.mk _ (done_any A13) ?_
 rintro _ x5 ⟨rfl, e5⟩
 subst x5
 refine ⟨_, rfl, ?_⟩
 rw [show of4.done = 1 by kernel_rfl]
 repeat ((conv => whnf); first | refine Xt ?_ | refine Xq ?_ | refine Xn ?_ | refine Xj ?_ | refine Xo ?_); try (conv => whnf)
 refine VCall.mk _ (prefix_any A13) ?_
 rintro _ x5 ⟨rfl, e5⟩
 subst x5
 refine ⟨_, rfl, ?_⟩
 rw [show of4.pre = 1 by kernel_rfl]
 repeat ((conv => whnf); first | refine Xt ?_ | refine Xq ?_ | refine Xn ?_ | refine Xj ?_ | refine Xo ?_); try (conv => whnf)
 refine VCall.mk _ (held_any A13) ?_
 rintro _ x5 ⟨rfl, e5⟩
 subst x5
 refine ⟨_, rfl, ?_⟩
 rw [show of4.held.length = 0 by kernel_rfl]
 repeat ((conv => whnf); first | refine Xt ?_ | refine Xq ?_ | refine Xn ?_ | refine Xj ?_ | refine Xo ?_); try (conv => whnf)
 refine VCall.mk _ (free_any A13 (by decide) (by decide) (by decide) (by decide)) ?_
 rintro _ w14 ⟨rfl, b14⟩
 refine ⟨_, rfl, ?_⟩
 rw [show of4.free = 1 by kernel_rfl]
 repeat ((conv => whnf); first | refine Xt ?_ | refine Xq ?_ | refine Xn ?_ | refine Xj ?_ | refine Xo ?_); try (conv => whnf)
 have qA : Ro (inR 1) K3 K11 w3 w14 := ((((((((Ro.below b4).trans q5).trans (Ro.below b6)).trans q68).trans (Ro.below b9)).trans q10).trans q11).trans (Ro.below b12)).trans ((Ro.below b13).trans (Ro.below b14))
 exact .mk ⟨rfl, ⟨qA.os.trans bw3.os, qA.tape.trans bw3.tape, qA.output.trans bw3.output, Nat.le_trans bw3.size qA.size, fun k hk => (qA.same k (Nat.lt_of_lt_of_le hk bw3.size) (by rw [q3.kk k (Nat.lt_of_lt_of_le hk bw2.size)]; unfold inR; omega)).trans (bw3.block k hk)⟩⟩
end Go.Proofs.YtoilipfgimcoiaaGreat
