/- OdT OdU OdV OdW, joined. -/
import Derived.RangeFuncOwn
import Derived.Test.YtoilipfgimcoiaaOe10
set_option linter.unusedVariables false
set_option linter.unusedSimpArgs false
namespace Go.Proofs.Ytoilipfgimcoiaa
open Go Go.RowKit
structure MgX where
  m : Mg
  A : Option Addr
  c : Nat
def eMg (x : MgX) : List Value := [.int .i64 x.m.p, .int .i64 x.m.s, .int .i64 x.m.q, .slice x.A x.m.b.length x.c]
theorem one_eMg (x : MgX) : ∀ u ∈ eMg x, u.oneCell' = true := fun u hu => by
  simp only [eMg, List.mem_cons, List.not_mem_nil, or_false] at hu
  rcases hu with rfl | rfl | rfl | rfl <;> rfl
theorem one_mgA (m : Mg) (A : Option Addr) (c n : Nat) : (mgA m A c n).all (·.oneCell') = true := by
  have : ∀ u ∈ [Value.int .i64 m.p, .int .i64 m.s, .int .i64 m.q, .slice A n c], u.oneCell' = true := fun u hu => by
    simp only [List.mem_cons, List.not_mem_nil, or_false] at hu
    rcases hu with rfl | rfl | rfl | rfl <;> rfl
  exact all_oneCell_toArray this
def zero83 : Value := .agg #[.int .i64 0, .int .i64 0, .int .i64 0, .slice none 0 0]
theorem run_zero83 (W : World) : (zeroValue 83).run Try.prog W = .ok zero83 W := by kernel_rfl
theorem run_zero38 (W : World) : (zeroValue 38).run Try.prog W = .ok (.slice none 0 0) W := by kernel_rfl
theorem info83 : (Try.prog.info? 83).map (fun i => (i.zero, i.size, i.bytes)) = some (some zero83, 4, 48) := by kernel_rfl
theorem bs38 (W : World) (a b c : Int) (A : Option Addr) (n m : Nat) : (Instr.buildSlice 38 1 #[(0, .agg #[.int .i64 a, .int .i64 b, .int .i64 c, .slice A n m])]).run Try.prog W = .ok (.slice (some ⟨W.heap.size, 0, none⟩) 1 1) (W.alloc (.cells #[.int .i64 a, .int .i64 b, .int .i64 c, .slice A n m] 83)) := by kernel_rfl
theorem load38 {w : World} {b j n c : Nat} {A : Option Addr} (h : w.cell? ⟨b, j, none⟩ = some (.slice A n c)) : (loadVar 38 ⟨b, j, none⟩).run Try.prog w = .ok (.slice A n c) w := by go_simp
theorem load83 {w : World} {b j : Nat} {m : Mg} {A : Option Addr} {c n : Nat} (h : w.rangeAt b j (mgA m A c n).toList) : (loadVar 83 ⟨b, j, none⟩).run Try.prog w = .ok (.agg (mgA m A c n)) w := load_agg (by kernel_rfl) (by kernel_rfl) h
theorem hiRole (K : Nat → Nat) : ∀ n : Nat, (∀ y, n ≤ y → K y = 0) → ∃ p, ∀ y, K y < p := fun n => by
  have key : ∀ n : Nat, ∃ p, ∀ y, y < n → K y < p := fun n => by
    induction n with
    | zero => exact ⟨0, fun y hy => by omega⟩
    | succ n ih =>
      obtain ⟨p, hp⟩ := ih
      refine ⟨p + K n + 1, fun y hy => ?_⟩
      by_cases e : y = n
      · subst e; omega
      · have := hp y (by omega); omega
  intro kz
  obtain ⟨p, hp⟩ := key n
  refine ⟨p + 1, fun y => ?_⟩
  by_cases h : y < n
  · have := hp y h; omega
  · have := kz y (by omega); omega
theorem Ro.then {R R' : Nat → Prop} {K K' K'' : Nat → Nat} {w w' w'' : World} (a : Ro R K K' w w') (c : Ro R' K' K'' w' w'') (h : ∀ y, y < w.heap.size → R' (K y) → R (K y)) : Ro R K K'' w w'' :=
  ⟨c.os.trans a.os, c.tape.trans a.tape, c.output.trans a.output, Nat.le_trans a.size c.size, fun y hy hn => (c.same y (Nat.lt_of_lt_of_le hy a.size) (fun e => hn (h y hy (by rw [← a.kk y hy]; exact e)))).trans (a.same y hy hn), fun y hy => (c.kk y (Nat.lt_of_lt_of_le hy a.size)).trans (a.kk y hy)⟩
structure DvK (p r b bn bl Db lp n : Nat) (K0 : Nat → Nat) (w0 : World) (o : Os) (ms : List Mg) (K : Nat → Nat) (w : World) : Prop where
  I : DvI o
  A : ∃ X, OrdAt w K r b o X
  q : Ro (inR r) K0 K w0 w
  cn : w.cell? ⟨bn, 0, none⟩ = some (.int .i64 n)
  kn : K bn = 0
  hn : bn < w.heap.size
  kl : K bl = p
  hl : bl < w.heap.size
  hd : w.heap[Db]? = some (.deferred (some []))
  kd : K Db = p + 3
  kp : K lp = p + 2
  hp : lp < w.heap.size
  row : ∃ xs A c, w.cell? ⟨bl, 0, none⟩ = some (.slice A ms.length c) ∧ w.frozen? ⟨bl, 0, none⟩ = false ∧ OwnO w K (p + 1) 4 eMg A c xs ∧ xs.map (·.m) = ms ∧ ∀ x ∈ xs, RowK w K 1 eByte x.A x.m.b
section
variable {p r b bn bl Db lp n : Nat} {K0 K K' : Nat → Nat} {w0 w w' : World} {o o' : Os} {ms : List Mg} {R : Nat → Prop} {X' : OsX}
theorem DvK.ro (h : DvK p r b bn bl Db lp n K0 w0 o ms K w) (q : Ro R K K' w w') (I' : DvI o') (A' : OrdAt w' K' r b o' X') (h0 : ¬ R 0) (h1 : ¬ R p) (h2 : ¬ R (p + 1)) (h3 : ¬ R (p + 3)) (hq : ∀ y, y < w0.heap.size → R (K0 y) → inR r (K0 y)) : DvK p r b bn bl Db lp n K0 w0 o' ms K' w' := by
  obtain ⟨xs, A, c, x1, x2, x3, x4, x5⟩ := h.row
  have eq : ∀ y, y < w.heap.size → ¬ R (K y) → w'.heap[y]? = w.heap[y]? := q.same
  have hdl := (Array.getElem?_eq_some_iff.1 h.hd).1
  have en := eq bn h.hn (by rw [h.kn]; exact h0)
  have el := eq bl h.hl (by rw [h.kl]; exact h1)
  have ed := eq Db hdl (by rw [h.kd]; exact h3)
  have hz := q.size
  exact ⟨I', ⟨X', A'⟩, h.q.then q hq, (World.cell?_of_block (a := ⟨bn, 0, none⟩) en).trans h.cn, (q.kk _ h.hn).trans h.kn, Nat.lt_of_lt_of_le h.hn hz, (q.kk _ h.hl).trans h.kl, Nat.lt_of_lt_of_le h.hl hz, ed.trans h.hd, (q.kk _ hdl).trans h.kd, (q.kk _ h.hp).trans h.kp, Nat.lt_of_lt_of_le h.hp hz,
    xs, A, c, (World.cell?_of_block (a := ⟨bl, 0, none⟩) el).trans x1, (World.frozen?_of_block (a := ⟨bl, 0, none⟩) el).trans x2, x3.ro q h2, x4, fun x hx => (x5 x hx).ro q h0⟩
theorem DvK.putLp (h : DvK p r b bn bl Db lp n K0 w0 o ms K w) (hpr : r + 4 ≤ p) (hlo : ∀ y, K0 y < p) (x : Obj) : DvK p r b bn bl Db lp n K0 w0 o ms K (w.putObj lp x) := by
  obtain ⟨X, A⟩ := h.A
  have q : Ro (· = p + 2) K K w (w.putObj lp x) := .grown (grownBy_putObj' w lp x) fun y hy => by injection hy with hy; rw [← hy]; exact h.kp
  have A' := A.ro q (fun y hy => A.kz y (by simpa using hy)) (by omega) fun y hy => by unfold inR at hy; omega
  exact h.ro q h.I A' (by omega) (by omega) (by omega) (by omega) fun y _ e => by have := hlo y; omega
theorem DvK.below (h : DvK p r b bn bl Db lp n K0 w0 o ms K w) (hb : Below w.heap.size w w') : DvK p r b bn bl Db lp n K0 w0 o ms K w' := by
  obtain ⟨X, A⟩ := h.A
  exact h.ro (Ro.below (R := fun _ => False) hb) h.I (A.below hb) id id id id fun _ _ => False.elim
theorem rec_here {fn : FuncId} {a : Act} {ps : Array Tmp} {assign body : Code} {w W0 : World} (h : Hid (W0 = (w.alloc (.deferred (some []))).alloc (.loop (recOf fn a ps assign body w)))) : ∃ q : Loop, q.state = .ready ∧ q.params = ps ∧ q.tmps = a.tmps ∧ q.assign = assign ∧ q.body = body ∧ q.pending = none ∧ W0.heap[w.heap.size + 1]? = some (.loop q) :=
  ⟨recOf fn a ps assign body w, rfl, rfl, rfl, rfl, rfl, rfl, by
    rw [h.out]
    have := World.alloc_heap_new (w.alloc (.deferred (some []))) (.loop (recOf fn a ps assign body w))
    rwa [World.size_alloc] at this⟩
set_option maxRecDepth 100000 in
set_option maxHeartbeats 8000000 in
theorem round_dv {q : Loop} {a : Act} (hpr : r + 4 ≤ p) (hlo : ∀ y, K0 y < p) (hlp : w.heap[lp]? = some (.loop q)) (m : Mg) (B : Option Addr) (cB nB : Nat)
    (hst : q.state = .ready) (hps : q.params = #[17]) (htm : q.tmps = a.tmps) (hr : RepE [] 31 [(3, .pointer (some ⟨bn, 0, none⟩)), (5, .pointer (some ⟨bl, 0, none⟩))] a)
    {qa qb : Code} (hqa : q.assign = qa) (hqb : q.body = qb) (hra : roundB qa = true) (hrb : roundB qb = true)
    (hgo : ∀ (R : Bool → World → Prop), (∀ K' w', DvK p r b bn bl Db lp n K0 w0 o (ms ++ [m]) K' w' → w'.heap[lp]? = some (.loop { q with state := .busy }) → (ms.length + 1 < n → R true (w'.putObj lp (.loop { q with state := .ready, pending := none }))) ∧ (ms.length + 1 = n → R false (w'.putObj lp (.loop { q with state := .done, pending := some (.exit 0) })))) →
      vcC tab Try.prog 31 qa [(17, .agg (mgA m B cB nB)), (3, .pointer (some ⟨bn, 0, none⟩)), (5, .pointer (some ⟨bl, 0, none⟩))] w (kR1 tab Try.prog 31 lp q R)) :
    YieldAt Fence.wide 0 Try.prog lp #[.agg (mgA m B cB nB)] w fun e W' => ∃ t, e = .returned (.bool t) ∧ ∃ K', (t = true ∧ DvK p r b bn bl Db lp n K0 w0 o (ms ++ [m]) K' W' ∧ W'.heap[lp]? = some (.loop { q with state := .ready, pending := none }) ∧ (ms ++ [m]).length < n) ∨ (t = false ∧ DvK p r b bn bl Db lp n K0 w0 o (ms ++ [m]) K' W' ∧ W'.heap[lp]? = some (.loop { q with state := .done, pending := some (.exit 0) }) ∧ (ms ++ [m]).length = n) := by
  have hrq : RepE [] 31 [(17, .agg (mgA m B cB nB)), (3, .pointer (some ⟨bn, 0, none⟩)), (5, .pointer (some ⟨bl, 0, none⟩))] { tmps := (q.params.zip #[Value.agg (mgA m B cB nB)]).foldl (fun tmps (t, a) => tmps.setIfInBounds t a) q.tmps, defers := [] } := by
    have := hr.put (d := 17) (v := .agg (mgA m B cB nB)) (by decide)
    rw [hps, htm]
    have e : ({ tmps := ((#[17] : Array Nat).zip #[Value.agg (mgA m B cB nB)]).foldl (fun tmps (t, a) => tmps.setIfInBounds t a) a.tmps, defers := [] } : Act) = a.put (some 17) (.agg (mgA m B cB nB)) := by
      simp [Act.put, hr.d]
    rw [e]
    exact this
  obtain ⟨R, hR⟩ : ∃ R : Bool → World → Prop, R = fun t W' => ∃ K', (t = true ∧ DvK p r b bn bl Db lp n K0 w0 o (ms ++ [m]) K' W' ∧ W'.heap[lp]? = some (.loop { q with state := .ready, pending := none }) ∧ (ms ++ [m]).length < n) ∨ (t = false ∧ DvK p r b bn bl Db lp n K0 w0 o (ms ++ [m]) K' W' ∧ W'.heap[lp]? = some (.loop { q with state := .done, pending := some (.exit 0) }) ∧ (ms ++ [m]).length = n) := ⟨_, rfl⟩
  have key := hgo R fun K' w' hk _ => ⟨fun e => by
    rw [hR]
    exact ⟨K', .inl ⟨rfl, hk.putLp hpr hlo _, World.putObj_heap_same hk.hp, by rw [List.length_append]; exact e⟩⟩, fun e => by
    rw [hR]
    exact ⟨K', .inr ⟨rfl, hk.putLp hpr hlo _, World.putObj_heap_same hk.hp, by rw [List.length_append]; exact e⟩⟩⟩
  have := round_vc tab_ok (R := R) hlp hst (by rw [hps]; rfl) hrq (by rw [hqa]; exact hra) (by rw [hqb]; exact hrb) (by rw [hqa]; exact key)
  rw [hR] at this
  exact this
end
end Go.Proofs.Ytoilipfgimcoiaa
namespace Go.Proofs.Ytoilipfgimcoiaa
open Go Go.RowKit
theorem vc_seq {D : List Deferred} {n : Nat} {x y : Code} {fr : Fr} {a : Act} {w : World} {Q : Exit → Act → World → Prop} {K Kr : Fr → World → Prop} (hr : RepE D n fr a)
    (h : vcC tab Try.prog n x fr w fun e fr w => match e with | .normal => VDone (K fr w) | .ret => VDone (Kr fr w) | _ => False)
    (hk : ∀ fr' a' w', RepE D n fr' a' → K fr' w' → y.wp Try.prog Q a' w') (hret : ∀ fr' a' w', RepE D n fr' a' → Kr fr' w' → Q .ret a' w') : (Code.seq x y).wp Try.prog Q a w := by
  refine wp_seq (wp_mono (vcC_ok (tab_of tab_ok) x _ _ w _ h hr) fun e a' w' hq => ?_)
  obtain ⟨fr', hr', hq⟩ := hq
  cases e with
  | normal => exact hk _ _ _ hr' (by cases hq with | mk h => exact h)
  | ret => exact hret _ _ _ hr' (by cases hq with | mk h => exact h)
  | exit id => exact hq.elim
  | goto l => exact hq.elim
  | panic ch => exact hq.elim
  | outgrown => exact hq.elim
theorem enters54 (args : Array Value) (w : World) : (callFunc 54 args).run Try.prog w = .ok (.enter 54 args) w := by
  have h1 : (Try.f54.name == "runtime.NumGoroutine") = false := by kernel_rfl
  have h2 : Try.f54.body.isNone = false := by kernel_rfl
  simp only [callFunc, run_program, Try.func54, h1, h2, Sem.run_bind, Sem.run_pure, Result.andThen_ok, Bool.false_eq_true, if_false]
def DvAns (o : Os) (n : Int) (ms : List Mg) (o' : Os) : Prop := ((o.frz = true ∨ n ≤ 0) ∧ ms = [] ∧ o' = o) ∨ (o.frz = false ∧ 0 < n ∧ ∃ o1, Dlv o ms o1 ∧ ((ms.length : Int) = n ∨ ((ms.length : Int) < n ∧ o1.next = none)) ∧ DvI o1 ∧ o' = o1.rise o1.least)
section
variable {w w' : World} {K K' : Nat → Nat} {r b : Nat} {o : Os} {X : OsX}
set_option maxRecDepth 100000 in
set_option maxHeartbeats 8000000 in
theorem deliver_any (A : OrdAt w K r b o X) (I : DvI o) (hdk : o.done ≤ o.known) (n : Int) :
    Calls Try.prog 30 #[.pointer (some ⟨b, 0, none⟩), .int .i64 n] w fun e w' => ∃ ms o' xs A' c' K' X', e = .returned (.slice A' ms.length c') ∧ DvAns o n ms o' ∧ OrdAt w' K' r b o' X' ∧ Ro (inR r) K K' w w' ∧ RowK w' K' 4 eMg A' xs ∧ xs.map (·.m) = ms ∧ ∀ x ∈ xs, RowK w' K' 1 eByte x.A x.m.b := by
  refine calls_marks Try.func30 rfl ?_
  have r0 := A.r0
  have hbz := A.cs.hb
  obtain ⟨bn, hbn⟩ : ∃ bn, bn = w.heap.size := ⟨_, rfl⟩
  refine vc_seq (K := fun fr' w' => aget fr' 0 = some (.pointer (some ⟨b, 0, none⟩)) ∧ aget fr' 3 = some (.pointer (some ⟨bn, 0, none⟩)) ∧ Below w.heap.size w w' ∧ w'.heap.size = w.heap.size + 1 ∧ w'.cell? ⟨bn, 0, none⟩ = some (.int .i64 n)) (Kr := fun _ _ => False) (rep_init (args := [.pointer (some ⟨b, 0, none⟩), .int .i64 n]) (n := 31) (by kernel_rfl)) ?_ ?_ (fun _ _ _ _ h => h.elim)
  · conv => whnf
    refine .mk fun wA hwA => ?_
    conv => whnf
    refine .mk ⟨rfl, by rw [hbn]; rfl, by rw [hwA.out]; exact below_box1 _ _ _, by rw [hwA.out]; simp, ?_⟩
    rw [hwA.out, hbn]
    exact range_new w #[.int .i64 n] 3 0 _ rfl
  rintro fr1 a1 w1 hr1 ⟨f0, f3, b1, z1, cn1⟩
  have A1 := A.below b1
  have hr1' : RepE [] 31 [(0, .pointer (some ⟨b, 0, none⟩)), (3, .pointer (some ⟨bn, 0, none⟩))] a1 := hr1.agr ⟨f0, f3, trivial⟩
  clear hr1 f0 f3 fr1
  refine vc_seq (K := fun fr' w' => w' = w1 ∧ aget fr' 0 = some (.pointer (some ⟨b, 0, none⟩)) ∧ aget fr' 3 = some (.pointer (some ⟨bn, 0, none⟩)) ∧ o.frz = false ∧ 0 < n) (Kr := fun fr' w' => w' = w1 ∧ aget fr' 4 = some (.slice none 0 0) ∧ (o.frz = true ∨ n ≤ 0)) hr1' ?_ ?_ ?_
  · have L0 := A1.l_frz (l := [b]) (by simp)
    have L1 : Ld Try.prog 3 bn 0 (Eq w1) (.int .i64 n) := .of (load3 cn1)
    conv => whnf
    cases hf : o.frz with
    | true =>
      rw [hf] at L0
      repeat ((conv => whnf); first | (refine VLoad.mk _ (L0.at (Sm.refl _ _)) ?_) | (refine VLoad.mk _ L1 ?_) | (refine VCmp.tt (by omega) ?_) | (refine VCmp.ff (by omega) ?_) | (refine VIn.mk (IntWalk.i64_in _ (by omega)) ?_) | (refine VIdx.mk _ rfl (by omega) ?_) | (refine VIdx.mk 0 rfl (by omega) ?_))
      try (conv => whnf)
      exact .mk ⟨rfl, rfl, .inl rfl⟩
    | false =>
      rw [hf] at L0
      by_cases h0 : n ≤ 0
      · repeat ((conv => whnf); first | (refine VLoad.mk _ (L0.at (Sm.refl _ _)) ?_) | (refine VLoad.mk _ L1 ?_) | (refine VCmp.tt (by omega) ?_) | (refine VCmp.ff (by omega) ?_) | (refine VIn.mk (IntWalk.i64_in _ (by omega)) ?_) | (refine VIdx.mk _ rfl (by omega) ?_) | (refine VIdx.mk 0 rfl (by omega) ?_))
        try (conv => whnf)
        exact .mk ⟨rfl, rfl, .inr h0⟩
      · repeat ((conv => whnf); first | (refine VLoad.mk _ (L0.at (Sm.refl _ _)) ?_) | (refine VLoad.mk _ L1 ?_) | (refine VCmp.tt (by omega) ?_) | (refine VCmp.ff (by omega) ?_) | (refine VIn.mk (IntWalk.i64_in _ (by omega)) ?_) | (refine VIdx.mk _ rfl (by omega) ?_) | (refine VIdx.mk 0 rfl (by omega) ?_))
        try (conv => whnf)
        exact .mk ⟨rfl, rfl, rfl, rfl, by omega⟩
  rotate_left
  · rintro fr2 a2 w2 hr2 ⟨rfl, f4, hfn⟩
    refine leave_plain hr2 ?_
    show withV (aget fr2 4) _
    rw [f4]
    refine .mk ⟨[], o, [], none, 0, K, X, rfl, .inl ⟨hfn, rfl, rfl⟩, A1, .below b1, fun h => absurd (show 0 < ([] : List MgX).length from h) (by decide), rfl, fun x hx => by cases hx⟩
  rintro fr2 a2 w2 hr2 ⟨rfl, f0, f3, hfz, hn0⟩
  have hr2' : RepE [] 31 [(0, .pointer (some ⟨b, 0, none⟩)), (3, .pointer (some ⟨bn, 0, none⟩))] a2 := hr2.agr ⟨f0, f3, trivial⟩
  clear hr2 f0 f3 fr2 hr1'
  obtain ⟨bl, hbl⟩ : ∃ bl, bl = w2.heap.size := ⟨_, rfl⟩
  refine vc_seq (K := fun fr' w' => aget fr' 0 = some (.pointer (some ⟨b, 0, none⟩)) ∧ aget fr' 3 = some (.pointer (some ⟨bn, 0, none⟩)) ∧ aget fr' 5 = some (.pointer (some ⟨bl, 0, none⟩)) ∧ Below w2.heap.size w2 w' ∧ w'.heap.size = w2.heap.size + 1 ∧ w'.cell? ⟨bl, 0, none⟩ = some (.slice none 0 0) ∧ w'.frozen? ⟨bl, 0, none⟩ = false) (Kr := fun _ _ => False) hr2' ?_ ?_ (fun _ _ _ _ h => h.elim)
  · conv => whnf
    refine .mk _ run_zero38 ?_
    conv => whnf
    refine .mk fun wA hwA => ?_
    conv => whnf
    have t1 := there_new w2 #[.slice none 0 0] 38 0 (by simp)
    refine .mk ⟨rfl, rfl, by rw [hbl]; rfl, by rw [hwA.out]; exact below_box1 _ _ _, by rw [hwA.out]; simp, ?_, ?_⟩
    · rw [hwA.out, hbl]; exact range_new w2 #[.slice none 0 0] 38 0 _ rfl
    · rw [hwA.out, hbl]; exact t1.2
  rintro fr3 a3 w3 hr3 ⟨f0, f3, f5, b3, z3, cl3, fl3⟩
  have hr3' : RepE [] 31 [(0, .pointer (some ⟨b, 0, none⟩)), (3, .pointer (some ⟨bn, 0, none⟩)), (5, .pointer (some ⟨bl, 0, none⟩))] a3 := hr3.agr ⟨f0, f3, f5, trivial⟩
  clear hr3 f0 f3 f5 fr3 hr2'
  refine wp_seq ?_
  refine vc_seq (K := fun fr' w' => w' = w3 ∧ aget fr' 0 = some (.pointer (some ⟨b, 0, none⟩)) ∧ aget fr' 3 = some (.pointer (some ⟨bn, 0, none⟩)) ∧ aget fr' 5 = some (.pointer (some ⟨bl, 0, none⟩)) ∧ aget fr' 16 = some (.func (.func 54) #[.pointer (some ⟨b, 0, none⟩)] #[])) (Kr := fun _ _ => False) hr3' ?_ ?_ (fun _ _ _ _ h => h.elim)
  · conv => whnf
    exact .mk ⟨rfl, rfl, rfl, rfl, rfl⟩
  rintro fr4 a4 w4 hr4 ⟨rfl, f0, f3, f5, f16⟩
  have hg := hr4.ag (.tmp 16) _ f16
  have hr4' : RepE [] 31 [(0, .pointer (some ⟨b, 0, none⟩)), (3, .pointer (some ⟨bn, 0, none⟩)), (5, .pointer (some ⟨bl, 0, none⟩))] a4 := hr4.agr ⟨f0, f3, f5, trivial⟩
  clear hr4 f0 f3 f5 f16 fr4 hr3' a3 a1 a2
  refine wp_block (range_vc hg enters54 ?_)
  intro fn W0 hW0
  obtain ⟨N, hNn⟩ := Int.eq_ofNat_of_zero_le (show 0 ≤ n by omega)
  subst hNn
  obtain ⟨Db, hDb⟩ : ∃ Db, Db = w4.heap.size := ⟨_, rfl⟩
  obtain ⟨lp, hlp⟩ : ∃ lp, lp = w4.heap.size + 1 := ⟨_, rfl⟩
  obtain ⟨p0, hp0⟩ := hiRole K w.heap.size A.kz
  obtain ⟨p, hp⟩ : ∃ p, p = p0 + r + 4 := ⟨_, rfl⟩
  have hpr : r + 4 ≤ p := by omega
  have hlo : ∀ y, K y < p := fun y => by have := hp0 y; omega
  obtain ⟨K1, hK1⟩ : ∃ K1 : Nat → Nat, K1 = fun y => if y = bl then p else if y = lp then p + 2 else if y = Db then p + 3 else K y := ⟨_, rfl⟩
  have kO : ∀ y, y ≠ bl → y ≠ lp → y ≠ Db → K1 y = K y := fun y h1 h2 h3 => by rw [hK1]; simp only [if_neg h1, if_neg h2, if_neg h3]
  have kbl : K1 bl = p := by rw [hK1]; exact if_pos rfl
  have klp : K1 lp = p + 2 := by rw [hK1]; simp only [if_neg (show lp ≠ bl by omega), if_true]
  have kDb : K1 Db = p + 3 := by rw [hK1]; simp only [if_neg (show Db ≠ bl by omega), if_neg (show Db ≠ lp by omega), if_true]
  obtain ⟨q, q1, q2, q3, q4, q5, q6, hL0⟩ := rec_here hW0
  rw [← hlp] at hL0 ⊢
  have hsz0 : W0.heap.size = w4.heap.size + 2 := by rw [hW0.out]; simp
  have hb0 : Below w4.heap.size w4 W0 := by rw [hW0.out]; exact ((Below.refl _ w4).alloc (Nat.le_refl _) _).alloc (by simp) _
  have hD0 : W0.heap[Db]? = some (.deferred (some [])) := by
    rw [hW0.out, hDb]
    exact (Below.heap_alloc _ _ _ (by simp)).trans (World.alloc_heap_new w4 _)
  clear hW0
  have bw4 : Below w.heap.size w w4 := b1.trans (b3.mono b1.size)
  have bw0 : Below w.heap.size w W0 := bw4.trans (hb0.mono bw4.size)
  have z4 := bw4.size
  have A0 : OrdAt W0 K1 r b o X := A.ro (R := fun _ => False) ((Ro.below bw0).role fun y hy => kO y (by omega) (by omega) (by omega)) (fun y hy => (kO y (by omega) (by omega) (by omega)).trans (A.kz y (by omega))) id fun _ _ => id
  have kbn : K1 bn = 0 := (kO bn (by omega) (by omega) (by omega)).trans (A.kz bn (by omega))
  have cn0 : W0.cell? ⟨bn, 0, none⟩ = some (.int .i64 (N : Int)) := (World.cell?_of_block (a := ⟨bn, 0, none⟩) ((hb0.block bn (by omega)).trans (b3.block bn (by omega)))).trans cn1
  have hbl0 : W0.heap[bl]? = w4.heap[bl]? := hb0.block bl (by omega)
  have k0 : DvK p r b bn bl Db lp N K w o [] K1 W0 := ⟨I, ⟨X, A0⟩, (Ro.below bw0).role fun y hy => kO y (by omega) (by omega) (by omega), cn0, kbn, by omega, kbl, by omega, hD0, kDb, klp, by omega,
    [], none, 0, (World.cell?_of_block (a := ⟨bl, 0, none⟩) hbl0).trans cl3, (World.frozen?_of_block (a := ⟨bl, 0, none⟩) hbl0).trans fl3, OwnO.nil _ _ _ _ _, rfl, fun x hx => by cases hx⟩
  have rdy := ready_any (o0 := o) (K := K1) (r := r) (b := b) (lp := lp) (J := fun o' ms K' W => DvK p r b bn bl Db lp N K w o' ms K' W ∧ W.heap[lp]? = some (.loop q) ∧ ms.length < N) (Jx := fun o' ms K' W => DvK p r b bn bl Db lp N K w o' ms K' W ∧ W.heap[lp]? = some (.loop { q with state := .done, pending := some (.exit 0) }) ∧ ms.length = N)
    (fun o' ms K' W h => ⟨h.1.I, h.1.A⟩)
    (fun o' ms K' W h o2 X2 K2 W2 I2 A2 q2' => ⟨h.1.ro q2' I2 A2 (by unfold inR; omega) (by unfold inR; omega) (by unfold inR; omega) (by unfold inR; omega) fun _ _ e => e, (q2'.same lp h.1.hp (by rw [h.1.kp]; unfold inR; omega)).trans h.2.1, h.2.2⟩)
    ?hY W0 ⟨k0, hL0, by show 0 < N; omega⟩
  case hY =>
    rintro o' ms K' W ⟨hk, hl, hlt⟩ m B cB nB hdv hnB hrow
    have hml : ms.length + 1 ≤ 1000000000 := by
      have h1 := hdv.done
      have h2 := hk.I.wf.dn
      rw [List.length_append, List.length_singleton] at h1
      omega
    have hpn : ({ q with state := .ready, pending := none } : Loop) = q := by cases q; simp_all
    have key := round_dv (p := p) (r := r) (b := b) (bn := bn) (bl := bl) (Db := Db) (lp := lp) (n := N) (K0 := K) (w0 := w) (o := o') (ms := ms) (a := a4) hpr hlo hl m B cB nB q1 q2 q3 (hr4'.agr ⟨rfl, rfl, trivial⟩) q4 q5 (by kernel_rfl) (by kernel_rfl) ?hgo
    case hgo =>
      intro R hR
      obtain ⟨Xk, Ak⟩ := hk.A
      have hzb := hk.hl
      have hzp := hk.hp
      have hzn := hk.hn
      conv => whnf
      refine .mk _ run_zero83 ?_
      conv => whnf
      refine .mk fun u1 hu1 => ?_
      repeat ((conv => whnf); first | (refine VCmp.tt (by omega) ?_) | (refine VCmp.ff (by omega) ?_) | (refine VIn.mk (IntWalk.i64_in _ (by omega)) ?_) | (refine VIdx.mk _ rfl (by omega) ?_) | (refine VIdx.mk 0 rfl (by omega) ?_))
      try (conv => whnf)
      refine VStore.new (c' := mgA m B cB nB) hu1 (by kernel_rfl) rfl (one_mgA _ _ _ _) fun y1 hy1 => ?_
      have c1 : Below W.heap.size W y1 := by rw [hy1.out]; exact (Below.refl _ _).alloc (Nat.le_refl _) _
      have zy1 : y1.heap.size = W.heap.size + 1 := by rw [hy1.out]; exact World.size_alloc _ _
      have r1 : y1.rangeAt W.heap.size 0 (mgA m B cB nB).toList := by rw [hy1.out]; exact range_new W _ 83
      clear hu1 hy1 u1
      have k1 := hk.below c1
      have hl1 : y1.heap[lp]? = some (.loop q) := (c1.block lp hk.hp).trans hl
      have hrow1 : RowK y1 K' 1 eByte B m.b := hrow.ro (Ro.below (R := fun _ => False) c1) id
      repeat ((conv => whnf); first | (refine VCmp.tt (by omega) ?_) | (refine VCmp.ff (by omega) ?_) | (refine VIn.mk (IntWalk.i64_in _ (by omega)) ?_) | (refine VIdx.mk _ rfl (by omega) ?_) | (refine VIdx.mk 0 rfl (by omega) ?_))
      try (conv => whnf)
      refine .mk hl1 fun y2 hy2 => ?_
      have k2 : DvK p r b bn bl Db lp N K w o' ms K' y2 := by rw [hy2.out]; exact k1.putLp hpr hlo _
      have hl2 : y2.heap[lp]? = some (.loop { q with state := .busy }) := by rw [hy2.out]; exact World.putObj_heap_same (by omega)
      have zy2 : y2.heap.size = y1.heap.size := by rw [hy2.out]; simp
      have hg2 : y1.grownBy y2 (some lp) := by rw [hy2.out]; exact grownBy_putObj' _ _ _
      have e12 : Ro (· = p + 2) K' K' y1 y2 := .grown hg2 fun y hy => by injection hy with hy; rw [← hy]; exact hk.kp
      clear hy2
      have kW : K' W.heap.size = 0 := Ak.kz _ (Nat.le_refl _)
      have r2 : y2.rangeAt W.heap.size 0 (mgA m B cB nB).toList := range_same r1 (e12.same W.heap.size (by omega) (by rw [kW]; omega))
      have hrow2 : RowK y2 K' 1 eByte B m.b := hrow1.ro e12 (by omega)
      obtain ⟨X2, A2⟩ := k2.A
      obtain ⟨xs, Ax, cx, x1, x2, x3, x4, x5⟩ := k2.row
      have M0 : Ld Try.prog 38 bl 0 (Eq y2) (.slice Ax ms.length cx) := .of (load38 x1)
      have M1 : Ld Try.prog 83 W.heap.size 0 (Eq y2) (.agg (mgA m B cB nB)) := .of (load83 r2)
      rw [q5]
      repeat ((conv => whnf); first | (refine VLoad.mk _ M0 ?_) | (refine VLoad.mk _ M1 ?_) | (refine VCmp.tt (by omega) ?_) | (refine VCmp.ff (by omega) ?_) | (refine VIn.mk (IntWalk.i64_in _ (by omega)) ?_) | (refine VIdx.mk _ rfl (by omega) ?_) | (refine VIdx.mk 0 rfl (by omega) ?_))
      try (conv => whnf)
      refine VBs.mk _ _ (bs38 y2 m.p m.s m.q B nB cB) ?_
      have c3 : Below y2.heap.size y2 (y2.alloc (.cells (mgA m B cB nB) 83)) := (Below.refl _ _).alloc (Nat.le_refl _) _
      have hnc : ∀ j u, (eMg ⟨m, B, cB⟩)[j]? = some u → (y2.alloc (.cells (mgA m B cB nB) 83)).cell? ⟨y2.heap.size, j, none⟩ = some u := fun j u hu => by
        have := range_new y2 (mgA m B cB nB) 83 j u (by rw [← hu, ← hnB]; rfl)
        rwa [Nat.zero_add] at this
      have zy3 : (y2.alloc (.cells (mgA m B cB nB) 83)).heap.size = y2.heap.size + 1 := World.size_alloc _ _
      show VApp _ _ _ _ (y2.alloc (.cells (mgA m B cB nB) 83)) _
      generalize y2.alloc (.cells (mgA m B cB nB) 83) = y3 at c3 hnc zy3 ⊢
      have k3 := k2.below c3
      have hl3 : y3.heap[lp]? = some (.loop { q with state := .busy }) := (c3.block lp (by omega)).trans hl2
      have hrow3 : RowK y3 K' 1 eByte B m.b := hrow2.ro (Ro.below (R := fun _ => False) c3) id
      have A3 := A2.below c3
      have x13 := (World.cell?_of_block (a := ⟨bl, 0, none⟩) (c3.block bl (by omega))).trans x1
      have x23 := (World.frozen?_of_block (a := ⟨bl, 0, none⟩) (c3.block bl (by omega))).trans x2
      have x33 := x3.ro (Ro.below (R := fun _ => False) (K := K') c3) id
      have x53 : ∀ x ∈ xs, RowK y3 K' 1 eByte x.A x.m.b := fun x hx => (x5 x hx).ro (Ro.below (R := fun _ => False) c3) id
      have hxl : xs.length = ms.length := by rw [← x4, List.length_map]
      refine VApp.off 4 48 _ Try.underlying38 info83 rfl (by decide) eMg (fun _ => rfl) one_eMg xs ⟨m, B, cB⟩ hxl x33 hnc A3.kz (by omega) (by omega) fun A4 c4 K4 y4 oA q4' kz4 => ?_
      have zy4 := q4'.size
      have A4' := A3.ro q4' kz4 (by omega) (fun y hy => by unfold inR at hy; omega)
      have en4 : K4 bn = 0 ∧ K4 bl = p ∧ K4 lp = p + 2 := ⟨(q4'.kk bn (by omega)).trans k3.kn, (q4'.kk bl (by omega)).trans k3.kl, (q4'.kk lp (by omega)).trans k3.kp⟩
      have hb4 := q4'.same bl (by omega) (by rw [k3.kl]; omega)
      have x14 := (World.cell?_of_block (a := ⟨bl, 0, none⟩) hb4).trans x13
      have x24 := (World.frozen?_of_block (a := ⟨bl, 0, none⟩) hb4).trans x23
      repeat ((conv => whnf); first | (refine VCmp.tt (by omega) ?_) | (refine VCmp.ff (by omega) ?_) | (refine VIn.mk (IntWalk.i64_in _ (by omega)) ?_) | (refine VIdx.mk _ rfl (by omega) ?_) | (refine VIdx.mk 0 rfl (by omega) ?_))
      try (conv => whnf)
      refine VStore.cell (by kernel_rfl) (by rw [x14]; rfl) x24 rfl rfl fun y5 hy5 => ?_
      have g5 : y4.grownBy y5 (some bl) := by rw [hy5.out]; exact grown_cell y4 bl 0 _
      have e45 : Ro (· = p) K4 K4 y4 y5 := .grown g5 fun y hy => by injection hy with hy; rw [← hy]; exact en4.2.1
      have x15 : y5.cell? ⟨bl, 0, none⟩ = some (.slice A4 (ms.length + 1) c4) := by rw [hy5.out]; exact World.cell?_setCell_same' _ _ _ (by rw [x14]; rfl)
      have x25 : y5.frozen? ⟨bl, 0, none⟩ = false := by rw [hy5.out, World.frozen?_setCell]; exact x24
      clear hy5
      have e35 : Ro (fun y => y = p + 1 ∨ y = p) K' K4 y3 y5 := (q4'.more fun y hy => .inl hy).trans (e45.more fun y hy => .inr hy)
      have A5 := A4'.ro e45 (fun y hy => kz4 y (Nat.le_trans e45.size hy)) (by omega) (fun y hy => by unfold inR at hy; omega)
      have hd3 := (Array.getElem?_eq_some_iff.1 k3.hd).1
      have k5 : DvK p r b bn bl Db lp N K w o' (ms ++ [m]) K4 y5 := ⟨k3.I, ⟨_, A5⟩, k3.q.then e35 (fun y _ e => by have := hlo y; omega), (World.cell?_of_block (a := ⟨bn, 0, none⟩) (e35.same bn (by omega) (by rw [k3.kn]; omega))).trans k3.cn, en4.1, by have := e45.size; omega, en4.2.1, by have := e45.size; omega,
        (e35.same Db hd3 (by rw [k3.kd]; omega)).trans k3.hd, (e35.kk Db hd3).trans k3.kd, en4.2.2, by have := e45.size; omega,
        xs ++ [⟨m, B, cB⟩], A4, c4, by rw [List.length_append]; exact x15, x25, oA.ro e45 (by omega), by rw [List.map_append, x4]; rfl, fun x hx => by
          rcases List.mem_append.1 hx with hx | hx
          · exact (x53 x hx).ro e35 (by omega)
          · rw [List.mem_singleton.1 hx]; exact hrow3.ro e35 (by omega)⟩
      have hl5 : y5.heap[lp]? = some (.loop { q with state := .busy }) := (e35.same lp (by omega) (by rw [k3.kp]; omega)).trans hl3
      obtain ⟨rt, rf⟩ := hR K4 y5 k5 hl5
      have M2 : Ld Try.prog 38 bl 0 (Eq y5) (.slice A4 (ms.length + 1) c4) := .of (load38 x15)
      have M3 : Ld Try.prog 3 bn 0 (Eq y5) (.int .i64 N) := .of (load3 k5.cn)
      by_cases hfull : ms.length + 1 = N
      · repeat ((conv => whnf); first | (refine VLoad.mk _ M2 ?_) | (refine VLoad.mk _ M3 ?_) | (refine VCmp.tt (by omega) ?_) | (refine VCmp.ff (by omega) ?_) | (refine VIn.mk (IntWalk.i64_in _ (by omega)) ?_) | (refine VIdx.mk _ rfl (by omega) ?_) | (refine VIdx.mk 0 rfl (by omega) ?_))
        try (conv => whnf)
        exact .mk ⟨hl5, rf hfull⟩
      · repeat ((conv => whnf); first | (refine VLoad.mk _ M2 ?_) | (refine VLoad.mk _ M3 ?_) | (refine VCmp.tt (by omega) ?_) | (refine VCmp.ff (by omega) ?_) | (refine VIn.mk (IntWalk.i64_in _ (by omega)) ?_) | (refine VIdx.mk _ rfl (by omega) ?_) | (refine VIdx.mk 0 rfl (by omega) ?_))
        try (conv => whnf)
        exact .mk ⟨hl5, rt (by omega)⟩
    rw [hpn] at key
    exact key
  have eargs : (#[Value.pointer (some ⟨b, 0, none⟩)] ++ #[Value.func (.yield lp) #[] #[]] ++ #[] : Array Value) = #[.pointer (some ⟨b, 0, none⟩), .func (.yield lp) #[] #[]] := by simp
  rw [eargs]
  have hrm : RepE [{ target := .collected Db, args := #[] }] 31 [(0, .pointer (some ⟨b, 0, none⟩)), (3, .pointer (some ⟨bn, 0, none⟩)), (5, .pointer (some ⟨bl, 0, none⟩))] (markA a4 w4) := ⟨by unfold markA; rw [hr4'.d, hDb], hr4'.s, hr4'.g⟩
  refine Calls.mono rdy ?_
  rintro e W ⟨⟨v, rfl⟩, o1, ms, K2, hdl, ⟨⟨hk, hl, hlt⟩, hno⟩ | ⟨hk, hl, heq⟩⟩
  · refine ⟨v, rfl, q, hl, by rw [q1]; simp, .inl ⟨q6, ?_⟩⟩
    have hcase : (ms.length : Int) = (N : Int) ∨ ((ms.length : Int) < (N : Int) ∧ o1.next = none) := .inr ⟨by omega, hno⟩
    have k2 := hk.putLp hpr hlo (.loop { q with state := .exhausted })
    generalize W.putObj lp (.loop { q with state := .exhausted }) = W2 at k2 ⊢
    show Code.wp _ _ _ _ _
    obtain ⟨X2, A2⟩ := k2.A
    obtain ⟨xs, Ax, cx, x1, x2, x3, x4, x5⟩ := k2.row
    have hle : o1.least ≤ o1.known := Nat.le_trans (leastTo_le o1 _ _) (hdl.known hdk).2
    refine wp_mono (vcC_ok (tab_of tab_ok) (D := [{ target := .collected Db, args := #[] }]) (n := 31) _ [(0, .pointer (some ⟨b, 0, none⟩)), (3, .pointer (some ⟨bn, 0, none⟩)), (5, .pointer (some ⟨bl, 0, none⟩))] _ _ (fun e fr y => match e with | .ret => VDone (∃ K3 X3, aget fr 4 = some (.slice Ax ms.length cx) ∧ OrdAt y K3 r b (o1.rise o1.least) X3 ∧ Ro (inR r) K K3 w y ∧ y.heap[Db]? = some (.deferred (some [])) ∧ K3 Db = p + 3 ∧ OwnO y K3 (p + 1) 4 eMg Ax cx xs ∧ ∀ x ∈ xs, RowK y K3 1 eByte x.A x.m.b) | _ => False) ?_ hrm) ?_
    · conv => whnf
      repeat ((conv => whnf); first | (refine VCmp.tt (by omega) ?_) | (refine VCmp.ff (by omega) ?_) | (refine VIn.mk (IntWalk.i64_in _ (by omega)) ?_) | (refine VIdx.mk _ rfl (by omega) ?_) | (refine VIdx.mk 0 rfl (by omega) ?_))
      try (conv => whnf)
      refine VCall.mk _ (least_any A2 k2.I.wf) ?_
      rintro _ _ ⟨rfl, rfl⟩
      refine ⟨_, rfl, ?_⟩
      repeat ((conv => whnf); first | (refine VCmp.tt (by omega) ?_) | (refine VCmp.ff (by omega) ?_) | (refine VIn.mk (IntWalk.i64_in _ (by omega)) ?_) | (refine VIdx.mk _ rfl (by omega) ?_) | (refine VIdx.mk 0 rfl (by omega) ?_))
      try (conv => whnf)
      refine VCall.mk _ (rise_any A2 k2.I.wf o1.least hle) ?_
      rintro _ y ⟨rfl, K3, X3, A3, q3⟩
      refine ⟨_, rfl, ?_⟩
      have hd2 := (Array.getElem?_eq_some_iff.1 k2.hd).1
      have x13 := (World.cell?_of_block (a := ⟨bl, 0, none⟩) (q3.same bl k2.hl (by rw [k2.kl]; unfold inR; omega))).trans x1
      have M0 : Ld Try.prog 38 bl 0 (Eq y) (.slice Ax ms.length cx) := .of (load38 x13)
      repeat ((conv => whnf); first | (refine VLoad.mk _ M0 ?_) | (refine VCmp.tt (by omega) ?_) | (refine VCmp.ff (by omega) ?_) | (refine VIn.mk (IntWalk.i64_in _ (by omega)) ?_) | (refine VIdx.mk _ rfl (by omega) ?_) | (refine VIdx.mk 0 rfl (by omega) ?_))
      try (conv => whnf)
      exact .mk ⟨K3, X3, rfl, A3, k2.q.then q3 fun _ _ e => e, (q3.same Db hd2 (by rw [k2.kd]; unfold inR; omega)).trans k2.hd, (q3.kk Db hd2).trans k2.kd, x3.ro q3 (by unfold inR; omega), fun x hx => (x5 x hx).ro q3 (by unfold inR; omega)⟩
    · rintro e a' y ⟨fr', hr', hq⟩
      cases e with
      | ret =>
        cases hq with
        | mk hq =>
          obtain ⟨K3, X3, h4, A3, q3, hD3, kD3, o3, y5⟩ := hq
          refine leave_mark hr' hD3 ?_
          show withV (aget fr' 4) _
          rw [h4]
          have ef : Ro (· = p + 3) K3 K3 y (y.putObj Db (.deferred none)) := .grown (grownBy_putObj' y Db _) fun k hk => by injection hk with hk; rw [← hk]; exact kD3
          obtain ⟨Kf, hKf⟩ : ∃ Kf : Nat → Nat, Kf = fun k => if p ≤ K3 k then 0 else K3 k := ⟨_, rfl⟩
          have kf : ∀ k, K3 k < p → Kf k = K3 k := fun k hk => by rw [hKf]; exact if_neg (by omega)
          have kf0 : ∀ k, p ≤ K3 k ∨ K3 k = 0 → Kf k = 0 := fun k hk => by
            rw [hKf]
            show (if p ≤ K3 k then 0 else K3 k) = 0
            split
            · rfl
            · rcases hk with hk | hk <;> omega
          have AF := (A3.ro ef (fun k hk => A3.kz k (by simpa using hk)) (by omega) (fun k hk => by unfold inR at hk; omega)).rerole (K' := Kf) (fun k hk => kf k (by unfold inR at hk; omega)) (fun k hk => kf0 k (.inr (A3.kz k (by simpa using hk))))
          have qF : Ro (inR r) K Kf w (y.putObj Db (.deferred none)) := (q3.then ef fun k _ e => by have := hlo k; omega).re fun k hk => kf k (by rw [q3.kk k hk]; exact hlo k)
          have rF : RowK (y.putObj Db (.deferred none)) Kf 4 eMg Ax xs := fun hxl => by
            rcases o3.ro ef (by omega) with ⟨-, e, -⟩ | ⟨g, off, e, g1, g2, -, -, g5⟩
            · rw [e] at hxl; exact absurd hxl (by simp)
            · exact ⟨g, off, e, g1, kf0 g (.inl (by omega)), g5⟩
          exact .mk ⟨ms, o1.rise o1.least, xs, Ax, cx, Kf, X3, rfl, .inr ⟨hfz, hn0, o1, hdl, hcase, k2.I, rfl⟩, AF, qF, rF, x4, fun x hx hxl => by
            obtain ⟨g, off, e, g1, g2, g3⟩ := (y5 x hx).ro ef (by omega) hxl
            exact ⟨g, off, e, g1, kf0 g (.inr g2), g3⟩⟩
      | normal => exact hq.elim
      | exit id => exact hq.elim
      | goto l => exact hq.elim
      | panic ch => exact hq.elim
      | outgrown => exact hq.elim
  · refine ⟨v, rfl, _, hl, by simp, .inr ⟨0, rfl, ?_⟩⟩
    have hcase : (ms.length : Int) = (N : Int) ∨ ((ms.length : Int) < (N : Int) ∧ o1.next = none) := .inl (by omega)
    have k2 := hk.putLp hpr hlo (.loop { q with state := .exhausted, pending := some (.exit 0) })
    unfold Exit.inBlock
    dsimp only
    rw [if_pos rfl]
    generalize W.putObj lp (.loop { q with state := .exhausted, pending := some (.exit 0) }) = W2 at k2 ⊢
    show Code.wp _ _ _ _ _
    obtain ⟨X2, A2⟩ := k2.A
    obtain ⟨xs, Ax, cx, x1, x2, x3, x4, x5⟩ := k2.row
    have hle : o1.least ≤ o1.known := Nat.le_trans (leastTo_le o1 _ _) (hdl.known hdk).2
    refine wp_mono (vcC_ok (tab_of tab_ok) (D := [{ target := .collected Db, args := #[] }]) (n := 31) _ [(0, .pointer (some ⟨b, 0, none⟩)), (3, .pointer (some ⟨bn, 0, none⟩)), (5, .pointer (some ⟨bl, 0, none⟩))] _ _ (fun e fr y => match e with | .ret => VDone (∃ K3 X3, aget fr 4 = some (.slice Ax ms.length cx) ∧ OrdAt y K3 r b (o1.rise o1.least) X3 ∧ Ro (inR r) K K3 w y ∧ y.heap[Db]? = some (.deferred (some [])) ∧ K3 Db = p + 3 ∧ OwnO y K3 (p + 1) 4 eMg Ax cx xs ∧ ∀ x ∈ xs, RowK y K3 1 eByte x.A x.m.b) | _ => False) ?_ hrm) ?_
    · conv => whnf
      repeat ((conv => whnf); first | (refine VCmp.tt (by omega) ?_) | (refine VCmp.ff (by omega) ?_) | (refine VIn.mk (IntWalk.i64_in _ (by omega)) ?_) | (refine VIdx.mk _ rfl (by omega) ?_) | (refine VIdx.mk 0 rfl (by omega) ?_))
      try (conv => whnf)
      refine VCall.mk _ (least_any A2 k2.I.wf) ?_
      rintro _ _ ⟨rfl, rfl⟩
      refine ⟨_, rfl, ?_⟩
      repeat ((conv => whnf); first | (refine VCmp.tt (by omega) ?_) | (refine VCmp.ff (by omega) ?_) | (refine VIn.mk (IntWalk.i64_in _ (by omega)) ?_) | (refine VIdx.mk _ rfl (by omega) ?_) | (refine VIdx.mk 0 rfl (by omega) ?_))
      try (conv => whnf)
      refine VCall.mk _ (rise_any A2 k2.I.wf o1.least hle) ?_
      rintro _ y ⟨rfl, K3, X3, A3, q3⟩
      refine ⟨_, rfl, ?_⟩
      have hd2 := (Array.getElem?_eq_some_iff.1 k2.hd).1
      have x13 := (World.cell?_of_block (a := ⟨bl, 0, none⟩) (q3.same bl k2.hl (by rw [k2.kl]; unfold inR; omega))).trans x1
      have M0 : Ld Try.prog 38 bl 0 (Eq y) (.slice Ax ms.length cx) := .of (load38 x13)
      repeat ((conv => whnf); first | (refine VLoad.mk _ M0 ?_) | (refine VCmp.tt (by omega) ?_) | (refine VCmp.ff (by omega) ?_) | (refine VIn.mk (IntWalk.i64_in _ (by omega)) ?_) | (refine VIdx.mk _ rfl (by omega) ?_) | (refine VIdx.mk 0 rfl (by omega) ?_))
      try (conv => whnf)
      exact .mk ⟨K3, X3, rfl, A3, k2.q.then q3 fun _ _ e => e, (q3.same Db hd2 (by rw [k2.kd]; unfold inR; omega)).trans k2.hd, (q3.kk Db hd2).trans k2.kd, x3.ro q3 (by unfold inR; omega), fun x hx => (x5 x hx).ro q3 (by unfold inR; omega)⟩
    · rintro e a' y ⟨fr', hr', hq⟩
      cases e with
      | ret =>
        cases hq with
        | mk hq =>
          obtain ⟨K3, X3, h4, A3, q3, hD3, kD3, o3, y5⟩ := hq
          refine leave_mark hr' hD3 ?_
          show withV (aget fr' 4) _
          rw [h4]
          have ef : Ro (· = p + 3) K3 K3 y (y.putObj Db (.deferred none)) := .grown (grownBy_putObj' y Db _) fun k hk => by injection hk with hk; rw [← hk]; exact kD3
          obtain ⟨Kf, hKf⟩ : ∃ Kf : Nat → Nat, Kf = fun k => if p ≤ K3 k then 0 else K3 k := ⟨_, rfl⟩
          have kf : ∀ k, K3 k < p → Kf k = K3 k := fun k hk => by rw [hKf]; exact if_neg (by omega)
          have kf0 : ∀ k, p ≤ K3 k ∨ K3 k = 0 → Kf k = 0 := fun k hk => by
            rw [hKf]
            show (if p ≤ K3 k then 0 else K3 k) = 0
            split
            · rfl
            · rcases hk with hk | hk <;> omega
          have AF := (A3.ro ef (fun k hk => A3.kz k (by simpa using hk)) (by omega) (fun k hk => by unfold inR at hk; omega)).rerole (K' := Kf) (fun k hk => kf k (by unfold inR at hk; omega)) (fun k hk => kf0 k (.inr (A3.kz k (by simpa using hk))))
          have qF : Ro (inR r) K Kf w (y.putObj Db (.deferred none)) := (q3.then ef fun k _ e => by have := hlo k; omega).re fun k hk => kf k (by rw [q3.kk k hk]; exact hlo k)
          have rF : RowK (y.putObj Db (.deferred none)) Kf 4 eMg Ax xs := fun hxl => by
            rcases o3.ro ef (by omega) with ⟨-, e, -⟩ | ⟨g, off, e, g1, g2, -, -, g5⟩
            · rw [e] at hxl; exact absurd hxl (by simp)
            · exact ⟨g, off, e, g1, kf0 g (.inl (by omega)), g5⟩
          exact .mk ⟨ms, o1.rise o1.least, xs, Ax, cx, Kf, X3, rfl, .inr ⟨hfz, hn0, o1, hdl, hcase, k2.I, rfl⟩, AF, qF, rF, x4, fun x hx hxl => by
            obtain ⟨g, off, e, g1, g2, g3⟩ := (y5 x hx).ro ef (by omega) hxl
            exact ⟨g, off, e, g1, kf0 g (.inr g2), g3⟩⟩
      | normal => exact hq.elim
      | exit id => exact hq.elim
      | goto l => exact hq.elim
      | panic ch => exact hq.elim
      | outgrown => exact hq.elim
end
end Go.Proofs.Ytoilipfgimcoiaa
namespace Go.Proofs.Ytoilipfgimcoiaa
open Go Go.RowKit
def absL (n : Int) : Int := if n < 0 then -(n + 1) else n
theorem absL_nonneg (n : Int) : 0 ≤ absL n := by unfold absL; split <;> omega
theorem abs_any (n : Int) (w : World) (h1 : -9223372036854775808 ≤ n) (h2 : n ≤ 9223372036854775807) : Calls Try.prog 20 #[.int .i64 n] w fun e w' => e = .returned (.int .i64 (absL n)) ∧ w' = w := by
  refine calls_vc tab_ok Try.func20 rfl ?_
  conv => whnf
  by_cases h : n < 0
  · repeat ((conv => whnf); first | (refine VCmp.tt (by omega) ?_) | (refine VCmp.ff (by omega) ?_) | (refine VIn.mk (IntWalk.i64_in _ (by omega)) ?_) | (refine VIdx.mk _ rfl (by omega) ?_) | (refine VIdx.mk 0 rfl (by omega) ?_))
    try (conv => whnf)
    exact .mk ⟨by unfold absL; rw [if_pos h, Int.zero_sub]; rfl, rfl⟩
  · repeat ((conv => whnf); first | (refine VCmp.tt (by omega) ?_) | (refine VCmp.ff (by omega) ?_) | (refine VIn.mk (IntWalk.i64_in _ (by omega)) ?_) | (refine VIdx.mk _ rfl (by omega) ?_) | (refine VIdx.mk 0 rfl (by omega) ?_))
    try (conv => whnf)
    exact .mk ⟨by unfold absL; rw [if_neg h]; rfl, rfl⟩
theorem pid_any (n : Int) (w : World) (h1 : 0 ≤ n) (h2 : n ≤ 1000000000) : Calls Try.prog 25 #[.int .i64 n] w fun e w' => e = .returned (.int .i64 (3 * n + 1)) ∧ w' = w := by
  refine calls_vc tab_ok Try.func25 rfl ?_
  conv => whnf
  repeat ((conv => whnf); first | (refine VCmp.tt (by omega) ?_) | (refine VCmp.ff (by omega) ?_) | (refine VIn.mk (IntWalk.i64_in _ (by omega)) ?_) | (refine VIdx.mk _ rfl (by omega) ?_) | (refine VIdx.mk 0 rfl (by omega) ?_))
  try (conv => whnf)
  exact .mk ⟨rfl, rfl⟩
theorem num_any (n : Int) (w : World) : Calls Try.prog 27 #[.int .i64 n] w fun e w' => e = .returned (.int .i64 n) ∧ w' = w := by
  refine calls_vc tab_ok Try.func27 rfl ?_
  conv => whnf
  repeat ((conv => whnf); first | (refine VCmp.tt (by omega) ?_) | (refine VCmp.ff (by omega) ?_) | (refine VIn.mk (IntWalk.i64_in _ (by omega)) ?_) | (refine VIdx.mk _ rfl (by omega) ?_) | (refine VIdx.mk 0 rfl (by omega) ?_))
  try (conv => whnf)
  exact .mk ⟨rfl, rfl⟩
theorem load5 {w : World} {b j : Nat} {v : Int} (h : w.cell? ⟨b, j, none⟩ = some (.int .u8 v)) : (loadVar 5 ⟨b, j, none⟩).run Try.prog w = .ok (.int .u8 v) w := by go_simp
theorem take_succ_eq {α : Type} {l m : List α} {k : Nat} {x y : α} (h : l.take k = m.take k) (hx : l[k]? = some x) (hy : m[k]? = some y) (e : x = y) : l.take (k + 1) = m.take (k + 1) := by
  rw [List.take_add_one, List.take_add_one, h, hx, hy, e]
set_option maxRecDepth 100000 in
theorem sameBytes_any (A B : Option Addr) (c d n m N : Nat) (la lb : List Int) (w : World) (hn : la.length = n) (hm : lb.length = m) (hN : N ≤ w.heap.size) (hA : RowAt w N 1 eByte A la) (hB : RowAt w N 1 eByte B lb) (h1 : n ≤ 1000000000) :
    Calls Try.prog 31 #[.slice A n c, .slice B m d] w fun e w' => e = .returned (.bool (decide (la = lb))) ∧ Below w.heap.size w w' := by
  refine calls_vc tab_ok Try.func31 rfl ?_
  conv => whnf
  by_cases hnm : n = m
  case neg =>
    repeat ((conv => whnf); first | (refine VCmp.tt (by omega) ?_) | (refine VCmp.ff (by omega) ?_) | (refine VIn.mk (IntWalk.i64_in _ (by omega)) ?_) | (refine VIdx.mk _ rfl (by omega) ?_) | (refine VIdx.mk 0 rfl (by omega) ?_))
    try (conv => whnf)
    exact .mk ⟨by rw [decide_eq_false (fun e => hnm (by rw [← hn, ← hm, e]))]; rfl, Below.refl _ _⟩
  subst hnm
  repeat ((conv => whnf); first | (refine VCmp.tt (by omega) ?_) | (refine VCmp.ff (by omega) ?_) | (refine VIn.mk (IntWalk.i64_in _ (by omega)) ?_) | (refine VIdx.mk _ rfl (by omega) ?_) | (refine VIdx.mk 0 rfl (by omega) ?_))
  try (conv => whnf)
  refine VLoop.mk Nat (fun k => [(0, .slice A n c), (1, .slice B n d), (5, .int .i64 k)]) (fun k W => k ≤ n ∧ Below w.heap.size w W ∧ la.take k = lb.take k) (fun k => n - k) 0 ⟨rfl, rfl, rfl, trivial⟩ ⟨Nat.zero_le _, Below.refl _ _, by simp⟩ ?_
  rintro k W ⟨hk, hW, ht⟩
  by_cases hkn : k < n
  case neg =>
    repeat ((conv => whnf); first | (refine VCmp.tt (by omega) ?_) | (refine VCmp.ff (by omega) ?_) | (refine VIn.mk (IntWalk.i64_in _ (by omega)) ?_) | (refine VIdx.mk _ rfl (by omega) ?_) | (refine VIdx.mk 0 rfl (by omega) ?_))
    try (conv => whnf)
    exact .mk ⟨by rw [List.take_of_length_le (by omega), List.take_of_length_le (by omega)] at ht; rw [ht, decide_eq_true rfl]; rfl, hW⟩
  obtain ⟨ga, oa, rfl, ha, ca⟩ := hA (by omega)
  obtain ⟨gb, ob, rfl, hb, cb⟩ := hB (by omega)
  obtain ⟨x, hx⟩ : ∃ x, la[k]? = some x := ⟨_, List.getElem?_eq_getElem (by omega)⟩
  obtain ⟨y, hy⟩ : ∃ y, lb[k]? = some y := ⟨_, List.getElem?_eq_getElem (by omega)⟩
  have L1 : Ld Try.prog 5 ga (oa + k) (Sm [ga, gb] W) (.int .u8 x) := ⟨fun W' hW' => load5 ((World.cell?_of_block (a := ⟨ga, _, none⟩) ((hW' ga (by simp)).trans (hW.block ga (by omega)))).trans (by have := ca k x hx 0 _ rfl; rwa [Nat.mul_one] at this))⟩
  have L2 : Ld Try.prog 5 gb (ob + k) (Sm [ga, gb] W) (.int .u8 y) := ⟨fun W' hW' => load5 ((World.cell?_of_block (a := ⟨gb, _, none⟩) ((hW' gb (by simp)).trans (hW.block gb (by omega)))).trans (by have := cb k y hy 0 _ rfl; rwa [Nat.mul_one] at this))⟩
  have hs : Sm [ga, gb] W W.drew := fun _ _ => rfl
  have hWd : Below w.heap.size w W.drew := hW.trans ((Below.refl _ W).drew.mono hW.size)
  repeat ((conv => whnf); first | (refine VCmp.tt (by omega) ?_) | (refine VCmp.ff (by omega) ?_) | (refine VIn.mk (IntWalk.i64_in _ (by omega)) ?_) | (refine VIdx.mk _ rfl (by omega) ?_) | (refine VIdx.mk 0 rfl (by omega) ?_))
  try (conv => whnf)
  refine VDraw.pl 1000 (.stop [0, 1, 2, 3, 4, 5, 6, 7, 8]) (Sm [ga, gb] W) (by kernel_rfl) (hs) ?_
  by_cases hxy : x = y
  · repeat ((conv => whnf); first | (refine VLoad.mk _ L1 ?_) | (refine VLoad.mk _ L2 ?_) | (refine VCmp.tt (by omega) ?_) | (refine VCmp.ff (by omega) ?_) | (refine VIn.mk (IntWalk.i64_in _ (by omega)) ?_) | (refine VIdx.mk _ rfl (by omega) ?_) | (refine VIdx.mk 0 rfl (by omega) ?_))
    try (conv => whnf)
    exact .mk (k + 1) ⟨rfl, rfl, rfl, trivial⟩ ⟨hkn, hWd, take_succ_eq ht hx hy hxy⟩ (by show n - (k + 1) < n - k; omega)
  · repeat ((conv => whnf); first | (refine VLoad.mk _ L1 ?_) | (refine VLoad.mk _ L2 ?_) | (refine VCmp.tt (by omega) ?_) | (refine VCmp.ff (by omega) ?_) | (refine VIn.mk (IntWalk.i64_in _ (by omega)) ?_) | (refine VIdx.mk _ rfl (by omega) ?_) | (refine VIdx.mk 0 rfl (by omega) ?_))
    try (conv => whnf)
    exact .mk ⟨by rw [decide_eq_false (fun e => hxy (by rw [e, hy] at hx; exact (Option.some.inj hx).symm))]; rfl, hWd⟩
set_option maxRecDepth 100000 in
theorem sameInts_any (A B : Option Addr) (c d n m N : Nat) (la lb : List Nat) (w : World) (hn : la.length = n) (hm : lb.length = m) (hN : N ≤ w.heap.size) (hA : RowAt w N 1 eNat A la) (hB : RowAt w N 1 eNat B lb) (h1 : n ≤ 1000000000) :
    Calls Try.prog 46 #[.slice A n c, .slice B m d] w fun e w' => e = .returned (.bool (decide (la = lb))) ∧ Below w.heap.size w w' := by
  refine calls_vc tab_ok Try.func46 rfl ?_
  conv => whnf
  by_cases hnm : n = m
  case neg =>
    repeat ((conv => whnf); first | (refine VCmp.tt (by omega) ?_) | (refine VCmp.ff (by omega) ?_) | (refine VIn.mk (IntWalk.i64_in _ (by omega)) ?_) | (refine VIdx.mk _ rfl (by omega) ?_) | (refine VIdx.mk 0 rfl (by omega) ?_))
    try (conv => whnf)
    exact .mk ⟨by rw [decide_eq_false (fun e => hnm (by rw [← hn, ← hm, e]))]; rfl, Below.refl _ _⟩
  subst hnm
  repeat ((conv => whnf); first | (refine VCmp.tt (by omega) ?_) | (refine VCmp.ff (by omega) ?_) | (refine VIn.mk (IntWalk.i64_in _ (by omega)) ?_) | (refine VIdx.mk _ rfl (by omega) ?_) | (refine VIdx.mk 0 rfl (by omega) ?_))
  try (conv => whnf)
  refine VLoop.mk Nat (fun k => [(0, .slice A n c), (1, .slice B n d), (5, .int .i64 k)]) (fun k W => k ≤ n ∧ Below w.heap.size w W ∧ la.take k = lb.take k) (fun k => n - k) 0 ⟨rfl, rfl, rfl, trivial⟩ ⟨Nat.zero_le _, Below.refl _ _, by simp⟩ ?_
  rintro k W ⟨hk, hW, ht⟩
  by_cases hkn : k < n
  case neg =>
    repeat ((conv => whnf); first | (refine VCmp.tt (by omega) ?_) | (refine VCmp.ff (by omega) ?_) | (refine VIn.mk (IntWalk.i64_in _ (by omega)) ?_) | (refine VIdx.mk _ rfl (by omega) ?_) | (refine VIdx.mk 0 rfl (by omega) ?_))
    try (conv => whnf)
    exact .mk ⟨by rw [List.take_of_length_le (by omega), List.take_of_length_le (by omega)] at ht; rw [ht, decide_eq_true rfl]; rfl, hW⟩
  obtain ⟨ga, oa, rfl, ha, ca⟩ := hA (by omega)
  obtain ⟨gb, ob, rfl, hb, cb⟩ := hB (by omega)
  obtain ⟨x, hx⟩ : ∃ x, la[k]? = some x := ⟨_, List.getElem?_eq_getElem (by omega)⟩
  obtain ⟨y, hy⟩ : ∃ y, lb[k]? = some y := ⟨_, List.getElem?_eq_getElem (by omega)⟩
  have L1 : Ld Try.prog 3 ga (oa + k) (Sm [ga, gb] W) (.int .i64 x) := ⟨fun W' hW' => load3 ((World.cell?_of_block (a := ⟨ga, _, none⟩) ((hW' ga (by simp)).trans (hW.block ga (by omega)))).trans (by have := ca k x hx 0 _ rfl; rwa [Nat.mul_one] at this))⟩
  have L2 : Ld Try.prog 3 gb (ob + k) (Sm [ga, gb] W) (.int .i64 y) := ⟨fun W' hW' => load3 ((World.cell?_of_block (a := ⟨gb, _, none⟩) ((hW' gb (by simp)).trans (hW.block gb (by omega)))).trans (by have := cb k y hy 0 _ rfl; rwa [Nat.mul_one] at this))⟩
  have hs : Sm [ga, gb] W W.drew := fun _ _ => rfl
  have hWd : Below w.heap.size w W.drew := hW.trans ((Below.refl _ W).drew.mono hW.size)
  repeat ((conv => whnf); first | (refine VCmp.tt (by omega) ?_) | (refine VCmp.ff (by omega) ?_) | (refine VIn.mk (IntWalk.i64_in _ (by omega)) ?_) | (refine VIdx.mk _ rfl (by omega) ?_) | (refine VIdx.mk 0 rfl (by omega) ?_))
  try (conv => whnf)
  refine VDraw.pl 1000 (.stop [0, 1, 2, 3, 4, 5, 6, 7, 8]) (Sm [ga, gb] W) (by kernel_rfl) (hs) ?_
  by_cases hxy : x = y
  · repeat ((conv => whnf); first | (refine VLoad.mk _ L1 ?_) | (refine VLoad.mk _ L2 ?_) | (refine VCmp.tt (by omega) ?_) | (refine VCmp.ff (by omega) ?_) | (refine VIn.mk (IntWalk.i64_in _ (by omega)) ?_) | (refine VIdx.mk _ rfl (by omega) ?_) | (refine VIdx.mk 0 rfl (by omega) ?_))
    try (conv => whnf)
    exact .mk (k + 1) ⟨rfl, rfl, rfl, trivial⟩ ⟨hkn, hWd, take_succ_eq ht hx hy hxy⟩ (by show n - (k + 1) < n - k; omega)
  · repeat ((conv => whnf); first | (refine VLoad.mk _ L1 ?_) | (refine VLoad.mk _ L2 ?_) | (refine VCmp.tt (by omega) ?_) | (refine VCmp.ff (by omega) ?_) | (refine VIn.mk (IntWalk.i64_in _ (by omega)) ?_) | (refine VIdx.mk _ rfl (by omega) ?_) | (refine VIdx.mk 0 rfl (by omega) ?_))
    try (conv => whnf)
    exact .mk ⟨by rw [decide_eq_false (fun e => hxy (by rw [e, hy] at hx; exact (Option.some.inj hx).symm))]; rfl, hWd⟩
end Go.Proofs.Ytoilipfgimcoiaa
namespace Go.Proofs.Ytoilipfgimcoiaa
open Go Go.RowKit
def sameD (x y : Dt) : Bool := decide (x.s = y.s ∧ x.q = y.q ∧ x.st = y.st ∧ x.b = y.b)
theorem sameD_eq {x y : Dt} : sameD x y = true ↔ x = y := by
  unfold sameD
  rw [decide_eq_true_iff]
  constructor
  · obtain ⟨a, b, c, d⟩ := x
    obtain ⟨a', b', c', d'⟩ := y
    rintro ⟨h1, h2, h3, h4⟩
    simp only at h1 h2 h3 h4
    rw [h1, h2, h3, h4]
  · rintro rfl
    exact ⟨rfl, rfl, rfl, rfl⟩
set_option maxRecDepth 100000 in
theorem sameData_any (x y : Dt) (A B : Option Addr) (c d n m : Nat) (w : World) (hn : x.b.length = n) (hm : y.b.length = m) (hA : RowAt w w.heap.size 1 eByte A x.b) (hB : RowAt w w.heap.size 1 eByte B y.b) (h1 : n ≤ 1000000000) :
    Calls Try.prog 47 #[.agg (dtA x A c n), .agg (dtA y B d m)] w fun e w' => e = .returned (.bool (sameD x y)) ∧ Below w.heap.size w w' := by
  refine calls_vc tab_ok Try.func47 rfl ?_
  conv => whnf
  refine .mk fun w1 hw1 => ?_
  have b1 : Below w.heap.size w w1 := by rw [hw1.out]; exact below_box1 _ _ _
  have z1 : w1.heap.size = w.heap.size + 1 := by rw [hw1.out]; exact World.size_alloc _ _
  have r1 : w1.rangeAt w.heap.size 0 (dtA x A c n).toList := by rw [hw1.out]; exact range_new w _ 71
  clear hw1
  conv => whnf
  refine .mk fun w2 hw2 => ?_
  have b2 : Below w1.heap.size w1 w2 := by rw [hw2.out]; exact below_box1 _ _ _
  have r2 : w2.rangeAt w1.heap.size 0 (dtA y B d m).toList := by rw [hw2.out]; exact range_new w1 _ 71
  clear hw2
  have b02 : Below w.heap.size w w2 := b1.trans (b2.mono (by omega))
  have z2 := b2.size
  have r12 := range_same r1 (b2.block w.heap.size (by omega))
  generalize w.heap.size = p1 at *
  generalize w1.heap.size = p2 at *
  have A0 : Ld Try.prog 3 p1 0 (Eq w2) (.int .i64 x.s) := .of (load3 (r12 0 _ rfl))
  have A1 : Ld Try.prog 3 p1 1 (Eq w2) (.int .i64 x.q) := .of (load3 (r12 1 _ rfl))
  have A2 : Ld Try.prog 3 p1 2 (Eq w2) (.int .i64 x.st) := .of (load3 (r12 2 _ rfl))
  have A3 : Ld Try.prog 27 p1 3 (Eq w2) (.slice A n c) := .of (load27 (r12 3 _ rfl))
  have B0 : Ld Try.prog 3 p2 0 (Eq w2) (.int .i64 y.s) := .of (load3 (r2 0 _ rfl))
  have B1 : Ld Try.prog 3 p2 1 (Eq w2) (.int .i64 y.q) := .of (load3 (r2 1 _ rfl))
  have B2 : Ld Try.prog 3 p2 2 (Eq w2) (.int .i64 y.st) := .of (load3 (r2 2 _ rfl))
  have B3 : Ld Try.prog 27 p2 3 (Eq w2) (.slice B m d) := .of (load27 (r2 3 _ rfl))
  have no : ∀ (w' : World), Below p1 w w' → ¬ (x.s = y.s ∧ x.q = y.q ∧ x.st = y.st ∧ x.b = y.b) → Ending.returned (.bool false) = .returned (.bool (sameD x y)) ∧ Below p1 w w' := fun w' hb h => ⟨by unfold sameD; rw [decide_eq_false h], hb⟩
  by_cases e0 : x.s = y.s
  case neg =>
    repeat ((conv => whnf); first | (refine VLoad.mk _ A0 ?_) | (refine VLoad.mk _ A1 ?_) | (refine VLoad.mk _ A2 ?_) | (refine VLoad.mk _ A3 ?_) | (refine VLoad.mk _ B0 ?_) | (refine VLoad.mk _ B1 ?_) | (refine VLoad.mk _ B2 ?_) | (refine VLoad.mk _ B3 ?_) | (refine VCmp.tt (by omega) ?_) | (refine VCmp.ff (by omega) ?_) | (refine VIn.mk (IntWalk.i64_in _ (by omega)) ?_) | (refine VIdx.mk _ rfl (by omega) ?_) | (refine VIdx.mk 0 rfl (by omega) ?_))
    try (conv => whnf)
    exact .mk (no w2 b02 fun h => e0 h.1)
  by_cases e1 : x.q = y.q
  case neg =>
    repeat ((conv => whnf); first | (refine VLoad.mk _ A0 ?_) | (refine VLoad.mk _ A1 ?_) | (refine VLoad.mk _ A2 ?_) | (refine VLoad.mk _ A3 ?_) | (refine VLoad.mk _ B0 ?_) | (refine VLoad.mk _ B1 ?_) | (refine VLoad.mk _ B2 ?_) | (refine VLoad.mk _ B3 ?_) | (refine VCmp.tt (by omega) ?_) | (refine VCmp.ff (by omega) ?_) | (refine VIn.mk (IntWalk.i64_in _ (by omega)) ?_) | (refine VIdx.mk _ rfl (by omega) ?_) | (refine VIdx.mk 0 rfl (by omega) ?_))
    try (conv => whnf)
    exact .mk (no w2 b02 fun h => e1 h.2.1)
  by_cases e2 : x.st = y.st
  case neg =>
    repeat ((conv => whnf); first | (refine VLoad.mk _ A0 ?_) | (refine VLoad.mk _ A1 ?_) | (refine VLoad.mk _ A2 ?_) | (refine VLoad.mk _ A3 ?_) | (refine VLoad.mk _ B0 ?_) | (refine VLoad.mk _ B1 ?_) | (refine VLoad.mk _ B2 ?_) | (refine VLoad.mk _ B3 ?_) | (refine VCmp.tt (by omega) ?_) | (refine VCmp.ff (by omega) ?_) | (refine VIn.mk (IntWalk.i64_in _ (by omega)) ?_) | (refine VIdx.mk _ rfl (by omega) ?_) | (refine VIdx.mk 0 rfl (by omega) ?_))
    try (conv => whnf)
    exact .mk (no w2 b02 fun h => e2 h.2.2.1)
  repeat ((conv => whnf); first | (refine VLoad.mk _ A0 ?_) | (refine VLoad.mk _ A1 ?_) | (refine VLoad.mk _ A2 ?_) | (refine VLoad.mk _ A3 ?_) | (refine VLoad.mk _ B0 ?_) | (refine VLoad.mk _ B1 ?_) | (refine VLoad.mk _ B2 ?_) | (refine VLoad.mk _ B3 ?_) | (refine VCmp.tt (by omega) ?_) | (refine VCmp.ff (by omega) ?_) | (refine VIn.mk (IntWalk.i64_in _ (by omega)) ?_) | (refine VIdx.mk _ rfl (by omega) ?_) | (refine VIdx.mk 0 rfl (by omega) ?_))
  try (conv => whnf)
  refine VCall.mk _ (sameBytes_any A B c d n m p1 x.b y.b w2 hn hm (by omega) (hA.below b02 (Nat.le_refl _)) (hB.below b02 (Nat.le_refl _)) h1) ?_
  rintro _ w3 ⟨rfl, b3⟩
  refine ⟨_, rfl, ?_⟩
  repeat ((conv => whnf); first | (refine VCmp.tt (by omega) ?_) | (refine VCmp.ff (by omega) ?_) | (refine VIn.mk (IntWalk.i64_in _ (by omega)) ?_) | (refine VIdx.mk _ rfl (by omega) ?_) | (refine VIdx.mk 0 rfl (by omega) ?_))
  try (conv => whnf)
  exact .mk ⟨by unfold sameD; by_cases hb : x.b = y.b <;> simp [hb, e0, e1, e2] <;> rfl, b02.trans (b3.mono (by omega))⟩
end Go.Proofs.Ytoilipfgimcoiaa
