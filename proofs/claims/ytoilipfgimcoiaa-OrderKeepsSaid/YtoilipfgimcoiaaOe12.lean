/- OdX OdY OdZ OdZ2 OdZ3 OdZ4 OdZ5, joined. -/
import Derived.Sort.Grow
import Derived.Test.YtoilipfgimcoiaaOe11
set_option linter.unusedVariables false
set_option linter.unusedSimpArgs false
namespace Go.Proofs.Ytoilipfgimcoiaa
open Go Go.RowKit
def NewRow {α : Type} (w : World) (base sz : Nat) (enc : α → List Value) (A : Option Addr) (l : List α) : Prop :=
  0 < l.length → ∃ b off, A = some ⟨b, off, none⟩ ∧ base ≤ b ∧ b < w.heap.size ∧ ∀ k x, l[k]? = some x → ∀ j u, (enc x)[j]? = some u → w.cell? ⟨b, off + k * sz + j, none⟩ = some u
section
variable {α : Type} {w w' : World} {base sz : Nat} {enc : α → List Value} {A : Option Addr} {l : List α}
theorem NewRow.row (h : NewRow w base sz enc A l) : RowAt w w.heap.size sz enc A l := fun hl => by
  obtain ⟨b, off, e, -, h2, h3⟩ := h hl
  exact ⟨b, off, e, h2, h3⟩
theorem NewRow.rowK (h : NewRow w base sz enc A l) {K : Nat → Nat} (hK : ∀ y, base ≤ y → K y = 0) : RowK w K sz enc A l := fun hl => by
  obtain ⟨b, off, e, h1, h2, h3⟩ := h hl
  exact ⟨b, off, e, h2, hK b h1, h3⟩
theorem NewRow.below (h : NewRow w base sz enc A l) (hb : Below w.heap.size w w') : NewRow w' base sz enc A l := fun hl => by
  obtain ⟨b, off, e, h1, h2, h3⟩ := h hl
  exact ⟨b, off, e, h1, Nat.lt_of_lt_of_le h2 hb.size, fun k x hx j u hu => (World.cell?_of_block (a := ⟨b, _, none⟩) (hb.block b h2)).trans (h3 k x hx j u hu)⟩
theorem NewRow.owns {e : TypeId} {c : Nat} (h : Owns w base e sz enc A c l) (henc : ∀ x, (enc x).length = sz) : NewRow w base sz enc A l := fun hl => by
  obtain ⟨b, off, e1, h2, h3⟩ := h.row henc hl
  exact ⟨b, off, e1, (h.lo b (by rw [e1]; rfl)).1, h2, h3⟩
end
theorem VApp.copy {P : Program} {α : Type} {w : World} {ty0 : TypeId} {t e : TypeId} {K : Value → World → Prop}
    (sz bytes : Nat) (z : Value) (ht : P.underlying t = some (.slice e)) (hinfo : (P.info? e).map (fun i => (i.zero, i.size, i.bytes)) = some (some z, sz, bytes))
    (hzs : z.cells.size = sz) (hsz : 0 < sz) (enc : α → List Value) (henc : ∀ x, (enc x).length = sz) (hone : ∀ x, ∀ u ∈ enc x, u.oneCell' = true)
    {A : Option Addr} {B : Option Addr} {cB N m : Nat} (l : List α) (hm : l.length = m) (hr : RowAt w N sz enc B l)
    (h63 : m ≤ 9223372036854775807) (hbytes : m * bytes ≤ 140737488355328)
    (h : ∀ A' c' w', NewRow w' w.heap.size sz enc A' l → Below w.heap.size w w' → K (.slice A' m c') w') : VApp P #[t, t] ty0 [.slice A 0 0, .slice B m cB] w K := by
  subst hm
  obtain ⟨i, hi, hz, hsize, hby⟩ := info_parts hinfo
  by_cases h1 : 0 < l.length
  · have key : VApp P #[t, t] ty0 [.slice none 0 0, .slice B l.length cB] w K := by
      refine VApp.rows w.heap.size sz bytes z ht hinfo hzs hsz enc henc hone [] l rfl rfl (owns_nil _ _ _ _ _) hr (by omega) (by rw [Nat.zero_add]; exact hbytes) (Nat.le_refl _) fun A' c' w' ho hg hk => ?_
      rw [Nat.zero_add]
      rw [List.nil_append] at ho
      exact h A' c' w' (.owns ho henc) ((Below.refl _ w).grown hg (Nat.le_refl _) fun k hk => by cases hk)
    cases A with
    | none => exact key
    | some ga =>
      obtain ⟨v, w', hrun, hk⟩ := key
      exact .mk v w' (by
        have := run_append_zero w t ty0 e i ht hi ga B l.length cB h1 (by rw [hby]; exact hbytes)
        exact this.trans hrun) hk
  · have hl : l = [] := List.eq_nil_of_length_eq_zero (by omega)
    subst hl
    exact .mk _ _ (run_append_none w t ty0 e i ht hi A B cB) (h A 0 w (fun h2 => absurd h2 h1) (Below.refl _ _))
theorem bs27 (W : World) : (Instr.buildSlice 27 0 #[]).run Try.prog W = .ok (.slice (some ⟨W.heap.size, 0, none⟩) 0 0) (W.alloc (.cells #[] 5)) := by kernel_rfl
theorem copied_any (A : Option Addr) (c n : Nat) (l : List Int) (w : World) (hn : l.length = n) (hA : RowAt w w.heap.size 1 eByte A l) (h1 : n ≤ 1000000000) :
    Calls Try.prog 57 #[.slice A n c] w fun e w' => ∃ A' c', e = .returned (.slice A' n c') ∧ NewRow w' w.heap.size 1 eByte A' l ∧ Below w.heap.size w w' := by
  refine calls_vc tab_ok Try.func57 rfl ?_
  conv => whnf
  repeat ((conv => whnf); first | (refine VCmp.tt (by omega) ?_) | (refine VCmp.ff (by omega) ?_) | (refine VIn.mk (IntWalk.i64_in _ (by omega)) ?_) | (refine VIdx.mk _ rfl (by omega) ?_) | (refine VIdx.mk 0 rfl (by omega) ?_))
  try (conv => whnf)
  refine VBs.mk _ _ (bs27 w) ?_
  have b1 : Below w.heap.size w (w.alloc (.cells #[] 5)) := (Below.refl _ _).alloc (Nat.le_refl _) _
  have z1 : (w.alloc (.cells #[] 5)).heap.size = w.heap.size + 1 := World.size_alloc _ _
  generalize w.alloc (.cells #[] 5) = w1 at b1 z1 ⊢
  repeat ((conv => whnf); first | (refine VCmp.tt (by omega) ?_) | (refine VCmp.ff (by omega) ?_) | (refine VIn.mk (IntWalk.i64_in _ (by omega)) ?_) | (refine VIdx.mk _ rfl (by omega) ?_) | (refine VIdx.mk 0 rfl (by omega) ?_))
  try (conv => whnf)
  refine VApp.copy 1 1 _ Try.underlying27 info5 rfl (by decide) eByte (fun _ => rfl) one_eByte l hn (hA.below b1 (Nat.le_refl _)) (by omega) (by omega) fun A' c' w2 hr b2 => ?_
  repeat ((conv => whnf); first | (refine VCmp.tt (by omega) ?_) | (refine VCmp.ff (by omega) ?_) | (refine VIn.mk (IntWalk.i64_in _ (by omega)) ?_) | (refine VIdx.mk _ rfl (by omega) ?_) | (refine VIdx.mk 0 rfl (by omega) ?_))
  try (conv => whnf)
  exact .mk ⟨A', c', rfl, fun hl => by
    obtain ⟨g, off, e, g1, g2, g3⟩ := hr hl
    exact ⟨g, off, e, by omega, g2, g3⟩, b1.trans (b2.mono (by omega))⟩
end Go.Proofs.Ytoilipfgimcoiaa
namespace Go.Proofs.Ytoilipfgimcoiaa
open Go Go.RowKit
abbrev flA (o : Os) (A : Option Addr) (c : Nat) (H : Option Addr) : Array Value := #[.int .i64 o.id.e, .int .i64 o.id.l, .int .i64 o.id.i, .int .i64 o.id.c, .int .i64 o.pre, .slice A o.slots.length c, .slice H 16 16]
theorem one_flA (o : Os) (A : Option Addr) (c : Nat) (H : Option Addr) : (flA o A c H).all (·.oneCell') = true := by
  have : ∀ u ∈ [Value.int .i64 o.id.e, .int .i64 o.id.l, .int .i64 o.id.i, .int .i64 o.id.c, .int .i64 o.pre, .slice A o.slots.length c, .slice H 16 16], u.oneCell' = true := fun u hu => by
    simp only [List.mem_cons, List.not_mem_nil, or_false] at hu
    rcases hu with rfl | rfl | rfl | rfl | rfl | rfl | rfl <;> rfl
  exact all_oneCell_toArray this
abbrev zero51 : Value := .agg #[.int .i64 0, .int .i64 0, .int .i64 0, .int .i64 0, .int .i64 0, .slice none 0 0, .slice none 0 0]
theorem run_zero51 (W : World) : (zeroValue 51).run Try.prog W = .ok zero51 W := by kernel_rfl
theorem build51 (W : World) (a b c d e : Int) (A : Option Addr) (n m : Nat) (B : Option Addr) (k j : Nat) : (Instr.build 51 #[(0, .agg #[.int .i64 a, .int .i64 b, .int .i64 c, .int .i64 d]), (1, .int .i64 e), (2, .slice A n m), (3, .slice B k j)]).run Try.prog W = .ok (.agg #[.int .i64 a, .int .i64 b, .int .i64 c, .int .i64 d, .int .i64 e, .slice A n m, .slice B k j]) W := by kernel_rfl
theorem run_mk49 (W : World) (n : Nat) (hn : n ≤ 16) : (Instr.makeSlice 49 (.int .i64 n) (.int .i64 n)).run Try.prog W = .ok (.slice (some ⟨W.heap.size, 0, none⟩) n n) (W.alloc (.cells (madeCells #[.int .i64 0] n) 3)) := by
  obtain ⟨i, hi, hz, hs, hb⟩ := info_parts info3
  have := run_makeSlice (P := Try.prog) W 49 3 i _ Try.underlying49 hi hz .i64 .i64 n n (by omega) (by omega) (by rw [hs]; omega) (by rw [hb]; omega) (by omega)
  simpa [hs, Value.cells] using this
section
variable {w w' : World} {K K' : Nat → Nat} {r b : Nat} {o : Os} {X : OsX}
set_option maxRecDepth 100000 in
set_option maxHeartbeats 8000000 in
theorem content_any (A : OrdAt w K r b o X) (hs : o.slots.length ≤ 1000000000) :
    Calls Try.prog 18 #[.pointer (some ⟨b, 0, none⟩), .int .i64 16] w fun e w' => ∃ A' c' H, e = .returned (.agg (flA o A' c' H)) ∧ NewRow w' w.heap.size 2 eSl A' o.slots ∧ NewRow w' w.heap.size 1 eNat H ((List.range 16).map o.taken) ∧ Below w.heap.size w w' := by
  refine calls_vc tab_ok Try.func18 rfl ?_
  have hbz := A.cs.hb
  conv => whnf
  refine .mk _ run_zero51 ?_
  conv => whnf
  refine .mk fun wA hwA => ?_
  have bA : Below w.heap.size w wA := by rw [hwA.out]; exact below_box1 _ _ _
  have zA : wA.heap.size = w.heap.size + 1 := by rw [hwA.out]; exact World.size_alloc _ _
  have tA : wA.there w.heap.size 0 7 := by rw [hwA.out]; exact there_new w _ _
  clear hwA
  have AA := A.below bA
  repeat ((conv => whnf); first | (refine VCmp.tt (by omega) ?_) | (refine VCmp.ff (by omega) ?_) | (refine VIn.mk (IntWalk.i64_in _ (by omega)) ?_) | (refine VIdx.mk _ rfl (by omega) ?_) | (refine VIdx.mk 0 rfl (by omega) ?_))
  try (conv => whnf)
  refine VW.run (v := .int .i64 16) (w' := wA) (fun a ha => ?_) ?_
  · have h3 := ha (.tmp 6) _ rfl
    have h4 : a.eval (.const (.int .i64 0)) = .int .i64 0 := rfl
    have : (Builtin.max_ #[3, 3] 3 #[.int .i64 16, .int .i64 0]).run Try.prog wA = .ok (.int .i64 16) wA := max_any 16 0 wA
    simp only [execOp, resolve, invoke, builtin, h3, h4, Sem.run_bind, Sem.run_pure, Result.andThen_ok, List.map_cons, List.map_nil, List.map_toArray, this]
  repeat ((conv => whnf); first | (refine VCmp.tt (by omega) ?_) | (refine VCmp.ff (by omega) ?_) | (refine VIn.mk (IntWalk.i64_in _ (by omega)) ?_) | (refine VIdx.mk _ rfl (by omega) ?_) | (refine VIdx.mk 0 rfl (by omega) ?_))
  try (conv => whnf)
  refine VW.run (v := .int .i64 16) (w' := wA) (fun a ha => ?_) ?_
  · have h3 := ha (.tmp 7) _ rfl
    have h4 : a.eval (.const (.int .i64 16)) = .int .i64 16 := rfl
    have : (Builtin.min_ #[3, 3] 3 #[.int .i64 16, .int .i64 16]).run Try.prog wA = .ok (.int .i64 16) wA := min_any 16 16 wA
    simp only [execOp, resolve, invoke, builtin, h3, h4, Sem.run_bind, Sem.run_pure, Result.andThen_ok, List.map_cons, List.map_nil, List.map_toArray, this]
  repeat ((conv => whnf); first | (refine VCmp.tt (by omega) ?_) | (refine VCmp.ff (by omega) ?_) | (refine VIn.mk (IntWalk.i64_in _ (by omega)) ?_) | (refine VIdx.mk _ rfl (by omega) ?_) | (refine VIdx.mk 0 rfl (by omega) ?_))
  try (conv => whnf)
  refine VW.run (v := .slice (some ⟨wA.heap.size, 0, none⟩) 16 16) (w' := wA.alloc (.cells (madeCells #[.int .i64 0] 16) 3)) (fun a ha => ?_) ?_
  · have h3 := ha (.tmp 8) _ rfl
    have := run_mk49 wA 16 (by omega)
    simp only [execOp, h3, Sem.run_bind, Sem.run_pure, Result.andThen_ok]
    exact congrArg (fun z => Result.andThen z fun v w' => Result.ok (Next.value v) w') this
  have b1 : Below wA.heap.size wA (wA.alloc (.cells (madeCells #[.int .i64 0] 16) 3)) := (Below.refl _ _).alloc (Nat.le_refl _) _
  have z1 : (wA.alloc (.cells (madeCells #[.int .i64 0] 16) 3)).heap.size = wA.heap.size + 1 := World.size_alloc _ _
  have t1 : (wA.alloc (.cells (madeCells #[.int .i64 0] 16) 3)).there wA.heap.size 0 16 := by
    have := there_new wA (madeCells #[.int .i64 0] 16) 3
    have e : (madeCells #[Value.int .i64 0] 16).size = 16 := by kernel_rfl
    rwa [e] at this
  generalize wA.alloc (.cells (madeCells #[.int .i64 0] 16) 3) = w1 at b1 z1 t1 ⊢
  have A1 := AA.below b1
  repeat ((conv => whnf); first | (refine VCmp.tt (by omega) ?_) | (refine VCmp.ff (by omega) ?_) | (refine VIn.mk (IntWalk.i64_in _ (by omega)) ?_) | (refine VIdx.mk _ rfl (by omega) ?_) | (refine VIdx.mk 0 rfl (by omega) ?_))
  try (conv => whnf)
  refine VQ.mk (.slice (some ⟨b, 24, none⟩) 16 16) (fun a ha W hW => ?_) ?_
  · have h3 := ha (.tmp 13) _ rfl
    have : (Instr.sliceAt 93 (.pointer (some ⟨b, 24, none⟩)) none none none).run Try.prog W = .ok (.slice (some ⟨b, 24, none⟩) 16 16) W := by kernel_rfl
    simp only [execOp, h3, Option.map_none, Sem.run_bind, Sem.run_pure, Result.andThen_ok]
    exact congrArg (fun z => Result.andThen z fun v w' => Result.ok (Next.value v) w') this
  repeat ((conv => whnf); first | (refine VCmp.tt (by omega) ?_) | (refine VCmp.ff (by omega) ?_) | (refine VIn.mk (IntWalk.i64_in _ (by omega)) ?_) | (refine VIdx.mk _ rfl (by omega) ?_) | (refine VIdx.mk 0 rfl (by omega) ?_))
  try (conv => whnf)
  obtain ⟨cs, hcs⟩ : ∃ cs : List Value, cs = (List.range 16).map fun s => Value.int .i64 (o.taken s) := ⟨_, rfl⟩
  have hcl : cs.length = 16 := by rw [hcs, List.length_map, List.length_range]
  have hcg : ∀ j v, cs[j]? = some v → j < 16 ∧ v = .int .i64 (o.taken j) := fun j v hv => by
    have hj : j < 16 := by rw [← hcl]; exact (List.getElem?_eq_some_iff.1 hv).1
    refine ⟨hj, ?_⟩
    rw [hcs, List.getElem?_map, List.getElem?_range hj] at hv
    injection hv with hv
    exact hv.symm
  have hcopy : (Builtin.copy_ #[49, 49] 3 #[.slice (some ⟨wA.heap.size, 0, none⟩) 16 16, .slice (some ⟨b, 24, none⟩) 16 16]).run Try.prog w1 = .ok (goInt cs.length) (w1.setCells wA.heap.size 0 cs) :=
    run_copy_cells w1 49 49 3 3 wA.heap.size 0 16 16 ⟨b, 24, none⟩ 16 16 cs Try.underlying49 (by kernel_rfl) (by rw [hcl]; rfl) (fun j v hv => by
      obtain ⟨hj, rfl⟩ := hcg j v hv
      rw [Addr.add_mid]
      have := (A1.cs.cell (24 + j) (by omega)).1
      rwa [cellO_taken hj] at this) (fun j hj => (t1 j (by omega)).1) (fun j hj => (t1 j (by omega)).2) (fun v hv => by
      obtain ⟨j, hj⟩ := List.mem_iff_getElem?.1 hv
      obtain ⟨-, rfl⟩ := hcg j v hj
      rfl)
  refine VW.run (v := goInt cs.length) (w' := w1.setCells wA.heap.size 0 cs) (fun a ha => ?_) ?_
  · have h3 := ha (.tmp 10) _ rfl
    have h4 := ha (.tmp 14) _ rfl
    simp only [execOp, resolve, invoke, builtin, h3, h4, Sem.run_bind, Sem.run_pure, Result.andThen_ok, List.map_cons, List.map_nil, List.map_toArray]
    exact congrArg (fun z => Result.andThen z fun v w' => Result.ok (Next.value v) w') hcopy
  have r2 : (w1.setCells wA.heap.size 0 cs).rangeAt wA.heap.size 0 cs := rng_in t1 (by omega)
  have b2 : Below wA.heap.size w1 (w1.setCells wA.heap.size 0 cs) := (Below.refl _ w1).grown (grown_sets _ _ _ _) (by omega) fun k hk => by injection hk with hk; omega
  generalize w1.setCells wA.heap.size 0 cs = w2 at r2 b2 ⊢
  have z2 := b2.size
  have bw2 : Below w.heap.size w w2 := bA.trans ((b1.mono (by omega)).trans (b2.mono (by omega)))
  have A2 := A.below bw2
  have L0 := A2.l_id (l := [b]) (by simp)
  have L1 := A2.l_pre (l := [b]) (by simp)
  have L2 := A2.l_slots (l := [b]) (by simp)
  have hs2 : Sm [b] w2 w2.drew := fun _ _ => rfl
  have t2 : w2.there w.heap.size 0 7 := there_same tA ((b2.block _ (by omega)).trans (b1.block _ (by omega)))
  repeat ((conv => whnf); first | (refine VCmp.tt (by omega) ?_) | (refine VCmp.ff (by omega) ?_) | (refine VIn.mk (IntWalk.i64_in _ (by omega)) ?_) | (refine VIdx.mk _ rfl (by omega) ?_) | (refine VIdx.mk 0 rfl (by omega) ?_))
  try (conv => whnf)
  refine VDraw.pl 15 (.one [0, 1, 2, 3, 4, 5, 6, 7, 8, 9, 10, 11, 13] 12 (.one [14] 15 (.stop []))) (Sm [b] w2) (by kernel_rfl) (hs2) ?_
  repeat ((conv => whnf); first | (refine VLoad.mk _ L0 ?_) | (refine VLoad.mk _ L1 ?_) | (refine VLoad.mk _ L2 ?_) | (refine VCmp.tt (by omega) ?_) | (refine VCmp.ff (by omega) ?_) | (refine VIn.mk (IntWalk.i64_in _ (by omega)) ?_) | (refine VIdx.mk _ rfl (by omega) ?_) | (refine VIdx.mk 0 rfl (by omega) ?_))
  try (conv => whnf)
  refine VApp.rows w2.heap.size 2 16 _ Try.underlying48 info78 rfl (by decide) eSl (fun _ => rfl) one_eSl [] o.slots rfl rfl (owns_nil _ _ _ _ _) (N := w2.heap.size) A2.rs.s.row (by omega) (by omega) (Nat.le_refl _) fun A' c' w3 oS hg3 _ => ?_
  rw [Nat.zero_add]
  rw [List.nil_append] at oS
  have b3 : Below w2.heap.size w2 w3 := Below.trans (Below.refl _ w2).drew ((Below.refl _ w2.drew).grown hg3 (Nat.le_refl _) fun k hk => by cases hk)
  have z3 := b3.size
  have hs3 : Sm [b] w2 w3 := .below b3 fun y hy => by rw [List.mem_singleton.1 hy]; exact A2.cs.hb
  have t3 : w3.there w.heap.size 0 7 := there_same t2 (b3.block _ (by omega))
  have nS : NewRow w3 w2.heap.size 2 eSl A' o.slots := .owns oS fun _ => rfl
  have r3 : w3.rangeAt wA.heap.size 0 cs := range_same r2 (b3.block _ (by omega))
  repeat ((conv => whnf); first | (refine VS.mk hs3 ?_) | (refine VCmp.tt (by omega) ?_) | (refine VCmp.ff (by omega) ?_) | (refine VIn.mk (IntWalk.i64_in _ (by omega)) ?_) | (refine VIdx.mk _ rfl (by omega) ?_) | (refine VIdx.mk 0 rfl (by omega) ?_))
  try (conv => whnf)
  refine VBuild.mk _ (fun W' => build51 W' o.id.e o.id.l o.id.i o.id.c o.pre A' o.slots.length c' (some ⟨wA.heap.size, 0, none⟩) 16 16) ?_
  repeat ((conv => whnf); first | (refine VS.mk hs3 ?_) | (refine VCmp.tt (by omega) ?_) | (refine VCmp.ff (by omega) ?_) | (refine VIn.mk (IntWalk.i64_in _ (by omega)) ?_) | (refine VIdx.mk _ rfl (by omega) ?_) | (refine VIdx.mk 0 rfl (by omega) ?_))
  try (conv => whnf)
  refine VStore.mid (c := flA o A' c' (some ⟨wA.heap.size, 0, none⟩)) t3 (by kernel_rfl) (one_flA _ _ _ _) fun w4 hw4 => ?_
  have r4 : w4.rangeAt w.heap.size 0 (flA o A' c' (some ⟨wA.heap.size, 0, none⟩)).toList := by rw [hw4.out]; exact rng_in t3 (by simp)
  have g4 : w3.grownBy w4 (some w.heap.size) := by rw [hw4.out]; exact grown_sets _ _ _ _
  clear hw4
  have b4 : Below w.heap.size w3 w4 := (Below.refl _ w3).grown g4 (by omega) fun k hk => by injection hk with hk; omega
  have LR : Ld Try.prog 51 w.heap.size 0 (Eq w4) (.agg (flA o A' c' (some ⟨wA.heap.size, 0, none⟩))) := .of (load_agg (by kernel_rfl) (by kernel_rfl) r4)
  have z4 := b4.size
  have keep4 : ∀ y, y < w3.heap.size → y ≠ w.heap.size → w4.heap[y]? = w3.heap[y]? := fun y hy hn => g4.block y hy (fun e => hn (by injection e))
  repeat ((conv => whnf); first | (refine VS.last rfl ?_) | (refine VLoad.mk _ LR ?_) | (refine VCmp.tt (by omega) ?_) | (refine VCmp.ff (by omega) ?_) | (refine VIn.mk (IntWalk.i64_in _ (by omega)) ?_) | (refine VIdx.mk _ rfl (by omega) ?_) | (refine VIdx.mk 0 rfl (by omega) ?_))
  try (conv => whnf)
  refine .mk ⟨A', c', some ⟨wA.heap.size, 0, none⟩, rfl, fun hl => ?_, fun hl => ?_, bw2.trans ((b3.mono (by omega)).trans b4)⟩
  · obtain ⟨g, off, e, g1, g2, g3⟩ := nS hl
    have hk := keep4 g g2 (by omega)
    exact ⟨g, off, e, by omega, by omega, fun k x hx j u hu => (World.cell?_of_block (a := ⟨g, _, none⟩) hk).trans (g3 k x hx j u hu)⟩
  · have hk := keep4 wA.heap.size (by omega) (by omega)
    refine ⟨wA.heap.size, 0, rfl, by omega, by omega, fun k x hx j u hu => (World.cell?_of_block (a := ⟨wA.heap.size, _, none⟩) hk).trans ?_⟩
    have hk16 : k < 16 := by have := (List.getElem?_eq_some_iff.1 hx).1; simpa using this
    rw [List.getElem?_map, List.getElem?_range hk16] at hx
    injection hx with hx
    obtain ⟨rfl, rfl⟩ : j = 0 ∧ u = .int .i64 x := by
      cases j with
      | zero => exact ⟨rfl, by simpa [eNat] using hu.symm⟩
      | succ j => simp [eNat] at hu
    have := r3 k (.int .i64 (o.taken k)) (by rw [hcs, List.getElem?_map, List.getElem?_range hk16]; rfl)
    rw [show 0 + k * 1 + 0 = 0 + k by omega, ← hx]
    exact this
end
end Go.Proofs.Ytoilipfgimcoiaa
namespace Go.Proofs.Ytoilipfgimcoiaa
open Go Go.RowKit
theorem isNaN_any (a : Int) (w : World) : Calls Try.prog 63 #[.int .i64 a] w fun e w' => e = .returned (.bool false) ∧ w' = w := by
  refine calls_vc tab_ok Try.func63 rfl ?_
  conv => whnf
  repeat ((conv => whnf); first | (refine VCmp.tt (by omega) ?_) | (refine VCmp.ff (by omega) ?_) | (refine VIn.mk (IntWalk.i64_in _ (by omega)) ?_) | (refine VIdx.mk _ rfl (by omega) ?_) | (refine VIdx.mk 0 rfl (by omega) ?_))
  try (conv => whnf)
  exact .mk ⟨rfl, rfl⟩
def cmpI (a b : Int) : Int := if a < b then -1 else if b < a then 1 else 0
theorem compare_any (a b : Int) (w : World) : Calls Try.prog 44 #[.int .i64 a, .int .i64 b] w fun e w' => e = .returned (.int .i64 (cmpI a b)) ∧ w' = w := by
  refine calls_vc tab_ok Try.func44 rfl ?_
  conv => whnf
  repeat ((conv => whnf); first | (refine VCmp.tt (by omega) ?_) | (refine VCmp.ff (by omega) ?_) | (refine VIn.mk (IntWalk.i64_in _ (by omega)) ?_) | (refine VIdx.mk _ rfl (by omega) ?_) | (refine VIdx.mk 0 rfl (by omega) ?_))
  try (conv => whnf)
  refine VCall.mk _ (isNaN_any a w) ?_
  rintro _ _ ⟨rfl, rfl⟩
  refine ⟨_, rfl, ?_⟩
  repeat ((conv => whnf); first | (refine VCmp.tt (by omega) ?_) | (refine VCmp.ff (by omega) ?_) | (refine VIn.mk (IntWalk.i64_in _ (by omega)) ?_) | (refine VIdx.mk _ rfl (by omega) ?_) | (refine VIdx.mk 0 rfl (by omega) ?_))
  try (conv => whnf)
  refine VCall.mk _ (isNaN_any b _) ?_
  rintro _ _ ⟨rfl, rfl⟩
  refine ⟨_, rfl, ?_⟩
  by_cases h1 : a < b
  · repeat ((conv => whnf); first | (refine VCmp.tt (by omega) ?_) | (refine VCmp.ff (by omega) ?_) | (refine VIn.mk (IntWalk.i64_in _ (by omega)) ?_) | (refine VIdx.mk _ rfl (by omega) ?_) | (refine VIdx.mk 0 rfl (by omega) ?_))
    try (conv => whnf)
    exact .mk ⟨by unfold cmpI; rw [if_pos h1]; rfl, rfl⟩
  · by_cases h2 : b < a
    · repeat ((conv => whnf); first | (refine VCmp.tt (by omega) ?_) | (refine VCmp.ff (by omega) ?_) | (refine VIn.mk (IntWalk.i64_in _ (by omega)) ?_) | (refine VIdx.mk _ rfl (by omega) ?_) | (refine VIdx.mk 0 rfl (by omega) ?_))
      try (conv => whnf)
      exact .mk ⟨by unfold cmpI; rw [if_neg h1, if_pos h2]; rfl, rfl⟩
    · repeat ((conv => whnf); first | (refine VCmp.tt (by omega) ?_) | (refine VCmp.ff (by omega) ?_) | (refine VIn.mk (IntWalk.i64_in _ (by omega)) ?_) | (refine VIdx.mk _ rfl (by omega) ?_) | (refine VIdx.mk 0 rfl (by omega) ?_))
      try (conv => whnf)
      exact .mk ⟨by unfold cmpI; rw [if_neg h1, if_neg h2]; rfl, rfl⟩
set_option maxRecDepth 100000 in
theorem or_any (A : Option Addr) (c n N : Nat) (l : List Int) (w : World) (hn : l.length = n) (hA : RowAt w N 1 (fun v => [Value.int .i64 v]) A l) (h1 : n ≤ 2000000) :
    Calls Try.prog 43 #[.slice A n c] w fun e w' => e = .returned (.int .i64 ((l.find? (fun v => decide (v ≠ 0))).getD 0)) ∧ w' = w := by
  refine calls_vc tab_ok Try.func43 rfl ?_
  conv => whnf
  repeat ((conv => whnf); first | (refine VCmp.tt (by omega) ?_) | (refine VCmp.ff (by omega) ?_) | (refine VIn.mk (IntWalk.i64_in _ (by omega)) ?_) | (refine VIdx.mk _ rfl (by omega) ?_) | (refine VIdx.mk 0 rfl (by omega) ?_))
  try (conv => whnf)
  refine VLoop.mk Nat (fun k => [(3, .int .i64 0), (6, .slice A n c), (7, .int .i64 n), (8, .int .i64 k)]) (fun k W => k ≤ n ∧ W = w ∧ (l.drop k).find? (fun v => decide (v ≠ 0)) = l.find? (fun v => decide (v ≠ 0))) (fun k => n - k) 0 ⟨rfl, rfl, rfl, rfl, trivial⟩ ⟨Nat.zero_le _, rfl, rfl⟩ ?_
  rintro k W ⟨hk, rfl, hf⟩
  by_cases hkn : k < n
  · obtain ⟨ga, oa, rfl, ha, ca⟩ := hA (by omega)
    obtain ⟨x, hx⟩ : ∃ x, l[k]? = some x := ⟨_, List.getElem?_eq_getElem (by omega)⟩
    have hd : l.drop k = x :: l.drop (k + 1) := by
      rw [List.drop_eq_getElem_cons (by omega)]
      congr 1
      exact (List.getElem?_eq_some_iff.1 hx).2
    rw [hd, List.find?_cons] at hf
    have L1 : Ld Try.prog 3 ga (oa + k) (Eq W) (.int .i64 x) := .of (load3 (by have := ca k x hx 0 _ rfl; rwa [Nat.mul_one] at this))
    by_cases h0 : x = 0
    · rw [show decide (x ≠ 0) = false by simp [h0]] at hf
      repeat ((conv => whnf); first | (refine VLoad.mk _ L1 ?_) | (refine VCmp.tt (by omega) ?_) | (refine VCmp.ff (by omega) ?_) | (refine VIn.mk (IntWalk.i64_in _ (by omega)) ?_) | (refine VIdx.mk _ rfl (by omega) ?_) | (refine VIdx.mk 0 rfl (by omega) ?_))
      try (conv => whnf)
      exact .mk (k + 1) ⟨rfl, rfl, rfl, rfl, trivial⟩ ⟨hkn, rfl, hf⟩ (by show n - (k + 1) < n - k; omega)
    · rw [show decide (x ≠ 0) = true by simp [h0]] at hf
      repeat ((conv => whnf); first | (refine VLoad.mk _ L1 ?_) | (refine VCmp.tt (by omega) ?_) | (refine VCmp.ff (by omega) ?_) | (refine VIn.mk (IntWalk.i64_in _ (by omega)) ?_) | (refine VIdx.mk _ rfl (by omega) ?_) | (refine VIdx.mk 0 rfl (by omega) ?_))
      try (conv => whnf)
      exact .mk ⟨by rw [← hf]; rfl, rfl⟩
  · rw [List.drop_eq_nil_of_le (by omega)] at hf
    repeat ((conv => whnf); first | (refine VCmp.tt (by omega) ?_) | (refine VCmp.ff (by omega) ?_) | (refine VIn.mk (IntWalk.i64_in _ (by omega)) ?_) | (refine VIdx.mk _ rfl (by omega) ?_) | (refine VIdx.mk 0 rfl (by omega) ?_))
    try (conv => whnf)
    exact .mk ⟨by rw [← hf]; rfl, rfl⟩
end Go.Proofs.Ytoilipfgimcoiaa
namespace Go.Proofs.Ytoilipfgimcoiaa
open Go Go.RowKit
def Gw (w w' : World) : Prop := ∃ q os, w' = Go.Sort.grow (w.drewN q) os
theorem Gw.refl (w : World) : Gw w w := ⟨0, #[], by simp [Go.Sort.grow, World.drewN]⟩
theorem Gw.alloc {w w' : World} (h : Gw w w') (o : Obj) : Gw w (w'.alloc o) := by
  obtain ⟨q, os, rfl⟩ := h
  exact ⟨q, os ++ #[o], by rw [Go.Sort.alloc_eq_grow, Go.Sort.grow_grow]⟩
theorem Gw.drew {w w' : World} (h : Gw w w') : Gw w w'.drew := by
  obtain ⟨q, os, rfl⟩ := h
  exact ⟨q + 1, os, rfl⟩
def cmpD (x y : Dt) : Int := if cmpI x.s y.s ≠ 0 then cmpI x.s y.s else cmpI x.q y.q
theorem bs49b (W : World) (a b : Int) : (Instr.buildSlice 49 2 #[(0, .int .i64 a), (1, .int .i64 b)]).run Try.prog W = .ok (.slice (some ⟨W.heap.size, 0, none⟩) 2 2) (W.alloc (.cells #[.int .i64 a, .int .i64 b] 3)) := by kernel_rfl
set_option maxRecDepth 100000 in
theorem cmpD_any (x y : Dt) (A B : Option Addr) (c d n m : Nat) (w : World) :
    Calls Try.prog 42 #[.agg (dtA x A c n), .agg (dtA y B d m)] w fun e w' => e = .returned (.int .i64 (cmpD x y)) ∧ Below w.heap.size w w' ∧ Gw w w' := by
  refine calls_vc tab_ok Try.func42 rfl ?_
  conv => whnf
  refine .mk fun w1 hw1 => ?_
  have b1 : Below w.heap.size w w1 := by rw [hw1.out]; exact below_box1 _ _ _
  have z1 : w1.heap.size = w.heap.size + 1 := by rw [hw1.out]; exact World.size_alloc _ _
  have r1 : w1.rangeAt w.heap.size 0 (dtA x A c n).toList := by rw [hw1.out]; exact range_new w _ 71
  have g1 : Gw w w1 := by rw [hw1.out]; exact (Gw.refl w).alloc _
  clear hw1
  conv => whnf
  refine .mk fun w2 hw2 => ?_
  have b2 : Below w1.heap.size w1 w2 := by rw [hw2.out]; exact below_box1 _ _ _
  have r2 : w2.rangeAt w1.heap.size 0 (dtA y B d m).toList := by rw [hw2.out]; exact range_new w1 _ 71
  have z2 : w2.heap.size = w1.heap.size + 1 := by rw [hw2.out]; exact World.size_alloc _ _
  have g2 : Gw w w2 := by rw [hw2.out]; exact g1.alloc _
  clear hw2
  have b02 : Below w.heap.size w w2 := b1.trans (b2.mono (by omega))
  have r12 := range_same r1 (b2.block w.heap.size (by omega))
  obtain ⟨p1, hp1⟩ : ∃ p1, p1 = w.heap.size := ⟨_, rfl⟩
  obtain ⟨p2, hp2⟩ : ∃ p2, p2 = w1.heap.size := ⟨_, rfl⟩
  rw [← hp1] at r12 ⊢
  rw [← hp2] at r2 ⊢
  have A0 : Ld Try.prog 3 p1 0 (Sm [p1, p2] w2) (.int .i64 x.s) := ⟨fun W hW => load3 (cell_sm (r12 0 _ rfl) (by simp) hW)⟩
  have A1 : Ld Try.prog 3 p1 1 (Sm [p1, p2] w2) (.int .i64 x.q) := ⟨fun W hW => load3 (cell_sm (r12 1 _ rfl) (by simp) hW)⟩
  have B0 : Ld Try.prog 3 p2 0 (Sm [p1, p2] w2) (.int .i64 y.s) := ⟨fun W hW => load3 (cell_sm (r2 0 _ rfl) (by simp) hW)⟩
  have B1 : Ld Try.prog 3 p2 1 (Sm [p1, p2] w2) (.int .i64 y.q) := ⟨fun W hW => load3 (cell_sm (r2 1 _ rfl) (by simp) hW)⟩
  have hs : Sm [p1, p2] w2 w2.drew := fun _ _ => rfl
  repeat ((conv => whnf); first | (refine VCmp.tt (by omega) ?_) | (refine VCmp.ff (by omega) ?_) | (refine VIn.mk (IntWalk.i64_in _ (by omega)) ?_) | (refine VIdx.mk _ rfl (by omega) ?_) | (refine VIdx.mk 0 rfl (by omega) ?_))
  try (conv => whnf)
  refine VDraw.pl 1000 (.one [0, 1, 2, 3, 5, 6, 7, 8] 4 (.one [] 9 (.one [] 10 (.one [] 11 (.stop [12]))))) (Sm [p1, p2] w2) (by kernel_rfl) (hs) ?_
  repeat ((conv => whnf); first | (refine VLoad.mk _ A0 ?_) | (refine VLoad.mk _ A1 ?_) | (refine VLoad.mk _ B0 ?_) | (refine VLoad.mk _ B1 ?_) | (refine VCmp.tt (by omega) ?_) | (refine VCmp.ff (by omega) ?_) | (refine VIn.mk (IntWalk.i64_in _ (by omega)) ?_) | (refine VIdx.mk _ rfl (by omega) ?_) | (refine VIdx.mk 0 rfl (by omega) ?_))
  try (conv => whnf)
  refine VCall.mk _ (compare_any x.s y.s _) ?_
  rintro _ _ ⟨rfl, rfl⟩
  refine ⟨_, rfl, ?_⟩
  repeat ((conv => whnf); first | (refine VS.mk hs ?_) | (refine VCmp.tt (by omega) ?_) | (refine VCmp.ff (by omega) ?_) | (refine VIn.mk (IntWalk.i64_in _ (by omega)) ?_) | (refine VIdx.mk _ rfl (by omega) ?_) | (refine VIdx.mk 0 rfl (by omega) ?_))
  try (conv => whnf)
  refine VCall.mk _ (compare_any x.q y.q _) ?_
  rintro _ _ ⟨rfl, rfl⟩
  refine ⟨_, rfl, ?_⟩
  repeat ((conv => whnf); first | (refine VS.mk hs ?_) | (refine VCmp.tt (by omega) ?_) | (refine VCmp.ff (by omega) ?_) | (refine VIn.mk (IntWalk.i64_in _ (by omega)) ?_) | (refine VIdx.mk _ rfl (by omega) ?_) | (refine VIdx.mk 0 rfl (by omega) ?_))
  try (conv => whnf)
  refine VBs.mk _ _ (bs49b w2.drew (cmpI x.s y.s) (cmpI x.q y.q)) ?_
  have b3 : Below w2.heap.size w2 (w2.drew.alloc (.cells #[.int .i64 (cmpI x.s y.s), .int .i64 (cmpI x.q y.q)] 3)) := Below.trans (Below.refl _ w2).drew ((Below.refl w2.drew.heap.size w2.drew).alloc (Nat.le_refl _) _)
  have r3 := range_new w2.drew #[.int .i64 (cmpI x.s y.s), .int .i64 (cmpI x.q y.q)] 3
  have z3 : (w2.drew.alloc (.cells #[.int .i64 (cmpI x.s y.s), .int .i64 (cmpI x.q y.q)] 3)).heap.size = w2.drew.heap.size + 1 := World.size_alloc _ _
  have g3 : Gw w (w2.drew.alloc (.cells #[.int .i64 (cmpI x.s y.s), .int .i64 (cmpI x.q y.q)] 3)) := g2.drew.alloc _
  generalize w2.drew.alloc (.cells #[.int .i64 (cmpI x.s y.s), .int .i64 (cmpI x.q y.q)] 3) = w3 at b3 r3 z3 g3 ⊢
  have hs3 : Sm [p1, p2] w2 w3 := .below b3 fun k hk => by
    simp only [List.mem_cons, List.not_mem_nil, or_false] at hk
    rcases hk with rfl | rfl <;> omega
  repeat ((conv => whnf); first | (refine VS.mk hs3 ?_) | (refine VCmp.tt (by omega) ?_) | (refine VCmp.ff (by omega) ?_) | (refine VIn.mk (IntWalk.i64_in _ (by omega)) ?_) | (refine VIdx.mk _ rfl (by omega) ?_) | (refine VIdx.mk 0 rfl (by omega) ?_))
  try (conv => whnf)
  refine VCall.mk _ (or_any (some ⟨w2.drew.heap.size, 0, none⟩) 2 2 w3.heap.size [cmpI x.s y.s, cmpI x.q y.q] w3 rfl (fun _ => ⟨w2.drew.heap.size, 0, rfl, by omega, fun k v hv j u hu => ?_⟩) (by omega)) ?_
  · cases j with
    | succ j => simp at hu
    | zero =>
      have hu' : u = .int .i64 v := by simpa using hu.symm
      subst hu'
      have := r3 k (.int .i64 v) (by
        match k, hv with
        | 0, hv => injection hv with hv; subst hv; rfl
        | 1, hv => injection hv with hv; subst hv; rfl
        | k + 2, hv => simp at hv)
      rw [show 0 + k * 1 + 0 = 0 + k by omega]
      exact this
  rintro _ _ ⟨rfl, rfl⟩
  refine ⟨_, rfl, ?_⟩
  repeat ((conv => whnf); first | (refine VS.mk hs3 ?_) | (refine VCmp.tt (by omega) ?_) | (refine VCmp.ff (by omega) ?_) | (refine VIn.mk (IntWalk.i64_in _ (by omega)) ?_) | (refine VIdx.mk _ rfl (by omega) ?_) | (refine VIdx.mk 0 rfl (by omega) ?_))
  try (conv => whnf)
  exact .mk ⟨by
    unfold cmpD
    by_cases h1 : cmpI x.s y.s = 0 <;> by_cases h2 : cmpI x.q y.q = 0 <;> simp [h1, h2] <;> rfl, hp1 ▸ b02.trans (b3.mono (by omega)), g3⟩
end Go.Proofs.Ytoilipfgimcoiaa
namespace Go.Proofs.Ytoilipfgimcoiaa
open Go Go.RowKit
theorem run_neq_slot (w : World) (a b c d : Int) : (binOp .neq 78 (.agg #[.int .i64 a, .int .i64 b]) (.agg #[.int .i64 c, .int .i64 d])).run Try.prog w = .ok (.bool (!decide (a = c ∧ b = d))) w := by
  go_simp
  by_cases h1 : a = c <;> by_cases h2 : b = d <;> simp [h1, h2]
set_option maxRecDepth 100000 in
theorem sameSlots_any (A B : Option Addr) (c d n m N : Nat) (la lb : List Sl) (w : World) (hn : la.length = n) (hm : lb.length = m) (hN : N ≤ w.heap.size) (hA : RowAt w N 2 eSl A la) (hB : RowAt w N 2 eSl B lb) (h1 : n ≤ 1000000000) :
    Calls Try.prog 45 #[.slice A n c, .slice B m d] w fun e w' => e = .returned (.bool (decide (la = lb))) ∧ Below w.heap.size w w' := by
  refine calls_vc tab_ok Try.func45 rfl ?_
  conv => whnf
  by_cases hnm : n = m
  case neg =>
    repeat ((conv => whnf); first | (refine VCmp.tt (by omega) ?_) | (refine VCmp.ff (by omega) ?_) | (refine VIn.mk (IntWalk.i64_in _ (by omega)) ?_) | (refine VIdx.mk _ rfl (by omega) ?_) | (refine VIdx.mk 0 rfl (by omega) ?_))
    try (conv => whnf)
    exact .mk ⟨by rw [decide_eq_false (fun e => hnm (by rw [← hn, ← hm, e]))]; rfl, Below.refl _ _⟩
  subst hnm
  repeat ((conv => whnf); first | (refine VCmp.tt (by omega) ?_) | (refine VCmp.ff (by omega) ?_) | (refine VIn.mk (IntWalk.i64_in _ (by omega)) ?_) | (refine VIdx.mk _ rfl (by omega) ?_) | (refine VIdx.mk 0 rfl (by omega) ?_))
  try (conv => whnf)
  refine VLoop.mk Nat (fun k => [(0, .slice A n c), (1, .slice B n d), (5, .int .i64 k)]) (fun k W => k ≤ n ∧ Below w.heap.size w W ∧ la.take k = lb.take k) (fun k => n - k) 0 ⟨rfl, rfl, rfl, trivial⟩ ⟨Nat.zero_le _, Below.refl _ _, by simp⟩ ?_
  rintro k W ⟨hk, hW, ht⟩
  by_cases hkn : k < n
  case neg =>
    repeat ((conv => whnf); first | (refine VCmp.tt (by omega) ?_) | (refine VCmp.ff (by omega) ?_) | (refine VIn.mk (IntWalk.i64_in _ (by omega)) ?_) | (refine VIdx.mk _ rfl (by omega) ?_) | (refine VIdx.mk 0 rfl (by omega) ?_))
    try (conv => whnf)
    exact .mk ⟨by rw [List.take_of_length_le (by omega), List.take_of_length_le (by omega)] at ht; rw [ht, decide_eq_true rfl]; rfl, hW⟩
  obtain ⟨ga, oa, rfl, ha, ca⟩ := hA (by omega)
  obtain ⟨gb, ob, rfl, hb, cb⟩ := hB (by omega)
  obtain ⟨x, hx⟩ : ∃ x, la[k]? = some x := ⟨_, List.getElem?_eq_getElem (by omega)⟩
  obtain ⟨y, hy⟩ : ∃ y, lb[k]? = some y := ⟨_, List.getElem?_eq_getElem (by omega)⟩
  have L1 : Ld Try.prog 78 ga (oa + mulO k 2) (Sm [ga, gb] W) (.agg #[.int .i64 x.s, .int .i64 x.q]) := ⟨fun W' hW' => load78 fun j u hu => (World.cell?_of_block (a := ⟨ga, _, none⟩) ((hW' ga (by simp)).trans (hW.block ga (by omega)))).trans (ca k x hx j u hu)⟩
  have L2 : Ld Try.prog 78 gb (ob + mulO k 2) (Sm [ga, gb] W) (.agg #[.int .i64 y.s, .int .i64 y.q]) := ⟨fun W' hW' => load78 fun j u hu => (World.cell?_of_block (a := ⟨gb, _, none⟩) ((hW' gb (by simp)).trans (hW.block gb (by omega)))).trans (cb k y hy j u hu)⟩
  have hs : Sm [ga, gb] W W.drew := fun _ _ => rfl
  have hWd : Below w.heap.size w W.drew := hW.trans ((Below.refl _ W).drew.mono hW.size)
  repeat ((conv => whnf); first | (refine VCmp.tt (by omega) ?_) | (refine VCmp.ff (by omega) ?_) | (refine VIn.mk (IntWalk.i64_in _ (by omega)) ?_) | (refine VIdx.mk _ rfl (by omega) ?_) | (refine VIdx.mk 0 rfl (by omega) ?_))
  try (conv => whnf)
  refine VDraw.pl 1000 (.stop [0, 1, 2, 3, 4, 5, 6, 7, 8]) (Sm [ga, gb] W) (by kernel_rfl) (hs) ?_
  repeat ((conv => whnf); first | (refine VLoad.mk _ L1 ?_) | (refine VLoad.mk _ L2 ?_) | (refine VCmp.tt (by omega) ?_) | (refine VCmp.ff (by omega) ?_) | (refine VIn.mk (IntWalk.i64_in _ (by omega)) ?_) | (refine VIdx.mk _ rfl (by omega) ?_) | (refine VIdx.mk 0 rfl (by omega) ?_))
  try (conv => whnf)
  refine VBin.mk _ (Bn.of fun W' => run_neq_slot W' x.s x.q y.s y.q) ?_
  by_cases hxy : x = y
  · rw [decide_eq_true (show ((x.s : Int) = y.s ∧ (x.q : Int) = y.q) by rw [hxy]; exact ⟨rfl, rfl⟩)]
    repeat ((conv => whnf); first | (refine VCmp.tt (by omega) ?_) | (refine VCmp.ff (by omega) ?_) | (refine VIn.mk (IntWalk.i64_in _ (by omega)) ?_) | (refine VIdx.mk _ rfl (by omega) ?_) | (refine VIdx.mk 0 rfl (by omega) ?_))
    try (conv => whnf)
    exact .mk (k + 1) ⟨rfl, rfl, rfl, trivial⟩ ⟨hkn, hWd, take_succ_eq ht hx hy hxy⟩ (by show n - (k + 1) < n - k; omega)
  · rw [decide_eq_false (show ¬ ((x.s : Int) = y.s ∧ (x.q : Int) = y.q) by
      rintro ⟨e1, e2⟩
      obtain ⟨a, b⟩ := x
      obtain ⟨a', b'⟩ := y
      simp only at e1 e2
      exact hxy (by rw [show a = a' by omega, show b = b' by omega]))]
    repeat ((conv => whnf); first | (refine VCmp.tt (by omega) ?_) | (refine VCmp.ff (by omega) ?_) | (refine VIn.mk (IntWalk.i64_in _ (by omega)) ?_) | (refine VIdx.mk _ rfl (by omega) ?_) | (refine VIdx.mk 0 rfl (by omega) ?_))
    try (conv => whnf)
    exact .mk ⟨by rw [decide_eq_false (fun e => hxy (by rw [e, hy] at hx; exact (Option.some.inj hx).symm))]; rfl, hWd⟩
end Go.Proofs.Ytoilipfgimcoiaa
namespace Go.Proofs.Ytoilipfgimcoiaa
open Go Go.RowKit
structure FlO where
  v : Vd
  base : Nat
  slots : List Sl
  have_ : List Nat
deriving DecidableEq
abbrev flV (f : FlO) (A : Option Addr) (c n : Nat) (H : Option Addr) (k m : Nat) : Array Value := #[.int .i64 f.v.e, .int .i64 f.v.l, .int .i64 f.v.i, .int .i64 f.v.c, .int .i64 f.base, .slice A n c, .slice H m k]
theorem run_eql_vd (w : World) (a b c d a' b' c' d' : Int) : (binOp .eql 47 (.agg #[.int .i64 a, .int .i64 b, .int .i64 c, .int .i64 d]) (.agg #[.int .i64 a', .int .i64 b', .int .i64 c', .int .i64 d'])).run Try.prog w = .ok (.bool (decide ((⟨a, b, c, d⟩ : Vd) = ⟨a', b', c', d'⟩))) w := by
  go_simp
  by_cases h1 : a = a' <;> by_cases h2 : b = b' <;> by_cases h3 : c = c' <;> by_cases h4 : d = d' <;> simp [h1, h2, h3, h4]
theorem rng_sub {w : World} {b o : Nat} {l l1 l2 l3 : List Value} (h : w.rangeAt b o l) (e : l = l1 ++ l2 ++ l3) {n : Nat} (hn : n = o + l1.length) : w.rangeAt b n l2 := fun j u hu => by
  have hj := (List.getElem?_eq_some_iff.1 hu).1
  have := h (l1.length + j) u (by rw [e, List.append_assoc, List.getElem?_append_right (by omega), show l1.length + j - l1.length = j by omega, List.getElem?_append_left hj]; exact hu)
  rwa [← Nat.add_assoc, ← hn] at this
set_option maxRecDepth 100000 in
theorem sameFlush_any (x y : FlO) (A B G H : Option Addr) (c d g h n m k j : Nat) (w : World) (hn : x.slots.length = n) (hm : y.slots.length = m) (hk : x.have_.length = k) (hj : y.have_.length = j)
    (hA : RowAt w w.heap.size 2 eSl A x.slots) (hB : RowAt w w.heap.size 2 eSl B y.slots) (hG : RowAt w w.heap.size 1 eNat G x.have_) (hH : RowAt w w.heap.size 1 eNat H y.have_) (h1 : n ≤ 1000000000) (h2 : k ≤ 1000000000) :
    Calls Try.prog 23 #[.agg (flV x A c n G g k), .agg (flV y B d m H h j)] w fun e w' => e = .returned (.bool (decide (x = y))) ∧ Below w.heap.size w w' := by
  refine calls_vc tab_ok Try.func23 rfl ?_
  conv => whnf
  refine .mk fun w1 hw1 => ?_
  have b1 : Below w.heap.size w w1 := by rw [hw1.out]; exact below_box1 _ _ _
  have z1 : w1.heap.size = w.heap.size + 1 := by rw [hw1.out]; exact World.size_alloc _ _
  have r1 : w1.rangeAt w.heap.size 0 (flV x A c n G g k).toList := by rw [hw1.out]; exact range_new w _ 51
  clear hw1
  conv => whnf
  refine .mk fun w2 hw2 => ?_
  have b2 : Below w1.heap.size w1 w2 := by rw [hw2.out]; exact below_box1 _ _ _
  have r2 : w2.rangeAt w1.heap.size 0 (flV y B d m H h j).toList := by rw [hw2.out]; exact range_new w1 _ 51
  have z2 : w2.heap.size = w1.heap.size + 1 := by rw [hw2.out]; exact World.size_alloc _ _
  clear hw2
  have b02 : Below w.heap.size w w2 := b1.trans (b2.mono (by omega))
  have r12 := range_same r1 (b2.block w.heap.size (by omega))
  have hA2 := hA.below b02 (Nat.le_refl _)
  have hB2 := hB.below b02 (Nat.le_refl _)
  have hG2 := hG.below b02 (Nat.le_refl _)
  have hH2 := hH.below b02 (Nat.le_refl _)
  have zz : w.heap.size + 1 ≤ w2.heap.size := by omega
  have zz2 : w.heap.size ≤ w2.heap.size := by omega
  clear hA hB hG hH b1 r1 b2
  generalize hp1 : w.heap.size = p1 at *
  generalize hp2 : w1.heap.size = p2 at *
  have A0 : Ld Try.prog 47 p1 0 (Eq w2) (.agg #[.int .i64 x.v.e, .int .i64 x.v.l, .int .i64 x.v.i, .int .i64 x.v.c]) := .of (load_agg (cs := [.int .i64 x.v.e, .int .i64 x.v.l, .int .i64 x.v.i, .int .i64 x.v.c]) (by kernel_rfl) (by kernel_rfl) (rng_sub (l1 := []) (l3 := [.int .i64 x.base, .slice A n c, .slice G k g]) r12 rfl rfl))
  have A1 : Ld Try.prog 3 p1 4 (Eq w2) (.int .i64 x.base) := .of (load3 (r12 4 _ rfl))
  have A2 : Ld Try.prog 48 p1 5 (Eq w2) (.slice A n c) := .of (load48 (r12 5 _ rfl))
  have B0 : Ld Try.prog 47 p2 0 (Eq w2) (.agg #[.int .i64 y.v.e, .int .i64 y.v.l, .int .i64 y.v.i, .int .i64 y.v.c]) := .of (load_agg (cs := [.int .i64 y.v.e, .int .i64 y.v.l, .int .i64 y.v.i, .int .i64 y.v.c]) (by kernel_rfl) (by kernel_rfl) (rng_sub (l1 := []) (l3 := [.int .i64 y.base, .slice B m d, .slice H j h]) r2 rfl rfl))
  have B1 : Ld Try.prog 3 p2 4 (Eq w2) (.int .i64 y.base) := .of (load3 (r2 4 _ rfl))
  have B2 : Ld Try.prog 48 p2 5 (Eq w2) (.slice B m d) := .of (load48 (r2 5 _ rfl))
  have no : ∀ (w' : World), Below p1 w w' → x ≠ y → Ending.returned (.bool false) = .returned (.bool (decide (x = y))) ∧ Below p1 w w' := fun w' hb hne => ⟨by rw [decide_eq_false hne], hb⟩
  repeat ((conv => whnf); first | (refine VLoad.mk _ A0 ?_) | (refine VLoad.mk _ A1 ?_) | (refine VLoad.mk _ A2 ?_) | (refine VLoad.mk _ B0 ?_) | (refine VLoad.mk _ B1 ?_) | (refine VLoad.mk _ B2 ?_) | (refine VCmp.tt (by omega) ?_) | (refine VCmp.ff (by omega) ?_) | (refine VIn.mk (IntWalk.i64_in _ (by omega)) ?_) | (refine VIdx.mk _ rfl (by omega) ?_) | (refine VIdx.mk 0 rfl (by omega) ?_))
  try (conv => whnf)
  refine VBin.mk _ (Bn.of fun W' => run_eql_vd W' _ _ _ _ _ _ _ _) ?_
  by_cases e0 : x.v = y.v
  case neg =>
    rw [decide_eq_false (show ¬ ((⟨x.v.e, x.v.l, x.v.i, x.v.c⟩ : Vd) = ⟨y.v.e, y.v.l, y.v.i, y.v.c⟩) from e0)]
    repeat ((conv => whnf); first | (refine VLoad.mk _ A0 ?_) | (refine VLoad.mk _ A1 ?_) | (refine VLoad.mk _ A2 ?_) | (refine VLoad.mk _ B0 ?_) | (refine VLoad.mk _ B1 ?_) | (refine VLoad.mk _ B2 ?_) | (refine VCmp.tt (by omega) ?_) | (refine VCmp.ff (by omega) ?_) | (refine VIn.mk (IntWalk.i64_in _ (by omega)) ?_) | (refine VIdx.mk _ rfl (by omega) ?_) | (refine VIdx.mk 0 rfl (by omega) ?_))
    try (conv => whnf)
    exact .mk (no w2 b02 fun h => e0 (by rw [h]))
  rw [decide_eq_true (show ((⟨x.v.e, x.v.l, x.v.i, x.v.c⟩ : Vd) = ⟨y.v.e, y.v.l, y.v.i, y.v.c⟩) from e0)]
  by_cases e1 : x.base = y.base
  case neg =>
    repeat ((conv => whnf); first | (refine VLoad.mk _ A0 ?_) | (refine VLoad.mk _ A1 ?_) | (refine VLoad.mk _ A2 ?_) | (refine VLoad.mk _ B0 ?_) | (refine VLoad.mk _ B1 ?_) | (refine VLoad.mk _ B2 ?_) | (refine VCmp.tt (by omega) ?_) | (refine VCmp.ff (by omega) ?_) | (refine VIn.mk (IntWalk.i64_in _ (by omega)) ?_) | (refine VIdx.mk _ rfl (by omega) ?_) | (refine VIdx.mk 0 rfl (by omega) ?_))
    try (conv => whnf)
    exact .mk (no w2 b02 fun h => e1 (by rw [h]))
  repeat ((conv => whnf); first | (refine VLoad.mk _ A0 ?_) | (refine VLoad.mk _ A1 ?_) | (refine VLoad.mk _ A2 ?_) | (refine VLoad.mk _ B0 ?_) | (refine VLoad.mk _ B1 ?_) | (refine VLoad.mk _ B2 ?_) | (refine VCmp.tt (by omega) ?_) | (refine VCmp.ff (by omega) ?_) | (refine VIn.mk (IntWalk.i64_in _ (by omega)) ?_) | (refine VIdx.mk _ rfl (by omega) ?_) | (refine VIdx.mk 0 rfl (by omega) ?_))
  try (conv => whnf)
  refine VCall.mk _ (sameSlots_any A B c d n m p1 x.slots y.slots w2 hn hm zz2 hA2 hB2 h1) ?_
  rintro _ w3 ⟨rfl, b3⟩
  refine ⟨_, rfl, ?_⟩
  have b03 : Below p1 w w3 := b02.trans (b3.mono zz2)
  by_cases e2 : x.slots = y.slots
  case neg =>
    rw [decide_eq_false e2]
    repeat ((conv => whnf); first | (refine VLoad.mk _ A0 ?_) | (refine VLoad.mk _ A1 ?_) | (refine VLoad.mk _ A2 ?_) | (refine VLoad.mk _ B0 ?_) | (refine VLoad.mk _ B1 ?_) | (refine VLoad.mk _ B2 ?_) | (refine VCmp.tt (by omega) ?_) | (refine VCmp.ff (by omega) ?_) | (refine VIn.mk (IntWalk.i64_in _ (by omega)) ?_) | (refine VIdx.mk _ rfl (by omega) ?_) | (refine VIdx.mk 0 rfl (by omega) ?_))
    try (conv => whnf)
    exact .mk (no w3 b03 fun h => e2 (by rw [h]))
  rw [decide_eq_true e2]
  have A3' : Ld Try.prog 49 p1 6 (Eq w3) (.slice G k g) := .of (load49 (range_same r12 (b3.block p1 (by omega)) 6 _ rfl))
  have B3' : Ld Try.prog 49 p2 6 (Eq w3) (.slice H j h) := .of (load49 (range_same r2 (b3.block p2 (by omega)) 6 _ rfl))
  repeat ((conv => whnf); first | (refine VLoad.mk _ A3' ?_) | (refine VLoad.mk _ B3' ?_) | (refine VCmp.tt (by omega) ?_) | (refine VCmp.ff (by omega) ?_) | (refine VIn.mk (IntWalk.i64_in _ (by omega)) ?_) | (refine VIdx.mk _ rfl (by omega) ?_) | (refine VIdx.mk 0 rfl (by omega) ?_))
  try (conv => whnf)
  have z3 := b3.size
  refine VCall.mk _ (sameInts_any G H g h k j p1 x.have_ y.have_ w3 hk hj (by omega) (hG2.below b3 zz2) (hH2.below b3 zz2) h2) ?_
  rintro _ w4 ⟨rfl, b4⟩
  refine ⟨_, rfl, ?_⟩
  repeat ((conv => whnf); first | (refine VCmp.tt (by omega) ?_) | (refine VCmp.ff (by omega) ?_) | (refine VIn.mk (IntWalk.i64_in _ (by omega)) ?_) | (refine VIdx.mk _ rfl (by omega) ?_) | (refine VIdx.mk 0 rfl (by omega) ?_))
  try (conv => whnf)
  refine .mk ⟨?_, b03.trans (b4.mono (by omega))⟩
  by_cases e3 : x.have_ = y.have_
  · have : x = y := by
      obtain ⟨a1, a2, a3, a4⟩ := x
      obtain ⟨c1, c2, c3, c4⟩ := y
      simp only at e0 e1 e2 e3
      rw [e0, e1, e2, e3]
    rw [decide_eq_true e3, decide_eq_true this]; rfl
  · rw [decide_eq_false e3, decide_eq_false (fun h => e3 (by rw [h]))]; rfl
end Go.Proofs.Ytoilipfgimcoiaa
namespace Go.Proofs.Ytoilipfgimcoiaa
open Go Go.RowKit
deriving instance DecidableEq for Dt
def eDx (x : DtX) : List Value := [.int .i64 x.d.s, .int .i64 x.d.q, .int .i64 x.d.st, .slice x.A x.d.b.length x.c]
set_option maxRecDepth 100000 in
theorem sameDatas_any (A B : Option Addr) (c d n m N : Nat) (la lb : List DtX) (w : World) (hn : la.length = n) (hm : lb.length = m) (hN : N ≤ w.heap.size) (hA : RowAt w N 4 eDx A la) (hB : RowAt w N 4 eDx B lb)
    (bA : ∀ x ∈ la, RowAt w N 1 eByte x.A x.d.b) (bB : ∀ x ∈ lb, RowAt w N 1 eByte x.A x.d.b) (hl : ∀ x ∈ la, x.d.b.length ≤ 1000000000) (h1 : n ≤ 1000000000) :
    Calls Try.prog 24 #[.slice A n c, .slice B m d] w fun e w' => e = .returned (.bool (decide (la.map (·.d) = lb.map (·.d)))) ∧ Below w.heap.size w w' := by
  refine calls_vc tab_ok Try.func24 rfl ?_
  conv => whnf
  by_cases hnm : n = m
  case neg =>
    repeat ((conv => whnf); first | (refine VCmp.tt (by omega) ?_) | (refine VCmp.ff (by omega) ?_) | (refine VIn.mk (IntWalk.i64_in _ (by omega)) ?_) | (refine VIdx.mk _ rfl (by omega) ?_) | (refine VIdx.mk 0 rfl (by omega) ?_))
    try (conv => whnf)
    exact .mk ⟨by rw [decide_eq_false (fun e => hnm (by have := congrArg List.length e; simpa [hn, hm] using this))]; rfl, Below.refl _ _⟩
  subst hnm
  repeat ((conv => whnf); first | (refine VCmp.tt (by omega) ?_) | (refine VCmp.ff (by omega) ?_) | (refine VIn.mk (IntWalk.i64_in _ (by omega)) ?_) | (refine VIdx.mk _ rfl (by omega) ?_) | (refine VIdx.mk 0 rfl (by omega) ?_))
  try (conv => whnf)
  refine VLoop.mk Nat (fun k => [(0, .slice A n c), (1, .slice B n d), (5, .int .i64 k)]) (fun k W => k ≤ n ∧ Below w.heap.size w W ∧ (la.map (·.d)).take k = (lb.map (·.d)).take k) (fun k => n - k) 0 ⟨rfl, rfl, rfl, trivial⟩ ⟨Nat.zero_le _, Below.refl _ _, by simp⟩ ?_
  rintro k W ⟨hk, hW, ht⟩
  by_cases hkn : k < n
  case neg =>
    repeat ((conv => whnf); first | (refine VCmp.tt (by omega) ?_) | (refine VCmp.ff (by omega) ?_) | (refine VIn.mk (IntWalk.i64_in _ (by omega)) ?_) | (refine VIdx.mk _ rfl (by omega) ?_) | (refine VIdx.mk 0 rfl (by omega) ?_))
    try (conv => whnf)
    exact .mk ⟨by rw [List.take_of_length_le (by rw [List.length_map]; omega), List.take_of_length_le (by rw [List.length_map]; omega)] at ht; rw [ht, decide_eq_true rfl]; rfl, hW⟩
  obtain ⟨ga, oa, rfl, ha, ca⟩ := hA (by omega)
  obtain ⟨gb, ob, rfl, hb, cb⟩ := hB (by omega)
  obtain ⟨x, hx⟩ : ∃ x, la[k]? = some x := ⟨_, List.getElem?_eq_getElem (by omega)⟩
  obtain ⟨y, hy⟩ : ∃ y, lb[k]? = some y := ⟨_, List.getElem?_eq_getElem (by omega)⟩
  have hxm := List.mem_of_getElem? hx
  have hym := List.mem_of_getElem? hy
  have L1 : Ld Try.prog 71 ga (oa + mulO k 4) (Sm [ga, gb] W) (.agg (dtA x.d x.A x.c x.d.b.length)) := ⟨fun W' hW' => load_agg (cs := eDx x) (by kernel_rfl) (by kernel_rfl) fun j u hu => (World.cell?_of_block (a := ⟨ga, _, none⟩) ((hW' ga (by simp)).trans (hW.block ga (by omega)))).trans (ca k x hx j u hu)⟩
  have L2 : Ld Try.prog 71 gb (ob + mulO k 4) (Sm [ga, gb] W) (.agg (dtA y.d y.A y.c y.d.b.length)) := ⟨fun W' hW' => load_agg (cs := eDx y) (by kernel_rfl) (by kernel_rfl) fun j u hu => (World.cell?_of_block (a := ⟨gb, _, none⟩) ((hW' gb (by simp)).trans (hW.block gb (by omega)))).trans (cb k y hy j u hu)⟩
  have hs : Sm [ga, gb] W W.drew := fun _ _ => rfl
  have hz := hW.size
  have hWd : Below w.heap.size w W.drew := hW.trans ((Below.refl _ W).drew.mono hz)
  have toAt : ∀ {A : Option Addr} {l : List Int}, RowAt w N 1 eByte A l → RowAt W.drew W.drew.heap.size 1 eByte A l := fun {A l} h hl => by
    obtain ⟨g, off, e, g1, g3⟩ := (h.below hWd hN) hl
    exact ⟨g, off, e, (show g < W.heap.size by omega), g3⟩
  repeat ((conv => whnf); first | (refine VCmp.tt (by omega) ?_) | (refine VCmp.ff (by omega) ?_) | (refine VIn.mk (IntWalk.i64_in _ (by omega)) ?_) | (refine VIdx.mk _ rfl (by omega) ?_) | (refine VIdx.mk 0 rfl (by omega) ?_))
  try (conv => whnf)
  refine VDraw.pl 1000 (.one [0, 1, 2, 3, 4, 5, 6, 7] 8 (.stop [9])) (Sm [ga, gb] W) (by kernel_rfl) (hs) ?_
  repeat ((conv => whnf); first | (refine VLoad.mk _ L1 ?_) | (refine VLoad.mk _ L2 ?_) | (refine VCmp.tt (by omega) ?_) | (refine VCmp.ff (by omega) ?_) | (refine VIn.mk (IntWalk.i64_in _ (by omega)) ?_) | (refine VIdx.mk _ rfl (by omega) ?_) | (refine VIdx.mk 0 rfl (by omega) ?_))
  try (conv => whnf)
  refine VCall.mk _ (sameData_any x.d y.d x.A y.A x.c y.c _ _ W.drew rfl rfl (toAt (bA x hxm)) (toAt (bB y hym)) (hl x hxm)) ?_
  rintro _ w2 ⟨rfl, b2⟩
  refine ⟨_, rfl, ?_⟩
  have b2' : Below W.heap.size W w2 := (Below.refl _ W).drew.trans b2
  have hs2 : Sm [ga, gb] W w2 := .below b2' fun k hk => by
    simp only [List.mem_cons, List.not_mem_nil, or_false] at hk
    rcases hk with rfl | rfl <;> omega
  have hw2 : Below w.heap.size w w2 := hW.trans (b2'.mono hz)
  have gx : (la.map (·.d))[k]? = some x.d := by rw [List.getElem?_map, hx]; rfl
  have gy : (lb.map (·.d))[k]? = some y.d := by rw [List.getElem?_map, hy]; rfl
  cases hq : sameD x.d y.d with
  | true =>
    repeat ((conv => whnf); first | (refine VS.mk hs2 ?_) | (refine VCmp.tt (by omega) ?_) | (refine VCmp.ff (by omega) ?_) | (refine VIn.mk (IntWalk.i64_in _ (by omega)) ?_) | (refine VIdx.mk _ rfl (by omega) ?_) | (refine VIdx.mk 0 rfl (by omega) ?_))
    try (conv => whnf)
    exact .mk (k + 1) ⟨rfl, rfl, rfl, trivial⟩ ⟨hkn, hw2, take_succ_eq ht gx gy (sameD_eq.1 hq)⟩ (by show n - (k + 1) < n - k; omega)
  | false =>
    repeat ((conv => whnf); first | (refine VS.mk hs2 ?_) | (refine VCmp.tt (by omega) ?_) | (refine VCmp.ff (by omega) ?_) | (refine VIn.mk (IntWalk.i64_in _ (by omega)) ?_) | (refine VIdx.mk _ rfl (by omega) ?_) | (refine VIdx.mk 0 rfl (by omega) ?_))
    try (conv => whnf)
    exact .mk ⟨by rw [decide_eq_false (fun e => by
      rw [e, gy] at gx
      rw [sameD_eq.2 (Option.some.inj gx).symm] at hq
      cases hq)]; rfl, hw2⟩
end Go.Proofs.Ytoilipfgimcoiaa
