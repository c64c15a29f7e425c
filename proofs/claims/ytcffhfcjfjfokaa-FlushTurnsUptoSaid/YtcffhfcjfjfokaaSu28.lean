/- Open ScOpen RowClose, joined. -/
import Derived.Test.YtcffhfcjfjfokaaRows
import Derived.Deep.Slices
import Derived.Deep.Fields
import Derived.ChangeSame
import Derived.ProofKit
import Derived.WalkKit
import Derived.OpenShut
import Derived.JoinedCond
import Derived.Below
import Derived.Carry
import Derived.Test.YtcffhfcjfjfokaaSu4
import Derived.Test.YtcffhfcjfjfokaaSu25
set_option linter.unusedVariables false
set_option linter.unusedSimpArgs false
namespace Go.Proofs.Ytcffhfcjfjfokaa
open Go.RowKit Go.Deep Go.ChangeShapes Go.WideShapes
theorem exists_list {α : Type} {P : Nat → α → Prop} : ∀ n, (∀ i, i < n → ∃ x, P i x) → ∃ l : List α, l.length = n ∧ ∀ k x, l[k]? = some x → P k x
  | 0, _ => ⟨[], rfl, by intro k x h; simp at h⟩
  | n + 1, h => by
    obtain ⟨l, hl, hp⟩ := exists_list n (fun i hi => h i (by omega))
    obtain ⟨x, hx⟩ := h n (by omega)
    refine ⟨l ++ [x], by simp [hl], fun k y hy => ?_⟩
    by_cases hk : k < l.length
    · rw [List.getElem?_append_left hk] at hy; exact hp k y hy
    · rw [List.getElem?_append_right (by omega)] at hy
      have := (List.getElem?_eq_some_iff.1 hy).1
      obtain rfl : k = n := by simp at this; omega
      rw [hl] at hy; simp at hy; subst hy; exact hx
theorem cell_lt {w : World} {a : Addr} {u : Value} (h : w.cell? a = some u) : a.block < w.heap.size ∧ a.spot = none := by
  refine ⟨World.block_lt_of_cell? w a h, ?_⟩
  unfold World.cell? at h
  split at h
  · cases hs : a.spot with
    | none => rfl
    | some x => rw [hs] at h; simp at h
  · cases h
namespace bulks
theorem one_le {H : Type} (d : DataW H) : 1 ≤ Rows.uptoBulk d := by
  cases d with
  | lit l => cases l <;> simp [Rows.uptoBulk]
  | nil => simp [Rows.uptoBulk]
  | ptr d => simp [Rows.uptoBulk]
  | slice elems spare => simp [Rows.uptoBulk]
  | agg parts => simp [Rows.uptoBulk]
  | iface t d => simp [Rows.uptoBulk]
  | map entries => simp [Rows.uptoBulk]
  | held h => simp [Rows.uptoBulk]
theorem part_le {H : Type} {d : DataW H} {l : List (DataW H)} (h : d ∈ l) : Rows.uptoBulk d ≤ Rows.uptoBulkAll l := by
  induction l with
  | nil => cases h
  | cons x r ih =>
    simp only [Rows.uptoBulkAll]
    cases List.mem_cons.1 h with
    | inl e => subst e; omega
    | inr e => have := ih e; omega
theorem length_le {H : Type} (l : List (DataW H)) : l.length ≤ Rows.uptoBulkAll l := by
  induction l with
  | nil => simp [Rows.uptoBulkAll]
  | cons x r ih => have := one_le x; simp only [Rows.uptoBulkAll, List.length_cons]; omega
theorem slice_len {H : Type} (elems spare : List (DataW H)) : elems.length ≤ Rows.uptoBulk (.slice elems spare) := by
  have h1 := length_le elems
  simp only [Rows.uptoBulk]; omega
theorem slice_part {H : Type} {d : DataW H} {elems spare : List (DataW H)} (h : d ∈ elems) : Rows.uptoBulk d ≤ Rows.uptoBulk (.slice elems spare) := by
  have h1 := part_le h
  simp only [Rows.uptoBulk]; omega
theorem agg_part {H : Type} {d : DataW H} {parts : List (DataW H)} (h : d ∈ parts) : Rows.uptoBulk d ≤ Rows.uptoBulk (.agg parts) := by
  have h1 := part_le h
  simp only [Rows.uptoBulk]; omega
end bulks
section
variable {H : Type} {enc : TypeId × Value → H} {P : Program} {W : World} {sp : Nat → Bool}
theorem open_row {α : Type} {t e : TypeId} {sz : Nat} (ht : P.underlying t = some (.slice e)) (hc : P.cellsOf e = sz) (hsz : 0 < sz) (ec : α → List Value) (Q : α → Nat → Prop)
    (helem : ∀ (n : Nat) (cs : List Value) (y : DataW H × List MemPlace), DataW.trod enc P W 0 sp true n e cs = some y → ∃ x, cs = ec x ∧ Q x (Rows.uptoBulk y.1))
    {fuel : Nat} {v : Value} {x : DataW H × List MemPlace} (h : DataW.trod enc P W 0 sp true fuel t [v] = some x) :
    ∃ (A : Option Addr) (l : List α) (c : Nat), v = .slice A l.length c ∧ RowAt W W.heap.size sz ec A l ∧ l.length ≤ c ∧ c ≤ 9223372036854775807 ∧ l.length ≤ Rows.uptoBulk x.1 ∧ ∀ y ∈ l, ∃ b, b ≤ Rows.uptoBulk x.1 ∧ Q y b := by
  rcases open_slice ht h with ⟨h1, rfl⟩ | ⟨a, len, cap, m, n, D, Pl, h1, _, hl, hm, hmm, rfl, hi⟩
  · obtain rfl := (List.cons.inj h1).1
    exact ⟨none, [], 0, rfl, fun h => absurd h (by simp), by simp, by omega, by simp, by simp⟩
  · obtain rfl := (List.cons.inj h1).1
    obtain ⟨l, hll, hp⟩ := exists_list (P := fun i (y : α) => W.cells? 0 (a.add (i * sz)) sz = some (ec y) ∧ Q y (Rows.uptoBulk (D i))) len (fun i hil => by
      obtain ⟨cs, h2, h3⟩ := hi i (by rw [hmm]; split <;> omega)
      obtain ⟨y, rfl, hq⟩ := helem n cs _ h3
      rw [hc] at h2
      exact ⟨y, h2, hq⟩)
    refine ⟨some a, l, cap, by rw [hll], fun h0 => ?_, by omega, by unfold maxLen at hm; omega, ?_, fun y hy => ?_⟩
    · have g0 := hp 0 l[0] (List.getElem?_eq_getElem h0)
      obtain ⟨_, hlen, hcell⟩ := World.cells?_some g0.1
      have c0 := hcell 0 hsz
      have e0 : (a.add (0 * sz)).add 0 = a := by simp [Addr.add]
      rw [e0, List.getElem?_eq_getElem (by omega)] at c0
      obtain ⟨hb, hs⟩ := cell_lt c0
      have ha : a = ⟨a.block, a.off, none⟩ := by cases a; simp at hs; simp [hs]
      refine ⟨a.block, a.off, by rw [← ha], hb, fun k y hk j u hu => ?_⟩
      obtain ⟨g1, _⟩ := hp k y hk
      obtain ⟨_, hlen', hcell'⟩ := World.cells?_some g1
      have hj : j < sz := by have := (List.getElem?_eq_some_iff.1 hu).1; omega
      have := hcell' j hj
      rw [hu, ha, Addr.add_lit, Addr.add_lit] at this
      exact this
    · have := bulks.slice_len ((List.range len).map D) ((List.range (m - len)).map fun j => D (len + j))
      rw [List.length_map, List.length_range] at this
      rw [hll]; exact this
    · obtain ⟨k, hk⟩ := List.mem_iff_getElem?.1 hy
      have hkl := (List.getElem?_eq_some_iff.1 hk).1
      refine ⟨_, bulks.slice_part (List.mem_map.2 ⟨k, List.mem_range.2 (by omega), rfl⟩), (hp k y hk).2⟩
end
theorem cells39 : Try.prog.cellsOf 39 = 7 := by kernel_rfl
theorem cells35 : Try.prog.cellsOf 35 = 4 := by kernel_rfl
theorem cells36 : Try.prog.cellsOf 36 = 1 := by kernel_rfl
theorem cells37 : Try.prog.cellsOf 37 = 1 := by kernel_rfl
theorem cells66' : Try.prog.cellsOf 66 = 2 := by kernel_rfl
theorem cells3' : Try.prog.cellsOf 3 = 1 := by kernel_rfl
section
variable {H : Type} {enc : TypeId × Value → H} {W : World} {sp : Nat → Bool}
theorem elem3 (n : Nat) (cs : List Value) (y : DataW H × List MemPlace) (h : DataW.trod enc Try.prog W 0 sp true n 3 cs = some y) : ∃ x, cs = eInt x ∧ True := by
  obtain ⟨z, hz, _⟩ := DataW.trod_int Try.underlying3 h
  exact ⟨z, hz, trivial⟩
set_option maxRecDepth 100000 in
theorem elem66 (n : Nat) (cs : List Value) (y : DataW H × List MemPlace) (h : DataW.trod enc Try.prog W 0 sp true n 66 cs = some y) : ∃ x, cs = eSlot x ∧ True := by
  obtain ⟨ys, m, _, _, hlen, hyl, hf⟩ := DataW.trod_struct Try.underlying66 h
  rw [cells66'] at hlen
  match cs, hlen with
  | [u, v], _ =>
    have h0 : DataW.trod enc Try.prog W 0 sp true m 3 (([u, v].drop 0).take (Try.prog.cellsOf 3)) = ys[0]? := hf 0 _ rfl
    have h1 : DataW.trod enc Try.prog W 0 sp true m 3 (([u, v].drop 1).take (Try.prog.cellsOf 3)) = ys[1]? := hf 1 _ rfl
    rw [cells3'] at h0 h1
    rw [List.getElem?_eq_getElem (by rw [hyl]; decide)] at h0 h1
    obtain ⟨a, ha, _⟩ := DataW.trod_int Try.underlying3 h0
    obtain ⟨b, hb, _⟩ := DataW.trod_int Try.underlying3 h1
    simp at ha hb
    exact ⟨(a, b), by simp [eSlot, ha, hb], trivial⟩
def FlQ (W : World) (r : Rw) (b : Nat) : Prop := FlRows W W.heap.size r.f r.X r.cX r.Y r.cY ∧ r.f.slots.length ≤ b ∧ r.f.have_.length ≤ b
set_option maxRecDepth 100000 in
theorem elem39 (n : Nat) (cs : List Value) (y : DataW H × List MemPlace) (h : DataW.trod enc Try.prog W 0 sp true n 39 cs = some y) : ∃ r, cs = eRw r ∧ FlQ W r (Rows.uptoBulk y.1) := by
  obtain ⟨ys, m, _, rfl, hlen, hyl, hf⟩ := DataW.trod_struct Try.underlying39 h
  rw [cells39] at hlen
  have hyl4 : ys.length = 4 := hyl
  match cs, hlen with
  | [u0, u1, u2, u3, u4, u5, u6], _ =>
    match ys, hyl4 with
    | [y0, y1, y2, y3], _ =>
      have h0 : DataW.trod enc Try.prog W 0 sp true m 35 (([u0, u1, u2, u3, u4, u5, u6].drop 0).take (Try.prog.cellsOf 35)) = some y0 := hf 0 _ rfl
      have h1 : DataW.trod enc Try.prog W 0 sp true m 3 (([u0, u1, u2, u3, u4, u5, u6].drop 4).take (Try.prog.cellsOf 3)) = some y1 := hf 1 _ rfl
      have h2 : DataW.trod enc Try.prog W 0 sp true m 36 (([u0, u1, u2, u3, u4, u5, u6].drop 5).take (Try.prog.cellsOf 36)) = some y2 := hf 2 _ rfl
      have h3 : DataW.trod enc Try.prog W 0 sp true m 37 (([u0, u1, u2, u3, u4, u5, u6].drop 6).take (Try.prog.cellsOf 37)) = some y3 := hf 3 _ rfl
      rw [cells35] at h0
      rw [cells3'] at h1
      rw [cells36] at h2
      rw [cells37] at h3
      simp only [List.drop_zero, List.drop_succ_cons, List.take_succ_cons, List.take_zero] at h0 h1 h2 h3
      obtain ⟨zs, k, _, _, hl4, hzl, hg⟩ := DataW.trod_struct Try.underlying35 h0
      have hz4 : zs.length = 4 := hzl
      have g0 : DataW.trod enc Try.prog W 0 sp true k 3 (([u0, u1, u2, u3].drop 0).take (Try.prog.cellsOf 3)) = zs[0]? := hg 0 _ rfl
      have g1 : DataW.trod enc Try.prog W 0 sp true k 3 (([u0, u1, u2, u3].drop 1).take (Try.prog.cellsOf 3)) = zs[1]? := hg 1 _ rfl
      have g2 : DataW.trod enc Try.prog W 0 sp true k 3 (([u0, u1, u2, u3].drop 2).take (Try.prog.cellsOf 3)) = zs[2]? := hg 2 _ rfl
      have g3 : DataW.trod enc Try.prog W 0 sp true k 3 (([u0, u1, u2, u3].drop 3).take (Try.prog.cellsOf 3)) = zs[3]? := hg 3 _ rfl
      rw [cells3'] at g0 g1 g2 g3
      rw [List.getElem?_eq_getElem (by rw [hz4]; decide)] at g0 g1 g2 g3
      obtain ⟨e, he, _⟩ := DataW.trod_int Try.underlying3 g0
      obtain ⟨l, hl, _⟩ := DataW.trod_int Try.underlying3 g1
      obtain ⟨i, hi, _⟩ := DataW.trod_int Try.underlying3 g2
      obtain ⟨c, hc, _⟩ := DataW.trod_int Try.underlying3 g3
      obtain ⟨b, hb, _⟩ := DataW.trod_int Try.underlying3 h1
      simp at he hl hi hc hb
      obtain ⟨X, s, cX, hX, r1, r2, r3, r4, _⟩ := open_row Try.underlying36 cells66' (by decide) eSlot (fun _ _ => True) elem66 h2
      obtain ⟨Y, hh, cY, hY, q1, q2, q3, q4, _⟩ := open_row Try.underlying37 cells3' (by decide) eInt (fun _ _ => True) elem3 h3
      refine ⟨⟨⟨e, l, i, c, b, s, hh⟩, X, cX, Y, cY⟩, by simp [eRw, he, hl, hi, hc, hb, hX, hY], ⟨r1, q1, r2, r3, q2, q3⟩, ?_, ?_⟩
      · exact Nat.le_trans r4 (bulks.agg_part (by simp))
      · exact Nat.le_trans q4 (bulks.agg_part (by simp))
end
end Go.Proofs.Ytcffhfcjfjfokaa
namespace Go.Proofs.Ytcffhfcjfjfokaa
open Go.RowKit Go.Deep Go.ChangeShapes Go.WideShapes
theorem cells113' : Try.prog.cellsOf 113 = 4 := by kernel_rfl
theorem cells40' : Try.prog.cellsOf 40 = 1 := by kernel_rfl
theorem cells52' : Try.prog.cellsOf 52 = 1 := by kernel_rfl
theorem cells5' : Try.prog.cellsOf 5 = 1 := by kernel_rfl
theorem cells168 : Try.prog.cellsOf 168 = 3 := by kernel_rfl
theorem cells93 : Try.prog.cellsOf 93 = 1 := by kernel_rfl
theorem cells83 : Try.prog.cellsOf 83 = 1 := by kernel_rfl
theorem cells95 : Try.prog.cellsOf 95 = 16 := by kernel_rfl
theorem cells85 : Try.prog.cellsOf 85 = 2 := by kernel_rfl
section
variable {H : Type} {enc : TypeId × Value → H} {W : World} {sp : Nat → Bool}
theorem elem5' (n : Nat) (cs : List Value) (y : DataW H × List MemPlace) (h : DataW.trod enc Try.prog W 0 sp true n 5 cs = some y) : ∃ x, cs = eByte x ∧ True := by
  obtain ⟨z, hz, _⟩ := DataW.trod_int Try.underlying5 h
  exact ⟨z, hz, trivial⟩
def DrQ (W : World) (r : Dr) (b : Nat) : Prop := BodyAt W W.heap.size r.B r.c r.d.body ∧ r.d.body.length ≤ b
set_option maxRecDepth 100000 in
theorem elem113' (n : Nat) (cs : List Value) (y : DataW H × List MemPlace) (h : DataW.trod enc Try.prog W 0 sp true n 113 cs = some y) : ∃ r, cs = eDr r ∧ DrQ W r (Rows.uptoBulk y.1) := by
  obtain ⟨ys, m, _, rfl, hlen, hyl, hf⟩ := DataW.trod_struct Try.underlying113 h
  rw [cells113'] at hlen
  have hyl4 : ys.length = 4 := hyl
  match cs, hlen with
  | [u0, u1, u2, u3], _ =>
    match ys, hyl4 with
    | [y0, y1, y2, y3], _ =>
      have h0 : DataW.trod enc Try.prog W 0 sp true m 3 (([u0, u1, u2, u3].drop 0).take (Try.prog.cellsOf 3)) = some y0 := hf 0 _ rfl
      have h1 : DataW.trod enc Try.prog W 0 sp true m 3 (([u0, u1, u2, u3].drop 1).take (Try.prog.cellsOf 3)) = some y1 := hf 1 _ rfl
      have h2 : DataW.trod enc Try.prog W 0 sp true m 3 (([u0, u1, u2, u3].drop 2).take (Try.prog.cellsOf 3)) = some y2 := hf 2 _ rfl
      have h3 : DataW.trod enc Try.prog W 0 sp true m 52 (([u0, u1, u2, u3].drop 3).take (Try.prog.cellsOf 52)) = some y3 := hf 3 _ rfl
      rw [cells3'] at h0 h1 h2
      rw [cells52'] at h3
      simp only [List.drop_zero, List.drop_succ_cons, List.take_succ_cons, List.take_zero] at h0 h1 h2 h3
      obtain ⟨a, ha, _⟩ := DataW.trod_int Try.underlying3 h0
      obtain ⟨b, hb, _⟩ := DataW.trod_int Try.underlying3 h1
      obtain ⟨c, hc, _⟩ := DataW.trod_int Try.underlying3 h2
      simp at ha hb hc
      obtain ⟨X, s, cX, hX, r1, r2, r3, r4, _⟩ := open_row Try.underlying52 cells5' (by decide) eByte (fun _ _ => True) elem5' h3
      exact ⟨⟨⟨a, b, c, s⟩, X, cX⟩, by simp [eDr, ha, hb, hc, hX], ⟨r1, r2, r3⟩, Nat.le_trans r4 (bulks.agg_part (by simp))⟩
set_option maxRecDepth 100000 in
theorem elem168 (n : Nat) (cs : List Value) (y : DataW H × List MemPlace) (h : DataW.trod enc Try.prog W 0 sp true n 168 cs = some y) : ∃ x, cs = eMm x ∧ True := by
  obtain ⟨ys, m, _, _, hlen, hyl, hf⟩ := DataW.trod_struct Try.underlying168 h
  rw [cells168] at hlen
  have hyl3 : ys.length = 3 := hyl
  match cs, hlen with
  | [u, v, z], _ =>
    have h0 : DataW.trod enc Try.prog W 0 sp true m 3 (([u, v, z].drop 0).take (Try.prog.cellsOf 3)) = ys[0]? := hf 0 _ rfl
    have h1 : DataW.trod enc Try.prog W 0 sp true m 3 (([u, v, z].drop 1).take (Try.prog.cellsOf 3)) = ys[1]? := hf 1 _ rfl
    have h2 : DataW.trod enc Try.prog W 0 sp true m 3 (([u, v, z].drop 2).take (Try.prog.cellsOf 3)) = ys[2]? := hf 2 _ rfl
    rw [cells3'] at h0 h1 h2
    rw [List.getElem?_eq_getElem (by rw [hyl3]; decide)] at h0 h1 h2
    obtain ⟨a, ha, _⟩ := DataW.trod_int Try.underlying3 h0
    obtain ⟨b, hb, _⟩ := DataW.trod_int Try.underlying3 h1
    obtain ⟨c, hc, _⟩ := DataW.trod_int Try.underlying3 h2
    simp at ha hb hc
    exact ⟨⟨a, b, c⟩, by simp [eMm, ha, hb, hc], trivial⟩
structure OpQ (W : World) (o : Opx) (b : Nat) : Prop where
  f : FlRows W W.heap.size o.f o.fA o.fc o.fB o.fd
  who : RowAt W W.heap.size 3 eMm o.wA o.who
  ms : Drs W W.heap.size o.mA o.ms
  s1 : o.f.slots.length ≤ b
  s2 : o.f.have_.length ≤ b
  s3 : o.who.length ≤ b
  s4 : o.ms.length ≤ b
  s5 : ∀ r ∈ o.ms, r.d.body.length ≤ b
set_option maxRecDepth 100000 in
theorem elem95 (n : Nat) (cs : List Value) (y : DataW H × List MemPlace) (h : DataW.trod enc Try.prog W 0 sp true n 95 cs = some y) : ∃ o, cs = eOpx o ∧ OpQ W o (Rows.uptoBulk y.1) := by
  obtain ⟨ys, m, _, rfl, hlen, hyl, hf⟩ := DataW.trod_struct Try.underlying95 h
  rw [cells95] at hlen
  have hyl7 : ys.length = 7 := hyl
  match cs, hlen with
  | [u0, u1, u2, u3, u4, u5, u6, u7, u8, u9, u10, u11, u12, u13, u14, u15], _ =>
    match ys, hyl7 with
    | [y0, y1, y2, y3, y4, y5, y6], _ =>
      have h0 : DataW.trod enc Try.prog W 0 sp true m 3 (([u0, u1, u2, u3, u4, u5, u6, u7, u8, u9, u10, u11, u12, u13, u14, u15].drop 0).take (Try.prog.cellsOf 3)) = some y0 := hf 0 _ rfl
      have h1 : DataW.trod enc Try.prog W 0 sp true m 3 (([u0, u1, u2, u3, u4, u5, u6, u7, u8, u9, u10, u11, u12, u13, u14, u15].drop 1).take (Try.prog.cellsOf 3)) = some y1 := hf 1 _ rfl
      have h2 : DataW.trod enc Try.prog W 0 sp true m 3 (([u0, u1, u2, u3, u4, u5, u6, u7, u8, u9, u10, u11, u12, u13, u14, u15].drop 2).take (Try.prog.cellsOf 3)) = some y2 := hf 2 _ rfl
      have h3 : DataW.trod enc Try.prog W 0 sp true m 39 (([u0, u1, u2, u3, u4, u5, u6, u7, u8, u9, u10, u11, u12, u13, u14, u15].drop 3).take (Try.prog.cellsOf 39)) = some y3 := hf 3 _ rfl
      have h4 : DataW.trod enc Try.prog W 0 sp true m 35 (([u0, u1, u2, u3, u4, u5, u6, u7, u8, u9, u10, u11, u12, u13, u14, u15].drop 10).take (Try.prog.cellsOf 35)) = some y4 := hf 4 _ rfl
      have h5 : DataW.trod enc Try.prog W 0 sp true m 93 (([u0, u1, u2, u3, u4, u5, u6, u7, u8, u9, u10, u11, u12, u13, u14, u15].drop 14).take (Try.prog.cellsOf 93)) = some y5 := hf 5 _ rfl
      have h6 : DataW.trod enc Try.prog W 0 sp true m 40 (([u0, u1, u2, u3, u4, u5, u6, u7, u8, u9, u10, u11, u12, u13, u14, u15].drop 15).take (Try.prog.cellsOf 40)) = some y6 := hf 6 _ rfl
      rw [cells3'] at h0 h1 h2
      rw [cells39] at h3
      rw [cells35] at h4
      rw [cells93] at h5
      rw [cells40'] at h6
      simp only [List.drop_zero, List.drop_succ_cons, List.take_succ_cons, List.take_zero] at h0 h1 h2 h3 h4 h5 h6
      obtain ⟨zs, k, _, _, hl4, hzl, hg⟩ := DataW.trod_struct Try.underlying35 h4
      have hz4 : zs.length = 4 := hzl
      have g0 : DataW.trod enc Try.prog W 0 sp true k 3 (([u10, u11, u12, u13].drop 0).take (Try.prog.cellsOf 3)) = zs[0]? := hg 0 _ rfl
      have g1 : DataW.trod enc Try.prog W 0 sp true k 3 (([u10, u11, u12, u13].drop 1).take (Try.prog.cellsOf 3)) = zs[1]? := hg 1 _ rfl
      have g2 : DataW.trod enc Try.prog W 0 sp true k 3 (([u10, u11, u12, u13].drop 2).take (Try.prog.cellsOf 3)) = zs[2]? := hg 2 _ rfl
      have g3 : DataW.trod enc Try.prog W 0 sp true k 3 (([u10, u11, u12, u13].drop 3).take (Try.prog.cellsOf 3)) = zs[3]? := hg 3 _ rfl
      rw [cells3'] at g0 g1 g2 g3
      rw [List.getElem?_eq_getElem (by rw [hz4]; decide)] at g0 g1 g2 g3
      obtain ⟨e, he, _⟩ := DataW.trod_int Try.underlying3 g0
      obtain ⟨l, hl, _⟩ := DataW.trod_int Try.underlying3 g1
      obtain ⟨i, hi, _⟩ := DataW.trod_int Try.underlying3 g2
      obtain ⟨c, hc, _⟩ := DataW.trod_int Try.underlying3 g3
      obtain ⟨kd, hkd, _⟩ := DataW.trod_int Try.underlying3 h0
      obtain ⟨q, hq, _⟩ := DataW.trod_int Try.underlying3 h1
      obtain ⟨inc, hinc, _⟩ := DataW.trod_int Try.underlying3 h2
      obtain ⟨r, hr, hrq⟩ := elem39 m _ y3 h3
      obtain ⟨wA, who, wc, hw, w1, w2, w3, w4, _⟩ := open_row Try.underlying93 cells168 (by decide) eMm (fun _ _ => True) elem168 h5
      obtain ⟨mA, ms, mc, hm, m1, m2, m3, m4, m5⟩ := open_row Try.underlying40 cells113' (by decide) eDr (DrQ W) elem113' h6
      have b3 : Rows.uptoBulk y3.1 ≤ Rows.uptoBulk (.agg ([y0, y1, y2, y3, y4, y5, y6].map (·.1))) := bulks.agg_part (by simp)
      have b5 : Rows.uptoBulk y5.1 ≤ Rows.uptoBulk (.agg ([y0, y1, y2, y3, y4, y5, y6].map (·.1))) := bulks.agg_part (by simp)
      have b6 : Rows.uptoBulk y6.1 ≤ Rows.uptoBulk (.agg ([y0, y1, y2, y3, y4, y5, y6].map (·.1))) := bulks.agg_part (by simp)
      simp at he hl hi hc hkd hq hinc
      simp [eRw] at hr
      refine ⟨⟨kd, q, inc, r.f, r.X, r.cX, r.Y, r.cY, e, l, i, c, who, wA, wc, ms, mA, mc⟩, by simp [eOpx, opA, he, hl, hi, hc, hkd, hq, hinc, hr, hw, hm], hrq.1, w1, ⟨m1, fun x hx => (m5 x hx).choose_spec.2.1⟩, Nat.le_trans hrq.2.1 b3, Nat.le_trans hrq.2.2 b3, Nat.le_trans w4 b5, Nat.le_trans m4 b6, fun x hx => ?_⟩
      obtain ⟨b, hb, hq2⟩ := m5 x hx
      exact Nat.le_trans hq2.2 (Nat.le_trans hb b6)
set_option maxRecDepth 100000 in
theorem open85 {fuel : Nat} {cs : List Value} {x : DataW H × List MemPlace} (h : DataW.trod enc Try.prog W 0 sp true fuel 85 cs = some x) (hk : Rows.uptoBulk x.1 ≤ 1048576) :
    ∃ (n : Int) (A : Option Addr) (os : List Opx) (c : Nat), cs = [.int .i64 n, .slice A os.length c] ∧ ScAt W W.heap.size A os := by
  obtain ⟨ys, m, _, rfl, hlen, hyl, hf⟩ := DataW.trod_struct Try.underlying85 h
  rw [cells85] at hlen
  have hyl2 : ys.length = 2 := hyl
  match cs, hlen with
  | [u0, u1], _ =>
    match ys, hyl2 with
    | [y0, y1], _ =>
      have h0 : DataW.trod enc Try.prog W 0 sp true m 3 (([u0, u1].drop 0).take (Try.prog.cellsOf 3)) = some y0 := hf 0 _ rfl
      have h1 : DataW.trod enc Try.prog W 0 sp true m 83 (([u0, u1].drop 1).take (Try.prog.cellsOf 83)) = some y1 := hf 1 _ rfl
      rw [cells3'] at h0
      rw [cells83] at h1
      simp only [List.drop_zero, List.drop_succ_cons, List.take_succ_cons, List.take_zero] at h0 h1
      obtain ⟨n, hn, _⟩ := DataW.trod_int Try.underlying3 h0
      obtain ⟨A, os, c, hA, a1, a2, a3, a4, a5⟩ := open_row Try.underlying83 cells95 (by decide) eOpx (OpQ W) elem95 h1
      have b1 : Rows.uptoBulk y1.1 ≤ Rows.uptoBulk (.agg ([y0, y1].map (·.1))) := bulks.agg_part (by simp)
      simp at hn
      refine ⟨n, A, os, c, by rw [hn, hA], a1, fun o ho => ?_, by have := Nat.le_trans a4 (Nat.le_trans b1 hk); omega⟩
      obtain ⟨b, hb, q⟩ := a5 o ho
      have hb' : b ≤ 1048576 := Nat.le_trans hb (Nat.le_trans b1 hk)
      exact ⟨q.f, q.who, q.ms, Nat.le_trans q.s1 hb', Nat.le_trans q.s2 hb', Nat.le_trans q.s3 hb', by rw [List.length_map]; exact Nat.le_trans q.s4 hb', fun d hd => by
        obtain ⟨r, hr, rfl⟩ := List.mem_map.1 hd
        exact Nat.le_trans (q.s5 r hr) hb'⟩
end
end Go.Proofs.Ytcffhfcjfjfokaa
namespace Go.Proofs.Ytcffhfcjfjfokaa
open Go.ChangeShapes Go.WideShapes Go.ChangeAt Go.RowKit
section
variable {H : Type} {enc : TypeId × Value → H} {P : Program}
theorem post_of_below {f : Func} {s : ChangeSpec} {apart fresh handsOn again : Bool} {W W' : World} {args : Array Value} {v : Value} {ds gs : List (DataW H)} {before pa pv : List MemPlace}
    (hW : DataW.Whole enc P f.params.toList s.vars apart W args.toList ds gs before)
    (hres : ∀ (b : Nat) (sp : Nat → Bool) (hd : Bool), DataW.TrodAll enc P W' b sp hd f.resultTypes.toList (v.resultList f.resultTypes.size) (s.fn H (ds ++ gs)).results [])
    (hargs : ∀ sp : Nat → Bool, (∀ p ∈ before, sp p.block = true) → DataW.TrodAll enc P W' 0 sp true f.params.toList args.toList (s.fn H (ds ++ gs)).args pa)
    (hvars : ∀ sp : Nat → Bool, (∀ p ∈ before, sp p.block = true) → DataW.TrodVars enc P W' sp s.vars (s.fn H (ds ++ gs)).vars pv)
    (hps : before = pa ++ pv) (hb : Below W.heap.size W W')
    (hok : ∀ (j : Nat) (t : TypeId) (r : Value), f.resultTypes[j]? = some t → (v.resultList f.resultTypes.size)[j]? = some r → Value.okWide P W' .any 0 t r) :
    s.post enc P f apart fresh handsOn again W args v W' := by
  have hlt : ∀ p ∈ before, p.block < W.heap.size := fun p hp => hW.lt p hp
  have hold : ∀ p ∈ before, (fun b => decide (b < W.heap.size)) p.block = true := fun p hp => by simpa using hlt p hp
  refine ⟨ds, gs, before, [], pa, pv, hW, hres _ _ _, hargs _ hold, hvars _ hold, World.keptBut_mono (fun p hp => ⟨hp, ?_⟩) (hb.frame (· ∈ before)), fun _ => ?_⟩
  · rw [hps, List.mem_append] at hp
    exact Or.inr hp
  · obtain ⟨_, _, _, _, _, hz, hn⟩ := hW
    refine ⟨hok, _, _, ([] ++ pa) ++ pv, ⟨[] ++ pa, pv, trodAll_append (hargs _ (fun _ _ => rfl)) (hres _ _ _), hvars _ (fun _ _ => rfl), rfl, ?_, ?_⟩, ?_⟩
    · intro b off hp
      have hin : MemPlace.cell b off ∈ before := by rw [hps]; simpa using hp
      rw [hb.frozen (hlt _ hin)]
      exact hz b off hin
    · intro ha
      have := hn ha
      rw [hps] at this
      simpa using this
    · intro p hp _
      rw [hps]
      simpa using hp
end
theorem own : ownKnob Try.prog.godebug = none := by kernel_rfl
theorem laidOut : laidOutB Try.prog = true := by kernel_rfl
end Go.Proofs.Ytcffhfcjfjfokaa
