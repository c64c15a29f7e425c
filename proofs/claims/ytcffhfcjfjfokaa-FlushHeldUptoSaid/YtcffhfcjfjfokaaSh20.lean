/- Open Case Caser Casew CxOpen PlA Bodies Who, joined. -/
import Derived.Test.YtcffhfcjfjfokaaRows
import Derived.Deep.Slices
import Derived.Deep.Fields
import Derived.ChangeSame
import Derived.ProofKit
import Derived.Test.YtcffhfcjfjfokaaSh3
import Derived.Test.YtcffhfcjfjfokaaSh4
import Derived.Test.YtcffhfcjfjfokaaSh6
import Derived.Test.YtcffhfcjfjfokaaSh18
import Derived.Test.YtcffhfcjfjfokaaSh19
set_option linter.unusedVariables false
set_option linter.unusedSimpArgs false
namespace Go.Proofs.Ytcffhfcjfjfokaa
open Go.RowKit Go.Deep Go.ChangeShapes Go.WideShapes
theorem exists_list {α : Type} {P : Nat → α → Prop} : ∀ n, (∀ i, i < n → ∃ x, P i x) → ∃ l : List α, l.length = n ∧ ∀ k x, l[k]? = some x → P k x
  | 0, _ => ⟨[], rfl, by intro k x h; simp at h⟩
  | n + 1, h => by
    obtain ⟨l, hl, hp⟩ := exists_list n (fun i hi => h i (by omega))
    obtain ⟨x, hx⟩ := h n (by omega)
    refine ⟨l ++ [x], by simp [hl], fun k y hy => ?_⟩
    by_cases hk : k < l.length
    · rw [List.getElem?_append_left hk] at hy; exact hp k y hy
    · rw [List.getElem?_append_right (by omega)] at hy
      have := (List.getElem?_eq_some_iff.1 hy).1
      obtain rfl : k = n := by simp at this; omega
      rw [hl] at hy; simp at hy; subst hy; exact hx
theorem cell_lt {w : World} {a : Addr} {u : Value} (h : w.cell? a = some u) : a.block < w.heap.size ∧ a.spot = none := by
  refine ⟨World.block_lt_of_cell? w a h, ?_⟩
  unfold World.cell? at h
  split at h
  · cases hs : a.spot with
    | none => rfl
    | some x => rw [hs] at h; simp at h
  · cases h
namespace bulks
theorem one_le {H : Type} (d : DataW H) : 1 ≤ Rows.uptoBulk d := by
  cases d with
  | lit l => cases l <;> simp [Rows.uptoBulk]
  | nil => simp [Rows.uptoBulk]
  | ptr d => simp [Rows.uptoBulk]
  | slice elems spare => simp [Rows.uptoBulk]
  | agg parts => simp [Rows.uptoBulk]
  | iface t d => simp [Rows.uptoBulk]
  | map entries => simp [Rows.uptoBulk]
  | held h => simp [Rows.uptoBulk]
theorem part_le {H : Type} {d : DataW H} {l : List (DataW H)} (h : d ∈ l) : Rows.uptoBulk d ≤ Rows.uptoBulkAll l := by
  induction l with
  | nil => cases h
  | cons x r ih =>
    simp only [Rows.uptoBulkAll]
    cases List.mem_cons.1 h with
    | inl e => subst e; omega
    | inr e => have := ih e; omega
theorem length_le {H : Type} (l : List (DataW H)) : l.length ≤ Rows.uptoBulkAll l := by
  induction l with
  | nil => simp [Rows.uptoBulkAll]
  | cons x r ih => have := one_le x; simp only [Rows.uptoBulkAll, List.length_cons]; omega
theorem slice_len {H : Type} (elems spare : List (DataW H)) : elems.length ≤ Rows.uptoBulk (.slice elems spare) := by
  have h1 := length_le elems
  simp only [Rows.uptoBulk]; omega
theorem slice_part {H : Type} {d : DataW H} {elems spare : List (DataW H)} (h : d ∈ elems) : Rows.uptoBulk d ≤ Rows.uptoBulk (.slice elems spare) := by
  have h1 := part_le h
  simp only [Rows.uptoBulk]; omega
theorem agg_part {H : Type} {d : DataW H} {parts : List (DataW H)} (h : d ∈ parts) : Rows.uptoBulk d ≤ Rows.uptoBulk (.agg parts) := by
  have h1 := part_le h
  simp only [Rows.uptoBulk]; omega
end bulks
section
variable {H : Type} {enc : TypeId × Value → H} {P : Program} {W : World} {sp : Nat → Bool}
/-- A slice that came in, whatever its elements: a row of what each element reads as. -/
theorem open_row {α : Type} {t e : TypeId} {sz : Nat} (ht : P.underlying t = some (.slice e)) (hc : P.cellsOf e = sz) (hsz : 0 < sz) (ec : α → List Value) (Q : α → Nat → Prop)
    (helem : ∀ (n : Nat) (cs : List Value) (y : DataW H × List MemPlace), DataW.trod enc P W 0 sp true n e cs = some y → ∃ x, cs = ec x ∧ Q x (Rows.uptoBulk y.1))
    {fuel : Nat} {v : Value} {x : DataW H × List MemPlace} (h : DataW.trod enc P W 0 sp true fuel t [v] = some x) :
    ∃ (A : Option Addr) (l : List α) (c : Nat), v = .slice A l.length c ∧ RowAt W W.heap.size sz ec A l ∧ l.length ≤ c ∧ c ≤ 9223372036854775807 ∧ l.length ≤ Rows.uptoBulk x.1 ∧ ∀ y ∈ l, ∃ b, b ≤ Rows.uptoBulk x.1 ∧ Q y b := by
  rcases open_slice ht h with ⟨h1, rfl⟩ | ⟨a, len, cap, m, n, D, Pl, h1, _, hl, hm, hmm, rfl, hi⟩
  · obtain rfl := (List.cons.inj h1).1
    exact ⟨none, [], 0, rfl, fun h => absurd h (by simp), by simp, by omega, by simp, by simp⟩
  · obtain rfl := (List.cons.inj h1).1
    obtain ⟨l, hll, hp⟩ := exists_list (P := fun i (y : α) => W.cells? 0 (a.add (i * sz)) sz = some (ec y) ∧ Q y (Rows.uptoBulk (D i))) len (fun i hil => by
      obtain ⟨cs, h2, h3⟩ := hi i (by rw [hmm]; split <;> omega)
      obtain ⟨y, rfl, hq⟩ := helem n cs _ h3
      rw [hc] at h2
      exact ⟨y, h2, hq⟩)
    refine ⟨some a, l, cap, by rw [hll], fun h0 => ?_, by omega, by unfold maxLen at hm; omega, ?_, fun y hy => ?_⟩
    · have g0 := hp 0 l[0] (List.getElem?_eq_getElem h0)
      obtain ⟨_, hlen, hcell⟩ := World.cells?_some g0.1
      have c0 := hcell 0 hsz
      have e0 : (a.add (0 * sz)).add 0 = a := by simp [Addr.add]
      rw [e0, List.getElem?_eq_getElem (by omega)] at c0
      obtain ⟨hb, hs⟩ := cell_lt c0
      have ha : a = ⟨a.block, a.off, none⟩ := by cases a; simp at hs; simp [hs]
      refine ⟨a.block, a.off, by rw [← ha], hb, fun k y hk j u hu => ?_⟩
      obtain ⟨g1, _⟩ := hp k y hk
      obtain ⟨_, hlen', hcell'⟩ := World.cells?_some g1
      have hj : j < sz := by have := (List.getElem?_eq_some_iff.1 hu).1; omega
      have := hcell' j hj
      rw [hu, ha, Addr.add_lit, Addr.add_lit] at this
      exact this
    · have := bulks.slice_len ((List.range len).map D) ((List.range (m - len)).map fun j => D (len + j))
      rw [List.length_map, List.length_range] at this
      rw [hll]; exact this
    · obtain ⟨k, hk⟩ := List.mem_iff_getElem?.1 hy
      have hkl := (List.getElem?_eq_some_iff.1 hk).1
      refine ⟨_, bulks.slice_part (List.mem_map.2 ⟨k, List.mem_range.2 (by omega), rfl⟩), (hp k y hk).2⟩
end
theorem cells39 : Try.prog.cellsOf 39 = 7 := by kernel_rfl
theorem cells35 : Try.prog.cellsOf 35 = 4 := by kernel_rfl
theorem cells36 : Try.prog.cellsOf 36 = 1 := by kernel_rfl
theorem cells37 : Try.prog.cellsOf 37 = 1 := by kernel_rfl
theorem cells66' : Try.prog.cellsOf 66 = 2 := by kernel_rfl
theorem cells3' : Try.prog.cellsOf 3 = 1 := by kernel_rfl
section
variable {H : Type} {enc : TypeId × Value → H} {W : World} {sp : Nat → Bool}
theorem elem3 (n : Nat) (cs : List Value) (y : DataW H × List MemPlace) (h : DataW.trod enc Try.prog W 0 sp true n 3 cs = some y) : ∃ x, cs = eInt x ∧ True := by
  obtain ⟨z, hz, _⟩ := DataW.trod_int Try.underlying3 h
  exact ⟨z, hz, trivial⟩
set_option maxRecDepth 100000 in
theorem elem66 (n : Nat) (cs : List Value) (y : DataW H × List MemPlace) (h : DataW.trod enc Try.prog W 0 sp true n 66 cs = some y) : ∃ x, cs = eSlot x ∧ True := by
  obtain ⟨ys, m, _, _, hlen, hyl, hf⟩ := DataW.trod_struct Try.underlying66 h
  rw [cells66'] at hlen
  match cs, hlen with
  | [u, v], _ =>
    have h0 : DataW.trod enc Try.prog W 0 sp true m 3 (([u, v].drop 0).take (Try.prog.cellsOf 3)) = ys[0]? := hf 0 _ rfl
    have h1 : DataW.trod enc Try.prog W 0 sp true m 3 (([u, v].drop 1).take (Try.prog.cellsOf 3)) = ys[1]? := hf 1 _ rfl
    rw [cells3'] at h0 h1
    rw [List.getElem?_eq_getElem (by rw [hyl]; decide)] at h0 h1
    obtain ⟨a, ha, _⟩ := DataW.trod_int Try.underlying3 h0
    obtain ⟨b, hb, _⟩ := DataW.trod_int Try.underlying3 h1
    simp at ha hb
    exact ⟨(a, b), by simp [eSlot, ha, hb], trivial⟩
def FlQ (W : World) (r : Rw) (b : Nat) : Prop := FlRows W W.heap.size r.f r.X r.cX r.Y r.cY ∧ r.f.slots.length ≤ b ∧ r.f.have_.length ≤ b
set_option maxRecDepth 100000 in
theorem elem39 (n : Nat) (cs : List Value) (y : DataW H × List MemPlace) (h : DataW.trod enc Try.prog W 0 sp true n 39 cs = some y) : ∃ r, cs = eRw r ∧ FlQ W r (Rows.uptoBulk y.1) := by
  obtain ⟨ys, m, _, rfl, hlen, hyl, hf⟩ := DataW.trod_struct Try.underlying39 h
  rw [cells39] at hlen
  have hyl4 : ys.length = 4 := hyl
  match cs, hlen with
  | [u0, u1, u2, u3, u4, u5, u6], _ =>
    match ys, hyl4 with
    | [y0, y1, y2, y3], _ =>
      have h0 : DataW.trod enc Try.prog W 0 sp true m 35 (([u0, u1, u2, u3, u4, u5, u6].drop 0).take (Try.prog.cellsOf 35)) = some y0 := hf 0 _ rfl
      have h1 : DataW.trod enc Try.prog W 0 sp true m 3 (([u0, u1, u2, u3, u4, u5, u6].drop 4).take (Try.prog.cellsOf 3)) = some y1 := hf 1 _ rfl
      have h2 : DataW.trod enc Try.prog W 0 sp true m 36 (([u0, u1, u2, u3, u4, u5, u6].drop 5).take (Try.prog.cellsOf 36)) = some y2 := hf 2 _ rfl
      have h3 : DataW.trod enc Try.prog W 0 sp true m 37 (([u0, u1, u2, u3, u4, u5, u6].drop 6).take (Try.prog.cellsOf 37)) = some y3 := hf 3 _ rfl
      rw [cells35] at h0
      rw [cells3'] at h1
      rw [cells36] at h2
      rw [cells37] at h3
      simp only [List.drop_zero, List.drop_succ_cons, List.take_succ_cons, List.take_zero] at h0 h1 h2 h3
      obtain ⟨zs, k, _, _, hl4, hzl, hg⟩ := DataW.trod_struct Try.underlying35 h0
      have hz4 : zs.length = 4 := hzl
      have g0 : DataW.trod enc Try.prog W 0 sp true k 3 (([u0, u1, u2, u3].drop 0).take (Try.prog.cellsOf 3)) = zs[0]? := hg 0 _ rfl
      have g1 : DataW.trod enc Try.prog W 0 sp true k 3 (([u0, u1, u2, u3].drop 1).take (Try.prog.cellsOf 3)) = zs[1]? := hg 1 _ rfl
      have g2 : DataW.trod enc Try.prog W 0 sp true k 3 (([u0, u1, u2, u3].drop 2).take (Try.prog.cellsOf 3)) = zs[2]? := hg 2 _ rfl
      have g3 : DataW.trod enc Try.prog W 0 sp true k 3 (([u0, u1, u2, u3].drop 3).take (Try.prog.cellsOf 3)) = zs[3]? := hg 3 _ rfl
      rw [cells3'] at g0 g1 g2 g3
      rw [List.getElem?_eq_getElem (by rw [hz4]; decide)] at g0 g1 g2 g3
      obtain ⟨e, he, _⟩ := DataW.trod_int Try.underlying3 g0
      obtain ⟨l, hl, _⟩ := DataW.trod_int Try.underlying3 g1
      obtain ⟨i, hi, _⟩ := DataW.trod_int Try.underlying3 g2
      obtain ⟨c, hc, _⟩ := DataW.trod_int Try.underlying3 g3
      obtain ⟨b, hb, _⟩ := DataW.trod_int Try.underlying3 h1
      simp at he hl hi hc hb
      obtain ⟨X, s, cX, hX, r1, r2, r3, r4, _⟩ := open_row Try.underlying36 cells66' (by decide) eSlot (fun _ _ => True) elem66 h2
      obtain ⟨Y, hh, cY, hY, q1, q2, q3, q4, _⟩ := open_row Try.underlying37 cells3' (by decide) eInt (fun _ _ => True) elem3 h3
      refine ⟨⟨⟨e, l, i, c, b, s, hh⟩, X, cX, Y, cY⟩, by simp [eRw, he, hl, hi, hc, hb, hX, hY], ⟨r1, q1, r2, r3, q2, q3⟩, ?_, ?_⟩
      · exact Nat.le_trans r4 (bulks.agg_part (by simp))
      · exact Nat.le_trans q4 (bulks.agg_part (by simp))
/-- A list of contents that came in. -/
theorem open22 {fuel : Nat} {v : Value} {x : DataW H × List MemPlace} (h : DataW.trod enc Try.prog W 0 sp true fuel 22 [v] = some x) :
    ∃ (A : Option Addr) (fs : List Fl) (c : Nat), v = .slice A fs.length c ∧ Fls W W.heap.size A fs ∧ fs.length ≤ c ∧ c ≤ 9223372036854775807 ∧ fs.length ≤ Rows.uptoBulk x.1 ∧ ∀ f ∈ fs, f.slots.length ≤ Rows.uptoBulk x.1 ∧ f.have_.length ≤ Rows.uptoBulk x.1 := by
  obtain ⟨A, rs, c, rfl, h1, h2, h3, h4, h5⟩ := open_row Try.underlying22 cells39 (by decide) eRw (FlQ W) elem39 h
  refine ⟨A, rs.map Rw.f, c, by simp, rows_fls ⟨h1, fun r hr => by obtain ⟨b, _, hq⟩ := h5 r hr; exact hq.1⟩, by simpa using h2, h3, by simpa using h4, fun f hf => ?_⟩
  obtain ⟨r, hr, rfl⟩ := List.mem_map.1 hf
  obtain ⟨b, hb, hq⟩ := h5 r hr
  exact ⟨Nat.le_trans hq.2.1 hb, Nat.le_trans hq.2.2 hb⟩
end
end Go.Proofs.Ytcffhfcjfjfokaa
namespace Go.Proofs.Ytcffhfcjfjfokaa
open Go.RowKit Go.Deep Go.ChangeShapes Go.WideShapes
theorem more_one {fs gs : List Fl} {a b : Int} (h : ListedMore fs gs a) (k : ListedMore fs gs b) : a = b := by
  unfold ListedMore at h k
  split at h
  · rename_i hc; rw [if_pos hc] at k; exact together_one h k
  · rename_i hc; rw [if_neg hc] at k; rw [h, k]
theorem lacks_one {done : Int} {own : Fl} {fs : List Fl} {l l' : List (Int × Int)} {n n' : Int} (h : LacksIs done own fs l n) (k : LacksIs done own fs l' n') : l = l' ∧ n = n' := by
  unfold LacksIs at h k
  by_cases hd : 0 ≤ done ∧ done ≤ 4611686018427387904
  · rw [if_pos hd] at h k
    rcases h with ⟨m, hm, hL, rfl, rfl⟩ | ⟨hL, hf, hlt, rfl, rfl⟩ | ⟨hL, hf, hge, rfl, cut, F, hc, hF, rfl⟩ <;>
      rcases k with ⟨m', hm', hL', rfl, rfl⟩ | ⟨hL', hf', hlt', rfl, rfl⟩ | ⟨hL', hf', hge', rfl, cut', F', hc', hF', rfl⟩
    · exact ⟨rfl, more_one hL hL'⟩
    · exact absurd (more_one hL hL') hm
    · exact absurd (more_one hL hL') hm
    · exact absurd (more_one hL' hL) hm'
    · exact ⟨rfl, rfl⟩
    · omega
    · exact absurd (more_one hL' hL) hm'
    · omega
    · obtain rfl := cut_one hc hc'
      have : F = F' := funext fun pos => Option.ext fun s => by rw [hF pos s, hF' pos s]
      subst this
      exact ⟨rfl, rfl⟩
  · rw [if_neg hd] at h k
    exact ⟨by rw [h.2, k.2], by rw [h.1, k.1]⟩
theorem cells22' : Try.prog.cellsOf 22 = 1 := by kernel_rfl
theorem cells42 : Try.prog.cellsOf 42 = 13 := by kernel_rfl
section
variable {H : Type} {enc : TypeId × Value → H} {W : World} {sp : Nat → Bool}
set_option maxRecDepth 100000 in
/-- A case that came in: its contents, its own one, how far it is. -/
theorem open42 {fuel : Nat} {cs : List Value} {x : DataW H × List MemPlace} (h : DataW.trod enc Try.prog W 0 sp true fuel 42 cs = some x) :
    ∃ (A : Option Addr) (fs : List Fl) (c : Nat) (own : Fl) (X Y : Option Addr) (cX cY : Nat) (done : Int) (u : List Value), cs = .slice A fs.length c :: (flc own.e own.l own.i own.c own.base X own.slots.length cX Y own.have_.length cY).toList ++ .int .i64 done :: u ∧ u.length = 4 ∧
      Fls W W.heap.size A fs ∧ fs.length ≤ Rows.uptoBulk x.1 ∧ (∀ f ∈ fs, f.slots.length ≤ Rows.uptoBulk x.1 ∧ f.have_.length ≤ Rows.uptoBulk x.1) ∧ FlRows W W.heap.size own X cX Y cY ∧ own.slots.length ≤ Rows.uptoBulk x.1 ∧ own.have_.length ≤ Rows.uptoBulk x.1 := by
  obtain ⟨ys, m, _, rfl, hlen, hyl, hf⟩ := DataW.trod_struct Try.underlying42 h
  rw [cells42] at hlen
  have hyl7 : ys.length = 7 := hyl
  match cs, hlen with
  | [u0, u1, u2, u3, u4, u5, u6, u7, u8, u9, u10, u11, u12], _ =>
    match ys, hyl7 with
    | [y0, y1, y2, y3, y4, y5, y6], _ =>
      have h0 : DataW.trod enc Try.prog W 0 sp true m 22 (([u0, u1, u2, u3, u4, u5, u6, u7, u8, u9, u10, u11, u12].drop 0).take (Try.prog.cellsOf 22)) = some y0 := hf 0 _ rfl
      have h1 : DataW.trod enc Try.prog W 0 sp true m 39 (([u0, u1, u2, u3, u4, u5, u6, u7, u8, u9, u10, u11, u12].drop 1).take (Try.prog.cellsOf 39)) = some y1 := hf 1 _ rfl
      have h2 : DataW.trod enc Try.prog W 0 sp true m 3 (([u0, u1, u2, u3, u4, u5, u6, u7, u8, u9, u10, u11, u12].drop 8).take (Try.prog.cellsOf 3)) = some y2 := hf 2 _ rfl
      rw [cells22'] at h0
      rw [cells39] at h1
      rw [cells3'] at h2
      simp only [List.drop_zero, List.drop_succ_cons, List.take_succ_cons, List.take_zero] at h0 h1 h2
      obtain ⟨d, hd, _⟩ := DataW.trod_int Try.underlying3 h2
      obtain ⟨r, hr, hq⟩ := elem39 m _ y1 h1
      obtain ⟨A, fs, c, hA, a1, a2, a3, a4, a5⟩ := open22 h0
      have b0 : Rows.uptoBulk y0.1 ≤ Rows.uptoBulk (.agg ([y0, y1, y2, y3, y4, y5, y6].map (·.1))) := bulks.agg_part (by simp)
      have b1 : Rows.uptoBulk y1.1 ≤ Rows.uptoBulk (.agg ([y0, y1, y2, y3, y4, y5, y6].map (·.1))) := bulks.agg_part (by simp)
      simp at hd
      refine ⟨A, fs, c, r.f, r.X, r.Y, r.cX, r.cY, d, [u9, u10, u11, u12], ?_, rfl, a1, Nat.le_trans a4 b0, fun f hf => ⟨Nat.le_trans (a5 f hf).1 b0, Nat.le_trans (a5 f hf).2 b0⟩, hq.1, Nat.le_trans hq.2.1 b1, Nat.le_trans hq.2.2 b1⟩
      rw [hA, hd]
      simp [eRw] at hr
      simp [flc, hr]
end
end Go.Proofs.Ytcffhfcjfjfokaa
/- A case that came in, with its messages. -/
namespace Go.Proofs.Ytcffhfcjfjfokaa
open Go.RowKit Go.Deep Go.ChangeShapes Go.WideShapes
theorem cells113 : Try.prog.cellsOf 113 = 4 := by kernel_rfl
theorem cells40 : Try.prog.cellsOf 40 = 1 := by kernel_rfl
theorem cells52 : Try.prog.cellsOf 52 = 1 := by kernel_rfl
theorem cells5 : Try.prog.cellsOf 5 = 1 := by kernel_rfl
section
variable {H : Type} {enc : TypeId × Value → H} {W : World} {sp : Nat → Bool}
theorem elem5 (n : Nat) (cs : List Value) (y : DataW H × List MemPlace) (h : DataW.trod enc Try.prog W 0 sp true n 5 cs = some y) : ∃ x, cs = eByte x ∧ True := by
  obtain ⟨z, hz, _⟩ := DataW.trod_int Try.underlying5 h
  exact ⟨z, hz, trivial⟩
def DtQ (W : World) (r : Dr) (b : Nat) : Prop := BodyAt W W.heap.size r.B r.c r.d.body ∧ r.d.body.length ≤ b ∧ (Lit.int .i64 r.d.s).wf = true ∧ (Lit.int .i64 r.d.q).wf = true
set_option maxRecDepth 100000 in
theorem elem113 (n : Nat) (cs : List Value) (y : DataW H × List MemPlace) (h : DataW.trod enc Try.prog W 0 sp true n 113 cs = some y) : ∃ r, cs = eDr r ∧ DtQ W r (Rows.uptoBulk y.1) := by
  obtain ⟨ys, m, _, rfl, hlen, hyl, hf⟩ := DataW.trod_struct Try.underlying113 h
  rw [cells113] at hlen
  have hyl4 : ys.length = 4 := hyl
  match cs, hlen with
  | [u0, u1, u2, u3], _ =>
    match ys, hyl4 with
    | [y0, y1, y2, y3], _ =>
      have h0 : DataW.trod enc Try.prog W 0 sp true m 3 (([u0, u1, u2, u3].drop 0).take (Try.prog.cellsOf 3)) = some y0 := hf 0 _ rfl
      have h1 : DataW.trod enc Try.prog W 0 sp true m 3 (([u0, u1, u2, u3].drop 1).take (Try.prog.cellsOf 3)) = some y1 := hf 1 _ rfl
      have h2 : DataW.trod enc Try.prog W 0 sp true m 3 (([u0, u1, u2, u3].drop 2).take (Try.prog.cellsOf 3)) = some y2 := hf 2 _ rfl
      have h3 : DataW.trod enc Try.prog W 0 sp true m 52 (([u0, u1, u2, u3].drop 3).take (Try.prog.cellsOf 52)) = some y3 := hf 3 _ rfl
      rw [cells3'] at h0 h1 h2
      rw [cells52] at h3
      simp only [List.drop_zero, List.drop_succ_cons, List.take_succ_cons, List.take_zero] at h0 h1 h2 h3
      obtain ⟨a, ha, _, hwa⟩ := DataW.trod_int Try.underlying3 h0
      obtain ⟨b, hb, _, hwb⟩ := DataW.trod_int Try.underlying3 h1
      obtain ⟨c, hc, _⟩ := DataW.trod_int Try.underlying3 h2
      simp at ha hb hc
      obtain ⟨X, s, cX, hX, r1, r2, r3, r4, _⟩ := open_row Try.underlying52 cells5 (by decide) eByte (fun _ _ => True) elem5 h3
      refine ⟨⟨⟨a, b, c, s⟩, X, cX⟩, by simp [eDr, ha, hb, hc, hX], ⟨r1, r2, r3⟩, Nat.le_trans r4 (bulks.agg_part (by simp)), hwa, hwb⟩
/-- A list of messages that came in. -/
theorem open40 {fuel : Nat} {v : Value} {x : DataW H × List MemPlace} (h : DataW.trod enc Try.prog W 0 sp true fuel 40 [v] = some x) :
    ∃ (A : Option Addr) (ds : List Dt) (c : Nat), v = .slice A ds.length c ∧ Dts W W.heap.size A ds ∧ ds.length ≤ Rows.uptoBulk x.1 ∧ (∀ d ∈ ds, d.body.length ≤ Rows.uptoBulk x.1) ∧ KeyD ds := by
  obtain ⟨A, rs, c, rfl, h1, h2, h3, h4, h5⟩ := open_row Try.underlying40 cells113 (by decide) eDr (DtQ W) elem113 h
  refine ⟨A, rs.map Dr.d, c, by simp, ⟨rs, rfl, h1, fun r hr => by obtain ⟨b, _, hq⟩ := h5 r hr; exact hq.1⟩, by simpa using h4, fun d hd => ?_, fun d hd => ?_⟩
  · obtain ⟨r, hr, rfl⟩ := List.mem_map.1 hd
    obtain ⟨b, hb, hq⟩ := h5 r hr
    exact Nat.le_trans hq.2.1 hb
  · obtain ⟨r, hr, rfl⟩ := List.mem_map.1 hd
    obtain ⟨b, hb, hq⟩ := h5 r hr
    exact hq.2.2
set_option maxRecDepth 100000 in
/-- A case that came in: its contents, how far it is, its messages. -/
theorem open42m {fuel : Nat} {cs : List Value} {x : DataW H × List MemPlace} (h : DataW.trod enc Try.prog W 0 sp true fuel 42 cs = some x) :
    ∃ (A : Option Addr) (fs : List Fl) (c : Nat) (done : Int) (M : Option Addr) (ds : List Dt) (cM : Nat) (u1 u2 u3 u4 u5 u6 u7 u9 u10 u11 : Value), cs = [.slice A fs.length c, u1, u2, u3, u4, u5, u6, u7, .int .i64 done, u9, u10, u11, .slice M ds.length cM] ∧
      Fls W W.heap.size A fs ∧ fs.length ≤ Rows.uptoBulk x.1 ∧ (∀ f ∈ fs, f.slots.length ≤ Rows.uptoBulk x.1 ∧ f.have_.length ≤ Rows.uptoBulk x.1) ∧
      Dts W W.heap.size M ds ∧ ds.length ≤ Rows.uptoBulk x.1 ∧ (∀ d ∈ ds, d.body.length ≤ Rows.uptoBulk x.1) ∧ KeyD ds := by
  obtain ⟨ys, m, _, rfl, hlen, hyl, hf⟩ := DataW.trod_struct Try.underlying42 h
  rw [cells42] at hlen
  have hyl7 : ys.length = 7 := hyl
  match cs, hlen with
  | [u0, u1, u2, u3, u4, u5, u6, u7, u8, u9, u10, u11, u12], _ =>
    match ys, hyl7 with
    | [y0, y1, y2, y3, y4, y5, y6], _ =>
      have h0 : DataW.trod enc Try.prog W 0 sp true m 22 (([u0, u1, u2, u3, u4, u5, u6, u7, u8, u9, u10, u11, u12].drop 0).take (Try.prog.cellsOf 22)) = some y0 := hf 0 _ rfl
      have h2 : DataW.trod enc Try.prog W 0 sp true m 3 (([u0, u1, u2, u3, u4, u5, u6, u7, u8, u9, u10, u11, u12].drop 8).take (Try.prog.cellsOf 3)) = some y2 := hf 2 _ rfl
      have h6 : DataW.trod enc Try.prog W 0 sp true m 40 (([u0, u1, u2, u3, u4, u5, u6, u7, u8, u9, u10, u11, u12].drop 12).take (Try.prog.cellsOf 40)) = some y6 := hf 6 _ rfl
      rw [cells22'] at h0
      rw [cells3'] at h2
      rw [cells40] at h6
      simp only [List.drop_zero, List.drop_succ_cons, List.take_succ_cons, List.take_zero] at h0 h2 h6
      obtain ⟨d, hd, _⟩ := DataW.trod_int Try.underlying3 h2
      obtain ⟨A, fs, c, hA, a1, a2, a3, a4, a5⟩ := open22 h0
      obtain ⟨M, ds, cM, hM, q1, q2, q3, q4⟩ := open40 h6
      have b0 : Rows.uptoBulk y0.1 ≤ Rows.uptoBulk (.agg ([y0, y1, y2, y3, y4, y5, y6].map (·.1))) := bulks.agg_part (by simp)
      have b6 : Rows.uptoBulk y6.1 ≤ Rows.uptoBulk (.agg ([y0, y1, y2, y3, y4, y5, y6].map (·.1))) := bulks.agg_part (by simp)
      simp at hd
      refine ⟨A, fs, c, d, M, ds, cM, u1, u2, u3, u4, u5, u6, u7, u9, u10, u11, ?_, a1, Nat.le_trans a4 b0, fun f hf => ⟨Nat.le_trans (a5 f hf).1 b0, Nat.le_trans (a5 f hf).2 b0⟩, q1, Nat.le_trans q2 b6, fun d hd => Nat.le_trans (q3 d hd) b6, q4⟩
      rw [hA, hd, hM]
end
end Go.Proofs.Ytcffhfcjfjfokaa
/- A case that came in, with the nodes' numbers. -/
namespace Go.Proofs.Ytcffhfcjfjfokaa
open Go.RowKit Go.Deep Go.ChangeShapes Go.WideShapes
section
variable {H : Type} {enc : TypeId × Value → H} {W : World} {sp : Nat → Bool}
set_option maxRecDepth 100000 in
/-- A case that came in: its contents, its own one, how far it is, the nodes' numbers, the two nodes. -/
theorem open42w {fuel : Nat} {cs : List Value} {x : DataW H × List MemPlace} (h : DataW.trod enc Try.prog W 0 sp true fuel 42 cs = some x) :
    ∃ (A : Option Addr) (fs : List Fl) (c : Nat) (own : Fl) (X Y : Option Addr) (cX cY : Nat) (done : Int) (C : Option Addr) (who : List Int) (cC : Nat) (self q : Int) (u : Value), cs = .slice A fs.length c :: (flc own.e own.l own.i own.c own.base X own.slots.length cX Y own.have_.length cY).toList ++ [.int .i64 done, .slice C who.length cC, .int .i64 self, .int .i64 q, u] ∧
      Fls W W.heap.size A fs ∧ fs.length ≤ Rows.uptoBulk x.1 ∧ (∀ f ∈ fs, f.slots.length ≤ Rows.uptoBulk x.1 ∧ f.have_.length ≤ Rows.uptoBulk x.1) ∧ FlRows W W.heap.size own X cX Y cY ∧ own.slots.length ≤ Rows.uptoBulk x.1 ∧ own.have_.length ≤ Rows.uptoBulk x.1 ∧
      RowAt W W.heap.size 1 eInt C who ∧ who.length ≤ cC ∧ cC ≤ 9223372036854775807 ∧ who.length ≤ Rows.uptoBulk x.1 := by
  obtain ⟨ys, m, _, rfl, hlen, hyl, hf⟩ := DataW.trod_struct Try.underlying42 h
  rw [cells42] at hlen
  have hyl7 : ys.length = 7 := hyl
  match cs, hlen with
  | [u0, u1, u2, u3, u4, u5, u6, u7, u8, u9, u10, u11, u12], _ =>
    match ys, hyl7 with
    | [y0, y1, y2, y3, y4, y5, y6], _ =>
      have h0 : DataW.trod enc Try.prog W 0 sp true m 22 (([u0, u1, u2, u3, u4, u5, u6, u7, u8, u9, u10, u11, u12].drop 0).take (Try.prog.cellsOf 22)) = some y0 := hf 0 _ rfl
      have h1 : DataW.trod enc Try.prog W 0 sp true m 39 (([u0, u1, u2, u3, u4, u5, u6, u7, u8, u9, u10, u11, u12].drop 1).take (Try.prog.cellsOf 39)) = some y1 := hf 1 _ rfl
      have h2 : DataW.trod enc Try.prog W 0 sp true m 3 (([u0, u1, u2, u3, u4, u5, u6, u7, u8, u9, u10, u11, u12].drop 8).take (Try.prog.cellsOf 3)) = some y2 := hf 2 _ rfl
      have h3 : DataW.trod enc Try.prog W 0 sp true m 37 (([u0, u1, u2, u3, u4, u5, u6, u7, u8, u9, u10, u11, u12].drop 9).take (Try.prog.cellsOf 37)) = some y3 := hf 3 _ rfl
      have h4 : DataW.trod enc Try.prog W 0 sp true m 3 (([u0, u1, u2, u3, u4, u5, u6, u7, u8, u9, u10, u11, u12].drop 10).take (Try.prog.cellsOf 3)) = some y4 := hf 4 _ rfl
      have h5 : DataW.trod enc Try.prog W 0 sp true m 3 (([u0, u1, u2, u3, u4, u5, u6, u7, u8, u9, u10, u11, u12].drop 11).take (Try.prog.cellsOf 3)) = some y5 := hf 5 _ rfl
      rw [cells22'] at h0
      rw [cells39] at h1
      rw [cells3'] at h2 h4 h5
      rw [cells37] at h3
      simp only [List.drop_zero, List.drop_succ_cons, List.take_succ_cons, List.take_zero] at h0 h1 h2 h3 h4 h5
      obtain ⟨d, hd, _⟩ := DataW.trod_int Try.underlying3 h2
      obtain ⟨self, hse, _⟩ := DataW.trod_int Try.underlying3 h4
      obtain ⟨q, hqe, _⟩ := DataW.trod_int Try.underlying3 h5
      obtain ⟨r, hr, hq⟩ := elem39 m _ y1 h1
      obtain ⟨A, fs, c, hA, a1, a2, a3, a4, a5⟩ := open22 h0
      obtain ⟨C, who, cC, hC, q1, q2, q3, q4, _⟩ := open_row Try.underlying37 cells3' (by decide) eInt (fun _ _ => True) elem3 h3
      have b0 : Rows.uptoBulk y0.1 ≤ Rows.uptoBulk (.agg ([y0, y1, y2, y3, y4, y5, y6].map (·.1))) := bulks.agg_part (by simp)
      have b1 : Rows.uptoBulk y1.1 ≤ Rows.uptoBulk (.agg ([y0, y1, y2, y3, y4, y5, y6].map (·.1))) := bulks.agg_part (by simp)
      have b3 : Rows.uptoBulk y3.1 ≤ Rows.uptoBulk (.agg ([y0, y1, y2, y3, y4, y5, y6].map (·.1))) := bulks.agg_part (by simp)
      simp at hd hse hqe
      refine ⟨A, fs, c, r.f, r.X, r.Y, r.cX, r.cY, d, C, who, cC, self, q, u12, ?_, a1, Nat.le_trans a4 b0, fun f hf => ⟨Nat.le_trans (a5 f hf).1 b0, Nat.le_trans (a5 f hf).2 b0⟩, hq.1, Nat.le_trans hq.2.1 b1, Nat.le_trans hq.2.2 b1, q1, q2, q3, Nat.le_trans q4 b3⟩
      rw [hA, hd, hC, hse, hqe]
      simp [eRw] at hr
      simp [flc, hr]
end
end Go.Proofs.Ytcffhfcjfjfokaa
/- A whole case that came in. -/
namespace Go.Proofs.Ytcffhfcjfjfokaa
open Go.RowKit Go.Deep Go.ChangeShapes Go.WideShapes
structure Cx where
  A : Option Addr
  cA : Nat
  fs : List Fl
  own : Fl
  X : Option Addr
  cX : Nat
  Y : Option Addr
  cY : Nat
  done : Int
  C : Option Addr
  cC : Nat
  who : List Int
  self : Int
  q : Int
  M : Option Addr
  cM : Nat
  ms : List Dr
def cxA (o : Cx) : Array Value := #[.slice o.A o.fs.length o.cA, .int .i64 o.own.e, .int .i64 o.own.l, .int .i64 o.own.i, .int .i64 o.own.c, .int .i64 o.own.base, .slice o.X o.own.slots.length o.cX, .slice o.Y o.own.have_.length o.cY, .int .i64 o.done, .slice o.C o.who.length o.cC, .int .i64 o.self, .int .i64 o.q, .slice o.M o.ms.length o.cM]
structure CxAt (w : World) (N : Nat) (o : Cx) : Prop where
  fls : Fls w N o.A o.fs
  sm : Small o.fs
  cap : o.fs.length ≤ o.cA
  own : FlRows w N o.own o.X o.cX o.Y o.cY
  o1 : o.own.slots.length ≤ 1048576
  o2 : o.own.have_.length ≤ 1048576
  who : RowAt w N 1 eInt o.C o.who
  wl : o.who.length ≤ 1048576
  ms : Drs w N o.M o.ms
  sd : SmallD (o.ms.map Dr.d)
  kd : KeyD (o.ms.map Dr.d)
theorem CxAt.below {w w' : World} {N N' : Nat} {o : Cx} (h : CxAt w N o) (hb : Below N' w w') (hN : N ≤ N') : CxAt w' N o :=
  ⟨h.fls.below hb hN, h.sm, h.cap, h.own.below hb hN, h.o1, h.o2, h.who.below hb hN, h.wl, ⟨h.ms.row.below hb hN, fun r hr => (h.ms.each r hr).below hb hN⟩, h.sd, h.kd⟩
section
variable {H : Type} {enc : TypeId × Value → H} {W : World} {sp : Nat → Bool}
set_option maxRecDepth 100000 in
/-- A case that came in, of bulk at most 1048576. -/
theorem open42x {fuel : Nat} {cs : List Value} {x : DataW H × List MemPlace} (h : DataW.trod enc Try.prog W 0 sp true fuel 42 cs = some x) (hk : Rows.uptoBulk x.1 ≤ 1048576) : ∃ o : Cx, cs = (cxA o).toList ∧ CxAt W W.heap.size o := by
  obtain ⟨ys, m, _, rfl, hlen, hyl, hf⟩ := DataW.trod_struct Try.underlying42 h
  rw [cells42] at hlen
  have hyl7 : ys.length = 7 := hyl
  match cs, hlen with
  | [u0, u1, u2, u3, u4, u5, u6, u7, u8, u9, u10, u11, u12], _ =>
    match ys, hyl7 with
    | [y0, y1, y2, y3, y4, y5, y6], _ =>
      have h0 : DataW.trod enc Try.prog W 0 sp true m 22 (([u0, u1, u2, u3, u4, u5, u6, u7, u8, u9, u10, u11, u12].drop 0).take (Try.prog.cellsOf 22)) = some y0 := hf 0 _ rfl
      have h1 : DataW.trod enc Try.prog W 0 sp true m 39 (([u0, u1, u2, u3, u4, u5, u6, u7, u8, u9, u10, u11, u12].drop 1).take (Try.prog.cellsOf 39)) = some y1 := hf 1 _ rfl
      have h2 : DataW.trod enc Try.prog W 0 sp true m 3 (([u0, u1, u2, u3, u4, u5, u6, u7, u8, u9, u10, u11, u12].drop 8).take (Try.prog.cellsOf 3)) = some y2 := hf 2 _ rfl
      have h3 : DataW.trod enc Try.prog W 0 sp true m 37 (([u0, u1, u2, u3, u4, u5, u6, u7, u8, u9, u10, u11, u12].drop 9).take (Try.prog.cellsOf 37)) = some y3 := hf 3 _ rfl
      have h4 : DataW.trod enc Try.prog W 0 sp true m 3 (([u0, u1, u2, u3, u4, u5, u6, u7, u8, u9, u10, u11, u12].drop 10).take (Try.prog.cellsOf 3)) = some y4 := hf 4 _ rfl
      have h5 : DataW.trod enc Try.prog W 0 sp true m 3 (([u0, u1, u2, u3, u4, u5, u6, u7, u8, u9, u10, u11, u12].drop 11).take (Try.prog.cellsOf 3)) = some y5 := hf 5 _ rfl
      have h6 : DataW.trod enc Try.prog W 0 sp true m 40 (([u0, u1, u2, u3, u4, u5, u6, u7, u8, u9, u10, u11, u12].drop 12).take (Try.prog.cellsOf 40)) = some y6 := hf 6 _ rfl
      rw [cells22'] at h0
      rw [cells39] at h1
      rw [cells3'] at h2 h4 h5
      rw [cells37] at h3
      rw [cells40] at h6
      simp only [List.drop_zero, List.drop_succ_cons, List.take_succ_cons, List.take_zero] at h0 h1 h2 h3 h4 h5 h6
      obtain ⟨d, hd, _⟩ := DataW.trod_int Try.underlying3 h2
      obtain ⟨self, hse, _⟩ := DataW.trod_int Try.underlying3 h4
      obtain ⟨q, hqe, _⟩ := DataW.trod_int Try.underlying3 h5
      obtain ⟨r, hr, hq⟩ := elem39 m _ y1 h1
      obtain ⟨A, fs, c, hA, a1, a2, a3, a4, a5⟩ := open22 h0
      obtain ⟨C, who, cC, hC, q1, q2, q3, q4, _⟩ := open_row Try.underlying37 cells3' (by decide) eInt (fun _ _ => True) elem3 h3
      obtain ⟨M, rs, cM, hM, m1, m2, m3, m4, m5⟩ := open_row Try.underlying40 cells113 (by decide) eDr (DtQ W) elem113 h6
      have b0 : Rows.uptoBulk y0.1 ≤ 1048576 := Nat.le_trans (bulks.agg_part (by simp)) hk
      have b1 : Rows.uptoBulk y1.1 ≤ 1048576 := Nat.le_trans (bulks.agg_part (by simp)) hk
      have b3 : Rows.uptoBulk y3.1 ≤ 1048576 := Nat.le_trans (bulks.agg_part (by simp)) hk
      have b6 : Rows.uptoBulk y6.1 ≤ 1048576 := Nat.le_trans (bulks.agg_part (by simp)) hk
      simp at hd hse hqe
      have hms : ∀ x ∈ rs, DtQ W x 1048576 := fun x hx => by
        obtain ⟨b, hb, hq⟩ := m5 x hx
        exact ⟨hq.1, Nat.le_trans hq.2.1 (Nat.le_trans hb b6), hq.2.2⟩
      refine ⟨⟨A, c, fs, r.f, r.X, r.cX, r.Y, r.cY, d, C, cC, who, self, q, M, cM, rs⟩, ?_, ⟨a1, ⟨Nat.le_trans a4 b0, fun f hf => ⟨Nat.le_trans (a5 f hf).1 b0, Nat.le_trans (a5 f hf).2 b0⟩⟩, a2, hq.1, Nat.le_trans hq.2.1 b1, Nat.le_trans hq.2.2 b1, q1, Nat.le_trans q4 b3, ⟨m1, fun x hx => (hms x hx).1⟩, ⟨by rw [List.length_map]; exact Nat.le_trans m4 b6, fun x hx => ?_⟩, fun x hx => ?_⟩⟩
      · rw [hA, hd, hC, hse, hqe, hM]
        simp [eRw] at hr
        simp [cxA, hr]
      · obtain ⟨y, hy, rfl⟩ := List.mem_map.1 hx
        exact (hms y hy).2.1
      · obtain ⟨y, hy, rfl⟩ := List.mem_map.1 hx
        exact (hms y hy).2.2
end
end Go.Proofs.Ytcffhfcjfjfokaa
/- Words for FlushPlace. -/
namespace Go.Proofs.Ytcffhfcjfjfokaa
open Go Go.RowKit
theorem VSl.upto {A : Option Addr} {n c es h : Nat} {K : Value → Prop} (hh : h ≤ c) (hk : K (.slice A h c)) : VSl A n c es 0 h K :=
  .mk 0 h rfl rfl (Nat.zero_le _) hh (by
    have e : (if c = 0 then A else A.map (·.add (0 * es))) = A := by
      split
      · rfl
      · cases A with
        | none => rfl
        | some a => simp [Addr.add]
    rw [e, Nat.sub_zero]; exact hk)
theorem fls_take {w : World} {N : Nat} {A : Option Addr} {fs : List Fl} (h : Fls w N A fs) (n : Nat) : Fls w N A (fs.take n) := fun h0 => by
  have h1 : 0 < fs.length := by rw [List.length_take] at h0; omega
  obtain ⟨b, off, e, hb, hc⟩ := h h1
  refine ⟨b, off, e, hb, fun k f hf => hc k f ?_⟩
  have hk := (List.getElem?_eq_some_iff.1 hf).1
  rw [List.getElem?_take_of_lt (by rw [List.length_take] at hk; omega)] at hf
  exact hf
theorem small_take {fs : List Fl} (h : Small fs) (n : Nat) : Small (fs.take n) := ⟨by rw [List.length_take]; have := h.1; omega, fun f hf => h.2 f (List.mem_of_mem_take hf)⟩
theorem small_own {f : Fl} (h1 : f.slots.length ≤ 1048576) (h2 : f.have_.length ≤ 1048576) : Small [f] := ⟨by simp, fun g hg => by obtain rfl := List.mem_singleton.1 hg; exact ⟨h1, h2⟩⟩
theorem flAt_of {w : World} {N g o : Nat} {f : Fl} {X Y : Option Addr} {cX cY : Nat} (hr : w.rangeAt g o (flc f.e f.l f.i f.c f.base X f.slots.length cX Y f.have_.length cY).toList) : FlAt w N g o f X cX Y cY :=
  ⟨hr 0 _ rfl, hr 1 _ rfl, hr 2 _ rfl, hr 3 _ rfl, hr 4 _ rfl, hr 5 _ rfl, hr 6 _ rfl⟩
theorem inFs_one {w : World} {N g : Nat} {F : List Nat} {f : Fl} {X Y : Option Addr} {cX cY : Nat} (hg : g < w.heap.size) (hF : g ∉ F) (hr : w.rangeAt g 0 (flc f.e f.l f.i f.c f.base X f.slots.length cX Y f.have_.length cY).toList) (h : FlRows w N f X cX Y cY) : InFs w N F (some ⟨g, 0, none⟩) [f] := fun _ =>
  ⟨g, 0, rfl, hg, hF, fun k f' hf => by
    have hk := (List.getElem?_eq_some_iff.1 hf).1
    have hk0 : k = 0 := by simpa using hk
    subst hk0
    injection hf with hf; subst hf
    exact ⟨X, cX, Y, cY, by rw [Nat.zero_mul]; exact flAt_of hr, h⟩⟩
theorem fls_one {w : World} {N g : Nat} {f : Fl} {X Y : Option Addr} {cX cY : Nat} (hg : g < w.heap.size) (hN : N ≤ w.heap.size) (hr : w.rangeAt g 0 (flc f.e f.l f.i f.c f.base X f.slots.length cX Y f.have_.length cY).toList) (h : FlRows w N f X cX Y cY) : Fls w w.heap.size (some ⟨g, 0, none⟩) [f] := fun _ =>
  ⟨g, 0, rfl, hg, fun k f' hf => by
    have hk := (List.getElem?_eq_some_iff.1 hf).1
    have hk0 : k = 0 := by simpa using hk
    subst hk0
    injection hf with hf; subst hf
    exact ⟨X, cX, Y, cY, by rw [Nat.zero_mul]; exact flAt_of hr, h.below (Below.refl N w) (Nat.le_refl _) |>.more hN⟩⟩
theorem bs37z (W : World) : (Instr.buildSlice 37 0 #[]).run Try.prog W = .ok (.slice (some ⟨W.heap.size, 0, none⟩) 0 0) (W.alloc (.cells #[] 3)) := by kernel_rfl
theorem cxA_one (o : Cx) : (cxA o).all (·.oneCell') = true := by
  refine all_oneCell_toArray (cs := (cxA o).toList) fun u hu => ?_
  simp [cxA] at hu
  rcases hu with rfl | rfl | rfl | rfl | rfl | rfl | rfl | rfl | rfl | rfl | rfl | rfl | rfl <;> rfl
def zero42 : Value := .agg #[.slice none 0 0, .int .i64 0, .int .i64 0, .int .i64 0, .int .i64 0, .int .i64 0, .slice none 0 0, .slice none 0 0, .int .i64 0, .slice none 0 0, .int .i64 0, .int .i64 0, .slice none 0 0]
theorem run_zero42 (W : World) : (zeroValue 42).run Try.prog W = .ok zero42 W := by kernel_rfl
/-- What is known of the messages at hand. -/
def MsOk (rm : List Dr) : Prop := rm.length ≤ 1048576 ∧ ∀ r ∈ rm, r.d.body.length ≤ 1048576 ∧ (Lit.int .i64 r.d.s).wf = true ∧ (Lit.int .i64 r.d.q).wf = true
theorem MsOk.small {rm : List Dr} (h : MsOk rm) : SmallD (rm.map Dr.d) := ⟨by rw [List.length_map]; exact h.1, fun d hd => by obtain ⟨r, hr, rfl⟩ := List.mem_map.1 hd; exact (h.2 r hr).1⟩
theorem MsOk.key {rm : List Dr} (h : MsOk rm) : KeyD (rm.map Dr.d) := fun d hd => by obtain ⟨r, hr, rfl⟩ := List.mem_map.1 hd; exact (h.2 r hr).2
theorem MsOk.of {rm rs : List Dr} (h : SmallD (rs.map Dr.d)) (hk : KeyD (rs.map Dr.d)) (e : rm.map Dr.d = rs.map Dr.d) : MsOk rm := by
  rw [← e] at h hk
  exact ⟨by have := h.1; rwa [List.length_map] at this, fun r hr => ⟨h.2 r.d (List.mem_map.2 ⟨r, hr, rfl⟩), hk r.d (List.mem_map.2 ⟨r, hr, rfl⟩)⟩⟩
theorem MsOk.set {rm : List Dr} (h : MsOk rm) {i : Nat} {r : Dr} (h1 : r.d.body.length ≤ 1048576) (h2 : (Lit.int .i64 r.d.s).wf = true ∧ (Lit.int .i64 r.d.q).wf = true) : MsOk (rm.set i r) :=
  ⟨by rw [List.length_set]; exact h.1, fun x hx => by
    rcases List.mem_or_eq_of_mem_set hx with e | e
    · exact h.2 x e
    · subst e; exact ⟨h1, h2⟩⟩
/-- The state at the head of a turn. -/
structure PlI (w0 : World) (base b : Nat) (vs : List Value) (n : Nat) (k : Nat) (x : RX) (W : World) : Prop where
  k : k ≤ 3
  r : Room base b vs x W
  b : Below base w0 W
  a : x.ra.length = n
  o : x.ro.length = 1
  m : MsOk x.rm
end Go.Proofs.Ytcffhfcjfjfokaa
/- The bodies that came out, written over one by one, a longer one beside each. No program in sight. -/
namespace Go.Proofs.Ytcffhfcjfjfokaa
open Go.RowKit
theorem flat_bytes : ∀ l : List Int, l.flatMap eByte = l.map fun n => .int .u8 n
  | [] => rfl
  | x :: l => by rw [List.flatMap_cons, flat_bytes l]; rfl
theorem Owns.set1 {w : World} {base g c k : Nat} {l : List Int} (h : Owns w base 5 1 eByte (some ⟨g, 0, none⟩) c l) (v : Int) :
    Owns (w.setCell ⟨g, k, none⟩ (.int .u8 v)) base 5 1 eByte (some ⟨g, 0, none⟩) c (l.set k v) := by
  have h1 := (World.ownsRow.stored h k (.int .u8 v)).1
  rw [flat_bytes] at h1
  unfold Owns
  rw [List.length_set, flat_bytes, List.map_set]
  exact h1
theorem grown_set (w : World) (g k : Nat) (v : Value) : w.grownBy (w.setCell ⟨g, k, none⟩ v) (some g) :=
  ⟨rfl, rfl, rfl, by rw [World.size_setCell]; exact Nat.le_refl _, fun i _ hne => Below.heap_setCell _ _ _ _ (fun e => hne (by rw [e]))⟩
def by8 (k : Int) : Int := k % 256
theorem upto_set {l : List Int} {j : Nat} {v : Int} (h : upto (fun x => x = v) l j) : upto (fun x => x = v) (l.set j v) (j + 1) := fun k x hk hx => by
  by_cases e : k = j
  · subst e
    obtain ⟨hl, e2⟩ := List.getElem?_eq_some_iff.1 hx
    rw [List.getElem_set_self] at e2
    exact e2.symm
  · rw [List.getElem?_set_ne (fun e2 => e e2.symm)] at hx
    exact h k x (by omega) hx
theorem upto_rep {l : List Int} {n : Nat} {v : Int} (h : upto (fun x => x = v) l n) (hl : l.length = n) : l = List.replicate n v :=
  List.eq_replicate_iff.2 ⟨hl, upto_all h (by omega)⟩
theorem restTo_body {F : Int → Option (Int × Int)} {ds : List Dt} {done : Int} : ∀ {k : Nat} {l : List Dt}, RestTo F ds done k l → ∀ m ∈ l, ∃ d ∈ ds, m.body = d.body
  | 0, _, .nil => fun m hm => by cases hm
  | k + 1, _, .snoc h hs hd => fun m hm => by
    rcases List.mem_append.1 hm with hm | hm
    · exact restTo_body h m hm
    · obtain rfl := List.mem_singleton.1 hm
      obtain ⟨i, a1, _⟩ := hd
      exact ⟨_, List.mem_of_getElem? a1, rfl⟩
theorem restTo_len {F : Int → Option (Int × Int)} {ds : List Dt} {done : Int} : ∀ {k : Nat} {l : List Dt}, RestTo F ds done k l → l.length = k
  | 0, _, .nil => rfl
  | k + 1, _, .snoc h hs hd => by rw [List.length_append, restTo_len h]; rfl
theorem restIs_len {done : Int} {fs : List Fl} {ds ms : List Dt} {n : Int} (h : RestIs done fs ds ms n) : ms.length ≤ 4096 := by
  unfold RestIs at h
  split at h
  · rcases h with ⟨_, _, _, _, rfl⟩ | ⟨_, _, _, _, rfl⟩ | ⟨_, hf, hge, cut, F, hc, _, ⟨_, hr⟩ | ⟨_, rfl, _⟩⟩
    · simp
    · simp
    · rw [restTo_len hr]
      have := cut_bound hf (n := (cut - baseOf fs).toNat) (fun p h1 h2 => hc.all p h1 (by have := hc.low; omega))
      omega
    · simp
  · rw [h.2]; simp
theorem restIs_body {done : Int} {fs : List Fl} {ds ms : List Dt} {n : Int} (h : RestIs done fs ds ms n) : ∀ m ∈ ms, ∃ d ∈ ds, m.body = d.body := fun m hm => by
  unfold RestIs at h
  split at h
  · rcases h with ⟨_, _, _, _, rfl⟩ | ⟨_, _, _, _, rfl⟩ | ⟨_, _, _, cut, F, _, _, ⟨_, hr⟩ | ⟨_, rfl, _⟩⟩
    · cases hm
    · cases hm
    · exact restTo_body hr m hm
    · cases hm
  · rw [h.2] at hm; cases hm
/-- A slice in a list of slices. -/
structure Sl where
  A : Option Addr
  n : Nat
  c : Nat
def eSl (x : Sl) : List Value := [.slice x.A x.n x.c]
theorem len_eSl (x : Sl) : (eSl x).length = 1 := rfl
theorem one_eSl (x : Sl) : ∀ u ∈ eSl x, u.oneCell' = true := by intro u hu; simp [eSl] at hu; subst hu; rfl
theorem info52 : (Try.prog.info? 52).map (fun i => (i.zero, i.size, i.bytes)) = some (some (.slice none 0 0), 1, 24) := by kernel_rfl
/-- A row of bytes in a block that lies with B's, or behind all that were there. -/
def Beside (W0 : Nat) (A B : Option Addr) : Prop := blk A = blk B ∨ ∃ g, blk A = some g ∧ W0 ≤ g
/-- The first i bodies are written over, with a longer one beside each; the others are as they came. -/
structure RI (w : World) (b0 W0 : Nat) (rs : List Dr) (i : Nat) (ms : List Sl) : Prop where
  len : ms.length = i
  done : ∀ (k : Nat) (r : Dr), k < i → rs[k]? = some r → ∃ A' c', ms[k]? = some ⟨A', r.d.body.length + 1, c'⟩ ∧ Owns w b0 5 1 eByte r.B r.c (List.replicate r.d.body.length (by8 k)) ∧
    Owns w b0 5 1 eByte A' c' (List.replicate r.d.body.length (by8 k) ++ [by8 (100 + k)]) ∧ Beside W0 A' r.B
  todo : ∀ (k : Nat) (r : Dr), i ≤ k → rs[k]? = some r → Owns w b0 5 1 eByte r.B r.c r.d.body
/-- Two of the bodies lie apart. -/
theorem sep_ne {rs : List Dr} (h : rs.Pairwise fun a b => blk a.B = none ∨ blk a.B ≠ blk b.B) {k i : Nat} {a b : Dr} (ha : rs[k]? = some a) (hb : rs[i]? = some b) (hne : k ≠ i) : blk a.B = none ∨ blk a.B ≠ blk b.B := by
  obtain ⟨hk, ea⟩ := List.getElem?_eq_some_iff.1 ha
  obtain ⟨hi, eb⟩ := List.getElem?_eq_some_iff.1 hb
  rcases Nat.lt_or_gt_of_ne hne with hlt | hgt
  · have := List.pairwise_iff_getElem.1 h k i hk hi hlt
    rw [ea, eb] at this; exact this
  · have := List.pairwise_iff_getElem.1 h i k hi hk hgt
    rw [ea, eb] at this
    rcases this with h0 | h0
    · rw [h0]
      cases blk a.B with
      | none => exact .inl rfl
      | some g => exact .inr (by simp)
    · exact .inr fun e => h0 e.symm
theorem RI.next {wa wb wc wd : World} {b0 W0 : Nat} {rs : List Dr} {i : Nat} {ms : List Sl} {r : Dr} {A' : Option Addr} {c' cO : Nat} {O : Option Addr} {o o' : Obj}
    (h : RI wa b0 W0 rs i ms) (hsep : rs.Pairwise fun a b => blk a.B = none ∨ blk a.B ≠ blk b.B) (hr : rs[i]? = some r) (hlow : ∀ a ∈ rs, ∀ k, blk a.B = some k → k < W0) (hW : W0 ≤ wa.heap.size)
    (hg1 : wa.grownBy wb (blk r.B)) (hg2 : (wb.alloc o).grownBy wc (blk r.B)) (hold : Owns wc b0 5 1 eByte r.B r.c (List.replicate r.d.body.length (by8 i))) (hnew : Owns wc b0 5 1 eByte A' c' (List.replicate r.d.body.length (by8 i) ++ [by8 (100 + i)]))
    (hk : blk A' = blk r.B ∨ blk A' = some (wb.alloc o).heap.size) (hO : Owns wc b0 52 1 eSl O cO ms) (hg3 : (wc.alloc o').grownBy wd (blk O)) : RI wd b0 W0 rs (i + 1) (ms ++ [⟨A', r.d.body.length + 1, c'⟩]) := by
  have hs1 := hg1.size
  have tail : ∀ {X : Option Addr} {c : Nat} {l : List Int}, Owns wc b0 5 1 eByte X c l → Owns wd b0 5 1 eByte X c l := fun hX => (hX.alloc o').kept hg3 ((hX.alloc o').ne (hO.alloc o') (by decide))
  have go : ∀ {X : Option Addr} {c : Nat} {l : List Int}, Owns wa b0 5 1 eByte X c l → (blk X = none ∨ blk X ≠ blk r.B) → Owns wd b0 5 1 eByte X c l := fun hX hne =>
    tail (((hX.kept hg1 hne).alloc o).kept hg2 hne)
  have far : ∀ {X : Option Addr} {a : Dr} {k : Nat}, rs[k]? = some a → k ≠ i → Beside W0 X a.B → (blk X = none ∨ blk X ≠ blk r.B) := fun {X a k} ha hne hb => by
    rcases hb with hb | ⟨g, hg, hg0⟩
    · rw [hb]; exact sep_ne hsep ha hr hne
    · refine .inr fun e => ?_
      rw [hg] at e
      have := hlow r (List.mem_of_getElem? hr) g e.symm
      omega
  refine ⟨by rw [List.length_append, h.len]; rfl, fun k a hki ha => ?_, fun k a hki ha => ?_⟩
  · by_cases e : k = i
    · subst e
      rw [hr] at ha; cases ha
      refine ⟨A', c', by rw [List.getElem?_append_right (by rw [h.len]; exact Nat.le_refl _), h.len, Nat.sub_self]; rfl, tail hold, tail hnew, ?_⟩
      rcases hk with hk | hk
      · exact .inl hk
      · refine .inr ⟨_, hk, ?_⟩
        simp only [World.size_alloc]
        omega
    · obtain ⟨A2, c2, h1, h2, h3, h4⟩ := h.done k a (by omega) ha
      exact ⟨A2, c2, by rw [List.getElem?_append_left (by rw [h.len]; omega)]; exact h1, go h2 (sep_ne hsep ha hr e), go h3 (far ha e h4), h4⟩
  · exact go (h.todo k a (by omega) ha) (sep_ne hsep ha hr (by omega))
end Go.Proofs.Ytcffhfcjfjfokaa
/- The numbers of the nodes whose contents they are. Plain words, no program in sight. -/
namespace Go.Proofs.Ytcffhfcjfjfokaa
open Go.RowKit
/-- Each a node's number, no two alike. -/
def nodeIn (x : Int) : Prop := 0 ≤ x ∧ x < 16
def WhoOk (who : List Int) : Prop := (∀ x ∈ who, nodeIn x) ∧ who.Nodup
/-- The place of a node in the first k of a list; -1: it is not there. -/
def PlTo (who : List Int) (t : Int) (k : Nat) (r : Int) : Prop := (r = -1 ∧ upto (fun x => x ≠ t) who k) ∨ (∃ i : Nat, i < k ∧ who[i]? = some t ∧ r = i)
theorem plTo_zero (who : List Int) (t : Int) : PlTo who t 0 (-1) := .inl ⟨rfl, upto_zero _ _⟩
theorem plTo_skip {who : List Int} {t x : Int} {k : Nat} {r : Int} (h : PlTo who t k r) (hx : who[k]? = some x) (hne : x ≠ t) : PlTo who t (k + 1) r := by
  rcases h with ⟨rfl, hu⟩ | ⟨i, hi, hw, rfl⟩
  · exact .inl ⟨rfl, upto_succ hu (fun y hy => by rw [hx] at hy; cases hy; exact hne)⟩
  · exact .inr ⟨i, by omega, hw, rfl⟩
theorem plTo_here {who : List Int} {t : Int} {k : Nat} (hx : who[k]? = some t) : PlTo who t (k + 1) k := .inr ⟨k, by omega, hx, rfl⟩
def PlaceIs (who : List Int) (t r : Int) : Prop := (∃ i : Nat, WhoOk who ∧ who[i]? = some t ∧ r = i) ∨ (r = -1 ∧ ¬ (WhoOk who ∧ t ∈ who))
theorem place_bad {who : List Int} {t : Int} (h : ¬ WhoOk who) : PlaceIs who t (-1) := .inr ⟨rfl, fun k => h k.1⟩
theorem bad_in {who : List Int} {q : Nat} {x : Int} (hx : who[q]? = some x) (h : x < 0 ∨ 16 ≤ x) : ¬ WhoOk who := fun k => by
  have := k.1 x (List.mem_of_getElem? hx); unfold nodeIn at this; omega
theorem bad_twice {who : List Int} {q j : Nat} {x : Int} (hx : who[q]? = some x) (hy : who[j]? = some x) (h : j < q) : ¬ WhoOk who := fun k =>
  apart_of_nodup k.2 (by omega : j ≠ q) hy hx
theorem who_ok {who : List Int} {q : Nat} (h1 : upto nodeIn who q) (h2 : apartTo who q) (hq : who.length ≤ q) : WhoOk who := ⟨upto_all h1 hq, nodup_of_apart h2 hq⟩
theorem place_all {who : List Int} {t : Int} {q : Nat} {r : Int} (h1 : upto nodeIn who q) (h2 : apartTo who q) (h : PlTo who t q r) (hq : who.length ≤ q) : PlaceIs who t r := by
  rcases h with ⟨rfl, hu⟩ | ⟨i, hi, hw, rfl⟩
  · exact .inr ⟨rfl, fun k => upto_all hu hq t k.2 rfl⟩
  · exact .inl ⟨i, who_ok h1 h2 hq, hw, rfl⟩

/-- The place of the lowest node of the first k that has what is asked for; -1: none has. hs: who has it. -/
def LowTo (who : List Int) (hs : List Bool) (k : Nat) (r : Int) : Prop :=
  (r = -1 ∧ ∀ j, j < k → hs[j]? ≠ some true) ∨ (∃ (i : Nat) (x : Int), i < k ∧ hs[i]? = some true ∧ who[i]? = some x ∧ r = i ∧ ∀ j y, j < k → hs[j]? = some true → who[j]? = some y → x ≤ y)
theorem lowTo_zero (who : List Int) (hs : List Bool) : LowTo who hs 0 (-1) := .inl ⟨rfl, fun j hj => by omega⟩
theorem lowTo_skip {who : List Int} {hs : List Bool} {k : Nat} {r : Int} (h : LowTo who hs k r) (hx : hs[k]? = some false) : LowTo who hs (k + 1) r := by
  rcases h with ⟨rfl, hu⟩ | ⟨i, x, hi, h1, h2, rfl, hu⟩
  · refine .inl ⟨rfl, fun j hj => ?_⟩
    by_cases e : j = k
    · subst e; rw [hx]; simp
    · exact hu j (by omega)
  · refine .inr ⟨i, x, by omega, h1, h2, rfl, fun j y hj hj1 hj2 => ?_⟩
    by_cases e : j = k
    · subst e; rw [hx] at hj1; simp at hj1
    · exact hu j y (by omega) hj1 hj2
theorem lowTo_first {who : List Int} {hs : List Bool} {k : Nat} {x : Int} (h : LowTo who hs k (-1)) (hx : hs[k]? = some true) (hw : who[k]? = some x) : LowTo who hs (k + 1) k := by
  rcases h with ⟨_, hu⟩ | ⟨i, x', hi, h1, h2, e, hu⟩
  · refine .inr ⟨k, x, by omega, hx, hw, rfl, fun j y hj hj1 hj2 => ?_⟩
    by_cases e : j = k
    · subst e; rw [hw] at hj2; cases hj2; omega
    · exact absurd hj1 (hu j (by omega))
  · omega
theorem lowTo_less {who : List Int} {hs : List Bool} {k i : Nat} {x y : Int} (h : LowTo who hs k i) (hy : who[i]? = some y) (hx : hs[k]? = some true) (hw : who[k]? = some x) (hlt : x < y) : LowTo who hs (k + 1) k := by
  rcases h with ⟨e, hu⟩ | ⟨i', x', hi, h1, h2, e, hu⟩
  · omega
  · obtain rfl : i' = i := by omega
    rw [hy] at h2; cases h2
    refine .inr ⟨k, x, by omega, hx, hw, rfl, fun j z hj hj1 hj2 => ?_⟩
    by_cases e : j = k
    · subst e; rw [hw] at hj2; cases hj2; omega
    · have := hu j z (by omega) hj1 hj2; omega
theorem lowTo_stay {who : List Int} {hs : List Bool} {k i : Nat} {x y : Int} (h : LowTo who hs k i) (hy : who[i]? = some y) (hw : who[k]? = some x) (hle : y ≤ x) : LowTo who hs (k + 1) i := by
  rcases h with ⟨e, hu⟩ | ⟨i', x', hi, h1, h2, e, hu⟩
  · omega
  · obtain rfl : i' = i := by omega
    rw [hy] at h2; cases h2
    refine .inr ⟨i', y, by omega, h1, hy, rfl, fun j z hj hj1 hj2 => ?_⟩
    by_cases e : j = k
    · subst e; rw [hw] at hj2; cases hj2; omega
    · exact hu j z (by omega) hj1 hj2

/-- The places' table, behind the first k: by node, its place in the list, from 1 on; 0: it is not there. -/
structure PlArr (who : List Int) (k : Nat) (arr : List Int) : Prop where
  len : arr.length = 16
  put : ∀ (i : Nat) (x : Int), i < k → who[i]? = some x → 0 ≤ x ∧ x < 16 ∧ arr[x.toNat]? = some ((i : Int) + 1)
  get : ∀ (p : Nat) (v : Int), arr[p]? = some v → v = 0 ∨ ∃ i : Nat, i < k ∧ v = i + 1 ∧ who[i]? = some (p : Int)
theorem plArr_zero (who : List Int) : PlArr who 0 (List.replicate 16 0) := ⟨rfl, fun i x h => by omega, fun p v h => by
  left; have := List.mem_of_getElem? h; exact List.eq_of_mem_replicate this⟩
theorem plArr_succ {who : List Int} {k p : Nat} {arr : List Int} (h : PlArr who k arr) (hx : who[k]? = some (p : Int)) (hp : p < 16) (h0 : arr[p]? = some 0) : PlArr who (k + 1) (arr.set p ((k : Int) + 1)) := by
  refine ⟨by rw [List.length_set]; exact h.len, fun i x hi hw => ?_, fun p' v hv => ?_⟩
  · by_cases e : i = k
    · subst e; rw [hx] at hw; cases hw
      refine ⟨by omega, by omega, ?_⟩
      rw [Int.toNat_natCast, List.getElem?_set_self (by rw [h.len]; exact hp)]
    · obtain ⟨a, b, c⟩ := h.put i x (by omega) hw
      refine ⟨a, b, ?_⟩
      rw [List.getElem?_set_ne]
      · exact c
      · intro e2; subst e2; rw [c] at h0; simp at h0; omega
  · by_cases e : p' = p
    · subst e
      rw [List.getElem?_set_self (by rw [h.len]; exact hp)] at hv
      cases hv
      exact .inr ⟨k, by omega, rfl, hx⟩
    · rw [List.getElem?_set_ne (fun e2 => e e2.symm)] at hv
      rcases h.get p' v hv with h | ⟨i, hi, a, b⟩
      · exact .inl h
      · exact .inr ⟨i, by omega, a, b⟩
theorem PlArr.apart {who : List Int} {k p : Nat} {arr : List Int} (h : PlArr who k arr) (hx : who[k]? = some (p : Int)) (h0 : arr[p]? = some 0) : upto (fun x => who[k]? ≠ some x) who k := by
  intro j y hj hy e
  rw [hx] at e; cases e
  obtain ⟨_, _, c⟩ := h.put j _ hj hy
  rw [Int.toNat_natCast, h0] at c
  simp at c; omega
theorem PlArr.twice {who : List Int} {k p : Nat} {arr : List Int} {v : Int} (h : PlArr who k arr) (hx : who[k]? = some (p : Int)) (hv : arr[p]? = some v) (h0 : v ≠ 0) : ¬ WhoOk who := by
  rcases h.get p v hv with e | ⟨i, hi, a, b⟩
  · exact absurd e h0
  · exact bad_twice hx b hi
/-- A node in the table: its place. -/
theorem PlArr.here {who : List Int} {arr : List Int} {p : Nat} {v : Int} (h : PlArr who who.length arr) (hv : arr[p]? = some v) (h0 : v ≠ 0) : ∃ i : Nat, v = i + 1 ∧ who[i]? = some (p : Int) ∧ i < who.length := by
  rcases h.get p v hv with e | ⟨i, hi, a, b⟩
  · exact absurd e h0
  · exact ⟨i, a, b, hi⟩
theorem PlArr.gone {who : List Int} {arr : List Int} {p : Nat} (h : PlArr who who.length arr) (hv : arr[p]? = some 0) : (p : Int) ∉ who := fun hm => by
  obtain ⟨i, hi, e⟩ := List.getElem_of_mem hm
  obtain ⟨_, _, c⟩ := h.put i p hi (by rw [List.getElem?_eq_getElem hi, e])
  rw [Int.toNat_natCast, hv] at c; simp at c; omega
end Go.Proofs.Ytcffhfcjfjfokaa
