/- Sto1 StepApp Res Twin Sto2, joined. -/
import Derived.RegionTactic
import Derived.Laws.ResultCell
import Derived.StillTailTactics
import Derived.Test.YtcffhfcjfjfokaaSw1
import Derived.Test.YtcffhfcjfjfokaaSw4
set_option linter.unusedVariables false
set_option linter.unusedSimpArgs false
/- The stores' small calls: the order of two messages, New, Begin. -/
namespace Go.Proofs.Ytcffhfcjfjfokaa
open Go.RowKit
abbrev drA (r : Dr) : Array Value := #[.int .i64 r.d.s, .int .i64 r.d.q, .int .i64 r.d.b, .slice r.B r.d.body.length r.c]
set_option maxHeartbeats 1000000 in
theorem less_any (x y : Dr) (w : World) : Calls Try.prog 109 #[.agg (drA x), .agg (drA y)] w fun r w' => r = .returned (.bool (aheadB x.d y.d)) ∧ Below w.heap.size w w' := by
  have hbx := below_box2 w (drA x) 113 (drA y) 113
  replace hbx := Lib.hid hbx
  by_cases h1 : x.d.s < y.d.s
  · have he : aheadB x.d y.d = true := decide_eq_true (.inl h1)
    go_enter Try.func109, Try.ntmps109
    go_wp2
    go_ret
    exact ⟨ret_bool he.symm, hbx.out⟩
  · have b1 : decide (x.d.s < y.d.s) = false := decide_eq_false h1
    by_cases h2 : x.d.s = y.d.s
    · have b2 : (x.d.s == y.d.s) = true := by simp [h2]
      have he : aheadB x.d y.d = decide (x.d.q < y.d.q) := by unfold aheadB; simp [h2]
      replace h1 := Lib.hid h1
      replace h2 := Lib.hid h2
      replace he := Lib.hid he
      go_enter Try.func109, Try.ntmps109
      go_wp2
      go_ret
      exact ⟨ret_bool he.out.symm, hbx.out⟩
    · have b2 : (x.d.s == y.d.s) = false := by simp [h2]
      have he : aheadB x.d y.d = false := decide_eq_false (by omega)
      replace h1 := Lib.hid h1
      replace h2 := Lib.hid h2
      replace he := Lib.hid he
      go_enter Try.func109, Try.ntmps109
      go_wp2
      go_ret
      exact ⟨ret_bool he.out.symm, hbx.out⟩
set_option maxHeartbeats 1000000 in
theorem ahead_any (x y : Dr) (w : World) : Calls Try.prog 119 #[.agg (drA x), .agg (drA y)] w fun r w' => r = .returned (.bool (aheadB x.d y.d)) ∧ Below w.heap.size w w' := by
  have hbx := below_box2 w (drA x) 113 (drA y) 113
  replace hbx := Lib.hid hbx
  by_cases h1 : x.d.s < y.d.s
  · have he : aheadB x.d y.d = true := decide_eq_true (.inl h1)
    go_enter Try.func119, Try.ntmps119
    go_wp2
    go_ret
    exact ⟨ret_bool he.symm, hbx.out⟩
  · have b1 : decide (x.d.s < y.d.s) = false := decide_eq_false h1
    by_cases h2 : x.d.s = y.d.s
    · have b2 : (x.d.s == y.d.s) = true := by simp [h2]
      have he : aheadB x.d y.d = decide (x.d.q < y.d.q) := by unfold aheadB; simp [h2]
      replace h1 := Lib.hid h1
      replace h2 := Lib.hid h2
      replace he := Lib.hid he
      go_enter Try.func119, Try.ntmps119
      go_wp2
      go_ret
      exact ⟨ret_bool he.out.symm, hbx.out⟩
    · have b2 : (x.d.s == y.d.s) = false := by simp [h2]
      have he : aheadB x.d y.d = false := decide_eq_false (by omega)
      replace h1 := Lib.hid h1
      replace h2 := Lib.hid h2
      replace he := Lib.hid he
      go_enter Try.func119, Try.ntmps119
      go_wp2
      go_ret
      exact ⟨ret_bool he.out.symm, hbx.out⟩
theorem info171 : (Try.prog.info? 171).map (fun i => (i.zero, i.size, i.bytes)) = some (some (.agg kpZ), 8, 96) := by kernel_rfl
theorem info173 : (Try.prog.info? 173).map (fun i => (i.zero, i.size, i.bytes)) = some (some (.agg kpZ), 8, 96) := by kernel_rfl
theorem run_mk135 (W : World) (n : Nat) (hn : n ≤ 16) : (Instr.makeSlice 135 (.int .i64 n) (.int .i64 n)).run Try.prog W = .ok (.slice (some ⟨W.heap.size, 0, none⟩) n n) (W.alloc (.cells (madeCells kpZ (n * 8)) 171)) := by
  obtain ⟨i, hi, hz, hs, hb⟩ := info_parts info171
  have := run_makeSlice (P := Try.prog) W 135 171 i _ Try.underlying135 hi hz .i64 .i64 n n (by omega) (by omega) (by rw [hs]; omega) (by rw [hb]; omega) (by omega)
  simpa [hs, Value.cells] using this
theorem run_mk138 (W : World) (n : Nat) (hn : n ≤ 16) : (Instr.makeSlice 138 (.int .i64 n) (.int .i64 n)).run Try.prog W = .ok (.slice (some ⟨W.heap.size, 0, none⟩) n n) (W.alloc (.cells (madeCells kpZ (n * 8)) 173)) := by
  obtain ⟨i, hi, hz, hs, hb⟩ := info_parts info173
  have := run_makeSlice (P := Try.prog) W 138 173 i _ Try.underlying138 hi hz .i64 .i64 n n (by omega) (by omega) (by rw [hs]; omega) (by rw [hb]; omega) (by omega)
  simpa [hs, Value.cells] using this
def KpX.zero : KpX := ⟨Kp.zero, none, 0, none, 0⟩
theorem made_kp (n q : Nat) (hq : q < n) (j : Nat) (u : Value) (hu : (eKp KpX.zero)[j]? = some u) : (madeCells kpZ (n * 8))[q * 8 + j]? = some u := by
  have hj : j < 8 := by have := (List.getElem?_eq_some_iff.1 hu).1; rwa [len_eKp] at this
  have hlt : q * 8 + j < n * 8 := by omega
  unfold madeCells
  rw [Array.getElem?_map, Array.getElem?_range, if_pos hlt]
  have e : (q * 8 + j) % kpZ.size = j := by show (q * 8 + j) % 8 = j; omega
  show some (kpZ[(q * 8 + j) % kpZ.size]!) = some u
  rw [e]
  rcases j with _ | _ | _ | _ | _ | _ | _ | _ | j
  all_goals first | exact hu | omega
/-- A new store. -/
theorem stV_new {w : World} {n oK oV T : Nat} (h1 : 1 ≤ n) (h2 : n ≤ 16) {b g : Nat} {w' : World} {cs : Array Value} (hw : w' = (w.alloc (.cells (madeCells kpZ (n * 8)) T)).alloc (.cells cs 137) ∨ w' = (w.alloc (.cells (madeCells kpZ (n * 8)) T)).alloc (.cells cs 140)) (hs : cs.size = 7)
    (hb : b = w.heap.size + 1) (hg : g = w.heap.size) (c0 : cs[oK]? = some (.slice (some ⟨g, 0, none⟩) n n)) (c1 : cs[oV]? = some (.int .i64 0)) (c2 : cs[oV + 1]? = some (.int .i64 0)) (c3 : cs[oV + 2]? = some (.int .i64 0)) (c4 : cs[oV + 3]? = some (.int .i64 0)) (c5 : cs[6]? = some (.slice none 0 0)) :
    StV w' [b, g] b g oK oV (stoNew n) (List.replicate n KpX.zero) none 0 [] ∧ (∀ o u, cs[o]? = some u → w'.cell? ⟨b, o, none⟩ = some u) ∧ Below w.heap.size w w' := by
  obtain ⟨T2, hw⟩ : ∃ T2, w' = (w.alloc (.cells (madeCells kpZ (n * 8)) T)).alloc (.cells cs T2) := by rcases hw with e | e <;> exact ⟨_, e⟩
  obtain ⟨wm, hwm⟩ : ∃ wm, wm = w.alloc (.cells (madeCells kpZ (n * 8)) T) := ⟨_, rfl⟩
  rw [← hwm] at hw
  have zm : wm.heap.size = w.heap.size + 1 := by rw [hwm]; simp
  have hc : ∀ o u, cs[o]? = some u → w'.cell? ⟨b, o, none⟩ = some u := fun o u hu => by
    rw [hw, hb, ← zm, World.cell?_alloc_at _ _ _ _ rfl]; exact hu
  have hgk : w'.heap[g]? = wm.heap[g]? := by rw [hw]; exact heap_alloc_old _ _ (by omega)
  have tg : wm.there w.heap.size 0 (n * 8) := by
    have := there_new w (madeCells kpZ (n * 8)) T
    rw [size_madeCells] at this; rw [hwm]; exact this
  have tb : w'.there b 0 7 := by
    have := there_new wm cs T2
    rw [hs, zm, ← hw, ← hb] at this; exact this
  have hbel : Below w.heap.size w w' := by rw [hw, hwm]; exact below_box2 _ _ _ _ _
  have hsz : w'.heap.size = w.heap.size + 2 := by rw [hw, World.size_alloc, zm]
  refine ⟨⟨hc _ _ c0, hc _ _ c1, hc _ _ c2, hc _ _ c3, hc _ _ c4, hc _ _ c5, tb, fun q x hx => ?_, ?_, ?_, fun x hx => ?_, rfl, rowF_nil, fun r hr => (by cases hr), ⟨Nat.le_refl _, by omega⟩, List.mem_cons_self .., List.mem_cons_of_mem _ (List.mem_cons_self ..), by omega, fun x hx => ?_, new_sinv h1 h2⟩, hc, hbel⟩
  · obtain ⟨hq, e⟩ := List.getElem?_eq_some_iff.1 hx
    rw [List.length_replicate] at hq
    rw [List.getElem_replicate] at e
    subst e
    refine range_same (w := wm) (fun j u hu => ?_) hgk
    rw [hg, hwm, World.cell?_alloc_at _ _ _ _ rfl]
    exact made_kp n q hq j u hu
  · rw [hg]; exact there_same tg (by rw [← hg]; exact hgk)
  · show (List.replicate n KpX.zero).map _ = List.replicate n Kp.zero
    rw [List.map_replicate]; rfl
  · obtain rfl := List.eq_of_mem_replicate hx
    exact ⟨fun h => absurd h (Nat.lt_irrefl _), fun h => absurd h (Nat.lt_irrefl _), Nat.le_refl _, by show 0 ≤ _; omega, Nat.le_refl _, by show 0 ≤ _; omega⟩
  · rcases List.mem_cons.1 hx with e | e
    · omega
    · have := List.mem_singleton.1 e; omega
theorem build137 (W : World) (A : Option Addr) (n c : Nat) : (Instr.build 137 #[(0, .slice A n c)]).run Try.prog W = .ok (.agg #[.slice A n c, .int .i64 0, .int .i64 0, .int .i64 0, .int .i64 0, .bool false, .slice none 0 0]) W := by kernel_rfl
theorem build140 (W : World) (k : Int) (A : Option Addr) (n c : Nat) : (Instr.build 140 #[(0, .int .i64 k), (1, .slice A n c)]).run Try.prog W = .ok (.agg #[.int .i64 k, .slice A n c, .int .i64 0, .int .i64 0, .int .i64 0, .int .i64 0, .slice none 0 0]) W := by kernel_rfl
def newOk (n : Int) : Bool := decide (1 ≤ n ∧ n ≤ 16)
set_option maxHeartbeats 1000000 in
theorem snew_no (n : Int) (w : World) (h : newOk n = false) : Calls Try.prog 42 #[.int .i64 n] w fun x w' => x = .returned (.tuple #[.pointer none, .int .i64 1]) ∧ w' = w := by
  have h' : ¬ (1 ≤ n ∧ n ≤ 16) := of_decide_eq_false h
  replace h := Lib.hid h
  by_cases h1 : n < 1
  · go_enter Try.func42, Try.ntmps42
    go_wp2
    go_ret2
    exact ⟨rfl, rfl⟩
  · have b1 : decide (n < 1) = false := decide_eq_false h1
    have h2 : 16 < n := by omega
    replace h1 := Lib.hid h1
    go_enter Try.func42, Try.ntmps42
    go_wp2
    go_ret2
    exact ⟨rfl, rfl⟩
set_option maxHeartbeats 1000000 in
theorem rsnew_no (n : Int) (w : World) (h : newOk n = false) : Calls Try.prog 43 #[.int .i64 n] w fun x w' => x = .returned (.tuple #[.pointer none, .int .i64 1]) ∧ w' = w := by
  have h' : ¬ (1 ≤ n ∧ n ≤ 16) := of_decide_eq_false h
  replace h := Lib.hid h
  by_cases h1 : n < 1
  · go_enter Try.func43, Try.ntmps43
    go_wp2
    go_ret2
    exact ⟨rfl, rfl⟩
  · have b1 : decide (n < 1) = false := decide_eq_false h1
    have h2 : 16 < n := by omega
    replace h1 := Lib.hid h1
    go_enter Try.func43, Try.ntmps43
    go_wp2
    go_ret2
    exact ⟨rfl, rfl⟩
set_option maxHeartbeats 1000000 in
theorem snew_yes (n : Nat) (w : World) (h1 : 1 ≤ n) (h2 : n ≤ 16) : Calls Try.prog 42 #[.int .i64 n] w fun x w' => ∃ b g, x = .returned (.tuple #[.pointer (some ⟨b, 0, none⟩), .int .i64 0]) ∧ StV w' [b, g] b g 0 1 (stoNew n) (List.replicate n KpX.zero) none 0 [] ∧ w'.cell? ⟨b, 5, none⟩ = some (.bool false) ∧ Below w.heap.size w w' ∧ w.heap.size ≤ g ∧ w.heap.size ≤ b := by
  have b1 : decide ((n : Int) < 1) = false := decide_eq_false (by omega)
  have b2 : decide ((16 : Int) < (n : Int)) = false := decide_eq_false (by omega)
  have hmk := run_mk135 w n h2
  have hbu := fun W => build137 W (some ⟨w.heap.size, 0, none⟩) n n
  go_enter Try.func42, Try.ntmps42
  go_wp2
  obtain ⟨k1, k2, k3⟩ := stV_new (w := w) (n := n) (oK := 0) (oV := 1) (T := 171) h1 h2 (b := w.heap.size + 1) (g := w.heap.size) (cs := #[.slice (some ⟨w.heap.size, 0, none⟩) n n, .int .i64 0, .int .i64 0, .int .i64 0, .int .i64 0, .bool false, .slice none 0 0]) (.inl rfl) rfl rfl rfl rfl rfl rfl rfl rfl rfl
  replace k1 := Lib.hid k1
  replace k2 := Lib.hid k2
  replace k3 := Lib.hid k3
  clear hmk hbu
  go_ret2
  exact ⟨_, _, rfl, k1.out, k2.out 5 _ rfl, k3.out, Nat.le_refl _, Nat.le_succ _⟩
set_option maxHeartbeats 1000000 in
theorem rsnew_yes (n : Nat) (w : World) (h1 : 1 ≤ n) (h2 : n ≤ 16) : Calls Try.prog 43 #[.int .i64 n] w fun x w' => ∃ b g, x = .returned (.tuple #[.pointer (some ⟨b, 0, none⟩), .int .i64 0]) ∧ StV w' [b, g] b g 1 2 (stoNew n) (List.replicate n KpX.zero) none 0 [] ∧ w'.cell? ⟨b, 0, none⟩ = some (.int .i64 n) ∧ Below w.heap.size w w' ∧ w.heap.size ≤ g ∧ w.heap.size ≤ b := by
  have b1 : decide ((n : Int) < 1) = false := decide_eq_false (by omega)
  have b2 : decide ((16 : Int) < (n : Int)) = false := decide_eq_false (by omega)
  have hmk := run_mk138 w n h2
  have hbu := fun W => build140 W n (some ⟨w.heap.size, 0, none⟩) n n
  go_enter Try.func43, Try.ntmps43
  go_wp2
  obtain ⟨k1, k2, k3⟩ := stV_new (w := w) (n := n) (oK := 1) (oV := 2) (T := 173) h1 h2 (b := w.heap.size + 1) (g := w.heap.size) (cs := #[.int .i64 n, .slice (some ⟨w.heap.size, 0, none⟩) n n, .int .i64 0, .int .i64 0, .int .i64 0, .int .i64 0, .slice none 0 0]) (.inr rfl) rfl rfl rfl rfl rfl rfl rfl rfl rfl
  replace k1 := Lib.hid k1
  replace k2 := Lib.hid k2
  replace k3 := Lib.hid k3
  clear hmk hbu
  go_ret2
  exact ⟨_, _, rfl, k1.out, k2.out 0 _ rfl, k3.out, Nat.le_refl _, Nat.le_succ _⟩
/-- The store's view and messages are written. -/
theorem StV.begun {w w' : World} {F : List Nat} {b g oK oV : Nat} {s : Sto} {ks : List KpX} {Mp : Option Addr} {cM : Nat} {ms : List Dr} (h : StV w F b g oK oV s ks Mp cM ms) (hg : w.grownBy w' (some b)) (e l i c : Int)
    (ck : w'.cell? ⟨b, oK, none⟩ = some (.slice (some ⟨g, 0, none⟩) s.n s.n)) (c1 : w'.cell? ⟨b, oV, none⟩ = some (.int .i64 e)) (c2 : w'.cell? ⟨b, oV + 1, none⟩ = some (.int .i64 l)) (c3 : w'.cell? ⟨b, oV + 2, none⟩ = some (.int .i64 i)) (c4 : w'.cell? ⟨b, oV + 3, none⟩ = some (.int .i64 c)) (c6 : w'.cell? ⟨b, 6, none⟩ = some (.slice none 0 0)) (ht : w'.there b 0 7) :
    StV w' F b g oK oV (s.begin_ e l i c) ks none 0 [] := by
  have hs := hg.size
  have hgk := hg.block g (h.hi g h.gF) (by intro e; injection e with e; exact h.bg e.symm)
  exact ⟨ck, c1, c2, c3, c4, c6, ht, fun q x hx => range_same (h.krow q x hx) hgk, there_same h.kthere hgk, h.kk, fun x hx => (h.kS x hx).keep hs (fun k hk hn => hg.block k hk (by intro e; injection e with e; subst e; exact hn h.bF)), rfl, rowF_nil, fun r hr => (by cases hr), ⟨Nat.le_refl _, by omega⟩, h.bF, h.gF, h.bg, fun x hx => Nat.lt_of_lt_of_le (h.hi x hx) hs, begin_sinv h.inv e l i c⟩
theorem size35 : (Try.prog.info? 35).map (·.size) = some 4 := by kernel_rfl
theorem one_ints4 (x y z t : Int) : (#[.int .i64 x, .int .i64 y, .int .i64 z, .int .i64 t] : Array Value).all (·.oneCell') = true := by
  refine all_oneCell_toArray (cs := [.int .i64 x, .int .i64 y, .int .i64 z, .int .i64 t]) fun u hu => ?_
  simp at hu; rcases hu with rfl | rfl | rfl | rfl <;> rfl
theorem load35 {w : World} {b o : Nat} {e l i c : Int} (h : w.rangeAt b o [.int .i64 e, .int .i64 l, .int .i64 i, .int .i64 c]) : (loadVar 35 ⟨b, o, none⟩).run Try.prog w = .ok (.agg #[.int .i64 e, .int .i64 l, .int .i64 i, .int .i64 c]) w :=
  run_loadVar_mid w b o 35 [.int .i64 e, .int .i64 l, .int .i64 i, .int .i64 c] _ h Try.underlying35 rfl (by rw [size35]; rfl)
theorem wpList_store35 {ops : Array Oper} {rest : List Oper} {op : Oper} {a : Act} {w : World} {Q : Exit → Act → World → Prop} (hgd : op.guard = none) (x y : Operand) (ho : op.op = .store 35 x y) (b off : Nat) (hx : a.eval x = .pointer (some ⟨b, off, none⟩)) (e l i c : Int) (hy : a.eval y = .agg #[.int .i64 e, .int .i64 l, .int .i64 i, .int .i64 c]) (ht : w.there b off 4)
    (h : ∀ w', Hid (w' = w.setCells b off [.int .i64 e, .int .i64 l, .int .i64 i, .int .i64 c]) → wpList Try.prog ops Q rest (a.put op.dst undef) w') : wpList Try.prog ops Q (op :: rest) a w :=
  wpList_store_mid hgd 35 x y ho b off #[.int .i64 e, .int .i64 l, .int .i64 i, .int .i64 c] hx hy ht (by rw [size35]; rfl) (one_ints4 e l i c) (h _ (Lib.hid rfl))
set_option maxRecDepth 100000 in
set_option maxHeartbeats 1000000 in
theorem begin_any {w : World} {F : List Nat} {b g : Nat} {s : Sto} {ks : List KpX} {Mp : Option Addr} {cM : Nat} {ms : List Dr} {bg : Bool} (h : StV w F b g 0 1 s ks Mp cM ms) (hb5 : w.cell? ⟨b, 5, none⟩ = some (.bool bg)) (e l i c : Int) :
    Calls Try.prog 75 #[.pointer (some ⟨b, 0, none⟩), .agg #[.int .i64 e, .int .i64 l, .int .i64 i, .int .i64 c]] w fun x w' => x = .returned (.tuple #[]) ∧ StV w' F b g 0 1 (s.begin_ e l i c) ks none 0 [] ∧ w'.cell? ⟨b, 5, none⟩ = some (.bool true) ∧ w.grownBy w' (some b) := by
  obtain ⟨wA, hwA⟩ : ∃ wA, wA = w.alloc (.cells #[.int .i64 e, .int .i64 l, .int .i64 i, .int .i64 c] 35) := ⟨_, rfl⟩
  have hbA : Below w.heap.size w wA := by rw [hwA]; exact below_box1 _ _ _
  have oA : wA.rangeAt w.heap.size 0 [.int .i64 e, .int .i64 l, .int .i64 i, .int .i64 c] := by rw [hwA]; exact range_new w #[.int .i64 e, .int .i64 l, .int .i64 i, .int .i64 c] 35
  have hA := h.below hbA
  have hbz := h.hi b h.bF
  have t0 := hA.there
  have hld := load35 oA
  have s5 : wA.cell? ⟨b, 5, none⟩ = some (.bool bg) := (hbA.cell (p := ⟨b, 5, none⟩) hbz).trans hb5
  have gA : w.grownBy wA (some b) := World.grownBy.but (grown_below hbA) (some b)
  replace s5 := Lib.hid s5
  replace hld := Lib.hid hld
  replace gA := Lib.hid gA
  replace t0 := Lib.hid t0
  replace hwA := Lib.hid hwA
  replace hA := Lib.hid hA
  replace h := Lib.hid h
  clear oA hbA hb5
  go_enter Try.func75, Try.ntmps75
  go_wp2_with (first
    | (rw [← hwA.out]
       refine wpList_loadR rfl 35 (.tmp 3) rfl w.heap.size 0 (by rfl) _ (by exact hld.out) ?_)
    | (refine wpList_store35 rfl (.tmp 9) (.tmp 7) rfl b 1 (by rfl) e l i c (by rfl) (World.there.at t0.out (by omega)) ?_
       intro w2 hw2
       have t2 : w2.there b 0 7 := by rw [hw2.out]; exact World.there_setCells t0.out _ _ _
       have r2 : w2.rangeAt b 1 [.int .i64 e, .int .i64 l, .int .i64 i, .int .i64 c] := by rw [hw2.out]; exact rng_in t0.out (by show 1 + 4 ≤ 7; omega)
       have k2 : w2.cell? ⟨b, 0, none⟩ = some (.slice (some ⟨g, 0, none⟩) s.n s.n) := by rw [hw2.out]; exact cell_out hA.out.ck (by omega)
       have g2 : wA.grownBy w2 (some b) := by rw [hw2.out]; exact grown_sets _ _ _ _
       have m5 : w2.cell? ⟨b, 5, none⟩ = some (.bool bg) := by rw [hw2.out]; exact cell_out s5.out (.inr (by show 1 + 4 ≤ 5; omega))
       have m6 : w2.cell? ⟨b, 6, none⟩ = some (.slice Mp ms.length cM) := by rw [hw2.out]; exact cell_out hA.out.cm (.inr (by show 1 + 4 ≤ 6; omega))
       have f5 : w2.frozen? ⟨b, 5, none⟩ = false := there_frozen (k := 5) t2 (by omega)
       have f6 : w2.frozen? ⟨b, 6, none⟩ = false := there_frozen (k := 6) t2 (by omega)
       replace t2 := Lib.hid t2
       replace r2 := Lib.hid r2
       replace k2 := Lib.hid k2
       replace g2 := Lib.hid g2)
    | fail)
  have e1 : ([.bool true] : List Value).length = 1 := rfl
  have e2 : ([.slice none 0 0] : List Value).length = 1 := rfl
  have o1 : ∀ {j : Nat} {u : Value}, w2.cell? ⟨b, j, none⟩ = some u → j < 5 → ((w2.setCells b 5 [.bool true]).setCells b 6 [.slice none 0 0]).cell? ⟨b, j, none⟩ = some u := fun hu hj => cell_out (cell_out hu (.inl hj)) (.inl (by omega))
  have g3 : wA.grownBy ((w2.setCells b 5 [.bool true]).setCells b 6 [.slice none 0 0]) (some b) := g2.out.trans ((grown_sets _ _ _ _).trans (grown_sets _ _ _ _))
  have t3 : (w2.setCells b 5 [.bool true]).there b 0 7 := World.there_setCells t2.out _ _ _
  have h3 := hA.out.begun g3 e l i c (o1 k2.out (by omega)) (o1 (r2.out 0 _ rfl) (by omega)) (o1 (r2.out 1 _ rfl) (by omega)) (o1 (r2.out 2 _ rfl) (by omega)) (o1 (r2.out 3 _ rfl) (by omega)) (cell_in (i := 0) t3 (by omega) rfl) (World.there_setCells t3 _ _ _)
  have h5 : ((w2.setCells b 5 [.bool true]).setCells b 6 [.slice none 0 0]).cell? ⟨b, 5, none⟩ = some (.bool true) := cell_out (cell_in (i := 0) t2.out (by omega) rfl) (.inl (by omega))
  replace h3 := Lib.hid h3
  replace h5 := Lib.hid h5
  replace g3 := Lib.hid g3
  clear o1
  go_end0
  exact ⟨rfl, h3.out, h5.out, gA.out.trans g3.out⟩
set_option maxRecDepth 100000 in
set_option maxHeartbeats 1000000 in
theorem rbegin_any {w : World} {F : List Nat} {b g : Nat} {s : Sto} {ks : List KpX} {Mp : Option Addr} {cM : Nat} {ms : List Dr} (h : StV w F b g 1 2 s ks Mp cM ms) (hb0 : w.cell? ⟨b, 0, none⟩ = some (.int .i64 s.n)) (e l i c : Int) :
    Calls Try.prog 76 #[.pointer (some ⟨b, 0, none⟩), .agg #[.int .i64 e, .int .i64 l, .int .i64 i, .int .i64 c]] w fun x w' => x = .returned (.tuple #[]) ∧ StV w' F b g 1 2 (s.begin_ e l i c) ks none 0 [] ∧ w'.cell? ⟨b, 0, none⟩ = some (.int .i64 s.n) ∧ w.grownBy w' (some b) := by
  obtain ⟨wA, hwA⟩ : ∃ wA, wA = w.alloc (.cells #[.int .i64 e, .int .i64 l, .int .i64 i, .int .i64 c] 35) := ⟨_, rfl⟩
  have hbA : Below w.heap.size w wA := by rw [hwA]; exact below_box1 _ _ _
  have oA : wA.rangeAt w.heap.size 0 [.int .i64 e, .int .i64 l, .int .i64 i, .int .i64 c] := by rw [hwA]; exact range_new w #[.int .i64 e, .int .i64 l, .int .i64 i, .int .i64 c] 35
  have hA := h.below hbA
  have hbz := h.hi b h.bF
  have t0 := hA.there
  have hld := load35 oA
  have s0 : wA.cell? ⟨b, 0, none⟩ = some (.int .i64 s.n) := (hbA.cell (p := ⟨b, 0, none⟩) hbz).trans hb0
  have gA : w.grownBy wA (some b) := World.grownBy.but (grown_below hbA) (some b)
  replace s0 := Lib.hid s0
  replace hld := Lib.hid hld
  replace gA := Lib.hid gA
  replace t0 := Lib.hid t0
  replace hwA := Lib.hid hwA
  replace hA := Lib.hid hA
  replace h := Lib.hid h
  clear oA hbA hb0
  go_enter Try.func76, Try.ntmps76
  go_wp2_with (first
    | (rw [← hwA.out]
       refine wpList_loadR rfl 35 (.tmp 3) rfl w.heap.size 0 (by rfl) _ (by exact hld.out) ?_)
    | (refine wpList_store35 rfl (.tmp 7) (.tmp 5) rfl b 2 (by rfl) e l i c (by rfl) (World.there.at t0.out (by omega)) ?_
       intro w2 hw2
       have t2 : w2.there b 0 7 := by rw [hw2.out]; exact World.there_setCells t0.out _ _ _
       have r2 : w2.rangeAt b 2 [.int .i64 e, .int .i64 l, .int .i64 i, .int .i64 c] := by rw [hw2.out]; exact rng_in t0.out (by show 2 + 4 ≤ 7; omega)
       have k2 : w2.cell? ⟨b, 1, none⟩ = some (.slice (some ⟨g, 0, none⟩) s.n s.n) := by rw [hw2.out]; exact cell_out hA.out.ck (by omega)
       have g2 : wA.grownBy w2 (some b) := by rw [hw2.out]; exact grown_sets _ _ _ _
       have k0 : w2.cell? ⟨b, 0, none⟩ = some (.int .i64 s.n) := by rw [hw2.out]; exact cell_out s0.out (by omega)
       replace k0 := Lib.hid k0
       have m6 : w2.cell? ⟨b, 6, none⟩ = some (.slice Mp ms.length cM) := by rw [hw2.out]; exact cell_out hA.out.cm (.inr (by show 2 + 4 ≤ 6; omega))
       have f6 : w2.frozen? ⟨b, 6, none⟩ = false := there_frozen (k := 6) t2 (by omega)
       replace t2 := Lib.hid t2
       replace r2 := Lib.hid r2
       replace k2 := Lib.hid k2
       replace g2 := Lib.hid g2)
    | fail)
  have e2 : ([.slice none 0 0] : List Value).length = 1 := rfl
  have o1 : ∀ {j : Nat} {u : Value}, w2.cell? ⟨b, j, none⟩ = some u → j < 6 → (w2.setCells b 6 [.slice none 0 0]).cell? ⟨b, j, none⟩ = some u := fun hu hj => cell_out hu (.inl hj)
  have g3 : wA.grownBy (w2.setCells b 6 [.slice none 0 0]) (some b) := g2.out.trans (grown_sets _ _ _ _)
  have h3 := hA.out.begun g3 e l i c (o1 k2.out (by omega)) (o1 (r2.out 0 _ rfl) (by omega)) (o1 (r2.out 1 _ rfl) (by omega)) (o1 (r2.out 2 _ rfl) (by omega)) (o1 (r2.out 3 _ rfl) (by omega)) (cell_in (i := 0) t2.out (by omega) rfl) (World.there_setCells t2.out _ _ _)
  have h5 := o1 k0.out (by omega)
  replace h3 := Lib.hid h3
  replace h5 := Lib.hid h5
  replace g3 := Lib.hid g3
  clear o1
  go_end0
  exact ⟨rfl, h3.out, h5.out, gA.out.trans g3.out⟩
end Go.Proofs.Ytcffhfcjfjfokaa
/- append at a step of a region that draws its order. -/
namespace Go.Proofs.Ytcffhfcjfjfokaa
open Go.RowKit
/-- append onto a row of the call's own; the source any row, nil or empty too. -/
theorem step_append_rows {P : Program} {α : Type} {ops : Array Oper} {o : Oper} {a : Act} {w : World} {K : Act → World → Prop} {Q : Exit → Act → World → Prop} (hgd : o.guard = none) (s x : Operand) (t : TypeId)
    (ho : o.op = .call { callee := .builtin .append, args := #[s, x], argTypes := #[t, t] })
    (base : Nat) (e : TypeId) (sz bytes : Nat) (z : Value) (ht : P.underlying t = some (.slice e)) (hinfo : (P.info? e).map (fun i => (i.zero, i.size, i.bytes)) = some (some z, sz, bytes))
    (hzs : z.cells.size = sz) (hsz : 0 < sz) (enc : α → List Value) (henc : ∀ x, (enc x).length = sz) (hone : ∀ x, ∀ u ∈ enc x, u.oneCell' = true)
    (A : Option Addr) (c : Nat) (xs : List α) (B : Option Addr) (cB N n m : Nat) (l : List α) (hs : a.eval s = .slice A n c) (hx : a.eval x = .slice B m cB)
    (hn : xs.length = n) (hm : l.length = m)
    (hown : Owns w base e sz enc A c xs) (hr : RowAt w N sz enc B l)
    (h63 : n + m ≤ 9223372036854775807) (hbytes : (n + m) * bytes ≤ 140737488355328) (hbase : base ≤ w.heap.size)
    (h : ∀ A' c' w', Owns w' base e sz enc A' c' (xs ++ l) → w.grownBy w' (blk A) → (blk A' = blk A ∨ blk A' = some w.heap.size) → K (a.put o.dst (.slice A' (n + m) c')) w') :
    if Region.wanted o (yielded ops a.tmps) = true then o.wp P a w K Q else K (a.put o.dst undef) w := by
  subst hn hm
  obtain ⟨i, hi, hz, hsize, hby⟩ := info_parts hinfo
  have key : ∃ v' w', (Builtin.append_ #[t, t] o.type #[.slice A xs.length c, .slice B l.length cB]).run P w = .ok v' w' ∧ w'.ownsRow base e sz v' (xs.length + l.length) ((xs ++ l).flatMap enc) ∧ w.grownBy w' (blk A) ∧ (v'.ownBlock = blk A ∨ v'.ownBlock = some w.heap.size) := by
    by_cases h0 : 0 < l.length
    · obtain ⟨b, off, rfl, hb, hc⟩ := hr h0
      obtain ⟨v', w', h1, h2, h3, _, h5⟩ := run_append_own_at (P := P) w base t o.type e i z sz bytes ht hi hz hsize hby hzs hsz (.slice A xs.length c) xs.length _ hown ⟨b, off, none⟩ l.length cB (l.flatMap enc)
        (length_flat henc l) (fun j u hu => by
          obtain ⟨k, r, x, hk, hr', rfl⟩ := flatMap_of henc l j u hu
          have := hc k x hk r u hr'
          by_cases hz0 : k * sz + r = 0
          · rw [hz0]; simp only [Addr.add, if_true]
            have e0 : off + k * sz + r = off := by omega
            rw [e0] at this; exact this
          · simp only [Addr.add, if_neg hz0]
            rw [← Nat.add_assoc]; exact this)
        (fun u hu => by obtain ⟨x, _, hux⟩ := List.mem_flatMap.1 hu; exact hone x u hux) h63 hbytes hbase
      rw [own_blk] at h3 h5
      exact ⟨v', w', h1, by rw [List.flatMap_append]; exact h2, h3, h5⟩
    · have hl : l = [] := List.eq_nil_of_length_eq_zero (by omega)
      subst hl
      cases B with
      | none =>
        refine ⟨.slice A xs.length c, w, ?_, by simp only [List.length_nil, Nat.add_zero, List.append_nil]; exact hown, World.grownBy.refl w _, .inl (own_blk _ _ _)⟩
        rcases hown.2 with ⟨hv, _⟩ | ⟨g, cap, cur, hv, _, _, hnc, _⟩
        · rw [hv]; simp [Builtin.append_, run_underlying ht, sizeOf, typeInfo, hi, Builtin.lenOf, Builtin.firstCells]
        · rw [hv]; simp [Builtin.append_, run_underlying ht, sizeOf, typeInfo, hi, Builtin.lenOf, Builtin.firstCells, hnc, storeCells]
      | some ad =>
        obtain ⟨v', w', h1, h2, h3, _, h5⟩ := run_append_own_at (P := P) w base t o.type e i z sz bytes ht hi hz hsize hby hzs hsz (.slice A xs.length c) xs.length _ hown ad 0 cB []
          (by simp) (fun j u hu => by simp at hu) (fun u hu => by simp at hu) h63 hbytes hbase
        rw [own_blk] at h3 h5
        exact ⟨v', w', h1, by simpa using h2, h3, h5⟩
  obtain ⟨v', w', hrun, h2, h3, h4⟩ := key
  have hv : ∃ A' c', v' = .slice A' (xs.length + l.length) c' := by
    rcases h2.2 with ⟨hv, h0⟩ | ⟨g, cap, cur, hv, _⟩
    · exact ⟨none, 0, by rw [hv, h0]⟩
    · exact ⟨_, _, hv⟩
  obtain ⟨A', c', rfl⟩ := hv
  rw [own_blk] at h4
  have hw : Region.wanted o (yielded ops a.tmps) = true := by simp [Region.wanted, hgd]
  rw [if_pos hw]
  unfold Oper.wp execOp
  simp only [ho, resolve, invoke, builtin, Sem.run_bind, Sem.run_pure, Result.andThen_ok, List.map_toArray, List.map_cons, List.map_nil, hs, hx, hrun]
  exact h A' c' w' (by unfold Owns; rw [List.length_append]; exact h2) h3 h4
end Go.Proofs.Ytcffhfcjfjfokaa
/- What a call hands back where a result lies in memory. -/
namespace Go.Proofs.Ytcffhfcjfjfokaa
open Go.RowKit
section
variable {fn : Func} {P : Program} {w : World} {tmps : Array Value} {p q u : Tmp} {ty tz : TypeId} {a b : Addr} {v x : Value}
theorem run_asAddr (w : World) (P : Program) (a : Addr) : (asAddr (.pointer (some a))).run P w = .ok a w := rfl
theorem res_cell_tmp (h : fn.results = #[.cell p ty, .tmp u]) (ha : tmps.getD p undef = .pointer (some a)) (hv : (loadVar ty a).run P w = .ok v w) : (results fn tmps).run P w = .ok (.tuple #[v, tmps.getD u undef]) w := by
  rw [results_cell_tmp h, ha, run_asAddr]
  simp only [Result.andThen_ok, hv]
theorem res_cell (h : fn.results = #[.cell p ty]) (ha : tmps.getD p undef = .pointer (some a)) (hv : (loadVar ty a).run P w = .ok v w) : (results fn tmps).run P w = .ok v w := by
  simp only [results, h]
  have ha' : tmps[p]?.getD undef = .pointer (some a) := by simpa using ha
  simp [Sem.run_bind, ha', run_asAddr, hv]
theorem res_cell_tmp_tmp {u' : Tmp} (h : fn.results = #[.cell p ty, .tmp u, .tmp u']) (ha : tmps.getD p undef = .pointer (some a)) (hv : (loadVar ty a).run P w = .ok v w) : (results fn tmps).run P w = .ok (.tuple #[v, tmps.getD u undef, tmps.getD u' undef]) w := by
  simp only [results, h]
  have ha' : tmps[p]?.getD undef = .pointer (some a) := by simpa using ha
  simp [Sem.run_bind, ha', run_asAddr, hv]
end
end Go.Proofs.Ytcffhfcjfjfokaa
/- What the law's twin answers: a copy in lists of its own, a mark behind each. -/
namespace Go.Proofs.Ytcffhfcjfjfokaa
open Go.RowKit
theorem info66 : (Try.prog.info? 66).map (fun i => (i.zero, i.size, i.bytes)) = some (some (.agg #[.int .i64 0, .int .i64 0]), 2, 16) := by kernel_rfl
theorem info3 : (Try.prog.info? 3).map (fun i => (i.zero, i.size, i.bytes)) = some (some (.int .i64 0), 1, 8) := by kernel_rfl
theorem len_eSlot (x : Int × Int) : (eSlot x).length = 2 := rfl
theorem len_eInt (x : Int) : (eInt x).length = 1 := rfl
theorem one_eSlot (x : Int × Int) : ∀ u ∈ eSlot x, u.oneCell' = true := by intro u hu; simp [eSlot] at hu; rcases hu with rfl | rfl <;> rfl
theorem one_eInt (x : Int) : ∀ u ∈ eInt x, u.oneCell' = true := by intro u hu; simp [eInt] at hu; subst hu; rfl
theorem owns_empty_at {α : Type} (w : World) (base : Nat) (e : TypeId) (sz : Nat) (enc : α → List Value) {g : Nat} (hg : g = w.heap.size) (hb : base ≤ g) : Owns (w.alloc (.cells #[] e)) base e sz enc (some ⟨g, 0, none⟩) 0 [] := by
  subst hg; exact owns_empty w base e sz enc hb
theorem RowAt.set_ {α : Type} {w : World} {N sz : Nat} {enc : α → List Value} {A : Option Addr} {l : List α} (h : RowAt w N sz enc A l) {p : Addr} (hp : ∀ k, blk A = some k → k ≠ p.block) (u : Value) : RowAt (w.setCell p u) N sz enc A l := fun h0 => by
  obtain ⟨b, off, rfl, hb, hc⟩ := h h0
  refine ⟨b, off, rfl, hb, fun k x hk j v hv => ?_⟩
  rw [World.cell?_setCell_other _ _ _ _ (by intro e; exact hp b rfl (by rw [e]))]
  exact hc k x hk j v hv
theorem heap_set9 (w : World) (g : Nat) (v0 v1 v2 v3 v4 v5 v6 v7 v8 : Value) {b : Nat} (h : b ≠ g) : ((((((((((w.setCell ⟨g, 0, none⟩ v0).setCell ⟨g, 1, none⟩ v1).setCell ⟨g, 2, none⟩ v2).setCell ⟨g, 3, none⟩ v3).setCell ⟨g, 4, none⟩ v4).setCell ⟨g, 5, none⟩ v5).setCell ⟨g, 6, none⟩ v6).setCell ⟨g, 7, none⟩ v7).setCell ⟨g, 8, none⟩ v8)).drew.heap[b]? = w.heap[b]? := by
  rw [heap_drew]
  iterate 9 rw [Below.heap_setCell _ _ _ _ h]
theorem size_set9 (w : World) (g : Nat) (v0 v1 v2 v3 v4 v5 v6 v7 v8 : Value) : ((((((((((w.setCell ⟨g, 0, none⟩ v0).setCell ⟨g, 1, none⟩ v1).setCell ⟨g, 2, none⟩ v2).setCell ⟨g, 3, none⟩ v3).setCell ⟨g, 4, none⟩ v4).setCell ⟨g, 5, none⟩ v5).setCell ⟨g, 6, none⟩ v6).setCell ⟨g, 7, none⟩ v7).setCell ⟨g, 8, none⟩ v8)).drew.heap.size = w.heap.size := by
  rw [heap_drew]; iterate 9 rw [World.size_setCell]
theorem RowAt.blocks {α : Type} {w w' : World} {N sz : Nat} {enc : α → List Value} {A : Option Addr} {l : List α} (h : RowAt w N sz enc A l) (hb : ∀ k, blk A = some k → w'.heap[k]? = w.heap[k]?) : RowAt w' N sz enc A l := fun h0 => by
  obtain ⟨b, off, rfl, hlt, hc⟩ := h h0
  exact ⟨b, off, rfl, hlt, fun k x hk j v hv => (World.cell?_of_block (hb b rfl)).trans (hc k x hk j v hv)⟩
theorem below_set9 {B : Nat} {a w : World} {g : Nat} {v0 v1 v2 v3 v4 v5 v6 v7 v8 : Value} (h : Below B a w) (hg : B ≤ g) : Below B a ((((((((((w.setCell ⟨g, 0, none⟩ v0).setCell ⟨g, 1, none⟩ v1).setCell ⟨g, 2, none⟩ v2).setCell ⟨g, 3, none⟩ v3).setCell ⟨g, 4, none⟩ v4).setCell ⟨g, 5, none⟩ v5).setCell ⟨g, 6, none⟩ v6).setCell ⟨g, 7, none⟩ v7).setCell ⟨g, 8, none⟩ v8)).drew :=
  Below.drew (Below.setCell (Below.setCell (Below.setCell (Below.setCell (Below.setCell (Below.setCell (Below.setCell (Below.setCell (Below.setCell h hg _) hg _) hg _) hg _) hg _) hg _) hg _) hg _) hg _)
theorem Owns.blocks {α : Type} {w w' : World} {base : Nat} {e : TypeId} {sz : Nat} {enc : α → List Value} {A : Option Addr} {c : Nat} {l : List α} (h : Owns w base e sz enc A c l) (hb : ∀ k, blk A = some k → w'.heap[k]? = w.heap[k]?) : Owns w' base e sz enc A c l := by
  refine ⟨h.1, ?_⟩
  rcases h.2 with h2 | ⟨g, cap, cur, hv, hbase, hh, hr⟩
  · exact .inl h2
  · refine .inr ⟨g, cap, cur, hv, hbase, ?_, hr⟩
    have hA : A = some ⟨g, 0, none⟩ := by injection hv
    rw [hb g (by rw [hA]; rfl)]; exact hh
theorem Owns.lower {α : Type} {w : World} {base base' : Nat} {e : TypeId} {sz : Nat} {enc : α → List Value} {A : Option Addr} {c : Nat} {l : List α} (h : Owns w base e sz enc A c l) (hb : base' ≤ base) : Owns w base' e sz enc A c l := by
  refine ⟨h.1, ?_⟩
  rcases h.2 with h2 | ⟨g, cap, cur, hv, hbase, hr⟩
  · exact .inl h2
  · exact .inr ⟨g, cap, cur, hv, by omega, hr⟩
/-- A content with its two lists in memory of the call's own, and the capacities. -/
structure Tw where
  f : Fl
  g2 : Nat
  c2 : Nat
  g4 : Nat
  c4 : Nat
/-- The lists of such a content, with the marks behind them, are owned. -/
structure TwOwn (w : World) (base : Nat) (t : Tw) : Prop where
  s : Owns w base 66 2 eSlot (some ⟨t.g2, 0, none⟩) t.c2 (t.f.slots ++ [(71, 71)])
  h : Owns w base 3 1 eInt (some ⟨t.g4, 0, none⟩) t.c4 (t.f.have_ ++ [72])
def flTw (t : Tw) : List Value := [.int .i64 t.f.e, .int .i64 t.f.l, .int .i64 t.f.i, .int .i64 t.f.c, .int .i64 t.f.base, .slice (some ⟨t.g2, 0, none⟩) t.f.slots.length t.c2, .slice (some ⟨t.g4, 0, none⟩) t.f.have_.length t.c4]
def eTw (t : Tw) : List Value := [.int .i64 t.f.e, .int .i64 t.f.l, .int .i64 t.f.i, .int .i64 t.f.c, .int .i64 t.f.base, .slice (some ⟨t.g2, 0, none⟩) t.f.slots.length t.c2, .slice (some ⟨t.g4, 0, none⟩) t.f.have_.length t.c4, .slice (some ⟨t.g2, 0, none⟩) (t.f.slots.length + 1) t.c2, .slice (some ⟨t.g4, 0, none⟩) (t.f.have_.length + 1) t.c4]
/-- What twin answers: a copy of the content in lists of its own, with a mark behind each. -/
def TwinPost (f : Fl) (w : World) (e : Ending) (w' : World) : Prop := ∃ t : Tw, t.f = f ∧ e = .returned (.agg (eTw t).toArray) ∧ TwOwn w' w.heap.size t ∧ Below w.heap.size w w'
abbrev twz : Array Value := #[.int .i64 0, .int .i64 0, .int .i64 0, .int .i64 0, .int .i64 0, .slice none 0 0, .slice none 0 0, .slice none 0 0, .slice none 0 0]
set_option maxRecDepth 100000 in
set_option maxHeartbeats 4000000 in
theorem twin_any (f : Fl) (A B : Option Addr) (cA cB N : Nat) (w : World) (hN : N ≤ w.heap.size) (hr : FlRows w N f A cA B cB)
    (hbS : f.slots.length * 16 ≤ 140737488351232) (hbH : f.have_.length * 8 ≤ 140737488351232) :
    Calls Try.prog 23 #[.agg (flc f.e f.l f.i f.c f.base A f.slots.length cA B f.have_.length cB)] w
      (TwinPost f w) := by
  obtain ⟨hrS, hrH, hlS, hcS, hlH, hcH⟩ := hr
  have hbx := below_box2 w (flc f.e f.l f.i f.c f.base A f.slots.length cA B f.have_.length cB) 39 twz 57
  go_enter Try.func23, Try.ntmps23
  go_wp2_with (at_builtin; refine wpList_append_rows _ rfl (.tmp 5) (.tmp 7) 36 rfl (w.heap.size + 2) 66 2 16 _ Try.underlying36 info66 rfl (by decide) eSlot len_eSlot one_eSlot (some ⟨w.heap.size + 2, 0, none⟩) 0 [] A cA N 0 f.slots.length f.slots rfl rfl rfl rfl ?_ ?_ ?_ ?_ ?_ ?_)
  · exact owns_empty_at _ _ _ _ _ (by simp only [World.size_alloc]) (Nat.le_refl _)
  · exact hrS.below (hbx.alloc (by simp only [World.size_alloc]; omega) _) hN
  · omega
  · omega
  · simp only [World.size_alloc]; omega
  · intro A1 c1 w1 ho1 hg1 hk1
    have hB1 := ((Below.refl (w.heap.size + 2) (box2 w (flc f.e f.l f.i f.c f.base A f.slots.length cA B f.have_.length cB) 39 twz 57)).alloc (by simp only [World.size_alloc]; omega) (.cells #[] 66)).grown hg1 (by simp only [World.size_alloc]; omega) (by intro k hk; simp [blk] at hk; omega)
    have hlo1 := ho1.lo
    obtain ⟨hbw, hcf, -, -, -, hs, hs'⟩ := box2_facts hB1
    clear hg1 hk1 hbx
    go_wp2_with (at_builtin; refine wpList_append_rows _ rfl (.tmp 8) (.tmp 10) 36 rfl (w.heap.size + 2) 66 2 16 _ Try.underlying36 info66 rfl (by decide) eSlot len_eSlot one_eSlot A1 c1 f.slots (some ⟨w1.heap.size, 0, none⟩) 1 (w1.heap.size + 1) f.slots.length 1 [(71, 71)] rfl rfl rfl rfl ?_ ?_ ?_ ?_ ?_ ?_)
    · exact ho1.alloc _
    · exact row_new _ _ _ _ _ _ rfl
    · omega
    · omega
    · simp only [World.size_alloc]; omega
    · intro A2 c2 w2 ho2 hg2 hk2
      have hB2 := (hB1.alloc (by omega) (.cells #[.int .i64 71, .int .i64 71] 66)).grown hg2 (by simp only [World.size_alloc]; omega) (fun k hk => (hlo1 k hk).1)
      have hlo2 := ho2.lo
      obtain ⟨g2, cc2, hv2, hgl2, hgh2⟩ := World.ownsRow.form ho2 (by simp)
      obtain ⟨rfl, rfl⟩ : A2 = some ⟨g2, 0, none⟩ ∧ c2 = cc2 := by injection hv2 with h1 _ h2; exact ⟨h1, h2⟩
      clear hv2 ho1 hB1 hlo1 hbw hcf hs hs' hg2 hk2
      obtain ⟨hbw, hcf, -, -, -, hs, hs'⟩ := box2_facts hB2
      go_wp2_with (at_builtin; refine wpList_append_rows _ rfl (.tmp 12) (.tmp 14) 37 rfl (w.heap.size + 2) 3 1 8 _ Try.underlying37 info3 rfl (by decide) eInt len_eInt one_eInt (some ⟨w2.heap.size, 0, none⟩) 0 [] B cB N 0 f.have_.length f.have_ rfl rfl rfl rfl ?_ ?_ ?_ ?_ ?_ ?_)
      · exact owns_empty_at _ _ _ _ _ rfl (by omega)
      · exact hrH.below (hbw.alloc (by omega) _) hN
      · omega
      · omega
      · simp only [World.size_alloc]; omega
      · intro A3 c3 w3 ho3 hg3 hk3
        have hB3 := (hB2.alloc (by omega) (.cells #[] 3)).grown hg3 (by simp only [World.size_alloc]; omega) (by intro k hk; simp [blk] at hk; omega)
        have hlo3 := ho3.lo
        have ho2' := (ho2.alloc (.cells #[] 3)).kept hg3 (by right; simp [blk]; omega)
        clear ho2 hB2 hbw hcf hs hs' hg3 hk3
        obtain ⟨hbw, hcf, -, -, -, hs, hs'⟩ := box2_facts hB3
        go_wp2_with (at_builtin; refine wpList_append_rows _ rfl (.tmp 15) (.tmp 16) 37 rfl (w.heap.size + 2) 3 1 8 _ Try.underlying37 info3 rfl (by decide) eInt len_eInt one_eInt A3 c3 f.have_ (some ⟨w3.heap.size, 0, none⟩) 1 (w3.heap.size + 1) f.have_.length 1 [72] rfl rfl rfl rfl ?_ ?_ ?_ ?_ ?_ ?_)
        · exact ho3.alloc _
        · exact row_new _ _ _ _ _ _ rfl
        · omega
        · omega
        · simp only [World.size_alloc]; omega
        · intro A4 c4 w4 ho4 hg4 hk4
          have hB4 := (hB3.alloc (by omega) (.cells #[.int .i64 72] 3)).grown hg4 (by simp only [World.size_alloc]; omega) (fun k hk => (hlo3 k hk).1)
          have ho24 := (ho2'.alloc (.cells #[.int .i64 72] 3)).kept hg4 (ho2'.ne ho3 (by decide))
          obtain ⟨g4, cc4, hv4, hgl4, hgh4⟩ := World.ownsRow.form ho4 (by simp)
          obtain ⟨rfl, rfl⟩ : A4 = some ⟨g4, 0, none⟩ ∧ c4 = cc4 := by injection hv4 with h1 _ h2; exact ⟨h1, h2⟩
          have hl2 := ho24.len
          have hl4 := ho4.len
          simp only [List.length_append, List.length_cons, List.length_nil] at hl2 hl4
          clear hv4 ho2' hB3 hlo3 hbw hcf hs hs' hg4 hk4 ho3
          obtain ⟨hbw, hcf, hct, -, hft, hs, hs'⟩ := box2_facts hB4
          have e2 : f.slots.length ≤ c2 := by omega
          have e4 : f.have_.length ≤ c4 := by omega
          have z2 : ¬ c2 = 0 := by omega
          have z4 : ¬ c4 = 0 := by omega
          go_wp2_with fail
          go_still_tail 18, (by kernel_rfl)
          change wpList _ _ _ _ _ w4.drew
          go_wp2
          refine bodyPost_ret (v := .agg #[.int .i64 f.e, .int .i64 f.l, .int .i64 f.i, .int .i64 f.c, .int .i64 f.base, .slice (some ⟨g2, 0, none⟩) f.slots.length c2, .slice (some ⟨g4, 0, none⟩) f.have_.length c4, .slice (some ⟨g2, 0, none⟩) (f.slots.length + 1) c2, .slice (some ⟨g4, 0, none⟩) (f.have_.length + 1) c4]) (by simp [results, Try.results23, go_sem, hct]) rfl ?_
          go_light
          refine ⟨⟨f, g2, c2, g4, c4⟩, rfl, rfl, ⟨?_, ?_⟩, below_set9 hbw (by omega)⟩
          · exact (ho24.lower (by omega)).blocks (fun k hk => heap_set9 _ _ _ _ _ _ _ _ _ _ _ (by simp [blk] at hk; omega))
          · exact (ho4.lower (by omega)).blocks (fun k hk => heap_set9 _ _ _ _ _ _ _ _ _ _ _ (by simp [blk] at hk; omega))
end Go.Proofs.Ytcffhfcjfjfokaa
/- A content of its own: the program's twin, the document's copyOf. -/
namespace Go.Proofs.Ytcffhfcjfjfokaa
open Go.RowKit
theorem size39s : (Try.prog.info? 39).map (·.size) = some 7 := by kernel_rfl
theorem one_flc (e l i c b : Int) (A : Option Addr) (n cA : Nat) (B : Option Addr) (m cB : Nat) : (flc e l i c b A n cA B m cB).all (·.oneCell') = true := by
  refine all_oneCell_toArray (cs := [.int .i64 e, .int .i64 l, .int .i64 i, .int .i64 c, .int .i64 b, .slice A n cA, .slice B m cB]) fun y hy => ?_
  simp only [List.mem_cons, List.not_mem_nil, or_false] at hy
  rcases hy with rfl | rfl | rfl | rfl | rfl | rfl | rfl <;> rfl
theorem load39 {w : World} {b o : Nat} {e l i c u : Int} {A : Option Addr} {n cA : Nat} {B : Option Addr} {m cB : Nat} (h : w.rangeAt b o (flc e l i c u A n cA B m cB).toList) : (loadVar 39 ⟨b, o, none⟩).run Try.prog w = .ok (.agg (flc e l i c u A n cA B m cB)) w :=
  run_loadVar_mid w b o 39 (flc e l i c u A n cA B m cB).toList _ h Try.underlying39 rfl (by rw [size39s]; rfl)
theorem wp_store39 {o : Oper} {a : Act} {w : World} {K : Act → World → Prop} {Q : Exit → Act → World → Prop} (x y : Operand) (ho : o.op = .store 39 x y) (hd : o.dst = none) (b off : Nat) (hx : a.eval x = .pointer (some ⟨b, off, none⟩)) (e l i c u : Int) (A : Option Addr) (n cA : Nat) (B : Option Addr) (m cB : Nat) (hy : a.eval y = .agg (flc e l i c u A n cA B m cB))
    (ht : w.there b off 7) (h : ∀ w', Hid (w' = w.setCells b off (flc e l i c u A n cA B m cB).toList) → K a w') : o.wp Try.prog a w K Q :=
  wp_store_mid 39 x y ho b off (flc e l i c u A n cA B m cB) hx hy ht (by rw [size39s]; rfl) (one_flc ..) (by rw [hd]; exact h _ (Lib.hid rfl))
theorem build39 (W : World) (e l i c b : Int) (A : Option Addr) (n cA : Nat) (B : Option Addr) (m cB : Nat) : (Instr.build 39 #[(0, .agg #[.int .i64 e, .int .i64 l, .int .i64 i, .int .i64 c]), (1, .int .i64 b), (2, .slice A n cA), (3, .slice B m cB)]).run Try.prog W = .ok (.agg (flc e l i c b A n cA B m cB)) W := by kernel_rfl
abbrev flZ : Array Value := #[.int .i64 0, .int .i64 0, .int .i64 0, .int .i64 0, .int .i64 0, .slice none 0 0, .slice none 0 0]
theorem Owns.base {α : Type} {w : World} {base base' sz c : Nat} {e : TypeId} {enc : α → List Value} {A : Option Addr} {l : List α} (h : Owns w base e sz enc A c l) (hb : base' ≤ base) : Owns w base' e sz enc A c l := by
  refine ⟨h.1, ?_⟩
  rcases h.2 with h2 | ⟨g, cap, cur, hv, hbase, hr⟩
  · exact .inl h2
  · exact .inr ⟨g, cap, cur, hv, by omega, hr⟩
/-- What a twin is: its lists are the call's own. -/
def TwPost (w : World) (f : Fl) (x : Ending) (w' : World) : Prop :=
  ∃ A c B d, x = .returned (.agg (flc f.e f.l f.i f.c f.base A f.slots.length c B f.have_.length d)) ∧ Owns w' w.heap.size 66 2 eSlot A c f.slots ∧ Owns w' w.heap.size 3 1 eInt B d f.have_ ∧ Below w.heap.size w w'
set_option maxRecDepth 100000 in
set_option maxHeartbeats 1000000 in
theorem ptwin_any (f : Fl) (A : Option Addr) (cA : Nat) (B : Option Addr) (cB N : Nat) (w : World) (hN : N ≤ w.heap.size) (hA : RowAt w N 2 eSlot A f.slots) (hB : RowAt w N 1 eInt B f.have_) (l1 : f.slots.length ≤ 1048576) (l2 : f.have_.length ≤ 1048576) :
    Calls Try.prog 106 #[.agg (flc f.e f.l f.i f.c f.base A f.slots.length cA B f.have_.length cB)] w (TwPost w f) := by
  obtain ⟨wA, hwA⟩ : ∃ wA, wA = (w.alloc (.cells (flc f.e f.l f.i f.c f.base A f.slots.length cA B f.have_.length cB) 39)).alloc (.cells flZ 39) := ⟨_, rfl⟩
  have hbA : Below w.heap.size w wA := by rw [hwA]; exact below_box2 _ _ _ _ _
  have zA : wA.heap.size = w.heap.size + 2 := by rw [hwA]; simp
  have oA : wA.rangeAt w.heap.size 0 (flc f.e f.l f.i f.c f.base A f.slots.length cA B f.have_.length cB).toList := by rw [hwA]; exact range_same (range_new w (flc f.e f.l f.i f.c f.base A f.slots.length cA B f.have_.length cB) 39) (heap_alloc_old _ _ (by simp))
  have tA : wA.there (w.heap.size + 1) 0 7 := by
    have := there_new (w.alloc (.cells (flc f.e f.l f.i f.c f.base A f.slots.length cA B f.have_.length cB) 39)) flZ 39
    rw [hwA]; rw [World.size_alloc] at this; exact this
  have L4 : ∀ W : World, W.rangeAt w.heap.size 0 (flc f.e f.l f.i f.c f.base A f.slots.length cA B f.have_.length cB).toList → (loadVar 35 ⟨w.heap.size, 0, none⟩).run Try.prog W = .ok (.agg #[.int .i64 f.e, .int .i64 f.l, .int .i64 f.i, .int .i64 f.c]) W := fun W hW => load35 (range_mid (l1 := []) (m := [.int .i64 f.e, .int .i64 f.l, .int .i64 f.i, .int .i64 f.c]) (l3 := [.int .i64 f.base, .slice A f.slots.length cA, .slice B f.have_.length cB]) hW rfl)
  have L6 : ∀ W : World, W.rangeAt w.heap.size 0 (flc f.e f.l f.i f.c f.base A f.slots.length cA B f.have_.length cB).toList → (loadVar 3 ⟨w.heap.size, 4, none⟩).run Try.prog W = .ok (.int .i64 f.base) W := fun W hW => load3 (hW 4 _ rfl)
  have L8 : ∀ W : World, W.rangeAt w.heap.size 0 (flc f.e f.l f.i f.c f.base A f.slots.length cA B f.have_.length cB).toList → (loadVar 36 ⟨w.heap.size, 5, none⟩).run Try.prog W = .ok (.slice A f.slots.length cA) W := fun W hW => load36 (hW 5 _ rfl)
  have L11 : ∀ W : World, W.rangeAt w.heap.size 0 (flc f.e f.l f.i f.c f.base A f.slots.length cA B f.have_.length cB).toList → (loadVar 37 ⟨w.heap.size, 6, none⟩).run Try.prog W = .ok (.slice B f.have_.length cB) W := fun W hW => load37 (hW 6 _ rfl)
  have hC : ∀ x' : Prop, (∀ W : World, W.rangeAt w.heap.size 0 (flc f.e f.l f.i f.c f.base A f.slots.length cA B f.have_.length cB).toList → x') ↔ x' := fun x' => ⟨fun f => f _ oA, fun f _ _ => f⟩
  have od : wA.drew.rangeAt w.heap.size 0 (flc f.e f.l f.i f.c f.base A f.slots.length cA B f.have_.length cB).toList := range_same oA rfl
  have bd : Below wA.heap.size wA wA.drew := Below.drew (Below.refl _ _)
  have rA := (hA.below hbA hN).below bd (by omega)
  have hx : ∀ W, Below wA.heap.size wA W → RowAt W N 1 eInt B f.have_ := fun W hW => (hB.below hbA hN).below hW (by omega)
  replace bd := Lib.hid bd
  replace od := Lib.hid od
  replace oA := Lib.hid oA
  replace rA := Lib.hid rA
  replace hx := Lib.hid hx
  replace L4 := Lib.hid L4
  replace L6 := Lib.hid L6
  replace L8 := Lib.hid L8
  replace L11 := Lib.hid L11
  replace tA := Lib.hid tA
  replace hbA := Lib.hid hbA
  replace hwA := Lib.hid hwA
  replace zA := Lib.hid zA
  clear hA hB
  go_enter Try.func106, Try.ntmps106
  go_wp2_with fail
  rw [← hwA.out]
  refine wp_region_ord [([0, 1, 2, 3, 4, 5, 7, 8], 6), ([], 9), ([10], 11)] [] (fun W => W.rangeAt w.heap.size 0 (flc f.e f.l f.i f.c f.base A f.slots.length cA B f.have_.length cB).toList) rfl (by kernel_rfl) rfl od.out ?_
  refine WO.seg rfl ?_ od.out
  simp only [picks, pick, List.cons_append, List.nil_append, List.append_nil]
  repeat (first
    | go_big_quiet_skip
    | (refine wpQuiet_loadC (by rfl) 35 (.tmp 3) rfl w.heap.size 0 (by rfl) _ L4.out ?_; simp only [Act.put, List.setIfInBounds_toArray, List.set_cons_zero, List.set_cons_succ])
    | (refine wpQuiet_loadC (by rfl) 3 (.tmp 5) rfl w.heap.size 4 (by rfl) _ L6.out ?_; simp only [Act.put, List.setIfInBounds_toArray, List.set_cons_zero, List.set_cons_succ])
    | (refine wpQuiet_loadC (by rfl) 36 (.tmp 7) rfl w.heap.size 5 (by rfl) _ L8.out ?_; simp only [Act.put, List.setIfInBounds_toArray, List.set_cons_zero, List.set_cons_succ])
    | (refine wpQuiet_loadC (by rfl) 37 (.tmp 10) rfl w.heap.size 6 (by rfl) _ L11.out ?_; simp only [Act.put, List.setIfInBounds_toArray, List.set_cons_zero, List.set_cons_succ])
    | go_big_quiet_step (fail))
  refine wpQuiet_nil ?_
  intro K hK
  refine step_append_rows rfl (.const (.slice none 0 0)) (.tmp 8) 36 rfl wA.heap.size 66 2 16 (.agg #[.int .i64 0, .int .i64 0]) Try.underlying36 info66 (by rfl) (by omega) eSlot len_eSlot one_eSlot none 0 [] A cA N 0 f.slots.length f.slots (by rfl) (by rfl) rfl rfl (owns_nil _ _ _ _ _) rA.out (by omega) (by omega) (by show wA.heap.size ≤ wA.heap.size; omega) ?_
  intro A1 c1 w1 ho1 hg1 hk1
  rw [Nat.zero_add]
  rw [List.nil_append] at ho1
  have b1 : Below wA.heap.size wA w1 := bd.out.grown hg1 (by show wA.heap.size ≤ wA.heap.size; omega) (fun k hk => by cases hk)
  have lo1 := ho1.lo
  have o1 := range_same oA.out (b1.block w.heap.size (by have := zA.out; omega))
  replace o1 := Lib.hid o1
  replace ho1 := Lib.hid ho1
  replace b1 := Lib.hid b1
  replace lo1 := Lib.hid lo1
  clear hg1 hk1
  simp only [Act.put, List.setIfInBounds_toArray, List.set_cons_zero, List.set_cons_succ]
  refine hK.out _ _ o1.out ?_
  clear hK K
  refine WO.seg rfl ?_ o1.out
  simp only [picks]
  refine wpQuiet_nil ?_
  intro K hK
  refine step_append_rows rfl (.const (.slice none 0 0)) (.tmp 11) 37 rfl wA.heap.size 3 1 8 (.int .i64 0) Try.underlying37 info3 (by rfl) (by omega) eInt len_eInt one_eInt none 0 [] B cB N 0 f.have_.length f.have_ (by rfl) (by rfl) rfl rfl (owns_nil _ _ _ _ _) (hx.out _ b1.out) (by omega) (by omega) b1.out.size ?_
  intro B1 d1 w2 ho2 hg2 hk2
  rw [Nat.zero_add]
  rw [List.nil_append] at ho2
  have b2 : Below wA.heap.size wA w2 := b1.out.grown hg2 b1.out.size (fun k hk => by cases hk)
  have ho12 := ho1.out.kept hg2 (by cases hb : blk A1 <;> simp [blk])
  have o2 := range_same oA.out (b2.block w.heap.size (by have := zA.out; omega))
  replace o2 := Lib.hid o2
  replace ho2 := Lib.hid ho2
  replace ho12 := Lib.hid ho12
  replace b2 := Lib.hid b2
  clear hg2 hk2
  simp only [Act.put, List.setIfInBounds_toArray, List.set_cons_zero, List.set_cons_succ]
  refine hK.out _ _ o2.out ?_
  clear hK K
  have hbu := fun W => build39 W f.e f.l f.i f.c f.base A1 f.slots.length c1 B1 f.have_.length d1
  have t2 := there_below tA.out b2.out (by have := zA.out; omega)
  refine WO.seg rfl ?_ o2.out
  simp only [picks, pick, List.cons_append, List.nil_append, List.append_nil]
  repeat go_big_quiet_step (fail)
  refine wpQuiet_nil ?_
  intro K hK
  rw [if_pos (by rfl)]
  refine wp_store39 (.tmp 2) (.tmp 13) rfl rfl (w.heap.size + 1) 0 (by rfl) f.e f.l f.i f.c f.base A1 f.slots.length c1 B1 f.have_.length d1 (by rfl) t2 ?_
  intro w3 hw3
  have g3 : w2.grownBy w3 (some (w.heap.size + 1)) := by rw [hw3.out]; exact grown_sets _ _ _ _
  have r3 : w3.rangeAt (w.heap.size + 1) 0 (flc f.e f.l f.i f.c f.base A1 f.slots.length c1 B1 f.have_.length d1).toList := by rw [hw3.out]; exact rng_in t2 (by show 0 + 7 ≤ 7; omega)
  have hbw : Below w.heap.size w w3 := (hbA.out.trans (b2.out.mono (by have := zA.out; omega))).grown g3 (by have := b2.out.size; have := zA.out; omega) (by intro k hk; injection hk with hk; omega)
  have o3 := range_same o2.out (g3.block w.heap.size (by have := b2.out.size; have := zA.out; omega) (by intro e; injection e with e; omega))
  have lo2 := ho2.out.lo
  have f1 := ho12.out.kept g3 (.inr (by intro e; have := lo1.out _ e; have := zA.out; omega))
  have f2 := ho2.out.kept g3 (.inr (by intro e; have := lo2 _ e; have := b1.out.size; have := zA.out; omega))
  refine hK.out _ _ o3 ?_
  clear hK K
  refine WO.end_ ?_
  simp only [picks]
  refine wpQuiet_nil ?_
  clear hC hbu
  go_wp2
  exact bodyPost_ret (res_cell (p := 2) (ty := 39) rfl rfl (load39 r3)) rfl ⟨A1, c1, B1, d1, rfl, f1.base (by have := zA.out; omega), f2.base (by have := zA.out; omega), hbw⟩
end Go.Proofs.Ytcffhfcjfjfokaa
