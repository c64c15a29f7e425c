/- Sto1 Res Sto2 Sto3 Alike, joined. -/
import Derived.Laws.ResultCell
import Derived.Test.YtcffhfcjfjfokaaSu3
import Derived.Test.YtcffhfcjfjfokaaSu4
import Derived.Test.YtcffhfcjfjfokaaSu5
import Derived.Test.YtcffhfcjfjfokaaSu12
set_option linter.unusedVariables false
set_option linter.unusedSimpArgs false
namespace Go.Proofs.Ytcffhfcjfjfokaa
open Go.RowKit
set_option maxHeartbeats 1000000 in
theorem less_any (x y : Dr) (w : World) : Calls Try.prog 109 #[.agg (drA x), .agg (drA y)] w fun r w' => r = .returned (.bool (aheadB x.d y.d)) ∧ Below w.heap.size w w' := by
  have hbx := below_box2 w (drA x) 113 (drA y) 113
  replace hbx := Lib.hid hbx
  by_cases h1 : x.d.s < y.d.s
  · have he : aheadB x.d y.d = true := decide_eq_true (.inl h1)
    go_enter Try.func109, Try.ntmps109
    go_wp2
    go_ret
    exact ⟨ret_bool he.symm, hbx.out⟩
  · have b1 : decide (x.d.s < y.d.s) = false := decide_eq_false h1
    by_cases h2 : x.d.s = y.d.s
    · have b2 : (x.d.s == y.d.s) = true := by simp [h2]
      have he : aheadB x.d y.d = decide (x.d.q < y.d.q) := by unfold aheadB; simp [h2]
      replace h1 := Lib.hid h1
      replace h2 := Lib.hid h2
      replace he := Lib.hid he
      go_enter Try.func109, Try.ntmps109
      go_wp2
      go_ret
      exact ⟨ret_bool he.out.symm, hbx.out⟩
    · have b2 : (x.d.s == y.d.s) = false := by simp [h2]
      have he : aheadB x.d y.d = false := decide_eq_false (by omega)
      replace h1 := Lib.hid h1
      replace h2 := Lib.hid h2
      replace he := Lib.hid he
      go_enter Try.func109, Try.ntmps109
      go_wp2
      go_ret
      exact ⟨ret_bool he.out.symm, hbx.out⟩
set_option maxHeartbeats 1000000 in
theorem ahead_any (x y : Dr) (w : World) : Calls Try.prog 119 #[.agg (drA x), .agg (drA y)] w fun r w' => r = .returned (.bool (aheadB x.d y.d)) ∧ Below w.heap.size w w' := by
  have hbx := below_box2 w (drA x) 113 (drA y) 113
  replace hbx := Lib.hid hbx
  by_cases h1 : x.d.s < y.d.s
  · have he : aheadB x.d y.d = true := decide_eq_true (.inl h1)
    go_enter Try.func119, Try.ntmps119
    go_wp2
    go_ret
    exact ⟨ret_bool he.symm, hbx.out⟩
  · have b1 : decide (x.d.s < y.d.s) = false := decide_eq_false h1
    by_cases h2 : x.d.s = y.d.s
    · have b2 : (x.d.s == y.d.s) = true := by simp [h2]
      have he : aheadB x.d y.d = decide (x.d.q < y.d.q) := by unfold aheadB; simp [h2]
      replace h1 := Lib.hid h1
      replace h2 := Lib.hid h2
      replace he := Lib.hid he
      go_enter Try.func119, Try.ntmps119
      go_wp2
      go_ret
      exact ⟨ret_bool he.out.symm, hbx.out⟩
    · have b2 : (x.d.s == y.d.s) = false := by simp [h2]
      have he : aheadB x.d y.d = false := decide_eq_false (by omega)
      replace h1 := Lib.hid h1
      replace h2 := Lib.hid h2
      replace he := Lib.hid he
      go_enter Try.func119, Try.ntmps119
      go_wp2
      go_ret
      exact ⟨ret_bool he.out.symm, hbx.out⟩
theorem info171 : (Try.prog.info? 171).map (fun i => (i.zero, i.size, i.bytes)) = some (some (.agg kpZ), 8, 96) := by kernel_rfl
theorem info173 : (Try.prog.info? 173).map (fun i => (i.zero, i.size, i.bytes)) = some (some (.agg kpZ), 8, 96) := by kernel_rfl
theorem run_mk135 (W : World) (n : Nat) (hn : n ≤ 16) : (Instr.makeSlice 135 (.int .i64 n) (.int .i64 n)).run Try.prog W = .ok (.slice (some ⟨W.heap.size, 0, none⟩) n n) (W.alloc (.cells (madeCells kpZ (n * 8)) 171)) := by
  obtain ⟨i, hi, hz, hs, hb⟩ := info_parts info171
  have := run_makeSlice (P := Try.prog) W 135 171 i _ Try.underlying135 hi hz .i64 .i64 n n (by omega) (by omega) (by rw [hs]; omega) (by rw [hb]; omega) (by omega)
  simpa [hs, Value.cells] using this
theorem run_mk138 (W : World) (n : Nat) (hn : n ≤ 16) : (Instr.makeSlice 138 (.int .i64 n) (.int .i64 n)).run Try.prog W = .ok (.slice (some ⟨W.heap.size, 0, none⟩) n n) (W.alloc (.cells (madeCells kpZ (n * 8)) 173)) := by
  obtain ⟨i, hi, hz, hs, hb⟩ := info_parts info173
  have := run_makeSlice (P := Try.prog) W 138 173 i _ Try.underlying138 hi hz .i64 .i64 n n (by omega) (by omega) (by rw [hs]; omega) (by rw [hb]; omega) (by omega)
  simpa [hs, Value.cells] using this
def KpX.zero : KpX := ⟨Kp.zero, none, 0, none, 0⟩
theorem made_kp (n q : Nat) (hq : q < n) (j : Nat) (u : Value) (hu : (eKp KpX.zero)[j]? = some u) : (madeCells kpZ (n * 8))[q * 8 + j]? = some u := by
  have hj : j < 8 := by have := (List.getElem?_eq_some_iff.1 hu).1; rwa [len_eKp] at this
  have hlt : q * 8 + j < n * 8 := by omega
  unfold madeCells
  rw [Array.getElem?_map, Array.getElem?_range, if_pos hlt]
  have e : (q * 8 + j) % kpZ.size = j := by show (q * 8 + j) % 8 = j; omega
  show some (kpZ[(q * 8 + j) % kpZ.size]!) = some u
  rw [e]
  rcases j with _ | _ | _ | _ | _ | _ | _ | _ | j
  all_goals first | exact hu | omega
theorem stV_new {w : World} {n oK oV T : Nat} (h1 : 1 ≤ n) (h2 : n ≤ 16) {b g : Nat} {w' : World} {cs : Array Value} (hw : w' = (w.alloc (.cells (madeCells kpZ (n * 8)) T)).alloc (.cells cs 137) ∨ w' = (w.alloc (.cells (madeCells kpZ (n * 8)) T)).alloc (.cells cs 140)) (hs : cs.size = 7)
    (hb : b = w.heap.size + 1) (hg : g = w.heap.size) (c0 : cs[oK]? = some (.slice (some ⟨g, 0, none⟩) n n)) (c1 : cs[oV]? = some (.int .i64 0)) (c2 : cs[oV + 1]? = some (.int .i64 0)) (c3 : cs[oV + 2]? = some (.int .i64 0)) (c4 : cs[oV + 3]? = some (.int .i64 0)) (c5 : cs[6]? = some (.slice none 0 0)) :
    StV w' [b, g] b g oK oV (stoNew n) (List.replicate n KpX.zero) none 0 [] ∧ (∀ o u, cs[o]? = some u → w'.cell? ⟨b, o, none⟩ = some u) ∧ Below w.heap.size w w' := by
  obtain ⟨T2, hw⟩ : ∃ T2, w' = (w.alloc (.cells (madeCells kpZ (n * 8)) T)).alloc (.cells cs T2) := by rcases hw with e | e <;> exact ⟨_, e⟩
  obtain ⟨wm, hwm⟩ : ∃ wm, wm = w.alloc (.cells (madeCells kpZ (n * 8)) T) := ⟨_, rfl⟩
  rw [← hwm] at hw
  have zm : wm.heap.size = w.heap.size + 1 := by rw [hwm]; simp
  have hc : ∀ o u, cs[o]? = some u → w'.cell? ⟨b, o, none⟩ = some u := fun o u hu => by
    rw [hw, hb, ← zm, World.cell?_alloc_at _ _ _ _ rfl]; exact hu
  have hgk : w'.heap[g]? = wm.heap[g]? := by rw [hw]; exact heap_alloc_old _ _ (by omega)
  have tg : wm.there w.heap.size 0 (n * 8) := by
    have := there_new w (madeCells kpZ (n * 8)) T
    rw [size_madeCells] at this; rw [hwm]; exact this
  have tb : w'.there b 0 7 := by
    have := there_new wm cs T2
    rw [hs, zm, ← hw, ← hb] at this; exact this
  have hbel : Below w.heap.size w w' := by rw [hw, hwm]; exact below_box2 _ _ _ _ _
  have hsz : w'.heap.size = w.heap.size + 2 := by rw [hw, World.size_alloc, zm]
  refine ⟨⟨hc _ _ c0, hc _ _ c1, hc _ _ c2, hc _ _ c3, hc _ _ c4, hc _ _ c5, tb, fun q x hx => ?_, ?_, ?_, fun x hx => ?_, rfl, rowF_nil, fun r hr => (by cases hr), ⟨Nat.le_refl _, by omega⟩, List.mem_cons_self .., List.mem_cons_of_mem _ (List.mem_cons_self ..), by omega, fun x hx => ?_, new_sinv h1 h2⟩, hc, hbel⟩
  · obtain ⟨hq, e⟩ := List.getElem?_eq_some_iff.1 hx
    rw [List.length_replicate] at hq
    rw [List.getElem_replicate] at e
    subst e
    refine range_same (w := wm) (fun j u hu => ?_) hgk
    rw [hg, hwm, World.cell?_alloc_at _ _ _ _ rfl]
    exact made_kp n q hq j u hu
  · rw [hg]; exact there_same tg (by rw [← hg]; exact hgk)
  · show (List.replicate n KpX.zero).map _ = List.replicate n Kp.zero
    rw [List.map_replicate]; rfl
  · obtain rfl := List.eq_of_mem_replicate hx
    exact ⟨fun h => absurd h (Nat.lt_irrefl _), fun h => absurd h (Nat.lt_irrefl _), Nat.le_refl _, by show 0 ≤ _; omega, Nat.le_refl _, by show 0 ≤ _; omega⟩
  · rcases List.mem_cons.1 hx with e | e
    · omega
    · have := List.mem_singleton.1 e; omega
theorem build137 (W : World) (A : Option Addr) (n c : Nat) : (Instr.build 137 #[(0, .slice A n c)]).run Try.prog W = .ok (.agg #[.slice A n c, .int .i64 0, .int .i64 0, .int .i64 0, .int .i64 0, .bool false, .slice none 0 0]) W := by kernel_rfl
theorem build140 (W : World) (k : Int) (A : Option Addr) (n c : Nat) : (Instr.build 140 #[(0, .int .i64 k), (1, .slice A n c)]).run Try.prog W = .ok (.agg #[.int .i64 k, .slice A n c, .int .i64 0, .int .i64 0, .int .i64 0, .int .i64 0, .slice none 0 0]) W := by kernel_rfl
def newOk (n : Int) : Bool := decide (1 ≤ n ∧ n ≤ 16)
set_option maxHeartbeats 1000000 in
theorem snew_no (n : Int) (w : World) (h : newOk n = false) : Calls Try.prog 42 #[.int .i64 n] w fun x w' => x = .returned (.tuple #[.pointer none, .int .i64 1]) ∧ w' = w := by
  have h' : ¬ (1 ≤ n ∧ n ≤ 16) := of_decide_eq_false h
  replace h := Lib.hid h
  by_cases h1 : n < 1
  · go_enter Try.func42, Try.ntmps42
    go_wp2
    go_ret2
    exact ⟨rfl, rfl⟩
  · have b1 : decide (n < 1) = false := decide_eq_false h1
    have h2 : 16 < n := by omega
    replace h1 := Lib.hid h1
    go_enter Try.func42, Try.ntmps42
    go_wp2
    go_ret2
    exact ⟨rfl, rfl⟩
set_option maxHeartbeats 1000000 in
theorem rsnew_no (n : Int) (w : World) (h : newOk n = false) : Calls Try.prog 43 #[.int .i64 n] w fun x w' => x = .returned (.tuple #[.pointer none, .int .i64 1]) ∧ w' = w := by
  have h' : ¬ (1 ≤ n ∧ n ≤ 16) := of_decide_eq_false h
  replace h := Lib.hid h
  by_cases h1 : n < 1
  · go_enter Try.func43, Try.ntmps43
    go_wp2
    go_ret2
    exact ⟨rfl, rfl⟩
  · have b1 : decide (n < 1) = false := decide_eq_false h1
    have h2 : 16 < n := by omega
    replace h1 := Lib.hid h1
    go_enter Try.func43, Try.ntmps43
    go_wp2
    go_ret2
    exact ⟨rfl, rfl⟩
set_option maxHeartbeats 1000000 in
theorem snew_yes (n : Nat) (w : World) (h1 : 1 ≤ n) (h2 : n ≤ 16) : Calls Try.prog 42 #[.int .i64 n] w fun x w' => ∃ b g, x = .returned (.tuple #[.pointer (some ⟨b, 0, none⟩), .int .i64 0]) ∧ StV w' [b, g] b g 0 1 (stoNew n) (List.replicate n KpX.zero) none 0 [] ∧ w'.cell? ⟨b, 5, none⟩ = some (.bool false) ∧ Below w.heap.size w w' ∧ w.heap.size ≤ g ∧ w.heap.size ≤ b := by
  have b1 : decide ((n : Int) < 1) = false := decide_eq_false (by omega)
  have b2 : decide ((16 : Int) < (n : Int)) = false := decide_eq_false (by omega)
  have hmk := run_mk135 w n h2
  have hbu := fun W => build137 W (some ⟨w.heap.size, 0, none⟩) n n
  go_enter Try.func42, Try.ntmps42
  go_wp2
  obtain ⟨k1, k2, k3⟩ := stV_new (w := w) (n := n) (oK := 0) (oV := 1) (T := 171) h1 h2 (b := w.heap.size + 1) (g := w.heap.size) (cs := #[.slice (some ⟨w.heap.size, 0, none⟩) n n, .int .i64 0, .int .i64 0, .int .i64 0, .int .i64 0, .bool false, .slice none 0 0]) (.inl rfl) rfl rfl rfl rfl rfl rfl rfl rfl rfl
  replace k1 := Lib.hid k1
  replace k2 := Lib.hid k2
  replace k3 := Lib.hid k3
  clear hmk hbu
  go_ret2
  exact ⟨_, _, rfl, k1.out, k2.out 5 _ rfl, k3.out, Nat.le_refl _, Nat.le_succ _⟩
set_option maxHeartbeats 1000000 in
theorem rsnew_yes (n : Nat) (w : World) (h1 : 1 ≤ n) (h2 : n ≤ 16) : Calls Try.prog 43 #[.int .i64 n] w fun x w' => ∃ b g, x = .returned (.tuple #[.pointer (some ⟨b, 0, none⟩), .int .i64 0]) ∧ StV w' [b, g] b g 1 2 (stoNew n) (List.replicate n KpX.zero) none 0 [] ∧ w'.cell? ⟨b, 0, none⟩ = some (.int .i64 n) ∧ Below w.heap.size w w' ∧ w.heap.size ≤ g ∧ w.heap.size ≤ b := by
  have b1 : decide ((n : Int) < 1) = false := decide_eq_false (by omega)
  have b2 : decide ((16 : Int) < (n : Int)) = false := decide_eq_false (by omega)
  have hmk := run_mk138 w n h2
  have hbu := fun W => build140 W n (some ⟨w.heap.size, 0, none⟩) n n
  go_enter Try.func43, Try.ntmps43
  go_wp2
  obtain ⟨k1, k2, k3⟩ := stV_new (w := w) (n := n) (oK := 1) (oV := 2) (T := 173) h1 h2 (b := w.heap.size + 1) (g := w.heap.size) (cs := #[.int .i64 n, .slice (some ⟨w.heap.size, 0, none⟩) n n, .int .i64 0, .int .i64 0, .int .i64 0, .int .i64 0, .slice none 0 0]) (.inr rfl) rfl rfl rfl rfl rfl rfl rfl rfl rfl
  replace k1 := Lib.hid k1
  replace k2 := Lib.hid k2
  replace k3 := Lib.hid k3
  clear hmk hbu
  go_ret2
  exact ⟨_, _, rfl, k1.out, k2.out 0 _ rfl, k3.out, Nat.le_refl _, Nat.le_succ _⟩
theorem StV.begun {w w' : World} {F : List Nat} {b g oK oV : Nat} {s : Sto} {ks : List KpX} {Mp : Option Addr} {cM : Nat} {ms : List Dr} (h : StV w F b g oK oV s ks Mp cM ms) (hg : w.grownBy w' (some b)) (e l i c : Int)
    (ck : w'.cell? ⟨b, oK, none⟩ = some (.slice (some ⟨g, 0, none⟩) s.n s.n)) (c1 : w'.cell? ⟨b, oV, none⟩ = some (.int .i64 e)) (c2 : w'.cell? ⟨b, oV + 1, none⟩ = some (.int .i64 l)) (c3 : w'.cell? ⟨b, oV + 2, none⟩ = some (.int .i64 i)) (c4 : w'.cell? ⟨b, oV + 3, none⟩ = some (.int .i64 c)) (c6 : w'.cell? ⟨b, 6, none⟩ = some (.slice none 0 0)) (ht : w'.there b 0 7) :
    StV w' F b g oK oV (s.begin_ e l i c) ks none 0 [] := by
  have hs := hg.size
  have hgk := hg.block g (h.hi g h.gF) (by intro e; injection e with e; exact h.bg e.symm)
  exact ⟨ck, c1, c2, c3, c4, c6, ht, fun q x hx => range_same (h.krow q x hx) hgk, there_same h.kthere hgk, h.kk, fun x hx => (h.kS x hx).keep hs (fun k hk hn => hg.block k hk (by intro e; injection e with e; subst e; exact hn h.bF)), rfl, rowF_nil, fun r hr => (by cases hr), ⟨Nat.le_refl _, by omega⟩, h.bF, h.gF, h.bg, fun x hx => Nat.lt_of_lt_of_le (h.hi x hx) hs, begin_sinv h.inv e l i c⟩
theorem size35 : (Try.prog.info? 35).map (·.size) = some 4 := by kernel_rfl
theorem one_ints4 (x y z t : Int) : (#[.int .i64 x, .int .i64 y, .int .i64 z, .int .i64 t] : Array Value).all (·.oneCell') = true := by
  refine all_oneCell_toArray (cs := [.int .i64 x, .int .i64 y, .int .i64 z, .int .i64 t]) fun u hu => ?_
  simp at hu; rcases hu with rfl | rfl | rfl | rfl <;> rfl
theorem load35 {w : World} {b o : Nat} {e l i c : Int} (h : w.rangeAt b o [.int .i64 e, .int .i64 l, .int .i64 i, .int .i64 c]) : (loadVar 35 ⟨b, o, none⟩).run Try.prog w = .ok (.agg #[.int .i64 e, .int .i64 l, .int .i64 i, .int .i64 c]) w :=
  run_loadVar_mid w b o 35 [.int .i64 e, .int .i64 l, .int .i64 i, .int .i64 c] _ h Try.underlying35 rfl (by rw [size35]; rfl)
theorem wpList_store35 {ops : Array Oper} {rest : List Oper} {op : Oper} {a : Act} {w : World} {Q : Exit → Act → World → Prop} (hgd : op.guard = none) (x y : Operand) (ho : op.op = .store 35 x y) (b off : Nat) (hx : a.eval x = .pointer (some ⟨b, off, none⟩)) (e l i c : Int) (hy : a.eval y = .agg #[.int .i64 e, .int .i64 l, .int .i64 i, .int .i64 c]) (ht : w.there b off 4)
    (h : ∀ w', Hid (w' = w.setCells b off [.int .i64 e, .int .i64 l, .int .i64 i, .int .i64 c]) → wpList Try.prog ops Q rest (a.put op.dst undef) w') : wpList Try.prog ops Q (op :: rest) a w :=
  wpList_store_mid hgd 35 x y ho b off #[.int .i64 e, .int .i64 l, .int .i64 i, .int .i64 c] hx hy ht (by rw [size35]; rfl) (one_ints4 e l i c) (h _ (Lib.hid rfl))
set_option maxRecDepth 100000 in
set_option maxHeartbeats 1000000 in
theorem begin_any {w : World} {F : List Nat} {b g : Nat} {s : Sto} {ks : List KpX} {Mp : Option Addr} {cM : Nat} {ms : List Dr} {bg : Bool} (h : StV w F b g 0 1 s ks Mp cM ms) (hb5 : w.cell? ⟨b, 5, none⟩ = some (.bool bg)) (e l i c : Int) :
    Calls Try.prog 75 #[.pointer (some ⟨b, 0, none⟩), .agg #[.int .i64 e, .int .i64 l, .int .i64 i, .int .i64 c]] w fun x w' => x = .returned (.tuple #[]) ∧ StV w' F b g 0 1 (s.begin_ e l i c) ks none 0 [] ∧ w'.cell? ⟨b, 5, none⟩ = some (.bool true) ∧ w.grownBy w' (some b) := by
  obtain ⟨wA, hwA⟩ : ∃ wA, wA = w.alloc (.cells #[.int .i64 e, .int .i64 l, .int .i64 i, .int .i64 c] 35) := ⟨_, rfl⟩
  have hbA : Below w.heap.size w wA := by rw [hwA]; exact below_box1 _ _ _
  have oA : wA.rangeAt w.heap.size 0 [.int .i64 e, .int .i64 l, .int .i64 i, .int .i64 c] := by rw [hwA]; exact range_new w #[.int .i64 e, .int .i64 l, .int .i64 i, .int .i64 c] 35
  have hA := h.below hbA
  have hbz := h.hi b h.bF
  have t0 := hA.there
  have hld := load35 oA
  have s5 : wA.cell? ⟨b, 5, none⟩ = some (.bool bg) := (hbA.cell (p := ⟨b, 5, none⟩) hbz).trans hb5
  have gA : w.grownBy wA (some b) := World.grownBy.but (grown_below hbA) (some b)
  replace s5 := Lib.hid s5
  replace hld := Lib.hid hld
  replace gA := Lib.hid gA
  replace t0 := Lib.hid t0
  replace hwA := Lib.hid hwA
  replace hA := Lib.hid hA
  replace h := Lib.hid h
  clear oA hbA hb5
  go_enter Try.func75, Try.ntmps75
  go_wp2_with (first
    | (rw [← hwA.out]
       refine wpList_loadR rfl 35 (.tmp 3) rfl w.heap.size 0 (by rfl) _ (by exact hld.out) ?_)
    | (refine wpList_store35 rfl (.tmp 9) (.tmp 7) rfl b 1 (by rfl) e l i c (by rfl) (World.there.at t0.out (by omega)) ?_
       intro w2 hw2
       have t2 : w2.there b 0 7 := by rw [hw2.out]; exact World.there_setCells t0.out _ _ _
       have r2 : w2.rangeAt b 1 [.int .i64 e, .int .i64 l, .int .i64 i, .int .i64 c] := by rw [hw2.out]; exact rng_in t0.out (by show 1 + 4 ≤ 7; omega)
       have k2 : w2.cell? ⟨b, 0, none⟩ = some (.slice (some ⟨g, 0, none⟩) s.n s.n) := by rw [hw2.out]; exact cell_out hA.out.ck (by omega)
       have g2 : wA.grownBy w2 (some b) := by rw [hw2.out]; exact grown_sets _ _ _ _
       have m5 : w2.cell? ⟨b, 5, none⟩ = some (.bool bg) := by rw [hw2.out]; exact cell_out s5.out (.inr (by show 1 + 4 ≤ 5; omega))
       have m6 : w2.cell? ⟨b, 6, none⟩ = some (.slice Mp ms.length cM) := by rw [hw2.out]; exact cell_out hA.out.cm (.inr (by show 1 + 4 ≤ 6; omega))
       have f5 : w2.frozen? ⟨b, 5, none⟩ = false := there_frozen (k := 5) t2 (by omega)
       have f6 : w2.frozen? ⟨b, 6, none⟩ = false := there_frozen (k := 6) t2 (by omega)
       replace t2 := Lib.hid t2
       replace r2 := Lib.hid r2
       replace k2 := Lib.hid k2
       replace g2 := Lib.hid g2)
    | fail)
  have e1 : ([.bool true] : List Value).length = 1 := rfl
  have e2 : ([.slice none 0 0] : List Value).length = 1 := rfl
  have o1 : ∀ {j : Nat} {u : Value}, w2.cell? ⟨b, j, none⟩ = some u → j < 5 → ((w2.setCells b 5 [.bool true]).setCells b 6 [.slice none 0 0]).cell? ⟨b, j, none⟩ = some u := fun hu hj => cell_out (cell_out hu (.inl hj)) (.inl (by omega))
  have g3 : wA.grownBy ((w2.setCells b 5 [.bool true]).setCells b 6 [.slice none 0 0]) (some b) := g2.out.trans ((grown_sets _ _ _ _).trans (grown_sets _ _ _ _))
  have t3 : (w2.setCells b 5 [.bool true]).there b 0 7 := World.there_setCells t2.out _ _ _
  have h3 := hA.out.begun g3 e l i c (o1 k2.out (by omega)) (o1 (r2.out 0 _ rfl) (by omega)) (o1 (r2.out 1 _ rfl) (by omega)) (o1 (r2.out 2 _ rfl) (by omega)) (o1 (r2.out 3 _ rfl) (by omega)) (cell_in (i := 0) t3 (by omega) rfl) (World.there_setCells t3 _ _ _)
  have h5 : ((w2.setCells b 5 [.bool true]).setCells b 6 [.slice none 0 0]).cell? ⟨b, 5, none⟩ = some (.bool true) := cell_out (cell_in (i := 0) t2.out (by omega) rfl) (.inl (by omega))
  replace h3 := Lib.hid h3
  replace h5 := Lib.hid h5
  replace g3 := Lib.hid g3
  clear o1
  go_end0
  exact ⟨rfl, h3.out, h5.out, gA.out.trans g3.out⟩
set_option maxRecDepth 100000 in
set_option maxHeartbeats 1000000 in
theorem rbegin_any {w : World} {F : List Nat} {b g : Nat} {s : Sto} {ks : List KpX} {Mp : Option Addr} {cM : Nat} {ms : List Dr} (h : StV w F b g 1 2 s ks Mp cM ms) (hb0 : w.cell? ⟨b, 0, none⟩ = some (.int .i64 s.n)) (e l i c : Int) :
    Calls Try.prog 76 #[.pointer (some ⟨b, 0, none⟩), .agg #[.int .i64 e, .int .i64 l, .int .i64 i, .int .i64 c]] w fun x w' => x = .returned (.tuple #[]) ∧ StV w' F b g 1 2 (s.begin_ e l i c) ks none 0 [] ∧ w'.cell? ⟨b, 0, none⟩ = some (.int .i64 s.n) ∧ w.grownBy w' (some b) := by
  obtain ⟨wA, hwA⟩ : ∃ wA, wA = w.alloc (.cells #[.int .i64 e, .int .i64 l, .int .i64 i, .int .i64 c] 35) := ⟨_, rfl⟩
  have hbA : Below w.heap.size w wA := by rw [hwA]; exact below_box1 _ _ _
  have oA : wA.rangeAt w.heap.size 0 [.int .i64 e, .int .i64 l, .int .i64 i, .int .i64 c] := by rw [hwA]; exact range_new w #[.int .i64 e, .int .i64 l, .int .i64 i, .int .i64 c] 35
  have hA := h.below hbA
  have hbz := h.hi b h.bF
  have t0 := hA.there
  have hld := load35 oA
  have s0 : wA.cell? ⟨b, 0, none⟩ = some (.int .i64 s.n) := (hbA.cell (p := ⟨b, 0, none⟩) hbz).trans hb0
  have gA : w.grownBy wA (some b) := World.grownBy.but (grown_below hbA) (some b)
  replace s0 := Lib.hid s0
  replace hld := Lib.hid hld
  replace gA := Lib.hid gA
  replace t0 := Lib.hid t0
  replace hwA := Lib.hid hwA
  replace hA := Lib.hid hA
  replace h := Lib.hid h
  clear oA hbA hb0
  go_enter Try.func76, Try.ntmps76
  go_wp2_with (first
    | (rw [← hwA.out]
       refine wpList_loadR rfl 35 (.tmp 3) rfl w.heap.size 0 (by rfl) _ (by exact hld.out) ?_)
    | (refine wpList_store35 rfl (.tmp 7) (.tmp 5) rfl b 2 (by rfl) e l i c (by rfl) (World.there.at t0.out (by omega)) ?_
       intro w2 hw2
       have t2 : w2.there b 0 7 := by rw [hw2.out]; exact World.there_setCells t0.out _ _ _
       have r2 : w2.rangeAt b 2 [.int .i64 e, .int .i64 l, .int .i64 i, .int .i64 c] := by rw [hw2.out]; exact rng_in t0.out (by show 2 + 4 ≤ 7; omega)
       have k2 : w2.cell? ⟨b, 1, none⟩ = some (.slice (some ⟨g, 0, none⟩) s.n s.n) := by rw [hw2.out]; exact cell_out hA.out.ck (by omega)
       have g2 : wA.grownBy w2 (some b) := by rw [hw2.out]; exact grown_sets _ _ _ _
       have k0 : w2.cell? ⟨b, 0, none⟩ = some (.int .i64 s.n) := by rw [hw2.out]; exact cell_out s0.out (by omega)
       replace k0 := Lib.hid k0
       have m6 : w2.cell? ⟨b, 6, none⟩ = some (.slice Mp ms.length cM) := by rw [hw2.out]; exact cell_out hA.out.cm (.inr (by show 2 + 4 ≤ 6; omega))
       have f6 : w2.frozen? ⟨b, 6, none⟩ = false := there_frozen (k := 6) t2 (by omega)
       replace t2 := Lib.hid t2
       replace r2 := Lib.hid r2
       replace k2 := Lib.hid k2
       replace g2 := Lib.hid g2)
    | fail)
  have e2 : ([.slice none 0 0] : List Value).length = 1 := rfl
  have o1 : ∀ {j : Nat} {u : Value}, w2.cell? ⟨b, j, none⟩ = some u → j < 6 → (w2.setCells b 6 [.slice none 0 0]).cell? ⟨b, j, none⟩ = some u := fun hu hj => cell_out hu (.inl hj)
  have g3 : wA.grownBy (w2.setCells b 6 [.slice none 0 0]) (some b) := g2.out.trans (grown_sets _ _ _ _)
  have h3 := hA.out.begun g3 e l i c (o1 k2.out (by omega)) (o1 (r2.out 0 _ rfl) (by omega)) (o1 (r2.out 1 _ rfl) (by omega)) (o1 (r2.out 2 _ rfl) (by omega)) (o1 (r2.out 3 _ rfl) (by omega)) (cell_in (i := 0) t2.out (by omega) rfl) (World.there_setCells t2.out _ _ _)
  have h5 := o1 k0.out (by omega)
  replace h3 := Lib.hid h3
  replace h5 := Lib.hid h5
  replace g3 := Lib.hid g3
  clear o1
  go_end0
  exact ⟨rfl, h3.out, h5.out, gA.out.trans g3.out⟩
end Go.Proofs.Ytcffhfcjfjfokaa
namespace Go.Proofs.Ytcffhfcjfjfokaa
open Go.RowKit
section
variable {fn : Func} {P : Program} {w : World} {tmps : Array Value} {p q u : Tmp} {ty tz : TypeId} {a b : Addr} {v x : Value}
theorem run_asAddr (w : World) (P : Program) (a : Addr) : (asAddr (.pointer (some a))).run P w = .ok a w := rfl
theorem res_cell (h : fn.results = #[.cell p ty]) (ha : tmps.getD p undef = .pointer (some a)) (hv : (loadVar ty a).run P w = .ok v w) : (results fn tmps).run P w = .ok v w := by
  simp only [results, h]
  have ha' : tmps[p]?.getD undef = .pointer (some a) := by simpa using ha
  simp [Sem.run_bind, ha', run_asAddr, hv]
end
end Go.Proofs.Ytcffhfcjfjfokaa
namespace Go.Proofs.Ytcffhfcjfjfokaa
open Go.RowKit
theorem wp_store39 {o : Oper} {a : Act} {w : World} {K : Act → World → Prop} {Q : Exit → Act → World → Prop} (x y : Operand) (ho : o.op = .store 39 x y) (hd : o.dst = none) (b off : Nat) (hx : a.eval x = .pointer (some ⟨b, off, none⟩)) (e l i c u : Int) (A : Option Addr) (n cA : Nat) (B : Option Addr) (m cB : Nat) (hy : a.eval y = .agg (flc e l i c u A n cA B m cB))
    (ht : w.there b off 7) (h : ∀ w', Hid (w' = w.setCells b off (flc e l i c u A n cA B m cB).toList) → K a w') : o.wp Try.prog a w K Q :=
  wp_store_mid 39 x y ho b off (flc e l i c u A n cA B m cB) hx hy ht (by rw [size39s]; rfl) (one_flc ..) (by rw [hd]; exact h _ (Lib.hid rfl))
theorem build39 (W : World) (e l i c b : Int) (A : Option Addr) (n cA : Nat) (B : Option Addr) (m cB : Nat) : (Instr.build 39 #[(0, .agg #[.int .i64 e, .int .i64 l, .int .i64 i, .int .i64 c]), (1, .int .i64 b), (2, .slice A n cA), (3, .slice B m cB)]).run Try.prog W = .ok (.agg (flc e l i c b A n cA B m cB)) W := by kernel_rfl
abbrev flZ : Array Value := #[.int .i64 0, .int .i64 0, .int .i64 0, .int .i64 0, .int .i64 0, .slice none 0 0, .slice none 0 0]
def TwPost (w : World) (f : Fl) (x : Ending) (w' : World) : Prop :=
  ∃ A c B d, x = .returned (.agg (flc f.e f.l f.i f.c f.base A f.slots.length c B f.have_.length d)) ∧ Owns w' w.heap.size 66 2 eSlot A c f.slots ∧ Owns w' w.heap.size 3 1 eInt B d f.have_ ∧ Below w.heap.size w w'
set_option maxRecDepth 100000 in
set_option maxHeartbeats 1000000 in
theorem ptwin_any (f : Fl) (A : Option Addr) (cA : Nat) (B : Option Addr) (cB N : Nat) (w : World) (hN : N ≤ w.heap.size) (hA : RowAt w N 2 eSlot A f.slots) (hB : RowAt w N 1 eInt B f.have_) (l1 : f.slots.length ≤ 1048576) (l2 : f.have_.length ≤ 1048576) :
    Calls Try.prog 106 #[.agg (flc f.e f.l f.i f.c f.base A f.slots.length cA B f.have_.length cB)] w (TwPost w f) := by
  obtain ⟨wA, hwA⟩ : ∃ wA, wA = (w.alloc (.cells (flc f.e f.l f.i f.c f.base A f.slots.length cA B f.have_.length cB) 39)).alloc (.cells flZ 39) := ⟨_, rfl⟩
  have hbA : Below w.heap.size w wA := by rw [hwA]; exact below_box2 _ _ _ _ _
  have zA : wA.heap.size = w.heap.size + 2 := by rw [hwA]; simp
  have oA : wA.rangeAt w.heap.size 0 (flc f.e f.l f.i f.c f.base A f.slots.length cA B f.have_.length cB).toList := by rw [hwA]; exact range_same (range_new w (flc f.e f.l f.i f.c f.base A f.slots.length cA B f.have_.length cB) 39) (heap_alloc_old _ _ (by simp))
  have tA : wA.there (w.heap.size + 1) 0 7 := by
    have := there_new (w.alloc (.cells (flc f.e f.l f.i f.c f.base A f.slots.length cA B f.have_.length cB) 39)) flZ 39
    rw [hwA]; rw [World.size_alloc] at this; exact this
  have L4 : ∀ W : World, W.rangeAt w.heap.size 0 (flc f.e f.l f.i f.c f.base A f.slots.length cA B f.have_.length cB).toList → (loadVar 35 ⟨w.heap.size, 0, none⟩).run Try.prog W = .ok (.agg #[.int .i64 f.e, .int .i64 f.l, .int .i64 f.i, .int .i64 f.c]) W := fun W hW => load35 (range_mid (l1 := []) (m := [.int .i64 f.e, .int .i64 f.l, .int .i64 f.i, .int .i64 f.c]) (l3 := [.int .i64 f.base, .slice A f.slots.length cA, .slice B f.have_.length cB]) hW rfl)
  have L6 : ∀ W : World, W.rangeAt w.heap.size 0 (flc f.e f.l f.i f.c f.base A f.slots.length cA B f.have_.length cB).toList → (loadVar 3 ⟨w.heap.size, 4, none⟩).run Try.prog W = .ok (.int .i64 f.base) W := fun W hW => load3 (hW 4 _ rfl)
  have L8 : ∀ W : World, W.rangeAt w.heap.size 0 (flc f.e f.l f.i f.c f.base A f.slots.length cA B f.have_.length cB).toList → (loadVar 36 ⟨w.heap.size, 5, none⟩).run Try.prog W = .ok (.slice A f.slots.length cA) W := fun W hW => load36 (hW 5 _ rfl)
  have L11 : ∀ W : World, W.rangeAt w.heap.size 0 (flc f.e f.l f.i f.c f.base A f.slots.length cA B f.have_.length cB).toList → (loadVar 37 ⟨w.heap.size, 6, none⟩).run Try.prog W = .ok (.slice B f.have_.length cB) W := fun W hW => load37 (hW 6 _ rfl)
  have hC : ∀ x' : Prop, (∀ W : World, W.rangeAt w.heap.size 0 (flc f.e f.l f.i f.c f.base A f.slots.length cA B f.have_.length cB).toList → x') ↔ x' := fun x' => ⟨fun f => f _ oA, fun f _ _ => f⟩
  have od : wA.drew.rangeAt w.heap.size 0 (flc f.e f.l f.i f.c f.base A f.slots.length cA B f.have_.length cB).toList := range_same oA rfl
  have bd : Below wA.heap.size wA wA.drew := Below.drew (Below.refl _ _)
  have rA := (hA.below hbA hN).below bd (by omega)
  have hx : ∀ W, Below wA.heap.size wA W → RowAt W N 1 eInt B f.have_ := fun W hW => (hB.below hbA hN).below hW (by omega)
  replace bd := Lib.hid bd
  replace od := Lib.hid od
  replace oA := Lib.hid oA
  replace rA := Lib.hid rA
  replace hx := Lib.hid hx
  replace L4 := Lib.hid L4
  replace L6 := Lib.hid L6
  replace L8 := Lib.hid L8
  replace L11 := Lib.hid L11
  replace tA := Lib.hid tA
  replace hbA := Lib.hid hbA
  replace hwA := Lib.hid hwA
  replace zA := Lib.hid zA
  clear hA hB
  go_enter Try.func106, Try.ntmps106
  go_wp2_with fail
  rw [← hwA.out]
  refine wp_region_ord [([0, 1, 2, 3, 4, 5, 7, 8], 6), ([], 9), ([10], 11)] [] (fun W => W.rangeAt w.heap.size 0 (flc f.e f.l f.i f.c f.base A f.slots.length cA B f.have_.length cB).toList) rfl (by kernel_rfl) rfl od.out ?_
  refine WO.seg rfl ?_ od.out
  simp only [picks, pick, List.cons_append, List.nil_append, List.append_nil]
  repeat (first
    | go_big_quiet_skip
    | (refine wpQuiet_loadC (by rfl) 35 (.tmp 3) rfl w.heap.size 0 (by rfl) _ L4.out ?_; simp only [Act.put, List.setIfInBounds_toArray, List.set_cons_zero, List.set_cons_succ])
    | (refine wpQuiet_loadC (by rfl) 3 (.tmp 5) rfl w.heap.size 4 (by rfl) _ L6.out ?_; simp only [Act.put, List.setIfInBounds_toArray, List.set_cons_zero, List.set_cons_succ])
    | (refine wpQuiet_loadC (by rfl) 36 (.tmp 7) rfl w.heap.size 5 (by rfl) _ L8.out ?_; simp only [Act.put, List.setIfInBounds_toArray, List.set_cons_zero, List.set_cons_succ])
    | (refine wpQuiet_loadC (by rfl) 37 (.tmp 10) rfl w.heap.size 6 (by rfl) _ L11.out ?_; simp only [Act.put, List.setIfInBounds_toArray, List.set_cons_zero, List.set_cons_succ])
    | go_big_quiet_step (fail))
  refine wpQuiet_nil ?_
  intro K hK
  refine step_append_rows rfl (.const (.slice none 0 0)) (.tmp 8) 36 rfl wA.heap.size 66 2 16 (.agg #[.int .i64 0, .int .i64 0]) Try.underlying36 info66 (by rfl) (by omega) eSlot len_eSlot one_eSlot none 0 [] A cA N 0 f.slots.length f.slots (by rfl) (by rfl) rfl rfl (owns_nil _ _ _ _ _) rA.out (by omega) (by omega) (by show wA.heap.size ≤ wA.heap.size; omega) ?_
  intro A1 c1 w1 ho1 hg1 hk1
  rw [Nat.zero_add]
  rw [List.nil_append] at ho1
  have b1 : Below wA.heap.size wA w1 := bd.out.grown hg1 (by show wA.heap.size ≤ wA.heap.size; omega) (fun k hk => by cases hk)
  have lo1 := ho1.lo
  have o1 := range_same oA.out (b1.block w.heap.size (by have := zA.out; omega))
  replace o1 := Lib.hid o1
  replace ho1 := Lib.hid ho1
  replace b1 := Lib.hid b1
  replace lo1 := Lib.hid lo1
  clear hg1 hk1
  simp only [Act.put, List.setIfInBounds_toArray, List.set_cons_zero, List.set_cons_succ]
  refine hK.out _ _ o1.out ?_
  clear hK K
  refine WO.seg rfl ?_ o1.out
  simp only [picks]
  refine wpQuiet_nil ?_
  intro K hK
  refine step_append_rows rfl (.const (.slice none 0 0)) (.tmp 11) 37 rfl wA.heap.size 3 1 8 (.int .i64 0) Try.underlying37 info3 (by rfl) (by omega) eInt len_eInt one_eInt none 0 [] B cB N 0 f.have_.length f.have_ (by rfl) (by rfl) rfl rfl (owns_nil _ _ _ _ _) (hx.out _ b1.out) (by omega) (by omega) b1.out.size ?_
  intro B1 d1 w2 ho2 hg2 hk2
  rw [Nat.zero_add]
  rw [List.nil_append] at ho2
  have b2 : Below wA.heap.size wA w2 := b1.out.grown hg2 b1.out.size (fun k hk => by cases hk)
  have ho12 := ho1.out.kept hg2 (by cases hb : blk A1 <;> simp [blk])
  have o2 := range_same oA.out (b2.block w.heap.size (by have := zA.out; omega))
  replace o2 := Lib.hid o2
  replace ho2 := Lib.hid ho2
  replace ho12 := Lib.hid ho12
  replace b2 := Lib.hid b2
  clear hg2 hk2
  simp only [Act.put, List.setIfInBounds_toArray, List.set_cons_zero, List.set_cons_succ]
  refine hK.out _ _ o2.out ?_
  clear hK K
  have hbu := fun W => build39 W f.e f.l f.i f.c f.base A1 f.slots.length c1 B1 f.have_.length d1
  have t2 := there_below tA.out b2.out (by have := zA.out; omega)
  refine WO.seg rfl ?_ o2.out
  simp only [picks, pick, List.cons_append, List.nil_append, List.append_nil]
  repeat go_big_quiet_step (fail)
  refine wpQuiet_nil ?_
  intro K hK
  rw [if_pos (by rfl)]
  refine wp_store39 (.tmp 2) (.tmp 13) rfl rfl (w.heap.size + 1) 0 (by rfl) f.e f.l f.i f.c f.base A1 f.slots.length c1 B1 f.have_.length d1 (by rfl) t2 ?_
  intro w3 hw3
  have g3 : w2.grownBy w3 (some (w.heap.size + 1)) := by rw [hw3.out]; exact grown_sets _ _ _ _
  have r3 : w3.rangeAt (w.heap.size + 1) 0 (flc f.e f.l f.i f.c f.base A1 f.slots.length c1 B1 f.have_.length d1).toList := by rw [hw3.out]; exact rng_in t2 (by show 0 + 7 ≤ 7; omega)
  have hbw : Below w.heap.size w w3 := (hbA.out.trans (b2.out.mono (by have := zA.out; omega))).grown g3 (by have := b2.out.size; have := zA.out; omega) (by intro k hk; injection hk with hk; omega)
  have o3 := range_same o2.out (g3.block w.heap.size (by have := b2.out.size; have := zA.out; omega) (by intro e; injection e with e; omega))
  have lo2 := ho2.out.lo
  have f1 := ho12.out.kept g3 (.inr (by intro e; have := lo1.out _ e; have := zA.out; omega))
  have f2 := ho2.out.kept g3 (.inr (by intro e; have := lo2 _ e; have := b1.out.size; have := zA.out; omega))
  refine hK.out _ _ o3 ?_
  clear hK K
  refine WO.end_ ?_
  simp only [picks]
  refine wpQuiet_nil ?_
  clear hC hbu
  go_wp2
  exact bodyPost_ret (res_cell (p := 2) (ty := 39) rfl rfl (load39 r3)) rfl ⟨A1, c1, B1, d1, rfl, f1.base (by have := zA.out; omega), f2.base (by have := zA.out; omega), hbw⟩
end Go.Proofs.Ytcffhfcjfjfokaa
namespace Go.Proofs.Ytcffhfcjfjfokaa
open Go.RowKit
theorem build39b (W : World) (e l i c b : Int) : (Instr.build 39 #[(0, .agg #[.int .i64 e, .int .i64 l, .int .i64 i, .int .i64 c]), (1, .int .i64 b)]).run Try.prog W = .ok (.agg (flc e l i c b none 0 0 none 0 0)) W := by kernel_rfl
theorem wpList_store39 {ops : Array Oper} {rest : List Oper} {op : Oper} {a : Act} {w : World} {Q : Exit → Act → World → Prop} (hgd : op.guard = none) (x y : Operand) (ho : op.op = .store 39 x y) (b off : Nat) (hx : a.eval x = .pointer (some ⟨b, off, none⟩)) (e l i c u : Int) (A : Option Addr) (n cA : Nat) (B : Option Addr) (m cB : Nat) (hy : a.eval y = .agg (flc e l i c u A n cA B m cB)) (ht : w.there b off 7)
    (h : ∀ w', Hid (w' = w.setCells b off (flc e l i c u A n cA B m cB).toList) → wpList Try.prog ops Q rest (a.put op.dst undef) w') : wpList Try.prog ops Q (op :: rest) a w :=
  wpList_store_mid hgd 39 x y ho b off (flc e l i c u A n cA B m cB) hx hy ht (by rw [size39s]; rfl) (one_flc ..) (h _ (Lib.hid rfl))
set_option maxRecDepth 100000 in
set_option maxHeartbeats 1000000 in
theorem copyOf_any (f : Fl) (A : Option Addr) (cA : Nat) (B : Option Addr) (cB N : Nat) (w : World) (hN : N ≤ w.heap.size) (hA : RowAt w N 2 eSlot A f.slots) (hB : RowAt w N 1 eInt B f.have_) (l1 : f.slots.length ≤ 1048576) (l2 : f.have_.length ≤ 1048576) :
    Calls Try.prog 107 #[.agg (flc f.e f.l f.i f.c f.base A f.slots.length cA B f.have_.length cB)] w (TwPost w f) := by
  obtain ⟨wA, hwA⟩ : ∃ wA, wA = (w.alloc (.cells (flc f.e f.l f.i f.c f.base A f.slots.length cA B f.have_.length cB) 39)).alloc (.cells flZ 39) := ⟨_, rfl⟩
  have hbA : Below w.heap.size w wA := by rw [hwA]; exact below_box2 _ _ _ _ _
  have zA : wA.heap.size = w.heap.size + 2 := by rw [hwA]; simp
  have oA : wA.rangeAt w.heap.size 0 (flc f.e f.l f.i f.c f.base A f.slots.length cA B f.have_.length cB).toList := by rw [hwA]; exact range_same (range_new w (flc f.e f.l f.i f.c f.base A f.slots.length cA B f.have_.length cB) 39) (heap_alloc_old _ _ (by simp))
  have tA : wA.there (w.heap.size + 1) 0 7 := by
    have := there_new (w.alloc (.cells (flc f.e f.l f.i f.c f.base A f.slots.length cA B f.have_.length cB) 39)) flZ 39
    rw [hwA]; rw [World.size_alloc] at this; exact this
  have L4 := load35 (range_mid (l1 := []) (m := [.int .i64 f.e, .int .i64 f.l, .int .i64 f.i, .int .i64 f.c]) (l3 := [.int .i64 f.base, .slice A f.slots.length cA, .slice B f.have_.length cB]) oA rfl)
  have L6 : (loadVar 3 ⟨w.heap.size, 4, none⟩).run Try.prog wA = .ok (.int .i64 f.base) wA := load3 (oA 4 _ rfl)
  have hbu := fun W => build39b W f.e f.l f.i f.c f.base
  have hA2 := hA.below hbA hN
  have hB2 := hB.below hbA hN
  replace hA2 := Lib.hid hA2
  replace hB2 := Lib.hid hB2
  replace L4 := Lib.hid L4
  replace L6 := Lib.hid L6
  replace oA := Lib.hid oA
  replace tA := Lib.hid tA
  replace hbA := Lib.hid hbA
  replace hwA := Lib.hid hwA
  replace zA := Lib.hid zA
  clear hA hB
  go_enter Try.func107, Try.ntmps107
  go_wp2_with (first
    | (rw [← hwA.out]
       refine wpList_loadR rfl 35 (.tmp 4) rfl w.heap.size 0 (by rfl) _ (by exact L4.out) ?_)
    | (refine wpList_loadR rfl 3 (.tmp 6) rfl w.heap.size 4 (by rfl) _ (by exact L6.out) ?_)
    | (refine wpList_store39 rfl (.tmp 3) (.tmp 8) rfl wA.heap.size 0 (by rfl) f.e f.l f.i f.c f.base none 0 0 none 0 0 (by rfl) (there_new wA flZ 39) ?_
       intro w1 hw1
       have b1 : Below wA.heap.size wA w1 := by rw [hw1.out]; exact below_sets ((Below.refl _ _).alloc (Nat.le_refl _) _) (Nat.le_refl _) _ _ (by simp)
       have z1 : w1.heap.size = wA.heap.size + 1 := by rw [hw1.out, size_sets]; simp
       obtain ⟨u, hu⟩ : ∃ u, u = wA.heap.size := ⟨_, rfl⟩
       have r1 : w1.rangeAt u 0 (flc f.e f.l f.i f.c f.base none 0 0 none 0 0).toList := by rw [hu, hw1.out]; exact World.rangeAt_setCells_same _ _ _ _ (there_new wA flZ 39)
       have t1 : w1.there u 0 7 := by rw [hu, hw1.out]; exact World.there_setCells (there_new wA flZ 39) _ _ _
       have o1 := range_same oA.out (b1.block w.heap.size (by have := zA.out; omega))
       have tR := there_below tA.out b1 (by have := zA.out; omega)
       have L10 := load36 (w := w1) (b := u) (o := 5) (r1 5 _ rfl)
       have L12 : (loadVar 36 ⟨w.heap.size, 5, none⟩).run Try.prog w1 = .ok (.slice A f.slots.length cA) w1 := load36 (o1 5 _ rfl)
       have hA3 := hA2.out.below b1 (by have := zA.out; omega)
       have hB3 := hB2.out.below b1 (by have := zA.out; omega)
       rw [← hu]
       replace hu := Lib.hid hu
       replace b1 := Lib.hid b1
       replace z1 := Lib.hid z1
       replace r1 := Lib.hid r1
       replace t1 := Lib.hid t1
       replace o1 := Lib.hid o1
       replace tR := Lib.hid tR
       replace L10 := Lib.hid L10
       replace L12 := Lib.hid L12
       replace hA3 := Lib.hid hA3
       replace hB3 := Lib.hid hB3
       clear hw1 hbu)
    | (refine wpList_loadR rfl 36 (.tmp 9) rfl u 5 (by rfl) _ (by exact L10.out) ?_)
    | (refine wpList_loadR rfl 36 (.tmp 11) rfl w.heap.size 5 (by rfl) _ (by exact L12.out) ?_)
    | (refine wpList_append_rows _ rfl (.tmp 10) (.tmp 12) 36 rfl w1.heap.size 66 2 16 (.agg #[.int .i64 0, .int .i64 0]) Try.underlying36 info66 (by rfl) (by omega) eSlot len_eSlot one_eSlot none 0 [] A cA N 0 f.slots.length f.slots (by rfl) (by rfl) rfl rfl (owns_nil _ _ _ _ _) hA3.out (by omega) (by omega) (Nat.le_refl _) ?_
       intro A1 c1 w2 ho1 hg1 hk1
       rw [Nat.zero_add]
       rw [List.nil_append] at ho1
       have zu : u < w1.heap.size := by have := hu.out; have := z1.out; omega
       have bw : Below w1.heap.size w1 w2 := (Below.refl _ _).grown hg1 (Nat.le_refl _) (fun k hk => by cases hk)
       have r2 := range_same r1.out (bw.block u zu)
       have t2 := there_same t1.out (bw.block u zu)
       have k5 : w2.cell? ⟨u, 5, none⟩ = some (.slice none 0 0) := r2 5 _ rfl
       have f5 : w2.frozen? ⟨u, 5, none⟩ = false := there_frozen (k := 5) t2 (by omega)
       obtain ⟨w3, hw3⟩ : ∃ w3, w3 = w2.setCell ⟨u, 5, none⟩ (.slice A1 f.slots.length c1) := ⟨_, rfl⟩
       have r3 : w3.rangeAt u 0 (flc f.e f.l f.i f.c f.base A1 f.slots.length c1 none 0 0).toList := by rw [hw3]; exact rng_put (o := 5) (vs := [.slice A1 f.slots.length c1]) r2 t2 rfl (by show 5 + 1 ≤ 7; omega)
       have t3 : w3.there u 0 7 := by rw [hw3]; exact there_set t2 _ _
       have g3 : w2.grownBy w3 (some u) := by rw [hw3]; exact grown_cell _ _ _ _
       have b3 : Below u w1 w3 := (bw.mono (by omega)).grown g3 (by have := bw.size; omega) (by intro k hk; injection hk with hk; omega)
       have lo1 := ho1.lo
       have o3 : Owns w3 w1.heap.size 66 2 eSlot A1 c1 f.slots := ho1.kept g3 (.inr (by intro e; have := (lo1 _ e).1; omega))
       have huz := hu.out
       have zz := zA.out
       have v3 := range_same o1.out (b3.block w.heap.size (by omega))
       have tR3 := there_below tR.out b3 (by omega)
       have L17 := load37 (w := w3) (b := u) (o := 6) (r3 6 _ rfl)
       have L19 : (loadVar 37 ⟨w.heap.size, 6, none⟩).run Try.prog w3 = .ok (.slice B f.have_.length cB) w3 := load37 (v3 6 _ rfl)
       have hB4 := hB3.out.below b3 (by omega)
       have z3 : w1.heap.size ≤ w3.heap.size := Nat.le_trans bw.size g3.size
       clear hg1 hk1 r2 t2 bw huz zz
       replace ho1 := Lib.hid ho1
       replace hw3 := Lib.hid hw3
       replace r3 := Lib.hid r3
       replace t3 := Lib.hid t3
       replace b3 := Lib.hid b3
       replace lo1 := Lib.hid lo1
       replace o3 := Lib.hid o3
       replace v3 := Lib.hid v3
       replace tR3 := Lib.hid tR3
       replace L17 := Lib.hid L17
       replace L19 := Lib.hid L19
       replace hB4 := Lib.hid hB4
       replace g3 := Lib.hid g3)
    | (rw [← hw3.out]
       refine wpList_loadR rfl 37 (.tmp 15) rfl u 6 (by rfl) _ (by exact L17.out) ?_)
    | (refine wpList_loadR rfl 37 (.tmp 17) rfl w.heap.size 6 (by rfl) _ (by exact L19.out) ?_)
    | (refine wpList_append_rows _ rfl (.tmp 16) (.tmp 18) 37 rfl w3.heap.size 3 1 8 (.int .i64 0) Try.underlying37 info3 (by rfl) (by omega) eInt len_eInt one_eInt none 0 [] B cB N 0 f.have_.length f.have_ (by rfl) (by rfl) rfl rfl (owns_nil _ _ _ _ _) hB4.out (by omega) (by omega) (Nat.le_refl _) ?_
       intro B1 d1 w4 ho4 hg4 hk4
       rw [Nat.zero_add]
       rw [List.nil_append] at ho4
       have zu3 : u < w3.heap.size := by have := hu.out; have := z1.out; omega
       have bw4 : Below w3.heap.size w3 w4 := (Below.refl _ _).grown hg4 (Nat.le_refl _) (fun k hk => by cases hk)
       have r4 := range_same r3.out (bw4.block u zu3)
       have t4 := there_same t3.out (bw4.block u zu3)
       have k6 : w4.cell? ⟨u, 6, none⟩ = some (.slice none 0 0) := r4 6 _ rfl
       have f6 : w4.frozen? ⟨u, 6, none⟩ = false := there_frozen (k := 6) t4 (by omega)
       obtain ⟨w5, hw5⟩ : ∃ w5, w5 = w4.setCell ⟨u, 6, none⟩ (.slice B1 f.have_.length d1) := ⟨_, rfl⟩
       have r5 : w5.rangeAt u 0 (flc f.e f.l f.i f.c f.base A1 f.slots.length c1 B1 f.have_.length d1).toList := by rw [hw5]; exact rng_put (o := 6) (vs := [.slice B1 f.have_.length d1]) r4 t4 rfl (by show 6 + 1 ≤ 7; omega)
       have g5 : w4.grownBy w5 (some u) := by rw [hw5]; exact grown_cell _ _ _ _
       have b5 : Below u w3 w5 := (bw4.mono (by omega)).grown g5 (by have := bw4.size; omega) (by intro k hk; injection hk with hk; omega)
       have lo4 := ho4.lo
       have hlo1 := lo1.out
       have o5 : Owns w5 w3.heap.size 3 1 eInt B1 d1 f.have_ := ho4.kept g5 (.inr (by intro e; have := (lo4 _ e).1; omega))
       have o35 : Owns w5 w1.heap.size 66 2 eSlot A1 c1 f.slots := (o3.out.keep bw4 (fun k hk => by have := o3.out.lo k hk; omega)).kept g5 (.inr (by intro e; have := (o3.out.lo _ e).1; have := hu.out; have := z1.out; omega))
       have huz := hu.out
       have zz := zA.out
       have tR5 := there_below tR3.out b5 (by omega)
       have b05 : Below w.heap.size w w5 := ((hbA.out.trans (b1.out.mono (by omega))).trans (b3.out.mono (by omega))).trans (b5.mono (by omega))
       have L21 := load39 r5
       clear hg4 hk4 r4 t4 bw4 huz zz hlo1
       replace hw5 := Lib.hid hw5
       replace r5 := Lib.hid r5
       replace o5 := Lib.hid o5
       replace o35 := Lib.hid o35
       replace tR5 := Lib.hid tR5
       replace b05 := Lib.hid b05
       replace L21 := Lib.hid L21
       replace lo4 := Lib.hid lo4
       replace g5 := Lib.hid g5
       replace b5 := Lib.hid b5)
    | (rw [← hw5.out]
       refine wpList_loadR rfl 39 (.tmp 3) rfl u 0 (by rfl) _ (by exact L21.out) ?_)
    | (refine wpList_store39 rfl (.tmp 2) (.tmp 21) rfl (w.heap.size + 1) 0 (by rfl) f.e f.l f.i f.c f.base A1 f.slots.length c1 B1 f.have_.length d1 (by rfl) tR5.out ?_
       intro w6 hw6)
    | fail)
  have g6 : w5.grownBy w6 (some (w.heap.size + 1)) := by rw [hw6.out]; exact grown_sets _ _ _ _
  have r6 : w6.rangeAt (w.heap.size + 1) 0 (flc f.e f.l f.i f.c f.base A1 f.slots.length c1 B1 f.have_.length d1).toList := by rw [hw6.out]; exact World.rangeAt_setCells_same _ _ _ _ tR5.out
  have huz := hu.out
  have zz := zA.out
  have zz1 := z1.out
  have b06 : Below w.heap.size w w6 := b05.out.grown g6 b05.out.size (by intro k hk; injection hk with hk; omega)
  have h1 := o35.out.kept g6 (.inr (by intro e; have := (o35.out.lo _ e).1; omega))
  have h2 := o5.out.kept g6 (.inr (by intro e; have := (o5.out.lo _ e).1; omega))
  exact bodyPost_ret (res_cell (p := 2) (ty := 39) rfl rfl (load39 r6)) rfl ⟨A1, c1, B1, d1, rfl, h1.base (by omega), h2.base (by omega), b06⟩
end Go.Proofs.Ytcffhfcjfjfokaa
namespace Go.Proofs.Ytcffhfcjfjfokaa
open Go.RowKit
theorem fl_ext {f g : Fl} (h1 : vidEq f.e f.l f.i f.c g.e g.l g.i g.c = true) (h2 : f.base = g.base) (h3 : f.slots = g.slots) (h4 : f.have_ = g.have_) : f = g := by
  cases f; cases g
  simp [vidEq] at h1 h2 h3 h4
  obtain ⟨a, b, c, d⟩ := h1
  subst a b c d h2 h3 h4; rfl
open Classical in
noncomputable def flB (f g : Fl) : Bool := decide (f = g)
theorem flB_no {f g : Fl} (h : f ≠ g) : false = flB f g := by unfold flB; simp [h]
theorem flB_yes {f g : Fl} (h : f = g) : true = flB f g := by unfold flB; simp [h]
theorem fl_slot_ne {f g : Fl} {q : Nat} {x y x' y' : Int} (h1 : f.slots[q]? = some (x, y)) (h2 : g.slots[q]? = some (x', y')) (hn : (!slotEq x y x' y') = true) : false = flB f g := flB_no (by
  intro e; rw [e] at h1; rw [h1] at h2; cases h2; simp [slotEq] at hn)
theorem fl_have_ne {f g : Fl} {q : Nat} {x x' : Int} (h1 : f.have_[q]? = some x) (h2 : g.have_[q]? = some x') (hn : (x != x') = true) : false = flB f g := flB_no (by
  intro e; rw [e] at h1; rw [h1] at h2; cases h2; simp at hn)
theorem load66 {w : World} {b o : Nat} {x y : Int} (h0 : w.cell? ⟨b, o, none⟩ = some (.int .i64 x)) (h1 : w.cell? ⟨b, o + 1, none⟩ = some (.int .i64 y)) : (loadVar 66 ⟨b, o, none⟩).run Try.prog w = .ok (.agg #[.int .i64 x, .int .i64 y]) w := by go_simp
set_option maxRecDepth 100000 in
set_option maxHeartbeats 2000000 in
theorem alike_any (f f' : Fl) (A A' : Option Addr) (cA cA' : Nat) (B B' : Option Addr) (cB cB' N : Nat) (w : World) (hN : N ≤ w.heap.size) (hA : RowAt w N 2 eSlot A f.slots) (hA' : RowAt w N 2 eSlot A' f'.slots) (hB : RowAt w N 1 eInt B f.have_) (hB' : RowAt w N 1 eInt B' f'.have_)
    (l1 : f.slots.length ≤ 1048576) (l2 : f.have_.length ≤ 1048576) (l3 : f'.slots.length ≤ 1048576) (l4 : f'.have_.length ≤ 1048576) :
    Calls Try.prog 117 #[.agg (flc f.e f.l f.i f.c f.base A f.slots.length cA B f.have_.length cB), .agg (flc f'.e f'.l f'.i f'.c f'.base A' f'.slots.length cA' B' f'.have_.length cB')] w fun x w' => x = .returned (.bool (flB f f')) ∧ Below w.heap.size w w' := by
  have hne := run_neq_slot
  have hnv := run_neq_vid
  have hb0 := below_box2 w (flc f.e f.l f.i f.c f.base A f.slots.length cA B f.have_.length cB) 39 (flc f'.e f'.l f'.i f'.c f'.base A' f'.slots.length cA' B' f'.have_.length cB') 39
  replace hb0 := Lib.hid hb0
  cases hv : vidEq f.e f.l f.i f.c f'.e f'.l f'.i f'.c with
  | false =>
    have he := Lib.hid (flB_no (f := f) (g := f') (by rintro rfl; simp [vidEq] at hv))
    clear hA hA' hB hB'
    go_enter Try.func117, Try.ntmps117
    go_wp2
    go_ret
    exact ⟨ret_bool he.out, hb0.out⟩
  | true =>
    by_cases h2 : f.base = f'.base
    · have b2 : (f.base != f'.base) = false := by simp [h2]
      by_cases h3 : f.slots.length = f'.slots.length
      · have b3 : ((f.slots.length : Int) != (f'.slots.length : Int)) = false := by simp [h3]
        by_cases h4 : f.have_.length = f'.have_.length
        · have b4 : ((f.have_.length : Int) != (f'.have_.length : Int)) = false := by simp [h4]
          have hv' := Lib.hid hv
          replace h2 := Lib.hid h2
          replace h3 := Lib.hid h3
          replace h4 := Lib.hid h4
          go_enter Try.func117, Try.ntmps117
          go_wp2
          clear b2 b3 b4 hv
          go_loopw [42] (fun k wr => ∃ q : Nat, k = .int .i64 q ∧ q ≤ f.slots.length ∧ agree f.slots f'.slots q ∧ Below (w.heap.size + 2) (box2 w (flc f.e f.l f.i f.c f.base A f.slots.length cA B f.have_.length cB) 39 (flc f'.e f'.l f'.i f'.c f'.base A' f'.slots.length cA' B' f'.have_.length cB') 39) wr) (fun k _ => f.slots.length - (intOf k).toNat)
          case atStart => exact ⟨0, rfl, by omega, agree_zero _ _, Below.refl _ _⟩
          case round =>
            obtain ⟨q, rfl, hq, hag, hb⟩ := hrel
            obtain ⟨hbw, hc, hc', hf, hf', hsz, hsz'⟩ := box2_facts hb
            have p5 := hc' 5
            have p6 := hc' 6
            have q6 := hc 6
            simp at p5 p6 q6
            clear hc hc' hf hf'
            have hzz := hb.size
            simp at hzz
            replace hag := Lib.hid hag
            by_cases hlt : q < f.slots.length
            · obtain ⟨g1, o1, x, y, rfl, hg1, hx1, k1, k2⟩ := (hA.below hbw hN).slot (k := q) hlt
              obtain ⟨g2, o2, x', y', rfl, hg2, hx2, k3, k4⟩ := (hA'.below hbw hN).slot (k := q) (by rw [← h3.out]; exact hlt)
              have hw1 : (q : Int) < (f'.slots.length : Int) := by rw [← h3.out]; omega
              have hb9 : Below (w.heap.size + 2) (box2 w (flc f.e f.l f.i f.c f.base (some ⟨g1, o1, none⟩) f.slots.length cA B f.have_.length cB) 39 (flc f'.e f'.l f'.i f'.c f'.base (some ⟨g2, o2, none⟩) f'.slots.length cA' B' f'.have_.length cB') 39) (wr.alloc (.cells #[.int .i64 x, .int .i64 y] 66)) := hb.alloc (by omega) _
              have hbw9 : Below w.heap.size w (wr.alloc (.cells #[.int .i64 x, .int .i64 y] 66)) := hbw.alloc (by omega) _
              replace hb9 := Lib.hid hb9
              replace hbw9 := Lib.hid hbw9
              replace hb := Lib.hid hb
              replace hbw := Lib.hid hbw
              obtain ⟨x6, hx6⟩ : ∃ x6, x6 = wr.alloc (.cells #[.int .i64 x, .int .i64 y] 66) := ⟨_, rfl⟩
              have b69 : Below wr.heap.size wr x6 := by rw [hx6]; exact below_box1 _ _ _
              have r6 : x6.rangeAt wr.heap.size 0 [.int .i64 x, .int .i64 y] := by rw [hx6]; exact range_new wr #[.int .i64 x, .int .i64 y] 66
              have z6 : wr.heap.size < x6.heap.size := by rw [hx6]; simp
              have m3 := (b69.cell (p := ⟨g2, o2 + q * 2, none⟩) (by show g2 < _; omega)).trans k3
              have m4 := (b69.cell (p := ⟨g2, o2 + q * 2 + 1, none⟩) (by show g2 < _; omega)).trans k4
              have m5 := (b69.cell (p := ⟨w.heap.size + 1, 5, none⟩) (by show w.heap.size + 1 < _; omega)).trans p5
              have hC : ∀ x' : Prop, (∀ W, Below x6.heap.size x6 W → x') ↔ x' := fun x' => ⟨fun f => f _ (Below.refl _ _), fun f _ _ => f⟩
              have La : ∀ W, Below x6.heap.size x6 W → (loadVar 66 ⟨wr.heap.size, 0, none⟩).run Try.prog W = .ok (.agg #[.int .i64 x, .int .i64 y]) W := fun W hW => load66 ((hW.cell (p := ⟨wr.heap.size, 0, none⟩) z6).trans (r6 0 _ rfl)) ((hW.cell (p := ⟨wr.heap.size, 1, none⟩) z6).trans (r6 1 _ rfl))
              have Lb : ∀ W, Below x6.heap.size x6 W → (loadVar 36 ⟨w.heap.size + 1, 5, none⟩).run Try.prog W = .ok (.slice (some ⟨g2, o2, none⟩) f'.slots.length cA') W := fun W hW => load36 ((hW.cell (p := ⟨w.heap.size + 1, 5, none⟩) (by show w.heap.size + 1 < _; omega)).trans m5)
              have Lc : ∀ W, Below x6.heap.size x6 W → (loadVar 66 ⟨g2, o2 + q * 2, none⟩).run Try.prog W = .ok (.agg #[.int .i64 x', .int .i64 y']) W := fun W hW => load66 ((hW.cell (p := ⟨g2, o2 + q * 2, none⟩) (by show g2 < _; omega)).trans m3) ((hW.cell (p := ⟨g2, o2 + q * 2 + 1, none⟩) (by show g2 < _; omega)).trans m4)
              have bd : Below x6.heap.size x6 x6.drew := Below.drew (Below.refl _ _)
              rw [← hx6] at hb9 hbw9
              replace bd := Lib.hid bd
              replace La := Lib.hid La
              replace Lb := Lib.hid Lb
              replace Lc := Lib.hid Lc
              replace hx6 := Lib.hid hx6
              replace r6 := Lib.hid r6
              replace b69 := Lib.hid b69
              clear hA hA' hB hB' m3 m4 m5
              have hw0 : (0 : Int) ≤ (q : Int) := by omega
              go_wp2_with fail
              rw [← hx6.out]
              clear k3 k4 p5
              refine wp_region_ord [] [0, 1, 2, 3, 4, 5, 6] (fun W => Below x6.heap.size x6 W) rfl (by kernel_rfl) rfl bd.out ?_
              refine WO.end_ ?_
              simp only [picks, pick, List.cons_append, List.nil_append, List.append_nil]
              repeat (first
                | go_big_quiet_skip
                | (refine wpQuiet_loadC (by rfl) 66 (.tmp 6) rfl wr.heap.size 0 (by rfl) _ La.out ?_; simp only [Act.put, List.setIfInBounds_toArray, List.set_cons_zero, List.set_cons_succ])
                | (refine wpQuiet_loadC (by rfl) 36 (.tmp 48) rfl (w.heap.size + 1) 5 (by rfl) _ Lb.out ?_; simp only [Act.put, List.setIfInBounds_toArray, List.set_cons_zero, List.set_cons_succ])
                | (refine wpQuiet_loadC (by rfl) 66 (.tmp 51) rfl g2 (o2 + q * 2) (by rfl) _ Lc.out ?_; simp only [Act.put, List.setIfInBounds_toArray, List.set_cons_zero, List.set_cons_succ])
                | go_big_quiet_step (fail))
              refine wpQuiet_nil ?_
              clear hC La Lb Lc
              go_wp2
              · go_ret
                go_light
                exact ⟨ret_bool (fl_slot_ne hx1.out hx2.out (by assumption)), hbw9.out.drew⟩
              · go_roundw
                case rel => go_light; exact ⟨q + 1, by go_num, by omega, agree_succ hag.out (by rw [hx1.out, hx2.out]; have := slotEq_iff (s := (x, y)) (t := (x', y')); simp_all), hb9.out.drew⟩
                case measure => go_light; simp [intOf]; omega
            · have Hq : Hid (q = f.slots.length) := by show q = f.slots.length; omega
              have hsl := Lib.hid (agree_all hag.out (show f.slots.length = q by have := Hq.out; omega) (by rw [← h3.out]; have := Hq.out; omega))
              have hq' : ¬ (q : Int) < (f.slots.length : Int) := by omega
              replace hb := Lib.hid hb
              replace hbw := Lib.hid hbw
              go_wp2
              clear hlt hq' hq p5 p6 q6
              go_loopw [58] (fun k wr => ∃ q : Nat, k = .int .i64 q ∧ q ≤ f.have_.length ∧ agree f.have_ f'.have_ q ∧ Below (w.heap.size + 2) (box2 w (flc f.e f.l f.i f.c f.base A f.slots.length cA B f.have_.length cB) 39 (flc f'.e f'.l f'.i f'.c f'.base A' f'.slots.length cA' B' f'.have_.length cB') 39) wr) (fun k _ => f.have_.length - (intOf k).toNat)
              case atStart => exact ⟨0, rfl, by omega, agree_zero _ _, hb.out⟩
              case round =>
                obtain ⟨p, rfl, hp, hag2, hb2⟩ := hrel
                obtain ⟨hbw2, hc, hc', -, -, -, -⟩ := box2_facts hb2
                have p6 := hc' 6
                have q6 := hc 6
                simp at p6 q6
                clear hc hc'
                replace hag2 := Lib.hid hag2
                by_cases hlt : p < f.have_.length
                · obtain ⟨g1, o1, x, rfl, hg1, hx1, k1⟩ := (hB.below hbw2 hN).int (k := p) hlt
                  obtain ⟨g2, o2, x', rfl, hg2, hx2, k2⟩ := (hB'.below hbw2 hN).int (k := p) (by rw [← h4.out]; exact hlt)
                  have hw1 : (p : Int) < (f'.have_.length : Int) := by rw [← h4.out]; omega
                  replace hb2 := Lib.hid hb2
                  replace hbw2 := Lib.hid hbw2
                  clear hA hA' hB hB'
                  by_cases hxx : x = x'
                  · have bx : (x != x') = false := by simp [hxx]
                    replace hxx := Lib.hid hxx
                    go_wp2
                    go_roundw
                    case rel => go_light; exact ⟨p + 1, by go_num, by omega, agree_succ hag2.out (by rw [hx1.out, hx2.out, hxx.out]), hb2.out⟩
                    case measure => go_light; simp [intOf]; omega
                  · have bx : (x != x') = true := by simp [hxx]
                    have he := Lib.hid (fl_have_ne hx1.out hx2.out bx)
                    replace hxx := Lib.hid hxx
                    go_wp2
                    go_ret
                    exact ⟨ret_bool he.out, hbw2.out⟩
                · have hhl := Lib.hid (agree_all hag2.out (show f.have_.length = p by omega) (by rw [← h4.out]; omega))
                  have he := Lib.hid (flB_yes (fl_ext hv'.out h2.out hsl.out hhl.out))
                  replace hbw2 := Lib.hid hbw2
                  replace hb2 := Lib.hid hb2
                  clear hA hA' hB hB'
                  go_wp2
                  go_ret
                  exact ⟨ret_bool he.out, hbw2.out⟩
        · have b4 : ((f.have_.length : Int) != (f'.have_.length : Int)) = true := by simp; omega
          have he := Lib.hid (flB_no (f := f) (g := f') (by intro e; exact h4 (by rw [e])))
          replace h2 := Lib.hid h2
          replace h3 := Lib.hid h3
          replace h4 := Lib.hid h4
          clear hA hA' hB hB'
          go_enter Try.func117, Try.ntmps117
          go_wp2
          go_ret
          exact ⟨ret_bool he.out, hb0.out⟩
      · have b3 : ((f.slots.length : Int) != (f'.slots.length : Int)) = true := by simp; omega
        have he := Lib.hid (flB_no (f := f) (g := f') (by intro e; exact h3 (by rw [e])))
        replace h2 := Lib.hid h2
        replace h3 := Lib.hid h3
        clear hA hA' hB hB'
        go_enter Try.func117, Try.ntmps117
        go_wp2
        go_ret
        exact ⟨ret_bool he.out, hb0.out⟩
    · have b2 : (f.base != f'.base) = true := by simp [h2]
      have he := Lib.hid (flB_no (f := f) (g := f') (by intro e; exact h2 (by rw [e])))
      replace h2 := Lib.hid h2
      clear hA hA' hB hB'
      go_enter Try.func117, Try.ntmps117
      go_wp2
      go_ret
      exact ⟨ret_bool he.out, hb0.out⟩
end Go.Proofs.Ytcffhfcjfjfokaa
