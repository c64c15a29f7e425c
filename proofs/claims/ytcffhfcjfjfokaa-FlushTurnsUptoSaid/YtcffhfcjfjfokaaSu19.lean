/- Take, joined. -/
import Derived.Test.YtcffhfcjfjfokaaSu15
import Derived.Test.YtcffhfcjfjfokaaSu18
set_option linter.unusedVariables false
set_option linter.unusedSimpArgs false
namespace Go.Proofs.Ytcffhfcjfjfokaa
open Go.RowKit
theorem isound2 (f : Fl) (A B : Option Addr) (cA cB N : Nat) (w : World) (hN : N ≤ w.heap.size) (hr : FlRows w N f A cA B cB) :
    Calls Try.prog 115 #[.agg (flc f.e f.l f.i f.c f.base A f.slots.length cA B f.have_.length cB)] w fun x w' => x = .returned (.bool (soundB f)) ∧ Below w.heap.size w w' := by
  have h1 := hr.lenS; have h2 := hr.capS; have h3 := hr.lenH; have h4 := hr.capH
  by_cases hd : SoundHead f
  · exact isound_yes f A B cA cB N w hN hr.slots hr.have_ hd
  · exact isound_no f A B cA cB w (by omega) (by omega) hd
theorem flB_t {f g : Fl} (h : flB f g = true) : f = g := by unfold flB at h; simpa using h
theorem flB_f {f g : Fl} (h : flB f g = false) : ¬ f = g := by unfold flB at h; simpa using h
def TkPost (w : World) (F : List Nat) (b g oK oV : Nat) (Mp : Option Addr) (cM : Nat) (ms : List Dr) (r : Int × Sto) (x : Ending) (w' : World) : Prop :=
  x = .returned (.int .i64 r.1) ∧ (∃ ks', StV w' F b g oK oV r.2 ks' Mp cM ms) ∧ w.grownBy w' (some g)
theorem TkPost.bad {w w' : World} {F : List Nat} {b g oK oV : Nat} {s : Sto} {ks : List KpX} {Mp : Option Addr} {cM : Nat} {ms : List Dr} {r : Int × Sto} {n : Int} (h : StV w F b g oK oV s ks Mp cM ms) (hr : r = (n, s)) (hb : Below w.heap.size w w') : TkPost w F b g oK oV Mp cM ms r (.returned (.int .i64 n)) w' := by
  subst hr
  exact ⟨rfl, ⟨ks, h.below hb⟩, World.grownBy.but (grown_below hb) (some g)⟩
theorem take_bad {s : Sto} {q inc : Int} {f : Fl} (h : q < 0 ∨ (s.n : Int) ≤ q ∨ inc < 1 ∨ 4611686018427387904 < inc ∨ soundB f = false ∨ f.have_.length ≠ s.n) : s.take q inc f = (1, s) := by unfold Sto.take; rw [if_pos h]
theorem take_good {s : Sto} {p : Nat} {inc : Int} {f : Fl} (h1 : p < s.n) (h2 : 1 ≤ inc) (h3 : inc ≤ 4611686018427387904) (h4 : soundB f = true) (h5 : f.have_.length = s.n) : s.take p inc f = (if inc < (s.kp p).inc then (50, s) else if (s.kp p).inc = inc ∧ f.e < (s.kp p).f.e then (51, s) else if (s.kp p).inc = inc ∧ f.e = (s.kp p).f.e then (open Classical in if f = (s.kp p).f then 0 else 82, s) else (0, { s with kept := s.kept.set p ⟨inc, f⟩ })) := by
  unfold Sto.take
  rw [if_neg (by rw [h4, h5]; simp; omega), Int.toNat_natCast]
theorem wpList_store171 {ops : Array Oper} {rest : List Oper} {op : Oper} {a : Act} {w : World} {Q : Exit → Act → World → Prop} (hgd : op.guard = none) (x y : Operand) (ho : op.op = .store 171 x y) (b off : Nat) (hx : a.eval x = .pointer (some ⟨b, off, none⟩)) (z : KpX) (hy : a.eval y = .agg (kpA z)) (ht : w.there b off 8)
    (h : ∀ w', Hid (w' = w.setCells b off (eKp z)) → wpList Try.prog ops Q rest (a.put op.dst undef) w') : wpList Try.prog ops Q (op :: rest) a w :=
  wpList_store_mid hgd 171 x y ho b off (kpA z) hx hy ht (by rw [size171]; rfl) (one_kpA z) (h _ (Lib.hid rfl))
theorem build171 (W : World) (k e l i c u : Int) (A : Option Addr) (n cA : Nat) (B : Option Addr) (m cB : Nat) : (Instr.build 171 #[(0, .int .i64 k), (1, .agg (flc e l i c u A n cA B m cB))]).run Try.prog W = .ok (.agg #[.int .i64 k, .int .i64 e, .int .i64 l, .int .i64 i, .int .i64 c, .int .i64 u, .slice A n cA, .slice B m cB]) W := by kernel_rfl
set_option maxRecDepth 100000 in
set_option maxHeartbeats 6000000 in
theorem take_any {w : World} {F : List Nat} {b g : Nat} {s : Sto} {ks : List KpX} {Mp : Option Addr} {cM : Nat} {ms : List Dr} (h : StV w F b g 0 1 s ks Mp cM ms) (q inc : Int) (f : Fl) (A : Option Addr) (cA : Nat) (B : Option Addr) (cB N : Nat) (hN : N ≤ w.heap.size) (hr : FlRows w N f A cA B cB) (l1 : f.slots.length ≤ 1048576) (l2 : f.have_.length ≤ 1048576) :
    Calls Try.prog 101 #[.pointer (some ⟨b, 0, none⟩), .int .i64 q, .int .i64 inc, .agg (flc f.e f.l f.i f.c f.base A f.slots.length cA B f.have_.length cB)] w (TkPost w F b g 0 1 Mp cM ms (s.take q inc f)) := by
  obtain ⟨wA, hwA⟩ : ∃ wA, wA = w.alloc (.cells (flc f.e f.l f.i f.c f.base A f.slots.length cA B f.have_.length cB) 39) := ⟨_, rfl⟩
  have hbA : Below w.heap.size w wA := by rw [hwA]; exact below_box1 _ _ _
  have zA : wA.heap.size = w.heap.size + 1 := by rw [hwA]; simp
  have oA : wA.rangeAt w.heap.size 0 (flc f.e f.l f.i f.c f.base A f.slots.length cA B f.have_.length cB).toList := by rw [hwA]; exact range_new w (flc f.e f.l f.i f.c f.base A f.slots.length cA B f.have_.length cB) 39
  have hbz := h.hi b h.bF
  have hgz := h.hi g h.gF
  have hiv := h.inv
  have hx : ∀ W, Below wA.heap.size wA W → FlRows W N f A cA B cB ∧ StV W F b g 0 1 s ks Mp cM ms ∧ W.rangeAt w.heap.size 0 (flc f.e f.l f.i f.c f.base A f.slots.length cA B f.have_.length cB).toList ∧ Below w.heap.size w W := fun W hW =>
    ⟨(hr.below hbA hN).below hW (by omega), (h.below hbA).below hW, range_same oA (hW.block w.heap.size (by omega)), hbA.trans (hW.mono (by omega))⟩
  have bd : Below wA.heap.size wA wA.drew := Below.drew (Below.refl _ _)
  have L135 : ∀ W, Below wA.heap.size wA W → (loadVar 135 ⟨b, 0, none⟩).run Try.prog W = .ok (.slice (some ⟨g, 0, none⟩) s.n s.n) W := fun W hW => load135 (hx W hW).2.1.ck
  have Lf : ∀ W, Below wA.heap.size wA W → (loadVar 39 ⟨w.heap.size, 0, none⟩).run Try.prog W = .ok (.agg (flc f.e f.l f.i f.c f.base A f.slots.length cA B f.have_.length cB)) W := fun W hW => load39 (hx W hW).2.2.1
  have Lh : ∀ W, Below wA.heap.size wA W → (loadVar 37 ⟨w.heap.size, 6, none⟩).run Try.prog W = .ok (.slice B f.have_.length cB) W := fun W hW => load37 ((hx W hW).2.2.1 6 _ rfl)
  have Le : ∀ W, Below wA.heap.size wA W → (loadVar 3 ⟨w.heap.size, 0, none⟩).run Try.prog W = .ok (.int .i64 f.e) W := fun W hW => load3 ((hx W hW).2.2.1 0 _ rfl)
  have hC : ∀ x' : Prop, (∀ W, Below wA.heap.size wA W → x') ↔ x' := fun x' => ⟨fun f => f _ (Below.refl _ _), fun f _ _ => f⟩
  replace hx := Lib.hid hx
  replace hbA := Lib.hid hbA
  replace hwA := Lib.hid hwA
  replace zA := Lib.hid zA
  replace hiv := Lib.hid hiv
  replace bd := Lib.hid bd
  replace L135 := Lib.hid L135
  replace Lf := Lib.hid Lf
  replace Lh := Lib.hid Lh
  replace Le := Lib.hid Le
  replace h := Lib.hid h
  clear oA hr
  by_cases hq0 : q < 0
  · have he : s.take q inc f = (1, s) := take_bad (.inl hq0)
    replace he := Lib.hid he
    go_enter Try.func101, Try.ntmps101
    go_wp2_with fail
    rw [← hwA.out]
    refine wp_region_ord [([0, 1, 2, 3, 4, 5, 6, 7, 8, 9, 10, 11, 12, 13, 14, 15, 16, 17, 18, 19, 20], 21)] [22, 23, 24, 25, 26, 27, 28, 29, 30, 31, 32, 33, 34] (fun W => Below wA.heap.size wA W) rfl (by kernel_rfl) rfl bd.out ?_
    refine WO.seg rfl ?_ bd.out
    simp only [picks, pick, List.cons_append, List.nil_append, List.append_nil]
    repeat (first
      | go_big_quiet_skip
      | (refine wpQuiet_loadC (by rfl) 135 (.tmp 16) rfl b 0 (by rfl) _ L135.out ?_; simp only [Act.put, List.setIfInBounds_toArray, List.set_cons_zero, List.set_cons_succ])
      | (refine wpQuiet_loadC (by rfl) 39 (.tmp 7) rfl w.heap.size 0 (by rfl) _ Lf.out ?_; simp only [Act.put, List.setIfInBounds_toArray, List.set_cons_zero, List.set_cons_succ])
      | (refine wpQuiet_loadC (by rfl) 37 (.tmp 35) rfl w.heap.size 6 (by rfl) _ Lh.out ?_; simp only [Act.put, List.setIfInBounds_toArray, List.set_cons_zero, List.set_cons_succ])
      | (refine wpQuiet_loadC (by rfl) 135 (.tmp 40) rfl b 0 (by rfl) _ L135.out ?_; simp only [Act.put, List.setIfInBounds_toArray, List.set_cons_zero, List.set_cons_succ])
      | go_big_quiet_step (fail))
    refine wpQuiet_nil ?_
    intro K hK
    go_simp
    refine hK.out _ _ bd.out ?_
    clear hK K
    refine WO.end_ ?_
    simp only [picks, pick, List.cons_append, List.nil_append, List.append_nil]
    repeat (first
      | go_big_quiet_skip
      | (refine wpQuiet_loadC (by rfl) 135 (.tmp 16) rfl b 0 (by rfl) _ L135.out ?_; simp only [Act.put, List.setIfInBounds_toArray, List.set_cons_zero, List.set_cons_succ])
      | (refine wpQuiet_loadC (by rfl) 39 (.tmp 7) rfl w.heap.size 0 (by rfl) _ Lf.out ?_; simp only [Act.put, List.setIfInBounds_toArray, List.set_cons_zero, List.set_cons_succ])
      | (refine wpQuiet_loadC (by rfl) 37 (.tmp 35) rfl w.heap.size 6 (by rfl) _ Lh.out ?_; simp only [Act.put, List.setIfInBounds_toArray, List.set_cons_zero, List.set_cons_succ])
      | (refine wpQuiet_loadC (by rfl) 135 (.tmp 40) rfl b 0 (by rfl) _ L135.out ?_; simp only [Act.put, List.setIfInBounds_toArray, List.set_cons_zero, List.set_cons_succ])
      | go_big_quiet_step (fail))
    refine wpQuiet_nil ?_
    go_wp2
    go_ret
    exact TkPost.bad h.out he.out (hx.out _ bd.out).2.2.2
  by_cases hq1 : (s.n : Int) ≤ q
  · have he : s.take q inc f = (1, s) := take_bad (.inr (.inl hq1))
    have hn0 : decide (q < 0) = false := decide_eq_false hq0
    replace he := Lib.hid he
    go_enter Try.func101, Try.ntmps101
    go_wp2_with fail
    rw [← hwA.out]
    refine wp_region_ord [([0, 1, 2, 3, 4, 5, 6, 7, 8, 9, 10, 11, 12, 13, 14, 15, 16, 17, 18, 19, 20], 21)] [22, 23, 24, 25, 26, 27, 28, 29, 30, 31, 32, 33, 34] (fun W => Below wA.heap.size wA W) rfl (by kernel_rfl) rfl bd.out ?_
    refine WO.seg rfl ?_ bd.out
    simp only [picks, pick, List.cons_append, List.nil_append, List.append_nil]
    repeat (first
      | go_big_quiet_skip
      | (refine wpQuiet_loadC (by rfl) 135 (.tmp 16) rfl b 0 (by rfl) _ L135.out ?_; simp only [Act.put, List.setIfInBounds_toArray, List.set_cons_zero, List.set_cons_succ])
      | (refine wpQuiet_loadC (by rfl) 39 (.tmp 7) rfl w.heap.size 0 (by rfl) _ Lf.out ?_; simp only [Act.put, List.setIfInBounds_toArray, List.set_cons_zero, List.set_cons_succ])
      | (refine wpQuiet_loadC (by rfl) 37 (.tmp 35) rfl w.heap.size 6 (by rfl) _ Lh.out ?_; simp only [Act.put, List.setIfInBounds_toArray, List.set_cons_zero, List.set_cons_succ])
      | (refine wpQuiet_loadC (by rfl) 135 (.tmp 40) rfl b 0 (by rfl) _ L135.out ?_; simp only [Act.put, List.setIfInBounds_toArray, List.set_cons_zero, List.set_cons_succ])
      | go_big_quiet_step (fail))
    refine wpQuiet_nil ?_
    intro K hK
    go_simp
    refine hK.out _ _ bd.out ?_
    clear hK K
    refine WO.end_ ?_
    simp only [picks, pick, List.cons_append, List.nil_append, List.append_nil]
    repeat (first
      | go_big_quiet_skip
      | (refine wpQuiet_loadC (by rfl) 135 (.tmp 16) rfl b 0 (by rfl) _ L135.out ?_; simp only [Act.put, List.setIfInBounds_toArray, List.set_cons_zero, List.set_cons_succ])
      | (refine wpQuiet_loadC (by rfl) 39 (.tmp 7) rfl w.heap.size 0 (by rfl) _ Lf.out ?_; simp only [Act.put, List.setIfInBounds_toArray, List.set_cons_zero, List.set_cons_succ])
      | (refine wpQuiet_loadC (by rfl) 37 (.tmp 35) rfl w.heap.size 6 (by rfl) _ Lh.out ?_; simp only [Act.put, List.setIfInBounds_toArray, List.set_cons_zero, List.set_cons_succ])
      | (refine wpQuiet_loadC (by rfl) 135 (.tmp 40) rfl b 0 (by rfl) _ L135.out ?_; simp only [Act.put, List.setIfInBounds_toArray, List.set_cons_zero, List.set_cons_succ])
      | go_big_quiet_step (fail))
    refine wpQuiet_nil ?_
    go_wp2
    go_ret
    exact TkPost.bad h.out he.out (hx.out _ bd.out).2.2.2
  obtain ⟨p, rfl⟩ := Int.eq_ofNat_of_zero_le (show 0 ≤ q by omega)
  have hpn : p < s.n := by omega
  have hn0 : decide ((p : Int) < 0) = false := decide_eq_false hq0
  have hn1 : decide (s.n ≤ p) = false := decide_eq_false (by omega)
  by_cases hi0 : inc < 1
  · have he : s.take p inc f = (1, s) := take_bad (.inr (.inr (.inl hi0)))
    replace he := Lib.hid he
    go_enter Try.func101, Try.ntmps101
    go_wp2_with fail
    rw [← hwA.out]
    refine wp_region_ord [([0, 1, 2, 3, 4, 5, 6, 7, 8, 9, 10, 11, 12, 13, 14, 15, 16, 17, 18, 19, 20], 21)] [22, 23, 24, 25, 26, 27, 28, 29, 30, 31, 32, 33, 34] (fun W => Below wA.heap.size wA W) rfl (by kernel_rfl) rfl bd.out ?_
    refine WO.seg rfl ?_ bd.out
    simp only [picks, pick, List.cons_append, List.nil_append, List.append_nil]
    repeat (first
      | go_big_quiet_skip
      | (refine wpQuiet_loadC (by rfl) 135 (.tmp 16) rfl b 0 (by rfl) _ L135.out ?_; simp only [Act.put, List.setIfInBounds_toArray, List.set_cons_zero, List.set_cons_succ])
      | (refine wpQuiet_loadC (by rfl) 39 (.tmp 7) rfl w.heap.size 0 (by rfl) _ Lf.out ?_; simp only [Act.put, List.setIfInBounds_toArray, List.set_cons_zero, List.set_cons_succ])
      | (refine wpQuiet_loadC (by rfl) 37 (.tmp 35) rfl w.heap.size 6 (by rfl) _ Lh.out ?_; simp only [Act.put, List.setIfInBounds_toArray, List.set_cons_zero, List.set_cons_succ])
      | (refine wpQuiet_loadC (by rfl) 135 (.tmp 40) rfl b 0 (by rfl) _ L135.out ?_; simp only [Act.put, List.setIfInBounds_toArray, List.set_cons_zero, List.set_cons_succ])
      | go_big_quiet_step (fail))
    refine wpQuiet_nil ?_
    intro K hK
    go_simp
    refine hK.out _ _ bd.out ?_
    clear hK K
    refine WO.end_ ?_
    simp only [picks, pick, List.cons_append, List.nil_append, List.append_nil]
    repeat (first
      | go_big_quiet_skip
      | (refine wpQuiet_loadC (by rfl) 135 (.tmp 16) rfl b 0 (by rfl) _ L135.out ?_; simp only [Act.put, List.setIfInBounds_toArray, List.set_cons_zero, List.set_cons_succ])
      | (refine wpQuiet_loadC (by rfl) 39 (.tmp 7) rfl w.heap.size 0 (by rfl) _ Lf.out ?_; simp only [Act.put, List.setIfInBounds_toArray, List.set_cons_zero, List.set_cons_succ])
      | (refine wpQuiet_loadC (by rfl) 37 (.tmp 35) rfl w.heap.size 6 (by rfl) _ Lh.out ?_; simp only [Act.put, List.setIfInBounds_toArray, List.set_cons_zero, List.set_cons_succ])
      | (refine wpQuiet_loadC (by rfl) 135 (.tmp 40) rfl b 0 (by rfl) _ L135.out ?_; simp only [Act.put, List.setIfInBounds_toArray, List.set_cons_zero, List.set_cons_succ])
      | go_big_quiet_step (fail))
    refine wpQuiet_nil ?_
    go_wp2
    go_ret
    exact TkPost.bad h.out he.out (hx.out _ bd.out).2.2.2
  have hn2 : decide (inc < 1) = false := decide_eq_false hi0
  by_cases hi1 : 4611686018427387904 < inc
  · have he : s.take p inc f = (1, s) := take_bad (.inr (.inr (.inr (.inl hi1))))
    replace he := Lib.hid he
    go_enter Try.func101, Try.ntmps101
    go_wp2_with fail
    rw [← hwA.out]
    refine wp_region_ord [([0, 1, 2, 3, 4, 5, 6, 7, 8, 9, 10, 11, 12, 13, 14, 15, 16, 17, 18, 19, 20], 21)] [22, 23, 24, 25, 26, 27, 28, 29, 30, 31, 32, 33, 34] (fun W => Below wA.heap.size wA W) rfl (by kernel_rfl) rfl bd.out ?_
    refine WO.seg rfl ?_ bd.out
    simp only [picks, pick, List.cons_append, List.nil_append, List.append_nil]
    repeat (first
      | go_big_quiet_skip
      | (refine wpQuiet_loadC (by rfl) 135 (.tmp 16) rfl b 0 (by rfl) _ L135.out ?_; simp only [Act.put, List.setIfInBounds_toArray, List.set_cons_zero, List.set_cons_succ])
      | (refine wpQuiet_loadC (by rfl) 39 (.tmp 7) rfl w.heap.size 0 (by rfl) _ Lf.out ?_; simp only [Act.put, List.setIfInBounds_toArray, List.set_cons_zero, List.set_cons_succ])
      | (refine wpQuiet_loadC (by rfl) 37 (.tmp 35) rfl w.heap.size 6 (by rfl) _ Lh.out ?_; simp only [Act.put, List.setIfInBounds_toArray, List.set_cons_zero, List.set_cons_succ])
      | (refine wpQuiet_loadC (by rfl) 135 (.tmp 40) rfl b 0 (by rfl) _ L135.out ?_; simp only [Act.put, List.setIfInBounds_toArray, List.set_cons_zero, List.set_cons_succ])
      | go_big_quiet_step (fail))
    refine wpQuiet_nil ?_
    intro K hK
    go_simp
    refine hK.out _ _ bd.out ?_
    clear hK K
    refine WO.end_ ?_
    simp only [picks, pick, List.cons_append, List.nil_append, List.append_nil]
    repeat (first
      | go_big_quiet_skip
      | (refine wpQuiet_loadC (by rfl) 135 (.tmp 16) rfl b 0 (by rfl) _ L135.out ?_; simp only [Act.put, List.setIfInBounds_toArray, List.set_cons_zero, List.set_cons_succ])
      | (refine wpQuiet_loadC (by rfl) 39 (.tmp 7) rfl w.heap.size 0 (by rfl) _ Lf.out ?_; simp only [Act.put, List.setIfInBounds_toArray, List.set_cons_zero, List.set_cons_succ])
      | (refine wpQuiet_loadC (by rfl) 37 (.tmp 35) rfl w.heap.size 6 (by rfl) _ Lh.out ?_; simp only [Act.put, List.setIfInBounds_toArray, List.set_cons_zero, List.set_cons_succ])
      | (refine wpQuiet_loadC (by rfl) 135 (.tmp 40) rfl b 0 (by rfl) _ L135.out ?_; simp only [Act.put, List.setIfInBounds_toArray, List.set_cons_zero, List.set_cons_succ])
      | go_big_quiet_step (fail))
    refine wpQuiet_nil ?_
    go_wp2
    go_ret
    exact TkPost.bad h.out he.out (hx.out _ bd.out).2.2.2
  have hn3 : decide (4611686018427387904 < inc) = false := decide_eq_false hi1
  cases hsb : soundB f with
  | false =>
    have he : s.take p inc f = (1, s) := take_bad (.inr (.inr (.inr (.inr (.inl hsb)))))
    replace he := Lib.hid he
    go_enter Try.func101, Try.ntmps101
    go_wp2_with fail
    rw [← hwA.out]
    refine wp_region_ord [([0, 1, 2, 3, 4, 5, 6, 7, 8, 9, 10, 11, 12, 13, 14, 15, 16, 17, 18, 19, 20], 21)] [22, 23, 24, 25, 26, 27, 28, 29, 30, 31, 32, 33, 34] (fun W => Below wA.heap.size wA W) rfl (by kernel_rfl) rfl bd.out ?_
    refine WO.seg rfl ?_ bd.out
    simp only [picks, pick, List.cons_append, List.nil_append, List.append_nil]
    repeat (first
      | go_big_quiet_skip
      | (refine wpQuiet_loadC (by rfl) 135 (.tmp 16) rfl b 0 (by rfl) _ L135.out ?_; simp only [Act.put, List.setIfInBounds_toArray, List.set_cons_zero, List.set_cons_succ])
      | (refine wpQuiet_loadC (by rfl) 39 (.tmp 7) rfl w.heap.size 0 (by rfl) _ Lf.out ?_; simp only [Act.put, List.setIfInBounds_toArray, List.set_cons_zero, List.set_cons_succ])
      | (refine wpQuiet_loadC (by rfl) 37 (.tmp 35) rfl w.heap.size 6 (by rfl) _ Lh.out ?_; simp only [Act.put, List.setIfInBounds_toArray, List.set_cons_zero, List.set_cons_succ])
      | (refine wpQuiet_loadC (by rfl) 135 (.tmp 40) rfl b 0 (by rfl) _ L135.out ?_; simp only [Act.put, List.setIfInBounds_toArray, List.set_cons_zero, List.set_cons_succ])
      | go_big_quiet_step (fail))
    refine wpQuiet_nil ?_
    intro K hK
    go_simp
    go_at_call 115
    refine (isound2 f A B cA cB N wA.drew (by show N ≤ wA.heap.size; have := zA.out; omega) (hx.out _ bd.out).1).mono ?_
    rintro e' x2 ⟨rfl, hb2⟩
    rw [hsb]
    have b2 : Below wA.heap.size wA x2 := bd.out.trans hb2
    replace b2 := Lib.hid b2
    clear hb2
    go_wp2_with fail
    refine hK.out _ _ b2.out ?_
    clear hK K
    refine WO.end_ ?_
    simp only [picks, pick, List.cons_append, List.nil_append, List.append_nil]
    repeat (first
      | go_big_quiet_skip
      | (refine wpQuiet_loadC (by rfl) 135 (.tmp 16) rfl b 0 (by rfl) _ L135.out ?_; simp only [Act.put, List.setIfInBounds_toArray, List.set_cons_zero, List.set_cons_succ])
      | (refine wpQuiet_loadC (by rfl) 39 (.tmp 7) rfl w.heap.size 0 (by rfl) _ Lf.out ?_; simp only [Act.put, List.setIfInBounds_toArray, List.set_cons_zero, List.set_cons_succ])
      | (refine wpQuiet_loadC (by rfl) 37 (.tmp 35) rfl w.heap.size 6 (by rfl) _ Lh.out ?_; simp only [Act.put, List.setIfInBounds_toArray, List.set_cons_zero, List.set_cons_succ])
      | (refine wpQuiet_loadC (by rfl) 135 (.tmp 40) rfl b 0 (by rfl) _ L135.out ?_; simp only [Act.put, List.setIfInBounds_toArray, List.set_cons_zero, List.set_cons_succ])
      | go_big_quiet_step (fail))
    refine wpQuiet_nil ?_
    go_wp2
    go_ret
    exact TkPost.bad h.out he.out (hx.out _ b2.out).2.2.2
  | true =>
    by_cases hl : f.have_.length = s.n
    case neg =>
      have he : s.take p inc f = (1, s) := take_bad (.inr (.inr (.inr (.inr (.inr hl)))))
      have hl2 : ((f.have_.length : Int) != (s.n : Int)) = true := by simp; omega
      replace he := Lib.hid he
      go_enter Try.func101, Try.ntmps101
      go_wp2_with fail
      rw [← hwA.out]
      refine wp_region_ord [([0, 1, 2, 3, 4, 5, 6, 7, 8, 9, 10, 11, 12, 13, 14, 15, 16, 17, 18, 19, 20], 21)] [22, 23, 24, 25, 26, 27, 28, 29, 30, 31, 32, 33, 34] (fun W => Below wA.heap.size wA W) rfl (by kernel_rfl) rfl bd.out ?_
      refine WO.seg rfl ?_ bd.out
      simp only [picks, pick, List.cons_append, List.nil_append, List.append_nil]
      repeat (first
        | go_big_quiet_skip
        | (refine wpQuiet_loadC (by rfl) 135 (.tmp 16) rfl b 0 (by rfl) _ L135.out ?_; simp only [Act.put, List.setIfInBounds_toArray, List.set_cons_zero, List.set_cons_succ])
        | (refine wpQuiet_loadC (by rfl) 39 (.tmp 7) rfl w.heap.size 0 (by rfl) _ Lf.out ?_; simp only [Act.put, List.setIfInBounds_toArray, List.set_cons_zero, List.set_cons_succ])
        | (refine wpQuiet_loadC (by rfl) 37 (.tmp 35) rfl w.heap.size 6 (by rfl) _ Lh.out ?_; simp only [Act.put, List.setIfInBounds_toArray, List.set_cons_zero, List.set_cons_succ])
        | (refine wpQuiet_loadC (by rfl) 135 (.tmp 40) rfl b 0 (by rfl) _ L135.out ?_; simp only [Act.put, List.setIfInBounds_toArray, List.set_cons_zero, List.set_cons_succ])
        | go_big_quiet_step (fail))
      refine wpQuiet_nil ?_
      intro K hK
      go_simp
      go_at_call 115
      refine (isound2 f A B cA cB N wA.drew (by show N ≤ wA.heap.size; have := zA.out; omega) (hx.out _ bd.out).1).mono ?_
      rintro e' x2 ⟨rfl, hb2⟩
      rw [hsb]
      have b2 : Below wA.heap.size wA x2 := bd.out.trans hb2
      replace b2 := Lib.hid b2
      clear hb2
      go_wp2_with fail
      refine hK.out _ _ b2.out ?_
      clear hK K
      refine WO.end_ ?_
      simp only [picks, pick, List.cons_append, List.nil_append, List.append_nil]
      repeat (first
        | go_big_quiet_skip
        | (refine wpQuiet_loadC (by rfl) 135 (.tmp 16) rfl b 0 (by rfl) _ L135.out ?_; simp only [Act.put, List.setIfInBounds_toArray, List.set_cons_zero, List.set_cons_succ])
        | (refine wpQuiet_loadC (by rfl) 39 (.tmp 7) rfl w.heap.size 0 (by rfl) _ Lf.out ?_; simp only [Act.put, List.setIfInBounds_toArray, List.set_cons_zero, List.set_cons_succ])
        | (refine wpQuiet_loadC (by rfl) 37 (.tmp 35) rfl w.heap.size 6 (by rfl) _ Lh.out ?_; simp only [Act.put, List.setIfInBounds_toArray, List.set_cons_zero, List.set_cons_succ])
        | (refine wpQuiet_loadC (by rfl) 135 (.tmp 40) rfl b 0 (by rfl) _ L135.out ?_; simp only [Act.put, List.setIfInBounds_toArray, List.set_cons_zero, List.set_cons_succ])
        | go_big_quiet_step (fail))
      refine wpQuiet_nil ?_
      go_wp2
      go_ret
      exact TkPost.bad h.out he.out (hx.out _ b2.out).2.2.2
    have hl2 : ((f.have_.length : Int) != (s.n : Int)) = false := by simp; omega
    have htk := take_good hpn (show 1 ≤ inc by omega) (show inc ≤ 4611686018427387904 by omega) hsb hl
    obtain ⟨kx, hkx, hkk, -, -⟩ := h.out.kp hpn
    rw [← hkk] at htk
    have Lg : ∀ W, Below wA.heap.size wA W → (loadVar 3 ⟨g, p * 8, none⟩).run Try.prog W = .ok (.int .i64 kx.k.inc) W := fun W hW => load3 ((hx.out W hW).2.1.krow p kx hkx 0 _ rfl)
    have Lk : ∀ W, Below wA.heap.size wA W → (loadVar 3 ⟨g, p * 8 + 1, none⟩).run Try.prog W = .ok (.int .i64 kx.k.f.e) W := fun W hW => load3 ((hx.out W hW).2.1.krow p kx hkx 1 _ rfl)
    have Lkf : ∀ W, Below wA.heap.size wA W → (loadVar 39 ⟨g, p * 8 + 1, none⟩).run Try.prog W = .ok (.agg (flc kx.k.f.e kx.k.f.l kx.k.f.i kx.k.f.c kx.k.f.base kx.A kx.k.f.slots.length kx.cA kx.B kx.k.f.have_.length kx.cB)) W := fun W hW => by
      refine load39 ?_
      have hr8 := (hx.out W hW).2.1.krow p kx hkx
      exact fun j u hu => by
        have h9 := hr8 (j + 1) u hu
        rw [show p * 8 + 1 + j = p * 8 + (j + 1) by omega]; exact h9
    have hpz0 : (0 : Int) ≤ (p : Int) := by omega
    have hpz1 : (p : Int) < (s.n : Int) := by omega
    have hks := kp_small hiv.out p
    rw [← hkk] at hks
    replace hks := Lib.hid hks
    replace hkx := Lib.hid hkx
    replace hkk := Lib.hid hkk
    replace htk := Lib.hid htk
    replace Lg := Lib.hid Lg
    replace Lk := Lib.hid Lk
    replace Lkf := Lib.hid Lkf
    clear hq0 hq1 hi0 hi1
    replace hl := Lib.hid hl
    go_enter Try.func101, Try.ntmps101
    go_wp2_with fail
    rw [← hwA.out]
    refine wp_region_ord [([0, 1, 2, 3, 4, 5, 6, 7, 8, 9, 10, 11, 12, 13, 14, 15, 16, 17, 18, 19, 20], 21)] [22, 23, 24, 25, 26, 27, 28, 29, 30, 31, 32, 33, 34] (fun W => Below wA.heap.size wA W) rfl (by kernel_rfl) rfl bd.out ?_
    refine WO.seg rfl ?_ bd.out
    simp only [picks, pick, List.cons_append, List.nil_append, List.append_nil]
    repeat (first
      | go_big_quiet_skip
      | (refine wpQuiet_loadC (by rfl) 135 (.tmp 16) rfl b 0 (by rfl) _ L135.out ?_; simp only [Act.put, List.setIfInBounds_toArray, List.set_cons_zero, List.set_cons_succ])
      | (refine wpQuiet_loadC (by rfl) 39 (.tmp 7) rfl w.heap.size 0 (by rfl) _ Lf.out ?_; simp only [Act.put, List.setIfInBounds_toArray, List.set_cons_zero, List.set_cons_succ])
      | (refine wpQuiet_loadC (by rfl) 37 (.tmp 35) rfl w.heap.size 6 (by rfl) _ Lh.out ?_; simp only [Act.put, List.setIfInBounds_toArray, List.set_cons_zero, List.set_cons_succ])
      | (refine wpQuiet_loadC (by rfl) 135 (.tmp 40) rfl b 0 (by rfl) _ L135.out ?_; simp only [Act.put, List.setIfInBounds_toArray, List.set_cons_zero, List.set_cons_succ])
      | go_big_quiet_step (fail))
    refine wpQuiet_nil ?_
    intro K hK
    go_simp
    go_at_call 115
    refine (isound2 f A B cA cB N wA.drew (by show N ≤ wA.heap.size; have := zA.out; omega) (hx.out _ bd.out).1).mono ?_
    rintro e' x2 ⟨rfl, hb2⟩
    rw [hsb]
    have b2 : Below wA.heap.size wA x2 := bd.out.trans hb2
    replace b2 := Lib.hid b2
    clear hb2
    go_wp2_with fail
    refine hK.out _ _ b2.out ?_
    clear hK K
    refine WO.end_ ?_
    simp only [picks, pick, List.cons_append, List.nil_append, List.append_nil]
    repeat (first
      | go_big_quiet_skip
      | (refine wpQuiet_loadC (by rfl) 135 (.tmp 16) rfl b 0 (by rfl) _ L135.out ?_; simp only [Act.put, List.setIfInBounds_toArray, List.set_cons_zero, List.set_cons_succ])
      | (refine wpQuiet_loadC (by rfl) 39 (.tmp 7) rfl w.heap.size 0 (by rfl) _ Lf.out ?_; simp only [Act.put, List.setIfInBounds_toArray, List.set_cons_zero, List.set_cons_succ])
      | (refine wpQuiet_loadC (by rfl) 37 (.tmp 35) rfl w.heap.size 6 (by rfl) _ Lh.out ?_; simp only [Act.put, List.setIfInBounds_toArray, List.set_cons_zero, List.set_cons_succ])
      | (refine wpQuiet_loadC (by rfl) 135 (.tmp 40) rfl b 0 (by rfl) _ L135.out ?_; simp only [Act.put, List.setIfInBounds_toArray, List.set_cons_zero, List.set_cons_succ])
      | go_big_quiet_step (fail))
    refine wpQuiet_nil ?_
    rcases Int.lt_trichotomy inc kx.k.inc with hc | hc | hc
    · have he : s.take p inc f = (50, s) := by rw [htk.out, if_pos hc]
      replace he := Lib.hid he
      go_wp2_with (first
        | (refine wpList_loadR rfl 135 (.tmp 47) rfl b 0 (by rfl) _ (by exact L135.out _ b2.out) ?_)
        | (refine wpList_loadR rfl 3 (.tmp 54) rfl g (p * 8) (by rfl) _ (by exact Lg.out _ b2.out) ?_)
        | fail)
      go_wp2
      go_ret
      exact TkPost.bad h.out he.out (hx.out _ (b2.out)).2.2.2
    · have hgt : decide (inc < kx.k.inc) = false := decide_eq_false (by omega)
      have heq : (kx.k.inc == inc) = true := by simp [hc]
      rcases Int.lt_trichotomy f.e kx.k.f.e with hd | hd | hd
      · have he : s.take p inc f = (51, s) := by rw [htk.out, if_neg (by omega), if_pos ⟨by omega, hd⟩]
        replace he := Lib.hid he
        replace hc := Lib.hid hc
        go_wp2_with (first
          | (refine wpList_loadR rfl 135 (.tmp 47) rfl b 0 (by rfl) _ (by exact L135.out _ b2.out) ?_)
          | (refine wpList_loadR rfl 3 (.tmp 54) rfl g (p * 8) (by rfl) _ (by exact Lg.out _ b2.out) ?_)
          | fail)
        refine wp_region_ord [] [0, 1, 2, 3, 4, 5, 6, 7, 8, 9, 10, 11, 12, 13, 14, 15, 16, 17, 18] (fun W => Below wA.heap.size wA W) rfl (by kernel_rfl) rfl b2.out.drew ?_
        refine WO.end_ ?_
        simp only [picks, pick, List.cons_append, List.nil_append, List.append_nil]
        repeat (first
          | go_big_quiet_skip
          | (refine wpQuiet_loadC (by rfl) 3 (.tmp 61) rfl g (p * 8) (by rfl) _ Lg.out ?_; simp only [Act.put, List.setIfInBounds_toArray, List.set_cons_zero, List.set_cons_succ])
          | (refine wpQuiet_loadC (by rfl) 3 (.tmp 67) rfl w.heap.size 0 (by rfl) _ Le.out ?_; simp only [Act.put, List.setIfInBounds_toArray, List.set_cons_zero, List.set_cons_succ])
          | (refine wpQuiet_loadC (by rfl) 3 (.tmp 73) rfl g (p * 8 + 1) (by rfl) _ Lk.out ?_; simp only [Act.put, List.setIfInBounds_toArray, List.set_cons_zero, List.set_cons_succ])
          | go_big_quiet_step (fail))
        refine wpQuiet_nil ?_
        go_wp2
        go_ret
        exact TkPost.bad h.out he.out (hx.out _ (b2.out.drew)).2.2.2
      · have hlt : decide (f.e < kx.k.f.e) = false := decide_eq_false (by omega)
        have heq2 : (f.e == kx.k.f.e) = true := by simp [hd]
        have htk2 := htk.out
        rw [if_neg (by omega), if_neg (by omega), if_pos ⟨by omega, hd⟩] at htk2
        replace hc := Lib.hid hc
        replace hd := Lib.hid hd
        replace htk2 := Lib.hid htk2
        go_wp2_with (first
          | (refine wpList_loadR rfl 135 (.tmp 47) rfl b 0 (by rfl) _ (by exact L135.out _ b2.out) ?_)
          | (refine wpList_loadR rfl 3 (.tmp 54) rfl g (p * 8) (by rfl) _ (by exact Lg.out _ b2.out) ?_)
          | fail)
        refine wp_region_ord [] [0, 1, 2, 3, 4, 5, 6, 7, 8, 9, 10, 11, 12, 13, 14, 15, 16, 17, 18] (fun W => Below wA.heap.size wA W) rfl (by kernel_rfl) rfl b2.out.drew ?_
        refine WO.end_ ?_
        simp only [picks, pick, List.cons_append, List.nil_append, List.append_nil]
        repeat (first
          | go_big_quiet_skip
          | (refine wpQuiet_loadC (by rfl) 3 (.tmp 61) rfl g (p * 8) (by rfl) _ Lg.out ?_; simp only [Act.put, List.setIfInBounds_toArray, List.set_cons_zero, List.set_cons_succ])
          | (refine wpQuiet_loadC (by rfl) 3 (.tmp 67) rfl w.heap.size 0 (by rfl) _ Le.out ?_; simp only [Act.put, List.setIfInBounds_toArray, List.set_cons_zero, List.set_cons_succ])
          | (refine wpQuiet_loadC (by rfl) 3 (.tmp 73) rfl g (p * 8 + 1) (by rfl) _ Lk.out ?_; simp only [Act.put, List.setIfInBounds_toArray, List.set_cons_zero, List.set_cons_succ])
          | go_big_quiet_step (fail))
        refine wpQuiet_nil ?_
        go_wp2_with fail
        refine wp_region_ord [] [0, 1, 2, 3, 4, 5, 6, 7, 8, 9, 10, 11, 12, 13, 14, 15, 16, 17, 18] (fun W => Below wA.heap.size wA W) rfl (by kernel_rfl) rfl b2.out.drew.drew ?_
        refine WO.end_ ?_
        simp only [picks, pick, List.cons_append, List.nil_append, List.append_nil]
        repeat (first
          | go_big_quiet_skip
          | (refine wpQuiet_loadC (by rfl) 3 (.tmp 80) rfl g (p * 8) (by rfl) _ Lg.out ?_; simp only [Act.put, List.setIfInBounds_toArray, List.set_cons_zero, List.set_cons_succ])
          | (refine wpQuiet_loadC (by rfl) 3 (.tmp 86) rfl w.heap.size 0 (by rfl) _ Le.out ?_; simp only [Act.put, List.setIfInBounds_toArray, List.set_cons_zero, List.set_cons_succ])
          | (refine wpQuiet_loadC (by rfl) 3 (.tmp 92) rfl g (p * 8 + 1) (by rfl) _ Lk.out ?_; simp only [Act.put, List.setIfInBounds_toArray, List.set_cons_zero, List.set_cons_succ])
          | go_big_quiet_step (fail))
        refine wpQuiet_nil ?_
        go_wp2_with fail
        refine wp_region_ord [([0, 1, 2, 3, 4], 5)] [6] (fun W => Below wA.heap.size wA W) rfl (by kernel_rfl) rfl b2.out.drew.drew.drew ?_
        refine WO.seg rfl ?_ b2.out.drew.drew.drew
        simp only [picks, pick, List.cons_append, List.nil_append, List.append_nil]
        repeat (first
          | go_big_quiet_skip
          | (refine wpQuiet_loadC (by rfl) 39 (.tmp 7) rfl w.heap.size 0 (by rfl) _ Lf.out ?_; simp only [Act.put, List.setIfInBounds_toArray, List.set_cons_zero, List.set_cons_succ])
          | (refine wpQuiet_loadC (by rfl) 39 (.tmp 99) rfl g (p * 8 + 1) (by rfl) _ Lkf.out ?_; simp only [Act.put, List.setIfInBounds_toArray, List.set_cons_zero, List.set_cons_succ])
          | go_big_quiet_step (fail))
        refine wpQuiet_nil ?_
        intro K hK
        go_simp
        obtain ⟨x4, hx4⟩ : ∃ x4, x4 = x2.drew.drew.drew := ⟨_, rfl⟩
        have b4 : Below wA.heap.size wA x4 := by rw [hx4]; exact b2.out.drew.drew.drew
        obtain ⟨f4, h4, -, -⟩ := hx.out _ b4
        have hkr := (h4.kS kx (List.mem_of_getElem? hkx.out)).rows
        have z4 := b4.size
        rw [← hx4]
        go_at_call 117
        refine (alike_any f kx.k.f A kx.A cA kx.cA B kx.B cB kx.cB x4.heap.size x4 (Nat.le_refl _) (f4.slots.more (by have := zA.out; omega)) hkr.slots (f4.have_.more (by have := zA.out; omega)) hkr.have_ l1 l2 hks.out.1 hks.out.2).mono ?_
        rintro e' x5 ⟨rfl, hb5⟩
        have b5 : Below wA.heap.size wA x5 := b4.trans (hb5.mono z4)
        clear hb5 hkr f4 h4
        replace b5 := Lib.hid b5
        cases hfb : flB f kx.k.f with
        | false =>
          have he : s.take p inc f = (82, s) := by rw [htk2.out, if_neg (flB_f hfb)]
          replace he := Lib.hid he
          go_wp2_with fail
          refine hK.out _ _ b5.out ?_
          clear hK K
          refine WO.end_ ?_
          simp only [picks, pick, List.cons_append, List.nil_append, List.append_nil]
          repeat go_big_quiet_step (fail)
          refine wpQuiet_nil ?_
          go_wp2
          go_ret
          exact TkPost.bad h.out he.out (hx.out _ (b5.out)).2.2.2
        | true =>
          have he : s.take p inc f = (0, s) := by rw [htk2.out, if_pos (flB_t hfb)]
          replace he := Lib.hid he
          go_wp2_with fail
          refine hK.out _ _ b5.out ?_
          clear hK K
          refine WO.end_ ?_
          simp only [picks, pick, List.cons_append, List.nil_append, List.append_nil]
          repeat go_big_quiet_step (fail)
          refine wpQuiet_nil ?_
          go_wp2
          go_ret
          exact TkPost.bad h.out he.out (hx.out _ (b5.out)).2.2.2
      · have hlt : decide (f.e < kx.k.f.e) = false := decide_eq_false (by omega)
        have heq2 : (f.e == kx.k.f.e) = false := by simp; omega
        have he : s.take p inc f = (0, { s with kept := s.kept.set p ⟨inc, f⟩ }) := by rw [htk.out, if_neg (by omega), if_neg (by omega), if_neg (by omega)]
        replace he := Lib.hid he
        replace hc := Lib.hid hc
        replace hd := Lib.hid hd
        go_wp2_with (first
          | (refine wpList_loadR rfl 135 (.tmp 47) rfl b 0 (by rfl) _ (by exact L135.out _ b2.out) ?_)
          | (refine wpList_loadR rfl 3 (.tmp 54) rfl g (p * 8) (by rfl) _ (by exact Lg.out _ b2.out) ?_)
          | fail)
        refine wp_region_ord [] [0, 1, 2, 3, 4, 5, 6, 7, 8, 9, 10, 11, 12, 13, 14, 15, 16, 17, 18] (fun W => Below wA.heap.size wA W) rfl (by kernel_rfl) rfl b2.out.drew ?_
        refine WO.end_ ?_
        simp only [picks, pick, List.cons_append, List.nil_append, List.append_nil]
        repeat (first
          | go_big_quiet_skip
          | (refine wpQuiet_loadC (by rfl) 3 (.tmp 61) rfl g (p * 8) (by rfl) _ Lg.out ?_; simp only [Act.put, List.setIfInBounds_toArray, List.set_cons_zero, List.set_cons_succ])
          | (refine wpQuiet_loadC (by rfl) 3 (.tmp 67) rfl w.heap.size 0 (by rfl) _ Le.out ?_; simp only [Act.put, List.setIfInBounds_toArray, List.set_cons_zero, List.set_cons_succ])
          | (refine wpQuiet_loadC (by rfl) 3 (.tmp 73) rfl g (p * 8 + 1) (by rfl) _ Lk.out ?_; simp only [Act.put, List.setIfInBounds_toArray, List.set_cons_zero, List.set_cons_succ])
          | go_big_quiet_step (fail))
        refine wpQuiet_nil ?_
        go_wp2_with fail
        refine wp_region_ord [] [0, 1, 2, 3, 4, 5, 6, 7, 8, 9, 10, 11, 12, 13, 14, 15, 16, 17, 18] (fun W => Below wA.heap.size wA W) rfl (by kernel_rfl) rfl b2.out.drew.drew ?_
        refine WO.end_ ?_
        simp only [picks, pick, List.cons_append, List.nil_append, List.append_nil]
        repeat (first
          | go_big_quiet_skip
          | (refine wpQuiet_loadC (by rfl) 3 (.tmp 80) rfl g (p * 8) (by rfl) _ Lg.out ?_; simp only [Act.put, List.setIfInBounds_toArray, List.set_cons_zero, List.set_cons_succ])
          | (refine wpQuiet_loadC (by rfl) 3 (.tmp 86) rfl w.heap.size 0 (by rfl) _ Le.out ?_; simp only [Act.put, List.setIfInBounds_toArray, List.set_cons_zero, List.set_cons_succ])
          | (refine wpQuiet_loadC (by rfl) 3 (.tmp 92) rfl g (p * 8 + 1) (by rfl) _ Lk.out ?_; simp only [Act.put, List.setIfInBounds_toArray, List.set_cons_zero, List.set_cons_succ])
          | go_big_quiet_step (fail))
        refine wpQuiet_nil ?_
        have hiv2 := take_sinv hiv.out p inc f
        rw [he.out] at hiv2
        obtain ⟨x4, hx4⟩ : ∃ x4, x4 = x2.drew.drew := ⟨_, rfl⟩
        have b4 : Below wA.heap.size wA x4 := by rw [hx4]; exact b2.out.drew.drew
        obtain ⟨f4, h4, -, -⟩ := hx.out _ b4
        have z4 := b4.size
        rw [← hx4]
        replace hx4 := Lib.hid hx4
        replace b4 := Lib.hid b4
        replace hiv2 := Lib.hid hiv2
        replace h4 := Lib.hid h4
        replace f4 := Lib.hid f4
        clear hC
        go_wp2_with (first
          | (refine wpList_loadR rfl 39 (.tmp 7) rfl w.heap.size 0 (by rfl) _ (by exact Lf.out _ b4.out) ?_)
          | (go_at_call 106
             refine (ptwin_any f A cA B cB N x4 (by have := zA.out; omega) f4.out.slots f4.out.have_ l1 l2).mono ?_
             rintro e' x5 ⟨A2, c2, B2, d2, rfl, hs2, hh2, hb2⟩
             have b5 : Below wA.heap.size wA x5 := b4.out.trans (hb2.mono z4)
             have h5 := h4.out.below hb2
             have t5 : x5.there g (p * 8) 8 := World.there.at h5.kthere (by omega)
             have hfk : FarK x5 F ⟨⟨inc, f⟩, A2, c2, B2, d2⟩ := ⟨RowF.ofOwns hs2 len_eSlot h4.out.hi, RowF.ofOwns hh2 len_eInt h4.out.hi, hs2.len.1, hs2.len.2, hh2.len.1, hh2.len.2⟩
             have hbu := fun W => build171 W inc f.e f.l f.i f.c f.base A2 f.slots.length c2 B2 f.have_.length d2
             replace b5 := Lib.hid b5
             replace h5 := Lib.hid h5
             replace t5 := Lib.hid t5
             replace hfk := Lib.hid hfk
             clear hs2 hh2 hb2)
          | (refine wpList_store171 rfl (.tmp 108) (.tmp 107) rfl g (p * 8) (by rfl) ⟨⟨inc, f⟩, A2, c2, B2, d2⟩ (by rfl) t5.out ?_
             intro x6 hx6)
          | fail)
        go_ret
        refine ⟨by rw [he.out]; rfl, ⟨_, by rw [he.out, hx6.out]; exact h5.out.put hpn hfk.out hiv2.out⟩, ?_⟩
        exact (World.grownBy.but (grown_below (hx.out _ b5.out).2.2.2) (some g)).trans (by rw [hx6.out]; exact grown_sets _ _ _ _)
    · have hgt : decide (inc < kx.k.inc) = false := decide_eq_false (by omega)
      have heq : (kx.k.inc == inc) = false := by simp; omega
      have he : s.take p inc f = (0, { s with kept := s.kept.set p ⟨inc, f⟩ }) := by rw [htk.out, if_neg (by omega), if_neg (by omega), if_neg (by omega)]
      replace he := Lib.hid he
      replace hc := Lib.hid hc
      go_wp2_with (first
        | (refine wpList_loadR rfl 135 (.tmp 47) rfl b 0 (by rfl) _ (by exact L135.out _ b2.out) ?_)
        | (refine wpList_loadR rfl 3 (.tmp 54) rfl g (p * 8) (by rfl) _ (by exact Lg.out _ b2.out) ?_)
        | fail)
      refine wp_region_ord [] [0, 1, 2, 3, 4, 5, 6, 7, 8, 9, 10, 11, 12, 13, 14, 15, 16, 17, 18] (fun W => Below wA.heap.size wA W) rfl (by kernel_rfl) rfl b2.out.drew ?_
      refine WO.end_ ?_
      simp only [picks, pick, List.cons_append, List.nil_append, List.append_nil]
      repeat (first
        | go_big_quiet_skip
        | (refine wpQuiet_loadC (by rfl) 3 (.tmp 61) rfl g (p * 8) (by rfl) _ Lg.out ?_; simp only [Act.put, List.setIfInBounds_toArray, List.set_cons_zero, List.set_cons_succ])
        | (refine wpQuiet_loadC (by rfl) 3 (.tmp 67) rfl w.heap.size 0 (by rfl) _ Le.out ?_; simp only [Act.put, List.setIfInBounds_toArray, List.set_cons_zero, List.set_cons_succ])
        | (refine wpQuiet_loadC (by rfl) 3 (.tmp 73) rfl g (p * 8 + 1) (by rfl) _ Lk.out ?_; simp only [Act.put, List.setIfInBounds_toArray, List.set_cons_zero, List.set_cons_succ])
        | go_big_quiet_step (fail))
      refine wpQuiet_nil ?_
      go_wp2_with fail
      refine wp_region_ord [] [0, 1, 2, 3, 4, 5, 6, 7, 8, 9, 10, 11, 12, 13, 14, 15, 16, 17, 18] (fun W => Below wA.heap.size wA W) rfl (by kernel_rfl) rfl b2.out.drew.drew ?_
      refine WO.end_ ?_
      simp only [picks, pick, List.cons_append, List.nil_append, List.append_nil]
      repeat (first
        | go_big_quiet_skip
        | (refine wpQuiet_loadC (by rfl) 3 (.tmp 80) rfl g (p * 8) (by rfl) _ Lg.out ?_; simp only [Act.put, List.setIfInBounds_toArray, List.set_cons_zero, List.set_cons_succ])
        | (refine wpQuiet_loadC (by rfl) 3 (.tmp 86) rfl w.heap.size 0 (by rfl) _ Le.out ?_; simp only [Act.put, List.setIfInBounds_toArray, List.set_cons_zero, List.set_cons_succ])
        | (refine wpQuiet_loadC (by rfl) 3 (.tmp 92) rfl g (p * 8 + 1) (by rfl) _ Lk.out ?_; simp only [Act.put, List.setIfInBounds_toArray, List.set_cons_zero, List.set_cons_succ])
        | go_big_quiet_step (fail))
      refine wpQuiet_nil ?_
      have hiv2 := take_sinv hiv.out p inc f
      rw [he.out] at hiv2
      obtain ⟨x4, hx4⟩ : ∃ x4, x4 = x2.drew.drew := ⟨_, rfl⟩
      have b4 : Below wA.heap.size wA x4 := by rw [hx4]; exact b2.out.drew.drew
      obtain ⟨f4, h4, -, -⟩ := hx.out _ b4
      have z4 := b4.size
      rw [← hx4]
      replace hx4 := Lib.hid hx4
      replace b4 := Lib.hid b4
      replace hiv2 := Lib.hid hiv2
      replace h4 := Lib.hid h4
      replace f4 := Lib.hid f4
      clear hC
      go_wp2_with (first
        | (refine wpList_loadR rfl 39 (.tmp 7) rfl w.heap.size 0 (by rfl) _ (by exact Lf.out _ b4.out) ?_)
        | (go_at_call 106
           refine (ptwin_any f A cA B cB N x4 (by have := zA.out; omega) f4.out.slots f4.out.have_ l1 l2).mono ?_
           rintro e' x5 ⟨A2, c2, B2, d2, rfl, hs2, hh2, hb2⟩
           have b5 : Below wA.heap.size wA x5 := b4.out.trans (hb2.mono z4)
           have h5 := h4.out.below hb2
           have t5 : x5.there g (p * 8) 8 := World.there.at h5.kthere (by omega)
           have hfk : FarK x5 F ⟨⟨inc, f⟩, A2, c2, B2, d2⟩ := ⟨RowF.ofOwns hs2 len_eSlot h4.out.hi, RowF.ofOwns hh2 len_eInt h4.out.hi, hs2.len.1, hs2.len.2, hh2.len.1, hh2.len.2⟩
           have hbu := fun W => build171 W inc f.e f.l f.i f.c f.base A2 f.slots.length c2 B2 f.have_.length d2
           replace b5 := Lib.hid b5
           replace h5 := Lib.hid h5
           replace t5 := Lib.hid t5
           replace hfk := Lib.hid hfk
           clear hs2 hh2 hb2)
        | (refine wpList_store171 rfl (.tmp 108) (.tmp 107) rfl g (p * 8) (by rfl) ⟨⟨inc, f⟩, A2, c2, B2, d2⟩ (by rfl) t5.out ?_
           intro x6 hx6)
        | fail)
      go_ret
      refine ⟨by rw [he.out]; rfl, ⟨_, by rw [he.out, hx6.out]; exact h5.out.put hpn hfk.out hiv2.out⟩, ?_⟩
      exact (World.grownBy.but (grown_below (hx.out _ b5.out).2.2.2) (some g)).trans (by rw [hx6.out]; exact grown_sets _ _ _ _)
end Go.Proofs.Ytcffhfcjfjfokaa
