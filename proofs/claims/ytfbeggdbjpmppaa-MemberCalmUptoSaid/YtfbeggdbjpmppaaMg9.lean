/- LawD Holds RisLaw LawB LawC Valid, joined. -/
import Derived.Test.YtfbeggdbjpmppaaMg6
import Derived.Test.YtfbeggdbjpmppaaMg8
set_option linter.unusedVariables false
set_option linter.unusedSimpArgs false
namespace Go.Proofs.Ytfbeggdbjpmppaa
open Go.RowKit
theorem mb_ext {a b : Mb} (h1 : a.p = b.p) (h2 : a.i = b.i) (h3 : a.c = b.c) : a = b := by cases a; cases b; simp at h1 h2 h3; rw [h1, h2, h3]
instance mbDec : DecidableEq Mb := fun a b =>
  if h : a.p = b.p ∧ a.i = b.i ∧ a.c = b.c then isTrue (mb_ext h.1 h.2.1 h.2.2) else isFalse fun e => h (by rw [e]; exact ⟨rfl, rfl, rfl⟩)
def viSame (v : Vid) (ms : List Mb) (v' : Vid) (ms' : List Mb) : Bool := vidEq v v' && decide (ms = ms')
set_option maxRecDepth 100000 in
set_option maxHeartbeats 8000000 in
theorem views_any (v v' : Vid) (A A' : Option Addr) (c c' N n n' : Nat) (ms ms' : List Mb) (w : World) (hn : ms.length = n) (hn' : ms'.length = n') (hN : N ≤ w.heap.size) (hA : RowAt w N 3 eMb A ms) (hA' : RowAt w N 3 eMb A' ms') (l1 : n ≤ 9223372036854775807) (l1' : n' ≤ 9223372036854775807) :
    Calls Try.prog 21 #[.agg (viewA v A n c), .agg (viewA v' A' n' c')] w fun x w' => x = .returned (.bool (viSame v ms v' ms')) ∧ Below w.heap.size w w' := by
  obtain ⟨w2, hw2⟩ : ∃ w2, w2 = (w.alloc (.cells (viewA v A n c) 46)).alloc (.cells (viewA v' A' n' c') 46) := ⟨_, rfl⟩
  have hb2 : Below w.heap.size w w2 := by rw [hw2]; exact below_box2 _ _ _ _ _
  have z2 : w2.heap.size = w.heap.size + 2 := by rw [hw2]; simp
  have v2 : ViAt w2 w.heap.size v A n c := by rw [hw2]; exact (ViAt.new w v A n c 46).same (heap_alloc_old _ _ (by simp))
  have u2 : ViAt w2 (w.heap.size + 1) v' A' n' c' := by
    have := ViAt.new (w.alloc (.cells (viewA v A n c) 46)) v' A' n' c' 46
    rw [hw2]; rw [World.size_alloc] at this; exact this
  have k0 := v2.ce
  have k1 := v2.cl
  have k2 := v2.ci
  have k3 := v2.cc
  have k0' := u2.ce
  have k1' := u2.cl
  have k2' := u2.ci
  have k3' := u2.cc
  replace v2 := Lib.hid v2
  replace u2 := Lib.hid u2
  replace hb2 := Lib.hid hb2
  replace hw2 := Lib.hid hw2
  cases d : vidEq v v' with
  | false =>
    have hans := Lib.hid (show viSame v ms v' ms' = false by unfold viSame; rw [d]; rfl)
    replace d := Lib.hid d
    replace hn := Lib.hid hn
    replace hn' := Lib.hid hn'
    go_enter Try.func21, Try.ntmps21
    go_wp2_with (first
      | (rw [← hw2.out]
         go_at_call 29
         refine (lsame_any v v' w2).mono ?_
         rintro e w3 ⟨rfl, hb3⟩
         rw [d.out]
         have z3 := hb3.size
         have b3 := hb2.out.trans (hb3.mono (by omega))
         have v3 := v2.out.same (hb3.block _ (by omega))
         have u3 := u2.out.same (hb3.block _ (by omega))
         clear k0 k1 k2 k3 k0' k1' k2' k3'
         have m4 := v3.cm
         have m4' := u3.cm
         replace b3 := Lib.hid b3
         replace v3 := Lib.hid v3
         replace u3 := Lib.hid u3
         clear hb3)
      | fail)
    go_ret
    exact ⟨ret_bool hans.out.symm, b3.out⟩
  | true =>
    by_cases e : n = n'
    · have en : ((n : Int) != (n' : Int)) = false := by simp [e]
      have hnn := Lib.hid e
      clear e
      replace d := Lib.hid d
      replace hn := Lib.hid hn
      replace hn' := Lib.hid hn'
      go_enter Try.func21, Try.ntmps21
      go_wp2_with (first
        | (rw [← hw2.out]
           go_at_call 29
           refine (lsame_any v v' w2).mono ?_
           rintro e w3 ⟨rfl, hb3⟩
           rw [d.out]
           have z3 := hb3.size
           have b3 := hb2.out.trans (hb3.mono (by omega))
           have v3 := v2.out.same (hb3.block _ (by omega))
           have u3 := u2.out.same (hb3.block _ (by omega))
           clear k0 k1 k2 k3 k0' k1' k2' k3'
           have m4 := v3.cm
           have m4' := u3.cm
           replace b3 := Lib.hid b3
           replace v3 := Lib.hid v3
           replace u3 := Lib.hid u3
           clear hb3)
        | fail)
      go_loopw [5] (fun k wr => ∃ q : Nat, k = .int .i64 (q : Int) ∧ q ≤ n ∧ agree ms ms' q ∧ Below w3.heap.size w3 wr) (fun k _ => n - (intOf k).toNat)
      case atStart => exact ⟨0, rfl, by omega, agree_zero _ _, Below.refl _ _⟩
      case round =>
        obtain ⟨q, rfl, hq, hag, hb⟩ := hrel
        have hzr := hb.size
        have vr := v3.out.same (hb.block _ (by omega))
        have ur := u3.out.same (hb.block _ (by omega))
        have br := b3.out.trans (hb.mono (by omega))
        have c4 := vr.cm
        have c4' := ur.cm
        clear m4 m4'
        replace hag := Lib.hid hag
        by_cases hlt : q < n
        · have hlt' : q < n' := by rw [← hnn.out]; exact hlt
          obtain ⟨g, o, x, hAe, hg, hx, x0, x1, x2⟩ := (hA.below br hN).mb (show q < ms.length by rw [hn.out]; exact hlt)
          obtain ⟨g', o', x', hAe', hg', hx', y0, y1, y2⟩ := (hA'.below br hN).mb (show q < ms'.length by rw [hn'.out]; exact hlt')
          rw [hAe] at c4
          rw [hAe'] at c4'
          have hgr : g < wr.heap.size := by have := br.size; omega
          have hgr' : g' < wr.heap.size := by have := br.size; omega
          obtain ⟨w4, hw4⟩ : ∃ w4, w4 = ((wr.alloc (.cells #[.int .i64 0, .int .i64 0, .int .i64 0] 43)).setCells wr.heap.size 0 #[.int .i64 x.p, .int .i64 x.i, .int .i64 x.c].toList) := ⟨_, rfl⟩
          have bw4 : Below wr.heap.size wr w4 := by rw [hw4]; exact below_sets ((Below.refl _ _).alloc (Nat.le_refl _) _) (Nat.le_refl _) _ _ (by simp)
          have z4 : w4.heap.size = wr.heap.size + 1 := by rw [hw4, size_sets, World.size_alloc]
          have ht4 := there_new wr #[.int .i64 0, .int .i64 0, .int .i64 0] 43
          have r4 : w4.rangeAt wr.heap.size 0 #[.int .i64 x.p, .int .i64 x.i, .int .i64 x.c].toList := by rw [hw4]; exact World.rangeAt_setCells_same _ _ _ _ ht4
          obtain ⟨w5, hw5⟩ : ∃ w5, w5 = ((w4.alloc (.cells #[.int .i64 0, .int .i64 0, .int .i64 0] 43)).setCells w4.heap.size 0 #[.int .i64 x'.p, .int .i64 x'.i, .int .i64 x'.c].toList) := ⟨_, rfl⟩
          have bw5 : Below w4.heap.size w4 w5 := by rw [hw5]; exact below_sets ((Below.refl _ _).alloc (Nat.le_refl _) _) (Nat.le_refl _) _ _ (by simp)
          have z5 : w5.heap.size = w4.heap.size + 1 := by rw [hw5, size_sets, World.size_alloc]
          have ht5 := there_new w4 #[.int .i64 0, .int .i64 0, .int .i64 0] 43
          have r5' : w5.rangeAt w4.heap.size 0 #[.int .i64 x'.p, .int .i64 x'.i, .int .i64 x'.c].toList := by rw [hw5]; exact World.rangeAt_setCells_same _ _ _ _ ht5
          have r5 : w5.rangeAt wr.heap.size 0 #[.int .i64 x.p, .int .i64 x.i, .int .i64 x.c].toList := range_same r4 (bw5.block _ (by omega))
          have ur4 := ur.same (bw4.block _ (by omega))
          have c44' := ur4.cm
          rw [hAe'] at c44'
          have y04 : w4.cell? ⟨g', o' + q * 3, none⟩ = some (.int .i64 x'.p) := (bw4.cell (p := ⟨g', _, none⟩) hgr').trans y0
          have y14 : w4.cell? ⟨g', o' + q * 3 + 1, none⟩ = some (.int .i64 x'.i) := (bw4.cell (p := ⟨g', _, none⟩) hgr').trans y1
          have y24 : w4.cell? ⟨g', o' + q * 3 + 2, none⟩ = some (.int .i64 x'.c) := (bw4.cell (p := ⟨g', _, none⟩) hgr').trans y2
          have b5 : Below w3.heap.size w3 w5 := (hb.trans (bw4.mono (by omega))).trans (bw5.mono (by omega))
          have p0 := r5 0 _ rfl
          have p1 := r5 1 _ rfl
          have p2 := r5 2 _ rfl
          have q0 := r5' 0 _ rfl
          have q1 := r5' 1 _ rfl
          have q2 := r5' 2 _ rfl
          rw [Nat.zero_add] at p0 p1 p2 q0 q1 q2
          have z4' : wr.heap.size < w4.heap.size := by omega
          have z5' : w4.heap.size < w5.heap.size := by omega
          replace z4 := Lib.hid z4
          replace z5 := Lib.hid z5
          replace b5 := Lib.hid b5
          replace hw4 := Lib.hid hw4
          replace hw5 := Lib.hid hw5
          replace ht4 := Lib.hid ht4
          replace ht5 := Lib.hid ht5
          replace hAe := Lib.hid hAe
          replace hAe' := Lib.hid hAe'
          replace r4 := Lib.hid r4
          replace r5 := Lib.hid r5
          replace r5' := Lib.hid r5'
          replace bw4 := Lib.hid bw4
          replace bw5 := Lib.hid bw5
          replace vr := Lib.hid vr
          replace ur := Lib.hid ur
          replace ur4 := Lib.hid ur4
          have hq0 : (0 : Int) ≤ (q : Int) := by omega
          have hq1 : (q : Int) < (n : Int) := by omega
          have hq2 : (q : Int) < (n' : Int) := by omega
          clear y0 y1 y2 c4'
          by_cases f0 : x.p = x'.p
          · by_cases f1 : x.i = x'.i
            · by_cases f2 : x.c = x'.c
              ·
                have hag' := Lib.hid (agree_succ hag.out (by rw [hx.out, hx'.out, mb_ext f0 f1 f2]))
                have g0 : (x.p != x'.p) = false := by simp [f0]
                have g1 : (x.i != x'.i) = false := by simp [f1]
                have g2 : (x.c != x'.c) = false := by simp [f2]
                replace f0 := Lib.hid f0
                replace f1 := Lib.hid f1
                replace f2 := Lib.hid f2
                go_wp2_with (first
                  | (refine wpList_store_mid rfl 43 (.tmp 6) (.tmp 34) rfl wr.heap.size 0 #[.int .i64 x.p, .int .i64 x.i, .int .i64 x.c] (by rfl) (by rfl) ht4.out (by kernel_rfl) (one_ints3 _ _ _) ?_
                     rw [← hw4.out]
                     clear c4 x0 x1 x2)
                  | (refine wpList_store_mid rfl 43 (.tmp 7) (.tmp 39) rfl w4.heap.size 0 #[.int .i64 x'.p, .int .i64 x'.i, .int .i64 x'.c] (by rfl) (by rfl) ht5.out (by kernel_rfl) (one_ints3 _ _ _) ?_
                     rw [← hw5.out]
                     clear c44' y04 y14 y24)
                  | fail)
                go_roundw
                case rel => go_light; exact ⟨q + 1, by go_num, by omega, hag'.out, b5.out⟩
                case measure => go_light; simp [intOf]; omega
              ·
                have hans := Lib.hid (show viSame v ms v' ms' = false by
                  unfold viSame
                  rw [decide_eq_false (fun e : ms = ms' => by
                    have := hx.out
                    rw [e, hx'.out] at this
                    injection this with this
                    exact f2 (by rw [this]))]
                  simp)
                have g0 : (x.p != x'.p) = false := by simp [f0]
                have g1 : (x.i != x'.i) = false := by simp [f1]
                have g2 : (x.c != x'.c) = true := by simp [f2]
                replace f0 := Lib.hid f0
                replace f1 := Lib.hid f1
                replace f2 := Lib.hid f2
                go_wp2_with (first
                  | (refine wpList_store_mid rfl 43 (.tmp 6) (.tmp 34) rfl wr.heap.size 0 #[.int .i64 x.p, .int .i64 x.i, .int .i64 x.c] (by rfl) (by rfl) ht4.out (by kernel_rfl) (one_ints3 _ _ _) ?_
                     rw [← hw4.out]
                     clear c4 x0 x1 x2)
                  | (refine wpList_store_mid rfl 43 (.tmp 7) (.tmp 39) rfl w4.heap.size 0 #[.int .i64 x'.p, .int .i64 x'.i, .int .i64 x'.c] (by rfl) (by rfl) ht5.out (by kernel_rfl) (one_ints3 _ _ _) ?_
                     rw [← hw5.out]
                     clear c44' y04 y14 y24)
                  | fail)
                go_ret
                exact ⟨ret_bool hans.out.symm, b3.out.trans (b5.out.mono (by omega))⟩
            ·
              have hans := Lib.hid (show viSame v ms v' ms' = false by
                unfold viSame
                rw [decide_eq_false (fun e : ms = ms' => by
                  have := hx.out
                  rw [e, hx'.out] at this
                  injection this with this
                  exact f1 (by rw [this]))]
                simp)
              have g0 : (x.p != x'.p) = false := by simp [f0]
              have g1 : (x.i != x'.i) = true := by simp [f1]
              replace f0 := Lib.hid f0
              replace f1 := Lib.hid f1
              go_wp2_with (first
                | (refine wpList_store_mid rfl 43 (.tmp 6) (.tmp 34) rfl wr.heap.size 0 #[.int .i64 x.p, .int .i64 x.i, .int .i64 x.c] (by rfl) (by rfl) ht4.out (by kernel_rfl) (one_ints3 _ _ _) ?_
                   rw [← hw4.out]
                   clear c4 x0 x1 x2)
                | (refine wpList_store_mid rfl 43 (.tmp 7) (.tmp 39) rfl w4.heap.size 0 #[.int .i64 x'.p, .int .i64 x'.i, .int .i64 x'.c] (by rfl) (by rfl) ht5.out (by kernel_rfl) (one_ints3 _ _ _) ?_
                   rw [← hw5.out]
                   clear c44' y04 y14 y24)
                | fail)
              go_ret
              exact ⟨ret_bool hans.out.symm, b3.out.trans (b5.out.mono (by omega))⟩
          ·
            have hans := Lib.hid (show viSame v ms v' ms' = false by
              unfold viSame
              rw [decide_eq_false (fun e : ms = ms' => by
                have := hx.out
                rw [e, hx'.out] at this
                injection this with this
                exact f0 (by rw [this]))]
              simp)
            have g0 : (x.p != x'.p) = true := by simp [f0]
            replace f0 := Lib.hid f0
            go_wp2_with (first
              | (refine wpList_store_mid rfl 43 (.tmp 6) (.tmp 34) rfl wr.heap.size 0 #[.int .i64 x.p, .int .i64 x.i, .int .i64 x.c] (by rfl) (by rfl) ht4.out (by kernel_rfl) (one_ints3 _ _ _) ?_
                 rw [← hw4.out]
                 clear c4 x0 x1 x2)
              | (refine wpList_store_mid rfl 43 (.tmp 7) (.tmp 39) rfl w4.heap.size 0 #[.int .i64 x'.p, .int .i64 x'.i, .int .i64 x'.c] (by rfl) (by rfl) ht5.out (by kernel_rfl) (one_ints3 _ _ _) ?_
                 rw [← hw5.out]
                 clear c44' y04 y14 y24)
              | fail)
            go_ret
            exact ⟨ret_bool hans.out.symm, b3.out.trans (b5.out.mono (by omega))⟩
        · obtain rfl : q = n := by omega
          have hans := Lib.hid (show viSame v ms v' ms' = true by unfold viSame; rw [d.out, agree_all hag.out hn.out (by rw [hn'.out, hnn.out])]; simp)
          go_wp2
          go_ret
          exact ⟨ret_bool hans.out.symm, br⟩
    · have en : ((n : Int) != (n' : Int)) = true := by simp; omega
      have hans := Lib.hid (show viSame v ms v' ms' = false by unfold viSame; rw [d, decide_eq_false (fun x => e (by rw [← hn, ← hn', x]))]; rfl)
      replace e := Lib.hid e
      replace d := Lib.hid d
      replace hn := Lib.hid hn
      replace hn' := Lib.hid hn'
      go_enter Try.func21, Try.ntmps21
      go_wp2_with (first
        | (rw [← hw2.out]
           go_at_call 29
           refine (lsame_any v v' w2).mono ?_
           rintro e w3 ⟨rfl, hb3⟩
           rw [d.out]
           have z3 := hb3.size
           have b3 := hb2.out.trans (hb3.mono (by omega))
           have v3 := v2.out.same (hb3.block _ (by omega))
           have u3 := u2.out.same (hb3.block _ (by omega))
           clear k0 k1 k2 k3 k0' k1' k2' k3'
           have m4 := v3.cm
           have m4' := u3.cm
           replace b3 := Lib.hid b3
           replace v3 := Lib.hid v3
           replace u3 := Lib.hid u3
           clear hb3)
        | fail)
      go_ret
      exact ⟨ret_bool hans.out.symm, b3.out⟩
end Go.Proofs.Ytfbeggdbjpmppaa
namespace Go.Proofs.Ytfbeggdbjpmppaa
open Go.RowKit
def holdsI (ms : List Mb) (p i : Int) : Int := match ms.find? (fun m => decide (m.p = p ∧ m.i = i)) with
  | some m => m.c
  | none => 0
theorem holds_hit {ms : List Mb} {p i : Int} {k : Nat} {m : Mb} (h : upto (fun y => decide (y.p = p ∧ y.i = i) = false) ms k) (hm : ms[k]? = some m) (hp : m.p = p) (hi : m.i = i) : holdsI ms p i = m.c := by
  unfold holdsI; rw [find_here h hm (decide_eq_true ⟨hp, hi⟩)]
theorem holds_none {ms : List Mb} {p i : Int} {k : Nat} (h : upto (fun y => decide (y.p = p ∧ y.i = i) = false) ms k) (hk : ms.length ≤ k) : holdsI ms p i = 0 := by
  unfold holdsI
  rw [List.find?_eq_none.2 (fun x hx => by rw [upto_all h hk x hx]; decide)]
set_option maxRecDepth 100000 in
set_option maxHeartbeats 4000000 in
theorem holds_any (v : Vid) (A : Option Addr) (c N n : Nat) (ms : List Mb) (p i : Int) (w : World) (hn : ms.length = n) (hN : N ≤ w.heap.size) (hA : RowAt w N 3 eMb A ms) (l1 : n ≤ 9223372036854775807) :
    Calls Try.prog 28 #[.agg (viewA v A n c), .int .i64 p, .int .i64 i] w fun x w' => x = .returned (.int .i64 (holdsI ms p i)) ∧ Below w.heap.size w w' := by
  obtain ⟨w2, hw2⟩ : ∃ w2, w2 = w.alloc (.cells (viewA v A n c) 46) := ⟨_, rfl⟩
  have hb2 : Below w.heap.size w w2 := by rw [hw2]; exact below_box1 _ _ _
  have z2 : w2.heap.size = w.heap.size + 1 := by rw [hw2]; simp
  have v2 : ViAt w2 w.heap.size v A n c := by rw [hw2]; exact ViAt.new w v A n c 46
  obtain ⟨g0, hg0⟩ : ∃ g0, g0 = w.heap.size := ⟨_, rfl⟩
  rw [← hg0] at v2
  have k0 := v2.cm
  replace v2 := Lib.hid v2
  replace hb2 := Lib.hid hb2
  replace hw2 := Lib.hid hw2
  replace hn := Lib.hid hn
  replace hg0 := Lib.hid hg0
  go_enter Try.func28, Try.ntmps28
  go_wp2_with fail
  rw [← hw2.out, ← hg0.out]
  go_wp2_with fail
  go_loopw [7] (fun k wr => ∃ q : Nat, k = .int .i64 (q : Int) ∧ q ≤ n ∧ upto (fun y => decide (y.p = p ∧ y.i = i) = false) ms q ∧ Below w2.heap.size w2 wr) (fun k _ => n - (intOf k).toNat)
  case atStart => exact ⟨0, rfl, by omega, upto_zero _ _, Below.refl _ _⟩
  case round =>
    obtain ⟨q, rfl, hq, hup, hb⟩ := hrel
    have hzr := hb.size
    have vr := v2.out.same (hb.block _ (by have := hg0.out; omega))
    have br := Lib.hid (hb2.out.trans (hb.mono (by omega)))
    have c4 := vr.cm
    clear k0
    replace hup := Lib.hid hup
    replace vr := Lib.hid vr
    replace hb := Lib.hid hb
    by_cases hlt : q < n
    · obtain ⟨g, o, m, hAe, hg, hm, x0, x1, x2⟩ := (hA.below br.out hN).mb (show q < ms.length by rw [hn.out]; exact hlt)
      rw [hAe] at c4
      by_cases hp : m.p = p
      · have e1 : (m.p == p) = true := by simp [hp]
        by_cases hi : m.i = i
        · have e2 : (m.i == i) = true := by simp [hi]
          have hL := Lib.hid (holds_hit hup.out hm.out hp hi)
          replace hp := Lib.hid hp
          replace hi := Lib.hid hi
          go_wp2
          go_ret
          exact ⟨by rw [hL.out]; rfl, br.out⟩
        · have e2 : (m.i == i) = false := by simp [hi]
          have hup' := Lib.hid (upto_succ hup.out (fun z hz => by rw [hm.out] at hz; cases hz; exact decide_eq_false (fun e => hi e.2)))
          replace hp := Lib.hid hp
          replace hi := Lib.hid hi
          go_wp2
          go_roundw
          case rel => go_light; exact ⟨q + 1, by go_num, by omega, hup'.out, hb.out⟩
          case measure => go_light; simp [intOf]; omega
      · have e1 : (m.p == p) = false := by simp [hp]
        have hup' := Lib.hid (upto_succ hup.out (fun z hz => by rw [hm.out] at hz; cases hz; exact decide_eq_false (fun e => hp e.1)))
        replace hp := Lib.hid hp
        go_wp2
        go_roundw
        case rel => go_light; exact ⟨q + 1, by go_num, by omega, hup'.out, hb.out⟩
        case measure => go_light; simp [intOf]; omega
    · have hL := Lib.hid (holds_none hup.out (by have := hn.out; omega))
      go_wp2
      go_ret
      exact ⟨by rw [hL.out]; rfl, br.out⟩
end Go.Proofs.Ytfbeggdbjpmppaa
namespace Go.Proofs.Ytfbeggdbjpmppaa
theorem holds_of {ms : List Mb} {m : Mb} (hr : ∀ (i j : Nat) (x y : Mb), ms[i]? = some x → ms[j]? = some y → x.p = y.p → i = j) (hm : m ∈ ms) : holdsI ms m.p m.i = m.c := by
  obtain ⟨k, hk⟩ := List.mem_iff_getElem?.1 hm
  unfold holdsI
  have hf : ms.find? (fun x => decide (x.p = m.p ∧ x.i = m.i)) = some m := by
    refine find_here (k := k) (fun j y hj hy => ?_) hk (decide_eq_true ⟨rfl, rfl⟩)
    refine decide_eq_false fun e => ?_
    have := hr j k y m hy hk e.1; omega
  rw [hf]
structure Ris (s : St) : Prop where
  inv : Inv s
  rinv : RInv s
  me : nth s.own.vec s.self = s.own.cid
  cid1 : 1 ≤ s.own.cid
  has : holdsI s.mem s.self s.inc ≤ s.own.cid
  opn : s.opn = true → holdsI s.mem s.self s.inc < s.own.cid ∧ s.vid.e ≤ s.own.top
structure Up (s t : St) : Prop where
  n : t.n = s.n
  self : t.self = s.self
  inc : t.inc = s.inc
  vid : t.vid = s.vid
  mem : t.mem = s.mem
  own : t.own = s.own ∨ (s.own.cid ≤ t.own.cid ∧ t.own.rev = s.own.rev + 1 ∧ (t.own.cid ≠ s.own.cid ∨ t.own.vec ≠ s.own.vec))
theorem Up.refl (s : St) : Up s s := ⟨rfl, rfl, rfl, rfl, rfl, .inl rfl⟩
theorem heard_me {s : St} (h : Inv s) : nth s.heard s.self = s.own.cid := by
  rw [nth_heard (by have := h.self; have := h.n2; omega)]
  unfold St.vecAt; rw [if_pos rfl]
theorem begin_up (s : St) (x : List Int) : Up s (s.begin_ x) := ⟨rfl, rfl, rfl, rfl, rfl, .inr ⟨by show _ ≤ s.own.cid + 1; omega, rfl, .inl (by show s.own.cid + 1 ≠ _; omega)⟩⟩
theorem begin_ris {s : St} {x : List Int} (h : Ris s) (hs : s.spent = false) (hi : Inv (s.begin_ x)) (hr : RInv (s.begin_ x)) : Ris (s.begin_ x) := by
  have hb : nth (s.begin_ x).own.vec (s.begin_ x).self = (s.begin_ x).own.cid := by
    show nth (s.beg1 x).heard (s.beg1 x).self = (s.beg1 x).own.cid
    rw [nth_heard (by have := h.inv.self; have := h.inv.n2; show s.self < 16; omega)]
    unfold St.vecAt; rw [if_pos rfl]
  have hc := h.cid1
  have hh := h.has
  refine ⟨hi, hr, hb, by show 1 ≤ s.own.cid + 1; omega, by show holdsI s.mem s.self s.inc ≤ s.own.cid + 1; omega, fun _ => ⟨by show holdsI s.mem s.self s.inc < s.own.cid + 1; omega, ?_⟩⟩
  show s.vid.e ≤ if s.vid = Vid.zero then s.own.top else s.vid.e
  split
  · rename_i e; rw [e]; have := h.inv.own.top; show (0 : Int) ≤ _; omega
  · exact Int.le_refl _
theorem estimate_ris {s : St} (h : Ris s) (l : List Int) : Ris (s.estimate l).2.2 ∧ Up s (s.estimate l).2.2 := by
  have hi := estimate_inv h.inv l
  have hr := estimate_rinv h.rinv h.inv l
  unfold St.estimate at hi hr ⊢
  split
  · exact ⟨h, Up.refl s⟩
  · rename_i h1
    rw [if_neg h1] at hi hr
    split
    · exact ⟨h, Up.refl s⟩
    · rename_i h2
      rw [if_neg h2] at hi hr
      split
      · exact ⟨h, Up.refl s⟩
      · rename_i h3
        rw [if_neg h3] at hi hr
        exact ⟨begin_ris h (by simpa using h3) hi hr, begin_up s _⟩
theorem put_ris {s : St} (h : Ris s) {q : Nat} {inc : Int} {w : Wish} (hi : Inv (s.put q inc w)) (hr : RInv (s.put q inc w)) : Ris (s.put q inc w) := ⟨hi, hr, h.me, h.cid1, h.has, h.opn⟩
theorem put_up (s : St) (q : Nat) (inc : Int) (w : Wish) : Up s (s.put q inc w) := ⟨rfl, rfl, rfl, rfl, rfl, .inl rfl⟩
theorem take_ris {s : St} (h : Ris s) (q inc : Int) (p : Pr) : Ris (s.take q inc p).2.2 ∧ Up s (s.take q inc p).2.2 := by
  have hi := take_inv h.inv q inc p
  have hr := take_rinv h.rinv h.inv q inc p
  unfold St.take at hi hr ⊢
  split
  · exact ⟨h, Up.refl s⟩
  · rename_i h1
    rw [if_neg h1] at hi hr
    split
    · exact ⟨h, Up.refl s⟩
    · rename_i h2
      rw [if_neg h2] at hi hr
      split
      · exact ⟨h, Up.refl s⟩
      · rename_i h3
        rw [if_neg h3] at hi hr
        split
        · exact ⟨h, Up.refl s⟩
        · rename_i h4
          rw [if_neg h4] at hi hr
          have hp : Inv (s.put q.toNat inc p.wish) := put_inv h.inv (good_wish h.inv.n2 (by simpa using h2))
          have hpr : RInv (s.put q.toNat inc p.wish) := put_rinv h.rinv h.inv.oth (by have := h.inv.n2; omega) (by omega)
          have hP := put_ris h hp hpr
          dsimp only at hi hr ⊢
          split
          · rename_i h5
            rw [if_pos h5] at hi hr
            split
            · exact ⟨hP, put_up s _ _ _⟩
            · rename_i h6
              rw [if_neg h6] at hi hr
              split
              · rename_i h7
                rw [if_pos h7] at hi hr
                exact ⟨⟨hi, hr, heard_me hp, h.cid1, h.has, h.opn⟩, ⟨rfl, rfl, rfl, rfl, rfl, .inr ⟨Int.le_refl _, rfl, .inr h6⟩⟩⟩
              · exact ⟨h, Up.refl s⟩
          · rename_i h5
            rw [if_neg h5] at hi hr
            split
            · exact ⟨hP, put_up s _ _ _⟩
            · rename_i h6
              rw [if_neg h6] at hi hr
              split
              · exact ⟨h, Up.refl s⟩
              · rename_i h7
                rw [if_neg h7] at hi hr
                exact ⟨begin_ris hP (by simpa using h7) hi hr, ⟨rfl, rfl, rfl, rfl, rfl, .inr ⟨by show s.own.cid ≤ s.own.cid + 1; omega, rfl, .inl (by show s.own.cid + 1 ≠ s.own.cid; omega)⟩⟩⟩
theorem agTo_self {s : St} (h : Inv s) : ∀ {k : Nat} {a : Ag}, s.self < k → s.agTo k = some a → (⟨s.self, s.inc, nth s.own.vec s.self⟩ : Mb) ∈ a.mem ∧ (s.self : Int) ∈ a.trans
  | 0, a, hk, e => by omega
  | k + 1, a, hk, e => by
    rw [St.agTo] at e
    obtain ⟨b, hb, hs⟩ := Option.bind_eq_some_iff.1 e
    unfold St.agStep at hs
    by_cases e2 : s.self = k
    · subst e2
      rw [if_neg (by rw [h.me]; have := h.inc1; omega)] at hs
      split at hs
      · cases hs
      · cases hs
        refine ⟨List.mem_append_right _ (by rw [h.me]; exact List.mem_singleton.2 rfl), ?_⟩
        dsimp only
        rw [if_pos (.inl rfl)]
        exact List.mem_append_right _ (List.mem_singleton.2 rfl)
    · have ih := agTo_self h (by omega) hb
      split at hs
      · cases hs; exact ih
      · split at hs
        · cases hs
        · cases hs
          refine ⟨List.mem_append_left _ ih.1, ?_⟩
          dsimp only
          split
          · exact List.mem_append_left _ ih.2
          · exact ih.2
theorem vid_e {a : Ag} (h : a.mem ≠ []) : a.vid.e = a.top + 1 := by
  unfold Ag.vid
  split
  · rfl
  · rename_i e; exact absurd e h
theorem install_ris {s : St} (h : Ris s) {a : Ag} (ha : s.agreed = some a) :
    Ris s.install ∧ s.vid.e < a.vid.e ∧ holdsI a.mem s.self s.inc = s.own.cid ∧ holdsI s.mem s.self s.inc < s.own.cid ∧ 0 < a.trans.length ∧ s.install.vid = a.vid ∧ s.install.mem = a.mem ∧ s.install.own = s.own ∧ s.install.opn = false ∧ s.install.n = s.n ∧ s.install.self = s.self ∧ s.install.inc = s.inc := by
  have hin : s.install = { s with vid := a.vid, mem := a.mem, opn := false } := by unfold St.install; rw [ha]
  have hi := install_inv h.inv
  have hr := install_rinv h.rinv h.inv
  have hop : s.opn = true := by
    unfold St.agreed at ha
    split at ha
    · assumption
    · cases ha
  have hag : s.agTo s.n = some a := by
    unfold St.agreed at ha
    rw [if_pos hop] at ha; exact ha
  obtain ⟨m1, m2⟩ := agTo_self h.inv h.inv.self hag
  have hrise := (agTo_rise hag).2
  have hhold : holdsI a.mem s.self s.inc = s.own.cid := by
    have := holds_of hrise m1
    rw [h.me] at this; exact this
  obtain ⟨o1, o2⟩ := h.opn hop
  have hge := agTo_ge hag
  have hne : a.mem ≠ [] := List.ne_nil_of_mem m1
  have hE := vid_e hne
  rw [hin] at hi hr ⊢
  refine ⟨⟨hi, hr, h.me, h.cid1, ?_, fun e => by cases e⟩, by omega, hhold, o1, List.length_pos_of_mem m2, rfl, rfl, rfl, rfl, rfl, rfl, rfl⟩
  show holdsI a.mem s.self s.inc ≤ s.own.cid
  rw [hhold]; exact Int.le_refl _
theorem nth_set_self {l : List Int} {i : Nat} {v : Int} (h : i < l.length) : nth (l.set i v) i = v := by unfold nth; rw [List.getElem?_set_self h]; rfl
theorem new_ris {n self : Nat} {inc floor : Int} (h : newB n self inc floor = true) (hf : floor ≠ 4611686018427387904) : Ris (newSt n self inc floor) := by
  have hi := new_inv h hf
  have hr := new_rinv h hf
  unfold newB at h
  simp only [decide_eq_true_eq] at h
  exact ⟨hi, hr, nth_set_self (by rw [len_zeros]; omega), by show 1 ≤ floor + 1; omega, by show (0 : Int) ≤ floor + 1; omega, fun _ => ⟨by show (0 : Int) < floor + 1; omega, by show (0 : Int) ≤ floor; omega⟩⟩
end Go.Proofs.Ytfbeggdbjpmppaa
namespace Go.Proofs.Ytfbeggdbjpmppaa
open Go.RowKit
theorem build31 (w : World) (cid rev top e l k c : Int) (S V : Option Addr) (n cS m cV : Nat) : (Instr.build 31 #[(0, .slice S n cS), (1, .int .i64 cid), (2, .int .i64 rev), (3, .int .i64 top), (4, .agg #[.int .i64 e, .int .i64 l, .int .i64 k, .int .i64 c]), (5, .slice V m cV)]).run Try.prog w = .ok (.agg #[.slice S n cS, .int .i64 cid, .int .i64 rev, .int .i64 top, .int .i64 e, .int .i64 l, .int .i64 k, .int .i64 c, .slice V m cV]) w := by kernel_rfl
section
variable {ops : Array Oper} {S : World → Prop} {Q : Act → Prop} {a : Act} {o : Oper} {rest : List Oper}
theorem wpQuiet_build31 (hw : Region.wanted o (yielded ops a.tmps) = true) (x0 x1 x2 x3 x4 x5 : Operand) (ho : o.op = .build 31 #[(0, x0), (1, x1), (2, x2), (3, x3), (4, x4), (5, x5)]) (p : Pr) (A V : Option Addr) (n cA m cV : Nat) (h0 : a.eval x0 = .slice A n cA) (h1 : a.eval x1 = .int .i64 p.cid) (h2 : a.eval x2 = .int .i64 p.rev) (h3 : a.eval x3 = .int .i64 p.top) (h4 : a.eval x4 = .agg (vidC p.prev)) (h5 : a.eval x5 = .slice V m cV)
    (h : wpQuiet Try.prog ops S Q rest (a.put o.dst (.agg (prV A n cA V m cV p)))) : wpQuiet Try.prog ops S Q (o :: rest) a := by
  refine wpQuiet_step fun K hK => ?_
  rw [if_pos hw]
  refine ⟨_, ?_, hK _ h⟩
  intro w' hw'
  unfold Oper.quietAt execOp
  simp only [ho, List.map_toArray, List.map_cons, List.map_nil, h0, h1, h2, h3, h4, h5, Sem.run_bind, build31 w', Result.andThen_ok, Sem.run_pure]
  exact ⟨rfl, rfl⟩
end
theorem wp_store31v {o : Oper} {a : Act} {w : World} {K : Act → World → Prop} {Q : Exit → Act → World → Prop} (x y : Operand) (ho : o.op = .store 31 x y) (hd : o.dst = none) (b off : Nat) (hx : a.eval x = .pointer (some ⟨b, off, none⟩)) (S : Option Addr) (nS cS : Nat) (V : Option Addr) (nV cV : Nat) (p : Pr) (hy : a.eval y = .agg (prV S nS cS V nV cV p))
    (ht : w.there b off 9) (h : ∀ w', Hid (w' = w.setCells b off (prV S nS cS V nV cV p).toList) → K a w') : o.wp Try.prog a w K Q :=
  wp_store_mid 31 x y ho b off (prV S nS cS V nV cV p) hx hy ht (by rw [size31]; rfl) (one_prV _ _ _ _ _ _ _) (by rw [hd]; exact h _ (Lib.hid rfl))
def CpPost (w : World) (p : Pr) (n m : Nat) (ls lv : List Int) (x : Ending) (w' : World) : Prop :=
  ∃ g c h d, x = .returned (.agg (prV (some ⟨g, 0, none⟩) n c (some ⟨h, 0, none⟩) m d p)) ∧ Owns w' w.heap.size 3 1 eInt (some ⟨g, 0, none⟩) c (ls ++ marks 64) ∧ Owns w' w.heap.size 3 1 eInt (some ⟨h, 0, none⟩) d (lv ++ marks 64) ∧ g ≠ h ∧ Below w.heap.size w w'
theorem Owns.base {α : Type} {w : World} {base base' sz c : Nat} {e : TypeId} {enc : α → List Value} {A : Option Addr} {l : List α} (h : Owns w base e sz enc A c l) (hb : base' ≤ base) : Owns w base' e sz enc A c l := by
  refine ⟨h.1, ?_⟩
  rcases h.2 with h2 | ⟨g, cap, cur, hv, hbase, hr⟩
  · exact .inl h2
  · exact .inr ⟨g, cap, cur, hv, by omega, hr⟩
set_option maxRecDepth 100000 in
set_option maxHeartbeats 2000000 in
theorem copied_any (S : Option Addr) (cS : Nat) (V : Option Addr) (cV N n m : Nat) (p : Pr) (ls lv : List Int) (w : World) (hn : ls.length = n) (hm : lv.length = m) (hN : N ≤ w.heap.size) (hS : RowAt w N 1 eInt S ls) (hV : RowAt w N 1 eInt V lv) (l1 : n ≤ 2000000) (l2 : m ≤ 2000000) :
    Calls Try.prog 41 #[.agg (prV S n cS V m cV p)] w (CpPost w p n m ls lv) := by
  obtain ⟨w2, hw2⟩ : ∃ w2, w2 = (w.alloc (.cells (prV S n cS V m cV p) 31)).alloc (.cells prZ 31) := ⟨_, rfl⟩
  have hb2 : Below w.heap.size w w2 := by rw [hw2]; exact below_box2 _ _ _ _ _
  have z2 : w2.heap.size = w.heap.size + 2 := by rw [hw2]; simp
  have t2 : w2.there (w.heap.size + 1) 0 9 := by
    have := there_new (w.alloc (.cells (prV S n cS V m cV p) 31)) prZ 31
    rw [← hw2] at this; simpa using this
  have v2 : PVar w2 w.heap.size S n cS V m cV p := by rw [hw2]; exact (PVar.new w S n cS V m cV p 31).same (heap_alloc_old _ _ (by simp))
  have hx : ∀ W, Below w.heap.size w W → RowAt W N 1 eInt S ls ∧ RowAt W N 1 eInt V lv ∧ N ≤ W.heap.size := fun W hW => ⟨hS.below hW hN, hV.below hW hN, Nat.le_trans hN hW.size⟩
  have hS0 : PVar w2.drew w.heap.size S n cS V m cV p := v2.same rfl
  have hC : ∀ x' : Prop, (∀ W, PVar W w.heap.size S n cS V m cV p → x') ↔ x' := fun x' => ⟨fun f => f _ hS0, fun f _ _ => f⟩
  have L4 : ∀ W, PVar W w.heap.size S n cS V m cV p → (loadVar 27 ⟨w.heap.size, 0, none⟩).run Try.prog W = .ok (.slice S n cS) W := fun W hW => load27 hW.c0
  have L7 : ∀ W, PVar W w.heap.size S n cS V m cV p → (loadVar 3 ⟨w.heap.size, 1, none⟩).run Try.prog W = .ok (.int .i64 p.cid) W := fun W hW => load3 hW.c1
  have L9 : ∀ W, PVar W w.heap.size S n cS V m cV p → (loadVar 3 ⟨w.heap.size, 2, none⟩).run Try.prog W = .ok (.int .i64 p.rev) W := fun W hW => load3 hW.c2
  have L11 : ∀ W, PVar W w.heap.size S n cS V m cV p → (loadVar 3 ⟨w.heap.size, 3, none⟩).run Try.prog W = .ok (.int .i64 p.top) W := fun W hW => load3 hW.c3
  have L13 : ∀ W, PVar W w.heap.size S n cS V m cV p → (loadVar 29 ⟨w.heap.size, 4, none⟩).run Try.prog W = .ok (.agg (vidC p.prev)) W := fun W hW => load29 hW.c4 hW.c5 hW.c6 hW.c7
  have L15 : ∀ W, PVar W w.heap.size S n cS V m cV p → (loadVar 27 ⟨w.heap.size, 8, none⟩).run Try.prog W = .ok (.slice V m cV) W := fun W hW => load27 hW.c8
  replace L4 := Lib.hid L4
  replace L7 := Lib.hid L7
  replace L9 := Lib.hid L9
  replace L11 := Lib.hid L11
  replace L13 := Lib.hid L13
  replace L15 := Lib.hid L15
  replace hS0 := Lib.hid hS0
  replace hx := Lib.hid hx
  replace v2 := Lib.hid v2
  replace t2 := Lib.hid t2
  replace hw2 := Lib.hid hw2
  replace hb2 := Lib.hid hb2
  replace hn := Lib.hid hn
  replace hm := Lib.hid hm
  clear hS hV
  go_enter Try.func41, Try.ntmps41
  go_wp2_with fail
  rw [← hw2.out]
  refine wp_region_ord [([0, 1, 3, 4, 5, 6, 7, 8, 9, 10, 11, 12], 2), ([], 13), ([14], 15)] [] (fun W => PVar W w.heap.size S n cS V m cV p) rfl (by kernel_rfl) rfl hS0.out ?_
  refine WO.seg rfl ?_ hS0.out
  simp only [picks, pick, List.cons_append, List.nil_append, List.append_nil]
  repeat (first
    | go_big_quiet_skip
    | (refine wpQuiet_loadC (by rfl) 27 (.tmp 3) rfl w.heap.size 0 (by rfl) _ L4.out ?_; simp only [Act.put, List.setIfInBounds_toArray, List.set_cons_zero, List.set_cons_succ])
    | (refine wpQuiet_loadC (by rfl) 3 (.tmp 6) rfl w.heap.size 1 (by rfl) _ L7.out ?_; simp only [Act.put, List.setIfInBounds_toArray, List.set_cons_zero, List.set_cons_succ])
    | (refine wpQuiet_loadC (by rfl) 3 (.tmp 8) rfl w.heap.size 2 (by rfl) _ L9.out ?_; simp only [Act.put, List.setIfInBounds_toArray, List.set_cons_zero, List.set_cons_succ])
    | (refine wpQuiet_loadC (by rfl) 3 (.tmp 10) rfl w.heap.size 3 (by rfl) _ L11.out ?_; simp only [Act.put, List.setIfInBounds_toArray, List.set_cons_zero, List.set_cons_succ])
    | (refine wpQuiet_loadC (by rfl) 29 (.tmp 12) rfl w.heap.size 4 (by rfl) _ L13.out ?_; simp only [Act.put, List.setIfInBounds_toArray, List.set_cons_zero, List.set_cons_succ])
    | (refine wpQuiet_loadC (by rfl) 27 (.tmp 14) rfl w.heap.size 8 (by rfl) _ L15.out ?_; simp only [Act.put, List.setIfInBounds_toArray, List.set_cons_zero, List.set_cons_succ])
    | go_big_quiet_step (fail))
  refine wpQuiet_nil ?_
  intro K hK
  go_simp
  go_at_call 57
  refine (fresh_any S cS N n ls w2.drew hn.out (hx.out _ (Below.drew hb2.out)).2.2 (hx.out _ (Below.drew hb2.out)).1 l1).mono ?_
  rintro e w3 ⟨g, c, rfl, ho3, hb3⟩
  have b23 : Below w2.heap.size w2 w3 := (Below.drew (Below.refl _ _)).trans hb3
  have z3 := b23.size
  have b3 := hb2.out.trans (b23.mono (by omega))
  have v3 := v2.out.same (b23.block _ (by omega))
  have t3 := there_below t2.out b23 (by omega)
  have lo3 := ho3.lo
  replace ho3 := Lib.hid ho3
  replace lo3 := Lib.hid lo3
  replace b3 := Lib.hid b3
  replace v3 := Lib.hid v3
  replace t3 := Lib.hid t3
  clear b23 hb3
  go_wp2_with fail
  refine hK.out _ _ v3.out ?_
  clear hK K
  refine WO.seg rfl ?_ v3.out
  simp only [picks]
  refine wpQuiet_nil ?_
  intro K hK
  go_simp
  go_at_call 57
  refine (fresh_any V cV N m lv w3 hm.out (hx.out _ b3.out).2.2 (hx.out _ b3.out).2.1 l2).mono ?_
  rintro e w4 ⟨h, d, rfl, ho4, hb4⟩
  have z4 := hb4.size
  have b4 := b3.out.trans (hb4.mono (by omega))
  have v4 := v3.out.same (hb4.block _ (by omega))
  have t4 := there_below t3.out hb4 (by omega)
  have ho34 := ho3.out.keep hb4 (fun k hk => (lo3.out k hk).2)
  have hgh : g ≠ h := fun e => by
    have h1 := (lo3.out g rfl).2
    have h2 := (ho4.lo h rfl).1
    omega
  replace ho34 := Lib.hid ho34
  replace ho4 := Lib.hid ho4
  replace b4 := Lib.hid b4
  replace v4 := Lib.hid v4
  replace t4 := Lib.hid t4
  clear hb4
  go_wp2_with fail
  refine hK.out _ _ v4.out ?_
  clear hK K
  refine WO.seg rfl ?_ v4.out
  simp only [picks, pick, List.cons_append, List.nil_append, List.append_nil]
  repeat (first
    | go_big_quiet_skip
    | (refine wpQuiet_build31 (by rfl) (.tmp 5) (.tmp 7) (.tmp 9) (.tmp 11) (.tmp 13) (.tmp 16) rfl p (some ⟨g, 0, none⟩) (some ⟨h, 0, none⟩) n c m d (by rfl) (by rfl) (by rfl) (by rfl) (by rfl) (by rfl) ?_; simp only [Act.put, List.setIfInBounds_toArray, List.set_cons_zero, List.set_cons_succ])
    | go_big_quiet_step (fail))
  refine wpQuiet_nil ?_
  intro K hK
  rw [if_pos (by rfl)]
  refine wp_store31v (.tmp 2) (.tmp 17) rfl rfl (w.heap.size + 1) 0 (by rfl) (some ⟨g, 0, none⟩) n c (some ⟨h, 0, none⟩) m d p (by rfl) t4.out ?_
  intro w5 hw5
  have g5 : w4.grownBy w5 (some (w.heap.size + 1)) := by rw [hw5.out]; exact grown_sets _ _ _ _
  have v5 := v4.out.same (g5.block w.heap.size (by omega) (by intro e; injection e with e; omega))
  refine hK.out _ _ v5 ?_
  clear hK K
  refine WO.end_ ?_
  simp only [picks]
  refine wpQuiet_nil ?_
  clear hC
  have p5 : PVar w5 (w.heap.size + 1) (some ⟨g, 0, none⟩) n c (some ⟨h, 0, none⟩) m d p := by rw [hw5.out]; exact PVar.put t4.out
  have b5 : Below w.heap.size w w5 := b4.out.grown g5 (by omega) (by intro k hk; injection hk with hk; omega)
  have o5 := ho34.out.kept g5 (.inr (by intro e; have := (ho34.out.lo _ e).1; have : w2.drew.heap.size = w2.heap.size := rfl; omega))
  have o6 := ho4.out.kept g5 (.inr (by intro e; have := (ho4.out.lo _ e).1; omega))
  go_wp2
  exact bodyPost_ret (res_cell (p := 2) (ty := 31) rfl rfl p5.load) rfl ⟨g, c, h, d, rfl, o5.base (by show w.heap.size ≤ w2.heap.size; omega), o6.base (by omega), hgh, b5⟩
end Go.Proofs.Ytfbeggdbjpmppaa
namespace Go.Proofs.Ytfbeggdbjpmppaa
open Go.RowKit
def prSame (p : Pr) (ls lv : List Int) (p' : Pr) (ls' lv' : List Int) : Bool := decide (ls = ls') && decide (lv = lv') && (p.cid == p'.cid) && (p.rev == p'.rev) && (p.top == p'.top) && vidEq p.prev p'.prev
set_option maxRecDepth 100000 in
set_option maxHeartbeats 8000000 in
theorem proposals_any (S V S' V' : Option Addr) (cS cV cS' cV' N n m n' m' : Nat) (p p' : Pr) (ls lv ls' lv' : List Int) (w : World) (hn : ls.length = n) (hm : lv.length = m) (hn' : ls'.length = n') (hm' : lv'.length = m') (hN : N ≤ w.heap.size) (hS : RowAt w N 1 eInt S ls) (hV : RowAt w N 1 eInt V lv) (hS' : RowAt w N 1 eInt S' ls') (hV' : RowAt w N 1 eInt V' lv') (l1 : n ≤ 9223372036854775807) (l2 : m ≤ 9223372036854775807) (l1' : n' ≤ 9223372036854775807) (l2' : m' ≤ 9223372036854775807) :
    Calls Try.prog 33 #[.agg (prV S n cS V m cV p), .agg (prV S' n' cS' V' m' cV' p')] w fun x w' => x = .returned (.bool (prSame p ls lv p' ls' lv')) ∧ Below w.heap.size w w' := by
  obtain ⟨w2, hw2⟩ : ∃ w2, w2 = (w.alloc (.cells (prV S n cS V m cV p) 31)).alloc (.cells (prV S' n' cS' V' m' cV' p') 31) := ⟨_, rfl⟩
  have hb2 : Below w.heap.size w w2 := by rw [hw2]; exact below_box2 _ _ _ _ _
  have z2 : w2.heap.size = w.heap.size + 2 := by rw [hw2]; simp
  have v2 : PVar w2 w.heap.size S n cS V m cV p := by rw [hw2]; exact (PVar.new w S n cS V m cV p 31).same (heap_alloc_old _ _ (by simp))
  have u2 : PVar w2 (w.heap.size + 1) S' n' cS' V' m' cV' p' := by
    have := PVar.new (w.alloc (.cells (prV S n cS V m cV p) 31)) S' n' cS' V' m' cV' p' 31
    rw [hw2]; rw [World.size_alloc] at this; exact this
  have hx : ∀ W, Below w.heap.size w W → RowAt W N 1 eInt S ls ∧ RowAt W N 1 eInt V lv ∧ RowAt W N 1 eInt S' ls' ∧ RowAt W N 1 eInt V' lv' ∧ N ≤ W.heap.size := fun W hW => ⟨hS.below hW hN, hV.below hW hN, hS'.below hW hN, hV'.below hW hN, Nat.le_trans hN hW.size⟩
  replace hx := Lib.hid hx
  have k0 := v2.c0
  have k0' := u2.c0
  replace v2 := Lib.hid v2
  replace u2 := Lib.hid u2
  replace hb2 := Lib.hid hb2
  replace hw2 := Lib.hid hw2
  replace hn := Lib.hid hn
  replace hm := Lib.hid hm
  replace hn' := Lib.hid hn'
  replace hm' := Lib.hid hm'
  clear hS hV hS' hV'
  cases e0 : decide (ls = ls') with
  | false =>
    have d1 : decide (ls = ls') = false := e0
    have hans := Lib.hid (show prSame p ls lv p' ls' lv' = false by unfold prSame; rw [e0]; rfl)
    clear e0
    replace d1 := Lib.hid d1
    go_enter Try.func33, Try.ntmps33
    go_wp2_with (first
      | (rw [← hw2.out]
         go_at_call 23
         refine (lints_two S S' cS cS' N ls ls' n n' w2 hn.out hn'.out (hx.out _ hb2.out).2.2.2.2 (hx.out _ hb2.out).1 (hx.out _ hb2.out).2.2.1 l1 l1').mono ?_
         rintro e w3 ⟨rfl, hb3⟩
         rw [d1.out]
         have z3 := hb3.size
         have b3 := hb2.out.trans (hb3.mono (by omega))
         have v3 := v2.out.same (hb3.block _ (by omega))
         have u3 := u2.out.same (hb3.block _ (by omega))
         clear k0 k0'
         replace b3 := Lib.hid b3
         replace v3 := Lib.hid v3
         replace u3 := Lib.hid u3
         clear hb3)
      | fail)
    go_ret
    exact ⟨ret_bool hans.out.symm, b3.out⟩
  | true =>
    cases e1 : decide (lv = lv') with
    | false =>
      have d1 : decide (ls = ls') = true := e0
      have d2 : decide (lv = lv') = false := e1
      have hans := Lib.hid (show prSame p ls lv p' ls' lv' = false by unfold prSame; rw [e0, e1]; rfl)
      clear e0
      clear e1
      replace d1 := Lib.hid d1
      replace d2 := Lib.hid d2
      go_enter Try.func33, Try.ntmps33
      go_wp2_with (first
        | (rw [← hw2.out]
           go_at_call 23
           refine (lints_two S S' cS cS' N ls ls' n n' w2 hn.out hn'.out (hx.out _ hb2.out).2.2.2.2 (hx.out _ hb2.out).1 (hx.out _ hb2.out).2.2.1 l1 l1').mono ?_
           rintro e w3 ⟨rfl, hb3⟩
           rw [d1.out]
           have z3 := hb3.size
           have b3 := hb2.out.trans (hb3.mono (by omega))
           have v3 := v2.out.same (hb3.block _ (by omega))
           have u3 := u2.out.same (hb3.block _ (by omega))
           clear k0 k0'
           have k8 := v3.c8
           have k8' := u3.c8
           replace b3 := Lib.hid b3
           replace v3 := Lib.hid v3
           replace u3 := Lib.hid u3
           clear hb3)
        | fail)
      go_wp2_with (first
        | (go_at_call 23
           refine (lints_two V V' cV cV' N lv lv' m m' w3 hm.out hm'.out (hx.out _ b3.out).2.2.2.2 (hx.out _ b3.out).2.1 (hx.out _ b3.out).2.2.2.1 l2 l2').mono ?_
           rintro e w4 ⟨rfl, hb4⟩
           rw [d2.out]
           have z4 := hb4.size
           have b4 := b3.out.trans (hb4.mono (by omega))
           have v4 := v3.out.same (hb4.block _ (by omega))
           have u4 := u3.out.same (hb4.block _ (by omega))
           clear k8 k8'
           replace b4 := Lib.hid b4
           replace v4 := Lib.hid v4
           replace u4 := Lib.hid u4
           clear hb4)
        | fail)
      go_ret
      exact ⟨ret_bool hans.out.symm, b4.out⟩
    | true =>
      cases e2 : (p.cid == p'.cid) with
      | false =>
        have d1 : decide (ls = ls') = true := e0
        have d2 : decide (lv = lv') = true := e1
        have d3 : (p.cid == p'.cid) = false := e2
        have hans := Lib.hid (show prSame p ls lv p' ls' lv' = false by unfold prSame; rw [e0, e1, e2]; rfl)
        clear e0
        clear e1
        clear e2
        replace d1 := Lib.hid d1
        replace d2 := Lib.hid d2
        go_enter Try.func33, Try.ntmps33
        go_wp2_with (first
          | (rw [← hw2.out]
             go_at_call 23
             refine (lints_two S S' cS cS' N ls ls' n n' w2 hn.out hn'.out (hx.out _ hb2.out).2.2.2.2 (hx.out _ hb2.out).1 (hx.out _ hb2.out).2.2.1 l1 l1').mono ?_
             rintro e w3 ⟨rfl, hb3⟩
             rw [d1.out]
             have z3 := hb3.size
             have b3 := hb2.out.trans (hb3.mono (by omega))
             have v3 := v2.out.same (hb3.block _ (by omega))
             have u3 := u2.out.same (hb3.block _ (by omega))
             clear k0 k0'
             have k8 := v3.c8
             have k8' := u3.c8
             replace b3 := Lib.hid b3
             replace v3 := Lib.hid v3
             replace u3 := Lib.hid u3
             clear hb3)
          | fail)
        go_wp2_with (first
          | (go_at_call 23
             refine (lints_two V V' cV cV' N lv lv' m m' w3 hm.out hm'.out (hx.out _ b3.out).2.2.2.2 (hx.out _ b3.out).2.1 (hx.out _ b3.out).2.2.2.1 l2 l2').mono ?_
             rintro e w4 ⟨rfl, hb4⟩
             rw [d2.out]
             have z4 := hb4.size
             have b4 := b3.out.trans (hb4.mono (by omega))
             have v4 := v3.out.same (hb4.block _ (by omega))
             have u4 := u3.out.same (hb4.block _ (by omega))
             clear k8 k8'
             have k1 := v4.c1
             have k1' := u4.c1
             replace b4 := Lib.hid b4
             replace v4 := Lib.hid v4
             replace u4 := Lib.hid u4
             clear hb4)
          | fail)
        go_ret
        exact ⟨ret_bool hans.out.symm, b4.out⟩
      | true =>
        cases e3 : (p.rev == p'.rev) with
        | false =>
          have d1 : decide (ls = ls') = true := e0
          have d2 : decide (lv = lv') = true := e1
          have d3 : (p.cid == p'.cid) = true := e2
          have d4 : (p.rev == p'.rev) = false := e3
          have hans := Lib.hid (show prSame p ls lv p' ls' lv' = false by unfold prSame; rw [e0, e1, e2, e3]; rfl)
          clear e0
          clear e1
          clear e2
          clear e3
          replace d1 := Lib.hid d1
          replace d2 := Lib.hid d2
          go_enter Try.func33, Try.ntmps33
          go_wp2_with (first
            | (rw [← hw2.out]
               go_at_call 23
               refine (lints_two S S' cS cS' N ls ls' n n' w2 hn.out hn'.out (hx.out _ hb2.out).2.2.2.2 (hx.out _ hb2.out).1 (hx.out _ hb2.out).2.2.1 l1 l1').mono ?_
               rintro e w3 ⟨rfl, hb3⟩
               rw [d1.out]
               have z3 := hb3.size
               have b3 := hb2.out.trans (hb3.mono (by omega))
               have v3 := v2.out.same (hb3.block _ (by omega))
               have u3 := u2.out.same (hb3.block _ (by omega))
               clear k0 k0'
               have k8 := v3.c8
               have k8' := u3.c8
               replace b3 := Lib.hid b3
               replace v3 := Lib.hid v3
               replace u3 := Lib.hid u3
               clear hb3)
            | fail)
          go_wp2_with (first
            | (go_at_call 23
               refine (lints_two V V' cV cV' N lv lv' m m' w3 hm.out hm'.out (hx.out _ b3.out).2.2.2.2 (hx.out _ b3.out).2.1 (hx.out _ b3.out).2.2.2.1 l2 l2').mono ?_
               rintro e w4 ⟨rfl, hb4⟩
               rw [d2.out]
               have z4 := hb4.size
               have b4 := b3.out.trans (hb4.mono (by omega))
               have v4 := v3.out.same (hb4.block _ (by omega))
               have u4 := u3.out.same (hb4.block _ (by omega))
               clear k8 k8'
               have k1 := v4.c1
               have k1' := u4.c1
               have k2 := v4.c2
               have k2' := u4.c2
               replace b4 := Lib.hid b4
               replace v4 := Lib.hid v4
               replace u4 := Lib.hid u4
               clear hb4)
            | fail)
          go_ret
          exact ⟨ret_bool hans.out.symm, b4.out⟩
        | true =>
          cases e4 : (p.top == p'.top) with
          | false =>
            have d1 : decide (ls = ls') = true := e0
            have d2 : decide (lv = lv') = true := e1
            have d3 : (p.cid == p'.cid) = true := e2
            have d4 : (p.rev == p'.rev) = true := e3
            have d5 : (p.top == p'.top) = false := e4
            have hans := Lib.hid (show prSame p ls lv p' ls' lv' = false by unfold prSame; rw [e0, e1, e2, e3, e4]; rfl)
            clear e0
            clear e1
            clear e2
            clear e3
            clear e4
            replace d1 := Lib.hid d1
            replace d2 := Lib.hid d2
            go_enter Try.func33, Try.ntmps33
            go_wp2_with (first
              | (rw [← hw2.out]
                 go_at_call 23
                 refine (lints_two S S' cS cS' N ls ls' n n' w2 hn.out hn'.out (hx.out _ hb2.out).2.2.2.2 (hx.out _ hb2.out).1 (hx.out _ hb2.out).2.2.1 l1 l1').mono ?_
                 rintro e w3 ⟨rfl, hb3⟩
                 rw [d1.out]
                 have z3 := hb3.size
                 have b3 := hb2.out.trans (hb3.mono (by omega))
                 have v3 := v2.out.same (hb3.block _ (by omega))
                 have u3 := u2.out.same (hb3.block _ (by omega))
                 clear k0 k0'
                 have k8 := v3.c8
                 have k8' := u3.c8
                 replace b3 := Lib.hid b3
                 replace v3 := Lib.hid v3
                 replace u3 := Lib.hid u3
                 clear hb3)
              | fail)
            go_wp2_with (first
              | (go_at_call 23
                 refine (lints_two V V' cV cV' N lv lv' m m' w3 hm.out hm'.out (hx.out _ b3.out).2.2.2.2 (hx.out _ b3.out).2.1 (hx.out _ b3.out).2.2.2.1 l2 l2').mono ?_
                 rintro e w4 ⟨rfl, hb4⟩
                 rw [d2.out]
                 have z4 := hb4.size
                 have b4 := b3.out.trans (hb4.mono (by omega))
                 have v4 := v3.out.same (hb4.block _ (by omega))
                 have u4 := u3.out.same (hb4.block _ (by omega))
                 clear k8 k8'
                 have k1 := v4.c1
                 have k1' := u4.c1
                 have k2 := v4.c2
                 have k2' := u4.c2
                 have k3 := v4.c3
                 have k3' := u4.c3
                 replace b4 := Lib.hid b4
                 replace v4 := Lib.hid v4
                 replace u4 := Lib.hid u4
                 clear hb4)
              | fail)
            go_ret
            exact ⟨ret_bool hans.out.symm, b4.out⟩
          | true =>
            have d1 : decide (ls = ls') = true := e0
            have d2 : decide (lv = lv') = true := e1
            have d3 : (p.cid == p'.cid) = true := e2
            have d4 : (p.rev == p'.rev) = true := e3
            have d5 : (p.top == p'.top) = true := e4
            have hans := Lib.hid (show prSame p ls lv p' ls' lv' = vidEq p.prev p'.prev by unfold prSame; rw [e0, e1, e2, e3, e4]; simp)
            clear e0
            clear e1
            clear e2
            clear e3
            clear e4
            replace d1 := Lib.hid d1
            replace d2 := Lib.hid d2
            go_enter Try.func33, Try.ntmps33
            go_wp2_with (first
              | (rw [← hw2.out]
                 go_at_call 23
                 refine (lints_two S S' cS cS' N ls ls' n n' w2 hn.out hn'.out (hx.out _ hb2.out).2.2.2.2 (hx.out _ hb2.out).1 (hx.out _ hb2.out).2.2.1 l1 l1').mono ?_
                 rintro e w3 ⟨rfl, hb3⟩
                 rw [d1.out]
                 have z3 := hb3.size
                 have b3 := hb2.out.trans (hb3.mono (by omega))
                 have v3 := v2.out.same (hb3.block _ (by omega))
                 have u3 := u2.out.same (hb3.block _ (by omega))
                 clear k0 k0'
                 have k8 := v3.c8
                 have k8' := u3.c8
                 replace b3 := Lib.hid b3
                 replace v3 := Lib.hid v3
                 replace u3 := Lib.hid u3
                 clear hb3)
              | fail)
            go_wp2_with (first
              | (go_at_call 23
                 refine (lints_two V V' cV cV' N lv lv' m m' w3 hm.out hm'.out (hx.out _ b3.out).2.2.2.2 (hx.out _ b3.out).2.1 (hx.out _ b3.out).2.2.2.1 l2 l2').mono ?_
                 rintro e w4 ⟨rfl, hb4⟩
                 rw [d2.out]
                 have z4 := hb4.size
                 have b4 := b3.out.trans (hb4.mono (by omega))
                 have v4 := v3.out.same (hb4.block _ (by omega))
                 have u4 := u3.out.same (hb4.block _ (by omega))
                 clear k8 k8'
                 have k1 := v4.c1
                 have k1' := u4.c1
                 have k2 := v4.c2
                 have k2' := u4.c2
                 have k3 := v4.c3
                 have k3' := u4.c3
                 have k4 := v4.c4
                 have k4' := u4.c4
                 have k5 := v4.c5
                 have k5' := u4.c5
                 have k6 := v4.c6
                 have k6' := u4.c6
                 have k7 := v4.c7
                 have k7' := u4.c7
                 replace b4 := Lib.hid b4
                 replace v4 := Lib.hid v4
                 replace u4 := Lib.hid u4
                 clear hb4)
              | fail)
            go_wp2_with (first
              | (go_at_call 29
                 refine (lsame_any p.prev p'.prev w4).mono ?_
                 rintro e w5 ⟨rfl, hb5⟩
                 have b5 := b4.out.trans (hb5.mono (by omega))
                 replace b5 := Lib.hid b5
                 clear hb5)
              | fail)
            go_ret
            exact ⟨ret_bool hans.out.symm, b5.out⟩
end Go.Proofs.Ytfbeggdbjpmppaa
namespace Go.Proofs.Ytfbeggdbjpmppaa
open Go.RowKit
theorem within_any (v : Int) (w : World) : Calls Try.prog 81 #[.int .i64 v] w fun e w' => e = .returned (.bool (cntB v)) ∧ w' = w := by
  by_cases h1 : 1 ≤ v
  · by_cases h2 : v ≤ 4611686018427387904
    · have hc := Lib.hid (show cntB v = true by simp [cntB, h1, h2])
      go_enter Try.func81, Try.ntmps81
      go_wp2
      go_ret
      exact ⟨ret_bool hc.out.symm, rfl⟩
    · have hc := Lib.hid (show cntB v = false by simp [cntB, h1, h2])
      go_enter Try.func81, Try.ntmps81
      go_wp2
      go_ret
      exact ⟨ret_bool hc.out.symm, rfl⟩
  · have hc := Lib.hid (show cntB v = false by simp [cntB, h1])
    go_enter Try.func81, Try.ntmps81
    go_wp2
    go_ret
    exact ⟨ret_bool hc.out.symm, rfl⟩
theorem within_is (v : Int) (t : Bool) (h : cntB v = t) (w : World) : Calls Try.prog 81 #[.int .i64 v] w fun e w' => e = .returned (.bool t) ∧ w' = w := by
  subst h; exact within_any v w
set_option maxRecDepth 100000 in
set_option maxHeartbeats 4000000 in
theorem valid_any (b : Nat) (s : St) (M : Option Addr) (cM : Nat) (id : Vid) (w : World) (h : AgAt w b s M cM) (hb : b < w.heap.size) :
    Calls Try.prog 67 #[.pointer (some ⟨b, 0, none⟩), .agg (vidC id)] w fun x w' => x = .returned (.bool (validB id s.n)) ∧ Below w.heap.size w w' := by
  have q0 := h.n
  have hev := run_eql_vid
  have hbx := below_box1 w (vidC id) 29
  replace hbx := Lib.hid hbx
  by_cases hz : id = Vid.zero
  · have hv : vidEq ⟨id.e, id.l, id.i, id.c⟩ ⟨0, 0, 0, 0⟩ = true := vidEq_iff.2 (by rw [show (⟨id.e, id.l, id.i, id.c⟩ : Vid) = id from rfl, hz])
    have hB := Lib.hid (show validB id s.n = true by simp [validB, hz])
    replace hz := Lib.hid hz
    go_enter Try.func67, Try.ntmps67
    go_wp2
    go_ret
    exact ⟨ret_bool hB.out.symm, hbx.out⟩
  · have hv : vidEq ⟨id.e, id.l, id.i, id.c⟩ ⟨0, 0, 0, 0⟩ = false := by rw [← Bool.not_eq_true, vidEq_iff]; exact hz
    have hB : validB id s.n = (cntB id.e && cntB id.i && cntB id.c && decide (0 ≤ id.l ∧ id.l < s.n)) := by simp [validB, hz]
    replace hz := Lib.hid hz
    cases h1 : cntB id.e with
    | false =>
      rw [h1] at hB; replace hB := Lib.hid (hB.trans (by simp) : validB id s.n = false)
      go_enter Try.func67, Try.ntmps67
      go_wp2
      go_quiet ((go_at_call 81; exact Calls.quiet_of_same (within_is _ _ (by assumption) _)))
      go_wp2
      go_ret
      exact ⟨ret_bool hB.out.symm, below_drewN hbx.out _⟩
    | true =>
      cases h2 : cntB id.i with
      | false =>
        rw [h1, h2] at hB; replace hB := Lib.hid (hB.trans (by simp) : validB id s.n = false)
        go_enter Try.func67, Try.ntmps67
        go_wp2
        go_quiet ((go_at_call 81; exact Calls.quiet_of_same (within_is _ _ (by assumption) _)))
        go_wp2
        go_ret
        exact ⟨ret_bool hB.out.symm, below_drewN hbx.out _⟩
      | true =>
        cases h3 : cntB id.c with
        | false =>
          rw [h1, h2, h3] at hB; replace hB := Lib.hid (hB.trans (by simp) : validB id s.n = false)
          go_enter Try.func67, Try.ntmps67
          go_wp2
          go_quiet ((go_at_call 81; exact Calls.quiet_of_same (within_is _ _ (by assumption) _)))
          go_wp2
          go_ret
          exact ⟨ret_bool hB.out.symm, below_drewN hbx.out _⟩
        | true =>
          rw [h1, h2, h3] at hB; replace hB := Lib.hid (hB.trans (by simp) : validB id s.n = decide (0 ≤ id.l ∧ id.l < s.n))
          by_cases h4 : 0 ≤ id.l
          · have hd : decide (0 ≤ id.l) = true := by simp [h4]
            have hB2 := Lib.hid (show validB id s.n = decide (id.l < s.n) by rw [hB.out]; simp [h4])
            go_enter Try.func67, Try.ntmps67
            go_wp2
            go_quiet ((go_at_call 81; exact Calls.quiet_of_same (within_is _ _ (by assumption) _)))
            go_wp2
            go_ret
            exact ⟨ret_bool hB2.out.symm, below_drewN hbx.out _⟩
          · have hd : decide (0 ≤ id.l) = false := by simp [h4]
            have hB2 := Lib.hid (show validB id s.n = false by rw [hB.out]; simp [h4])
            go_enter Try.func67, Try.ntmps67
            go_wp2
            go_quiet ((go_at_call 81; exact Calls.quiet_of_same (within_is _ _ (by assumption) _)))
            go_wp2
            go_ret
            exact ⟨ret_bool hB2.out.symm, below_drewN hbx.out _⟩
end Go.Proofs.Ytfbeggdbjpmppaa
