/- LawC LawD KeepApp Valid, joined. -/
import Derived.Test.YtfbeggdbjpmppaaMw1
import Derived.Test.YtfbeggdbjpmppaaMw4
import Derived.Test.YtfbeggdbjpmppaaMw13
set_option linter.unusedVariables false
set_option linter.unusedSimpArgs false
/- The law's proposals. -/
namespace Go.Proofs.Ytfbeggdbjpmppaa
open Go.RowKit
/-- Are two proposals alike? -/
def prSame (p : Pr) (ls lv : List Int) (p' : Pr) (ls' lv' : List Int) : Bool := decide (ls = ls') && decide (lv = lv') && (p.cid == p'.cid) && (p.rev == p'.rev) && (p.top == p'.top) && vidEq p.prev p'.prev
set_option maxRecDepth 100000 in
set_option maxHeartbeats 8000000 in
theorem proposals_any (S V S' V' : Option Addr) (cS cV cS' cV' N n m n' m' : Nat) (p p' : Pr) (ls lv ls' lv' : List Int) (w : World) (hn : ls.length = n) (hm : lv.length = m) (hn' : ls'.length = n') (hm' : lv'.length = m') (hN : N ≤ w.heap.size) (hS : RowAt w N 1 eInt S ls) (hV : RowAt w N 1 eInt V lv) (hS' : RowAt w N 1 eInt S' ls') (hV' : RowAt w N 1 eInt V' lv') (l1 : n ≤ 9223372036854775807) (l2 : m ≤ 9223372036854775807) (l1' : n' ≤ 9223372036854775807) (l2' : m' ≤ 9223372036854775807) :
    Calls Try.prog 33 #[.agg (prV S n cS V m cV p), .agg (prV S' n' cS' V' m' cV' p')] w fun x w' => x = .returned (.bool (prSame p ls lv p' ls' lv')) ∧ Below w.heap.size w w' := by
  obtain ⟨w2, hw2⟩ : ∃ w2, w2 = (w.alloc (.cells (prV S n cS V m cV p) 31)).alloc (.cells (prV S' n' cS' V' m' cV' p') 31) := ⟨_, rfl⟩
  have hb2 : Below w.heap.size w w2 := by rw [hw2]; exact below_box2 _ _ _ _ _
  have z2 : w2.heap.size = w.heap.size + 2 := by rw [hw2]; simp
  have v2 : PVar w2 w.heap.size S n cS V m cV p := by rw [hw2]; exact (PVar.new w S n cS V m cV p 31).same (heap_alloc_old _ _ (by simp))
  have u2 : PVar w2 (w.heap.size + 1) S' n' cS' V' m' cV' p' := by
    have := PVar.new (w.alloc (.cells (prV S n cS V m cV p) 31)) S' n' cS' V' m' cV' p' 31
    rw [hw2]; rw [World.size_alloc] at this; exact this
  have hx : ∀ W, Below w.heap.size w W → RowAt W N 1 eInt S ls ∧ RowAt W N 1 eInt V lv ∧ RowAt W N 1 eInt S' ls' ∧ RowAt W N 1 eInt V' lv' ∧ N ≤ W.heap.size := fun W hW => ⟨hS.below hW hN, hV.below hW hN, hS'.below hW hN, hV'.below hW hN, Nat.le_trans hN hW.size⟩
  replace hx := Lib.hid hx
  have k0 := v2.c0
  have k0' := u2.c0
  replace v2 := Lib.hid v2
  replace u2 := Lib.hid u2
  replace hb2 := Lib.hid hb2
  replace hw2 := Lib.hid hw2
  replace hn := Lib.hid hn
  replace hm := Lib.hid hm
  replace hn' := Lib.hid hn'
  replace hm' := Lib.hid hm'
  clear hS hV hS' hV'
  cases e0 : decide (ls = ls') with
  | false =>
    have d1 : decide (ls = ls') = false := e0
    have hans := Lib.hid (show prSame p ls lv p' ls' lv' = false by unfold prSame; rw [e0]; rfl)
    clear e0
    replace d1 := Lib.hid d1
    go_enter Try.func33, Try.ntmps33
    go_wp2_with (first
      | (rw [← hw2.out]
         go_at_call 23
         refine (lints_two S S' cS cS' N ls ls' n n' w2 hn.out hn'.out (hx.out _ hb2.out).2.2.2.2 (hx.out _ hb2.out).1 (hx.out _ hb2.out).2.2.1 l1 l1').mono ?_
         rintro e w3 ⟨rfl, hb3⟩
         rw [d1.out]
         have z3 := hb3.size
         have b3 := hb2.out.trans (hb3.mono (by omega))
         have v3 := v2.out.same (hb3.block _ (by omega))
         have u3 := u2.out.same (hb3.block _ (by omega))
         clear k0 k0'
         replace b3 := Lib.hid b3
         replace v3 := Lib.hid v3
         replace u3 := Lib.hid u3
         clear hb3)
      | fail)
    go_ret
    exact ⟨ret_bool hans.out.symm, b3.out⟩
  | true =>
    cases e1 : decide (lv = lv') with
    | false =>
      have d1 : decide (ls = ls') = true := e0
      have d2 : decide (lv = lv') = false := e1
      have hans := Lib.hid (show prSame p ls lv p' ls' lv' = false by unfold prSame; rw [e0, e1]; rfl)
      clear e0
      clear e1
      replace d1 := Lib.hid d1
      replace d2 := Lib.hid d2
      go_enter Try.func33, Try.ntmps33
      go_wp2_with (first
        | (rw [← hw2.out]
           go_at_call 23
           refine (lints_two S S' cS cS' N ls ls' n n' w2 hn.out hn'.out (hx.out _ hb2.out).2.2.2.2 (hx.out _ hb2.out).1 (hx.out _ hb2.out).2.2.1 l1 l1').mono ?_
           rintro e w3 ⟨rfl, hb3⟩
           rw [d1.out]
           have z3 := hb3.size
           have b3 := hb2.out.trans (hb3.mono (by omega))
           have v3 := v2.out.same (hb3.block _ (by omega))
           have u3 := u2.out.same (hb3.block _ (by omega))
           clear k0 k0'
           have k8 := v3.c8
           have k8' := u3.c8
           replace b3 := Lib.hid b3
           replace v3 := Lib.hid v3
           replace u3 := Lib.hid u3
           clear hb3)
        | fail)
      go_wp2_with (first
        | (go_at_call 23
           refine (lints_two V V' cV cV' N lv lv' m m' w3 hm.out hm'.out (hx.out _ b3.out).2.2.2.2 (hx.out _ b3.out).2.1 (hx.out _ b3.out).2.2.2.1 l2 l2').mono ?_
           rintro e w4 ⟨rfl, hb4⟩
           rw [d2.out]
           have z4 := hb4.size
           have b4 := b3.out.trans (hb4.mono (by omega))
           have v4 := v3.out.same (hb4.block _ (by omega))
           have u4 := u3.out.same (hb4.block _ (by omega))
           clear k8 k8'
           replace b4 := Lib.hid b4
           replace v4 := Lib.hid v4
           replace u4 := Lib.hid u4
           clear hb4)
        | fail)
      go_ret
      exact ⟨ret_bool hans.out.symm, b4.out⟩
    | true =>
      cases e2 : (p.cid == p'.cid) with
      | false =>
        have d1 : decide (ls = ls') = true := e0
        have d2 : decide (lv = lv') = true := e1
        have d3 : (p.cid == p'.cid) = false := e2
        have hans := Lib.hid (show prSame p ls lv p' ls' lv' = false by unfold prSame; rw [e0, e1, e2]; rfl)
        clear e0
        clear e1
        clear e2
        replace d1 := Lib.hid d1
        replace d2 := Lib.hid d2
        go_enter Try.func33, Try.ntmps33
        go_wp2_with (first
          | (rw [← hw2.out]
             go_at_call 23
             refine (lints_two S S' cS cS' N ls ls' n n' w2 hn.out hn'.out (hx.out _ hb2.out).2.2.2.2 (hx.out _ hb2.out).1 (hx.out _ hb2.out).2.2.1 l1 l1').mono ?_
             rintro e w3 ⟨rfl, hb3⟩
             rw [d1.out]
             have z3 := hb3.size
             have b3 := hb2.out.trans (hb3.mono (by omega))
             have v3 := v2.out.same (hb3.block _ (by omega))
             have u3 := u2.out.same (hb3.block _ (by omega))
             clear k0 k0'
             have k8 := v3.c8
             have k8' := u3.c8
             replace b3 := Lib.hid b3
             replace v3 := Lib.hid v3
             replace u3 := Lib.hid u3
             clear hb3)
          | fail)
        go_wp2_with (first
          | (go_at_call 23
             refine (lints_two V V' cV cV' N lv lv' m m' w3 hm.out hm'.out (hx.out _ b3.out).2.2.2.2 (hx.out _ b3.out).2.1 (hx.out _ b3.out).2.2.2.1 l2 l2').mono ?_
             rintro e w4 ⟨rfl, hb4⟩
             rw [d2.out]
             have z4 := hb4.size
             have b4 := b3.out.trans (hb4.mono (by omega))
             have v4 := v3.out.same (hb4.block _ (by omega))
             have u4 := u3.out.same (hb4.block _ (by omega))
             clear k8 k8'
             have k1 := v4.c1
             have k1' := u4.c1
             replace b4 := Lib.hid b4
             replace v4 := Lib.hid v4
             replace u4 := Lib.hid u4
             clear hb4)
          | fail)
        go_ret
        exact ⟨ret_bool hans.out.symm, b4.out⟩
      | true =>
        cases e3 : (p.rev == p'.rev) with
        | false =>
          have d1 : decide (ls = ls') = true := e0
          have d2 : decide (lv = lv') = true := e1
          have d3 : (p.cid == p'.cid) = true := e2
          have d4 : (p.rev == p'.rev) = false := e3
          have hans := Lib.hid (show prSame p ls lv p' ls' lv' = false by unfold prSame; rw [e0, e1, e2, e3]; rfl)
          clear e0
          clear e1
          clear e2
          clear e3
          replace d1 := Lib.hid d1
          replace d2 := Lib.hid d2
          go_enter Try.func33, Try.ntmps33
          go_wp2_with (first
            | (rw [← hw2.out]
               go_at_call 23
               refine (lints_two S S' cS cS' N ls ls' n n' w2 hn.out hn'.out (hx.out _ hb2.out).2.2.2.2 (hx.out _ hb2.out).1 (hx.out _ hb2.out).2.2.1 l1 l1').mono ?_
               rintro e w3 ⟨rfl, hb3⟩
               rw [d1.out]
               have z3 := hb3.size
               have b3 := hb2.out.trans (hb3.mono (by omega))
               have v3 := v2.out.same (hb3.block _ (by omega))
               have u3 := u2.out.same (hb3.block _ (by omega))
               clear k0 k0'
               have k8 := v3.c8
               have k8' := u3.c8
               replace b3 := Lib.hid b3
               replace v3 := Lib.hid v3
               replace u3 := Lib.hid u3
               clear hb3)
            | fail)
          go_wp2_with (first
            | (go_at_call 23
               refine (lints_two V V' cV cV' N lv lv' m m' w3 hm.out hm'.out (hx.out _ b3.out).2.2.2.2 (hx.out _ b3.out).2.1 (hx.out _ b3.out).2.2.2.1 l2 l2').mono ?_
               rintro e w4 ⟨rfl, hb4⟩
               rw [d2.out]
               have z4 := hb4.size
               have b4 := b3.out.trans (hb4.mono (by omega))
               have v4 := v3.out.same (hb4.block _ (by omega))
               have u4 := u3.out.same (hb4.block _ (by omega))
               clear k8 k8'
               have k1 := v4.c1
               have k1' := u4.c1
               have k2 := v4.c2
               have k2' := u4.c2
               replace b4 := Lib.hid b4
               replace v4 := Lib.hid v4
               replace u4 := Lib.hid u4
               clear hb4)
            | fail)
          go_ret
          exact ⟨ret_bool hans.out.symm, b4.out⟩
        | true =>
          cases e4 : (p.top == p'.top) with
          | false =>
            have d1 : decide (ls = ls') = true := e0
            have d2 : decide (lv = lv') = true := e1
            have d3 : (p.cid == p'.cid) = true := e2
            have d4 : (p.rev == p'.rev) = true := e3
            have d5 : (p.top == p'.top) = false := e4
            have hans := Lib.hid (show prSame p ls lv p' ls' lv' = false by unfold prSame; rw [e0, e1, e2, e3, e4]; rfl)
            clear e0
            clear e1
            clear e2
            clear e3
            clear e4
            replace d1 := Lib.hid d1
            replace d2 := Lib.hid d2
            go_enter Try.func33, Try.ntmps33
            go_wp2_with (first
              | (rw [← hw2.out]
                 go_at_call 23
                 refine (lints_two S S' cS cS' N ls ls' n n' w2 hn.out hn'.out (hx.out _ hb2.out).2.2.2.2 (hx.out _ hb2.out).1 (hx.out _ hb2.out).2.2.1 l1 l1').mono ?_
                 rintro e w3 ⟨rfl, hb3⟩
                 rw [d1.out]
                 have z3 := hb3.size
                 have b3 := hb2.out.trans (hb3.mono (by omega))
                 have v3 := v2.out.same (hb3.block _ (by omega))
                 have u3 := u2.out.same (hb3.block _ (by omega))
                 clear k0 k0'
                 have k8 := v3.c8
                 have k8' := u3.c8
                 replace b3 := Lib.hid b3
                 replace v3 := Lib.hid v3
                 replace u3 := Lib.hid u3
                 clear hb3)
              | fail)
            go_wp2_with (first
              | (go_at_call 23
                 refine (lints_two V V' cV cV' N lv lv' m m' w3 hm.out hm'.out (hx.out _ b3.out).2.2.2.2 (hx.out _ b3.out).2.1 (hx.out _ b3.out).2.2.2.1 l2 l2').mono ?_
                 rintro e w4 ⟨rfl, hb4⟩
                 rw [d2.out]
                 have z4 := hb4.size
                 have b4 := b3.out.trans (hb4.mono (by omega))
                 have v4 := v3.out.same (hb4.block _ (by omega))
                 have u4 := u3.out.same (hb4.block _ (by omega))
                 clear k8 k8'
                 have k1 := v4.c1
                 have k1' := u4.c1
                 have k2 := v4.c2
                 have k2' := u4.c2
                 have k3 := v4.c3
                 have k3' := u4.c3
                 replace b4 := Lib.hid b4
                 replace v4 := Lib.hid v4
                 replace u4 := Lib.hid u4
                 clear hb4)
              | fail)
            go_ret
            exact ⟨ret_bool hans.out.symm, b4.out⟩
          | true =>
            have d1 : decide (ls = ls') = true := e0
            have d2 : decide (lv = lv') = true := e1
            have d3 : (p.cid == p'.cid) = true := e2
            have d4 : (p.rev == p'.rev) = true := e3
            have d5 : (p.top == p'.top) = true := e4
            have hans := Lib.hid (show prSame p ls lv p' ls' lv' = vidEq p.prev p'.prev by unfold prSame; rw [e0, e1, e2, e3, e4]; simp)
            clear e0
            clear e1
            clear e2
            clear e3
            clear e4
            replace d1 := Lib.hid d1
            replace d2 := Lib.hid d2
            go_enter Try.func33, Try.ntmps33
            go_wp2_with (first
              | (rw [← hw2.out]
                 go_at_call 23
                 refine (lints_two S S' cS cS' N ls ls' n n' w2 hn.out hn'.out (hx.out _ hb2.out).2.2.2.2 (hx.out _ hb2.out).1 (hx.out _ hb2.out).2.2.1 l1 l1').mono ?_
                 rintro e w3 ⟨rfl, hb3⟩
                 rw [d1.out]
                 have z3 := hb3.size
                 have b3 := hb2.out.trans (hb3.mono (by omega))
                 have v3 := v2.out.same (hb3.block _ (by omega))
                 have u3 := u2.out.same (hb3.block _ (by omega))
                 clear k0 k0'
                 have k8 := v3.c8
                 have k8' := u3.c8
                 replace b3 := Lib.hid b3
                 replace v3 := Lib.hid v3
                 replace u3 := Lib.hid u3
                 clear hb3)
              | fail)
            go_wp2_with (first
              | (go_at_call 23
                 refine (lints_two V V' cV cV' N lv lv' m m' w3 hm.out hm'.out (hx.out _ b3.out).2.2.2.2 (hx.out _ b3.out).2.1 (hx.out _ b3.out).2.2.2.1 l2 l2').mono ?_
                 rintro e w4 ⟨rfl, hb4⟩
                 rw [d2.out]
                 have z4 := hb4.size
                 have b4 := b3.out.trans (hb4.mono (by omega))
                 have v4 := v3.out.same (hb4.block _ (by omega))
                 have u4 := u3.out.same (hb4.block _ (by omega))
                 clear k8 k8'
                 have k1 := v4.c1
                 have k1' := u4.c1
                 have k2 := v4.c2
                 have k2' := u4.c2
                 have k3 := v4.c3
                 have k3' := u4.c3
                 have k4 := v4.c4
                 have k4' := u4.c4
                 have k5 := v4.c5
                 have k5' := u4.c5
                 have k6 := v4.c6
                 have k6' := u4.c6
                 have k7 := v4.c7
                 have k7' := u4.c7
                 replace b4 := Lib.hid b4
                 replace v4 := Lib.hid v4
                 replace u4 := Lib.hid u4
                 clear hb4)
              | fail)
            go_wp2_with (first
              | (go_at_call 29
                 refine (lsame_any p.prev p'.prev w4).mono ?_
                 rintro e w5 ⟨rfl, hb5⟩
                 have b5 := b4.out.trans (hb5.mono (by omega))
                 replace b5 := Lib.hid b5
                 clear hb5)
              | fail)
            go_ret
            exact ⟨ret_bool hans.out.symm, b5.out⟩
end Go.Proofs.Ytfbeggdbjpmppaa
/- The law's views. -/
namespace Go.Proofs.Ytfbeggdbjpmppaa
open Go.RowKit
theorem mb_ext {a b : Mb} (h1 : a.p = b.p) (h2 : a.i = b.i) (h3 : a.c = b.c) : a = b := by cases a; cases b; simp at h1 h2 h3; rw [h1, h2, h3]
instance mbDec : DecidableEq Mb := fun a b =>
  if h : a.p = b.p ∧ a.i = b.i ∧ a.c = b.c then isTrue (mb_ext h.1 h.2.1 h.2.2) else isFalse fun e => h (by rw [e]; exact ⟨rfl, rfl, rfl⟩)
/-- Are two views alike? -/
def viSame (v : Vid) (ms : List Mb) (v' : Vid) (ms' : List Mb) : Bool := vidEq v v' && decide (ms = ms')
set_option maxRecDepth 100000 in
set_option maxHeartbeats 8000000 in
theorem views_any (v v' : Vid) (A A' : Option Addr) (c c' N n n' : Nat) (ms ms' : List Mb) (w : World) (hn : ms.length = n) (hn' : ms'.length = n') (hN : N ≤ w.heap.size) (hA : RowAt w N 3 eMb A ms) (hA' : RowAt w N 3 eMb A' ms') (l1 : n ≤ 9223372036854775807) (l1' : n' ≤ 9223372036854775807) :
    Calls Try.prog 21 #[.agg (viewA v A n c), .agg (viewA v' A' n' c')] w fun x w' => x = .returned (.bool (viSame v ms v' ms')) ∧ Below w.heap.size w w' := by
  obtain ⟨w2, hw2⟩ : ∃ w2, w2 = (w.alloc (.cells (viewA v A n c) 46)).alloc (.cells (viewA v' A' n' c') 46) := ⟨_, rfl⟩
  have hb2 : Below w.heap.size w w2 := by rw [hw2]; exact below_box2 _ _ _ _ _
  have z2 : w2.heap.size = w.heap.size + 2 := by rw [hw2]; simp
  have v2 : ViAt w2 w.heap.size v A n c := by rw [hw2]; exact (ViAt.new w v A n c 46).same (heap_alloc_old _ _ (by simp))
  have u2 : ViAt w2 (w.heap.size + 1) v' A' n' c' := by
    have := ViAt.new (w.alloc (.cells (viewA v A n c) 46)) v' A' n' c' 46
    rw [hw2]; rw [World.size_alloc] at this; exact this
  have k0 := v2.ce
  have k1 := v2.cl
  have k2 := v2.ci
  have k3 := v2.cc
  have k0' := u2.ce
  have k1' := u2.cl
  have k2' := u2.ci
  have k3' := u2.cc
  replace v2 := Lib.hid v2
  replace u2 := Lib.hid u2
  replace hb2 := Lib.hid hb2
  replace hw2 := Lib.hid hw2
  cases d : vidEq v v' with
  | false =>
    have hans := Lib.hid (show viSame v ms v' ms' = false by unfold viSame; rw [d]; rfl)
    replace d := Lib.hid d
    replace hn := Lib.hid hn
    replace hn' := Lib.hid hn'
    go_enter Try.func21, Try.ntmps21
    go_wp2_with (first
      | (rw [← hw2.out]
         go_at_call 29
         refine (lsame_any v v' w2).mono ?_
         rintro e w3 ⟨rfl, hb3⟩
         rw [d.out]
         have z3 := hb3.size
         have b3 := hb2.out.trans (hb3.mono (by omega))
         have v3 := v2.out.same (hb3.block _ (by omega))
         have u3 := u2.out.same (hb3.block _ (by omega))
         clear k0 k1 k2 k3 k0' k1' k2' k3'
         have m4 := v3.cm
         have m4' := u3.cm
         replace b3 := Lib.hid b3
         replace v3 := Lib.hid v3
         replace u3 := Lib.hid u3
         clear hb3)
      | fail)
    go_ret
    exact ⟨ret_bool hans.out.symm, b3.out⟩
  | true =>
    by_cases e : n = n'
    · have en : ((n : Int) != (n' : Int)) = false := by simp [e]
      have hnn := Lib.hid e
      clear e
      replace d := Lib.hid d
      replace hn := Lib.hid hn
      replace hn' := Lib.hid hn'
      go_enter Try.func21, Try.ntmps21
      go_wp2_with (first
        | (rw [← hw2.out]
           go_at_call 29
           refine (lsame_any v v' w2).mono ?_
           rintro e w3 ⟨rfl, hb3⟩
           rw [d.out]
           have z3 := hb3.size
           have b3 := hb2.out.trans (hb3.mono (by omega))
           have v3 := v2.out.same (hb3.block _ (by omega))
           have u3 := u2.out.same (hb3.block _ (by omega))
           clear k0 k1 k2 k3 k0' k1' k2' k3'
           have m4 := v3.cm
           have m4' := u3.cm
           replace b3 := Lib.hid b3
           replace v3 := Lib.hid v3
           replace u3 := Lib.hid u3
           clear hb3)
        | fail)
      go_loopw [5] (fun k wr => ∃ q : Nat, k = .int .i64 (q : Int) ∧ q ≤ n ∧ agree ms ms' q ∧ Below w3.heap.size w3 wr) (fun k _ => n - (intOf k).toNat)
      case atStart => exact ⟨0, rfl, by omega, agree_zero _ _, Below.refl _ _⟩
      case round =>
        obtain ⟨q, rfl, hq, hag, hb⟩ := hrel
        have hzr := hb.size
        have vr := v3.out.same (hb.block _ (by omega))
        have ur := u3.out.same (hb.block _ (by omega))
        have br := b3.out.trans (hb.mono (by omega))
        have c4 := vr.cm
        have c4' := ur.cm
        clear m4 m4'
        replace hag := Lib.hid hag
        by_cases hlt : q < n
        · have hlt' : q < n' := by rw [← hnn.out]; exact hlt
          obtain ⟨g, o, x, hAe, hg, hx, x0, x1, x2⟩ := (hA.below br hN).mb (show q < ms.length by rw [hn.out]; exact hlt)
          obtain ⟨g', o', x', hAe', hg', hx', y0, y1, y2⟩ := (hA'.below br hN).mb (show q < ms'.length by rw [hn'.out]; exact hlt')
          rw [hAe] at c4
          rw [hAe'] at c4'
          have hgr : g < wr.heap.size := by have := br.size; omega
          have hgr' : g' < wr.heap.size := by have := br.size; omega
          obtain ⟨w4, hw4⟩ : ∃ w4, w4 = ((wr.alloc (.cells #[.int .i64 0, .int .i64 0, .int .i64 0] 43)).setCells wr.heap.size 0 #[.int .i64 x.p, .int .i64 x.i, .int .i64 x.c].toList) := ⟨_, rfl⟩
          have bw4 : Below wr.heap.size wr w4 := by rw [hw4]; exact below_sets ((Below.refl _ _).alloc (Nat.le_refl _) _) (Nat.le_refl _) _ _ (by simp)
          have z4 : w4.heap.size = wr.heap.size + 1 := by rw [hw4, size_sets, World.size_alloc]
          have ht4 := there_new wr #[.int .i64 0, .int .i64 0, .int .i64 0] 43
          have r4 : w4.rangeAt wr.heap.size 0 #[.int .i64 x.p, .int .i64 x.i, .int .i64 x.c].toList := by rw [hw4]; exact World.rangeAt_setCells_same _ _ _ _ ht4
          obtain ⟨w5, hw5⟩ : ∃ w5, w5 = ((w4.alloc (.cells #[.int .i64 0, .int .i64 0, .int .i64 0] 43)).setCells w4.heap.size 0 #[.int .i64 x'.p, .int .i64 x'.i, .int .i64 x'.c].toList) := ⟨_, rfl⟩
          have bw5 : Below w4.heap.size w4 w5 := by rw [hw5]; exact below_sets ((Below.refl _ _).alloc (Nat.le_refl _) _) (Nat.le_refl _) _ _ (by simp)
          have z5 : w5.heap.size = w4.heap.size + 1 := by rw [hw5, size_sets, World.size_alloc]
          have ht5 := there_new w4 #[.int .i64 0, .int .i64 0, .int .i64 0] 43
          have r5' : w5.rangeAt w4.heap.size 0 #[.int .i64 x'.p, .int .i64 x'.i, .int .i64 x'.c].toList := by rw [hw5]; exact World.rangeAt_setCells_same _ _ _ _ ht5
          have r5 : w5.rangeAt wr.heap.size 0 #[.int .i64 x.p, .int .i64 x.i, .int .i64 x.c].toList := range_same r4 (bw5.block _ (by omega))
          have ur4 := ur.same (bw4.block _ (by omega))
          have c44' := ur4.cm
          rw [hAe'] at c44'
          have y04 : w4.cell? ⟨g', o' + q * 3, none⟩ = some (.int .i64 x'.p) := (bw4.cell (p := ⟨g', _, none⟩) hgr').trans y0
          have y14 : w4.cell? ⟨g', o' + q * 3 + 1, none⟩ = some (.int .i64 x'.i) := (bw4.cell (p := ⟨g', _, none⟩) hgr').trans y1
          have y24 : w4.cell? ⟨g', o' + q * 3 + 2, none⟩ = some (.int .i64 x'.c) := (bw4.cell (p := ⟨g', _, none⟩) hgr').trans y2
          have b5 : Below w3.heap.size w3 w5 := (hb.trans (bw4.mono (by omega))).trans (bw5.mono (by omega))
          have p0 := r5 0 _ rfl
          have p1 := r5 1 _ rfl
          have p2 := r5 2 _ rfl
          have q0 := r5' 0 _ rfl
          have q1 := r5' 1 _ rfl
          have q2 := r5' 2 _ rfl
          rw [Nat.zero_add] at p0 p1 p2 q0 q1 q2
          have z4' : wr.heap.size < w4.heap.size := by omega
          have z5' : w4.heap.size < w5.heap.size := by omega
          replace z4 := Lib.hid z4
          replace z5 := Lib.hid z5
          replace b5 := Lib.hid b5
          replace hw4 := Lib.hid hw4
          replace hw5 := Lib.hid hw5
          replace ht4 := Lib.hid ht4
          replace ht5 := Lib.hid ht5
          replace hAe := Lib.hid hAe
          replace hAe' := Lib.hid hAe'
          replace r4 := Lib.hid r4
          replace r5 := Lib.hid r5
          replace r5' := Lib.hid r5'
          replace bw4 := Lib.hid bw4
          replace bw5 := Lib.hid bw5
          replace vr := Lib.hid vr
          replace ur := Lib.hid ur
          replace ur4 := Lib.hid ur4
          have hq0 : (0 : Int) ≤ (q : Int) := by omega
          have hq1 : (q : Int) < (n : Int) := by omega
          have hq2 : (q : Int) < (n' : Int) := by omega
          clear y0 y1 y2 c4'
          by_cases f0 : x.p = x'.p
          · by_cases f1 : x.i = x'.i
            · by_cases f2 : x.c = x'.c
              ·
                have hag' := Lib.hid (agree_succ hag.out (by rw [hx.out, hx'.out, mb_ext f0 f1 f2]))
                have g0 : (x.p != x'.p) = false := by simp [f0]
                have g1 : (x.i != x'.i) = false := by simp [f1]
                have g2 : (x.c != x'.c) = false := by simp [f2]
                replace f0 := Lib.hid f0
                replace f1 := Lib.hid f1
                replace f2 := Lib.hid f2
                go_wp2_with (first
                  | (refine wpList_store_mid rfl 43 (.tmp 6) (.tmp 34) rfl wr.heap.size 0 #[.int .i64 x.p, .int .i64 x.i, .int .i64 x.c] (by rfl) (by rfl) ht4.out (by kernel_rfl) (one_ints3 _ _ _) ?_
                     rw [← hw4.out]
                     clear c4 x0 x1 x2)
                  | (refine wpList_store_mid rfl 43 (.tmp 7) (.tmp 39) rfl w4.heap.size 0 #[.int .i64 x'.p, .int .i64 x'.i, .int .i64 x'.c] (by rfl) (by rfl) ht5.out (by kernel_rfl) (one_ints3 _ _ _) ?_
                     rw [← hw5.out]
                     clear c44' y04 y14 y24)
                  | fail)
                go_roundw
                case rel => go_light; exact ⟨q + 1, by go_num, by omega, hag'.out, b5.out⟩
                case measure => go_light; simp [intOf]; omega
              ·
                have hans := Lib.hid (show viSame v ms v' ms' = false by
                  unfold viSame
                  rw [decide_eq_false (fun e : ms = ms' => by
                    have := hx.out
                    rw [e, hx'.out] at this
                    injection this with this
                    exact f2 (by rw [this]))]
                  simp)
                have g0 : (x.p != x'.p) = false := by simp [f0]
                have g1 : (x.i != x'.i) = false := by simp [f1]
                have g2 : (x.c != x'.c) = true := by simp [f2]
                replace f0 := Lib.hid f0
                replace f1 := Lib.hid f1
                replace f2 := Lib.hid f2
                go_wp2_with (first
                  | (refine wpList_store_mid rfl 43 (.tmp 6) (.tmp 34) rfl wr.heap.size 0 #[.int .i64 x.p, .int .i64 x.i, .int .i64 x.c] (by rfl) (by rfl) ht4.out (by kernel_rfl) (one_ints3 _ _ _) ?_
                     rw [← hw4.out]
                     clear c4 x0 x1 x2)
                  | (refine wpList_store_mid rfl 43 (.tmp 7) (.tmp 39) rfl w4.heap.size 0 #[.int .i64 x'.p, .int .i64 x'.i, .int .i64 x'.c] (by rfl) (by rfl) ht5.out (by kernel_rfl) (one_ints3 _ _ _) ?_
                     rw [← hw5.out]
                     clear c44' y04 y14 y24)
                  | fail)
                go_ret
                exact ⟨ret_bool hans.out.symm, b3.out.trans (b5.out.mono (by omega))⟩
            ·
              have hans := Lib.hid (show viSame v ms v' ms' = false by
                unfold viSame
                rw [decide_eq_false (fun e : ms = ms' => by
                  have := hx.out
                  rw [e, hx'.out] at this
                  injection this with this
                  exact f1 (by rw [this]))]
                simp)
              have g0 : (x.p != x'.p) = false := by simp [f0]
              have g1 : (x.i != x'.i) = true := by simp [f1]
              replace f0 := Lib.hid f0
              replace f1 := Lib.hid f1
              go_wp2_with (first
                | (refine wpList_store_mid rfl 43 (.tmp 6) (.tmp 34) rfl wr.heap.size 0 #[.int .i64 x.p, .int .i64 x.i, .int .i64 x.c] (by rfl) (by rfl) ht4.out (by kernel_rfl) (one_ints3 _ _ _) ?_
                   rw [← hw4.out]
                   clear c4 x0 x1 x2)
                | (refine wpList_store_mid rfl 43 (.tmp 7) (.tmp 39) rfl w4.heap.size 0 #[.int .i64 x'.p, .int .i64 x'.i, .int .i64 x'.c] (by rfl) (by rfl) ht5.out (by kernel_rfl) (one_ints3 _ _ _) ?_
                   rw [← hw5.out]
                   clear c44' y04 y14 y24)
                | fail)
              go_ret
              exact ⟨ret_bool hans.out.symm, b3.out.trans (b5.out.mono (by omega))⟩
          ·
            have hans := Lib.hid (show viSame v ms v' ms' = false by
              unfold viSame
              rw [decide_eq_false (fun e : ms = ms' => by
                have := hx.out
                rw [e, hx'.out] at this
                injection this with this
                exact f0 (by rw [this]))]
              simp)
            have g0 : (x.p != x'.p) = true := by simp [f0]
            replace f0 := Lib.hid f0
            go_wp2_with (first
              | (refine wpList_store_mid rfl 43 (.tmp 6) (.tmp 34) rfl wr.heap.size 0 #[.int .i64 x.p, .int .i64 x.i, .int .i64 x.c] (by rfl) (by rfl) ht4.out (by kernel_rfl) (one_ints3 _ _ _) ?_
                 rw [← hw4.out]
                 clear c4 x0 x1 x2)
              | (refine wpList_store_mid rfl 43 (.tmp 7) (.tmp 39) rfl w4.heap.size 0 #[.int .i64 x'.p, .int .i64 x'.i, .int .i64 x'.c] (by rfl) (by rfl) ht5.out (by kernel_rfl) (one_ints3 _ _ _) ?_
                 rw [← hw5.out]
                 clear c44' y04 y14 y24)
              | fail)
            go_ret
            exact ⟨ret_bool hans.out.symm, b3.out.trans (b5.out.mono (by omega))⟩
        · obtain rfl : q = n := by omega
          have hans := Lib.hid (show viSame v ms v' ms' = true by unfold viSame; rw [d.out, agree_all hag.out hn.out (by rw [hn'.out, hnn.out])]; simp)
          go_wp2
          go_ret
          exact ⟨ret_bool hans.out.symm, br⟩
    · have en : ((n : Int) != (n' : Int)) = true := by simp; omega
      have hans := Lib.hid (show viSame v ms v' ms' = false by unfold viSame; rw [d, decide_eq_false (fun x => e (by rw [← hn, ← hn', x]))]; rfl)
      replace e := Lib.hid e
      replace d := Lib.hid d
      replace hn := Lib.hid hn
      replace hn' := Lib.hid hn'
      go_enter Try.func21, Try.ntmps21
      go_wp2_with (first
        | (rw [← hw2.out]
           go_at_call 29
           refine (lsame_any v v' w2).mono ?_
           rintro e w3 ⟨rfl, hb3⟩
           rw [d.out]
           have z3 := hb3.size
           have b3 := hb2.out.trans (hb3.mono (by omega))
           have v3 := v2.out.same (hb3.block _ (by omega))
           have u3 := u2.out.same (hb3.block _ (by omega))
           clear k0 k1 k2 k3 k0' k1' k2' k3'
           have m4 := v3.cm
           have m4' := u3.cm
           replace b3 := Lib.hid b3
           replace v3 := Lib.hid v3
           replace u3 := Lib.hid u3
           clear hb3)
        | fail)
      go_ret
      exact ⟨ret_bool hans.out.symm, b3.out⟩
end Go.Proofs.Ytfbeggdbjpmppaa
/- append of one element onto a row of the call's own: the shorter row stays, too. -/
namespace Go.Proofs.Ytfbeggdbjpmppaa
open Go.RowKit
theorem own_prefix {α : Type} {w : World} {base sz c : Nat} {e : TypeId} {enc : α → List Value} {A : Option Addr} {xs ys : List α} (henc : ∀ x, (enc x).length = sz) (h : Owns w base e sz enc A c (xs ++ ys)) (hA : A ≠ none) : Owns w base e sz enc A c xs := by
  have hl := length_flat henc xs
  rcases h.2 with ⟨hv, h0⟩ | ⟨g, cap, cur, hv, hb, hh, h1, h2, h3, h4⟩
  · injection hv with h1; exact absurd h1 hA
  · injection hv with e1 _ e3
    subst e1 e3
    refine ⟨by rw [hl], .inr ⟨g, c, cur, rfl, hb, hh, by rw [List.length_append] at h1; omega, h2, h3, ?_⟩⟩
    rw [List.flatMap_append] at h4
    have : cur.toList.take (xs.length * sz) = (cur.toList.take ((xs ++ ys).length * sz)).take (xs.length * sz) := by
      rw [List.take_take, Nat.min_eq_left]
      rw [List.length_append]; exact Nat.mul_le_mul_right _ (by omega)
    rw [this, h4, ← hl]
    exact List.take_left
section
variable {P : Program} (w : World)
theorem wpList_append_keep {α : Type} {ops : Array Oper} {rest : List Oper} {o : Oper} {a : Act} {Q : Exit → Act → World → Prop} (hgd : o.guard = none) (s x : Operand) (t : TypeId)
    (ho : o.op = .call { callee := .builtin .append, args := #[s, x], argTypes := #[t, t] })
    (base : Nat) (e : TypeId) (sz bytes : Nat) (z : Value) (ht : P.underlying t = some (.slice e)) (hinfo : (P.info? e).map (fun i => (i.zero, i.size, i.bytes)) = some (some z, sz, bytes))
    (hzs : z.cells.size = sz) (hsz : 0 < sz) (enc : α → List Value) (henc : ∀ x, (enc x).length = sz) (hone : ∀ x, ∀ u ∈ enc x, u.oneCell' = true)
    (A : Option Addr) (c : Nat) (xs : List α) (gB cB n : Nat) (y : α) (hs : a.eval s = .slice A n c) (hx : a.eval x = .slice (some ⟨gB, 0, none⟩) 1 cB)
    (hn : xs.length = n) (hown : Owns w base e sz enc A c xs) (hr : ∀ j u, (enc y)[j]? = some u → w.cell? ⟨gB, j, none⟩ = some u)
    (h63 : n + 1 ≤ 9223372036854775807) (hbytes : (n + 1) * bytes ≤ 140737488355328) (hbase : base ≤ w.heap.size)
    (h : ∀ A' c' w', Owns w' base e sz enc A' c' (xs ++ [y]) → Owns w' base e sz enc A c xs → w.grownBy w' (blk A) → (blk A' = blk A ∨ blk A' = some w.heap.size) → wpList P ops Q rest (a.put o.dst (.slice A' (n + 1) c')) w') : wpList P ops Q (o :: rest) a w := by
  subst hn
  obtain ⟨i, hi, hz, hsize, hby⟩ := info_parts hinfo
  have hnews : ∀ j u, (enc y)[j]? = some u → w.cell? ((⟨gB, 0, none⟩ : Addr).add j) = some u := fun j u hu => by
    rw [Addr.add_lit]; simpa using hr j u hu
  have hfm : ([y] : List α).flatMap enc = enc y := by simp
  obtain ⟨v', w', hrun, h2, h3, h5, h4⟩ := run_append_own_at (P := P) w base t o.type e i z sz bytes ht hi hz hsize hby hzs hsz (.slice A xs.length c) xs.length _ hown ⟨gB, 0, none⟩ 1 cB (enc y)
    (by rw [henc, Nat.one_mul]) hnews (hone y) h63 hbytes hbase
  obtain ⟨g', cap', rfl, hg1, hg2⟩ := World.ownsRow.form h2 (by omega)
  simp only [own_blk] at h3 h4
  have hO : Owns w' base e sz enc (some ⟨g', 0, none⟩) cap' (xs ++ [y]) := by unfold Owns; rw [List.flatMap_append, hfm, List.length_append]; exact h2
  have hold : Owns w' base e sz enc A c xs := by
    rcases hown.2 with ⟨hv, h0⟩ | ⟨g, cap, cur, hv, hb, hh, k1, k2, k3, k4⟩
    · injection hv with e1 _ e3
      subst e1 e3
      obtain rfl : xs = [] := List.eq_nil_of_length_eq_zero h0
      exact owns_nil _ _ _ _ _
    · injection hv with e1 _ e3
      subst e1 e3
      by_cases hroom : xs.length + 1 ≤ c
      · have hr' := run_append_room (P := P) w t o.type e i ht hi g xs.length c cur hh ⟨gB, 0, none⟩ 1 cB (enc y) (by rw [henc, hsize, Nat.one_mul]) hnews (hone y) hroom (by rw [henc, k3, hsize]; have := Nat.mul_le_mul_right sz hroom; rw [Nat.add_mul, Nat.one_mul] at this; exact this)
        rw [hrun] at hr'
        injection hr' with e1 e2
        injection e1 with e3 _ e4
        injection e3 with e3; injection e3 with e3
        subst e3 e4
        exact own_prefix henc hO (by simp)
      · have hr' := run_append_grow (P := P) w t o.type e i z ht hi hz ⟨g, 0, none⟩ xs.length c (xs.flatMap enc) (by rw [hsize, length_flat henc]) (hown.cells (g := g) rfl) ⟨gB, 0, none⟩ 1 cB (enc y) (by rw [henc, hsize, Nat.one_mul]) hnews (by omega) (by omega) (growslice_fits (by omega) (by rw [hby]; exact hbytes))
        rw [hrun] at hr'
        injection hr' with _ e2
        rw [e2]
        exact (show Owns w.drew base e sz enc (some ⟨g, 0, none⟩) c xs from hown).alloc _
  refine wpList_plain hgd fun K hK => ?_
  unfold Oper.wp execOp
  simp only [ho, resolve, invoke, builtin, Sem.run_bind, Sem.run_pure, Result.andThen_ok, List.map_toArray, List.map_cons, List.map_nil, hs, hx, hrun]
  exact hK _ _ (h _ _ w' hO hold h3 h4)
end
end Go.Proofs.Ytfbeggdbjpmppaa
/- The program's valid: does an ID name a view among the nodes, or none? -/
namespace Go.Proofs.Ytfbeggdbjpmppaa
open Go.RowKit
theorem within_any (v : Int) (w : World) : Calls Try.prog 81 #[.int .i64 v] w fun e w' => e = .returned (.bool (cntB v)) ∧ w' = w := by
  by_cases h1 : 1 ≤ v
  · by_cases h2 : v ≤ 4611686018427387904
    · have hc := Lib.hid (show cntB v = true by simp [cntB, h1, h2])
      go_enter Try.func81, Try.ntmps81
      go_wp2
      go_ret
      exact ⟨ret_bool hc.out.symm, rfl⟩
    · have hc := Lib.hid (show cntB v = false by simp [cntB, h1, h2])
      go_enter Try.func81, Try.ntmps81
      go_wp2
      go_ret
      exact ⟨ret_bool hc.out.symm, rfl⟩
  · have hc := Lib.hid (show cntB v = false by simp [cntB, h1])
    go_enter Try.func81, Try.ntmps81
    go_wp2
    go_ret
    exact ⟨ret_bool hc.out.symm, rfl⟩
theorem within_is (v : Int) (t : Bool) (h : cntB v = t) (w : World) : Calls Try.prog 81 #[.int .i64 v] w fun e w' => e = .returned (.bool t) ∧ w' = w := by
  subst h; exact within_any v w
set_option maxRecDepth 100000 in
set_option maxHeartbeats 4000000 in
theorem valid_any (b : Nat) (s : St) (M : Option Addr) (cM : Nat) (id : Vid) (w : World) (h : AgAt w b s M cM) (hb : b < w.heap.size) :
    Calls Try.prog 67 #[.pointer (some ⟨b, 0, none⟩), .agg (vidC id)] w fun x w' => x = .returned (.bool (validB id s.n)) ∧ Below w.heap.size w w' := by
  have q0 := h.n
  have hev := run_eql_vid
  have hbx := below_box1 w (vidC id) 29
  replace hbx := Lib.hid hbx
  by_cases hz : id = Vid.zero
  · have hv : vidEq ⟨id.e, id.l, id.i, id.c⟩ ⟨0, 0, 0, 0⟩ = true := vidEq_iff.2 (by rw [show (⟨id.e, id.l, id.i, id.c⟩ : Vid) = id from rfl, hz])
    have hB := Lib.hid (show validB id s.n = true by simp [validB, hz])
    replace hz := Lib.hid hz
    go_enter Try.func67, Try.ntmps67
    go_wp2
    go_ret
    exact ⟨ret_bool hB.out.symm, hbx.out⟩
  · have hv : vidEq ⟨id.e, id.l, id.i, id.c⟩ ⟨0, 0, 0, 0⟩ = false := by rw [← Bool.not_eq_true, vidEq_iff]; exact hz
    have hB : validB id s.n = (cntB id.e && cntB id.i && cntB id.c && decide (0 ≤ id.l ∧ id.l < s.n)) := by simp [validB, hz]
    replace hz := Lib.hid hz
    cases h1 : cntB id.e with
    | false =>
      rw [h1] at hB; replace hB := Lib.hid (hB.trans (by simp) : validB id s.n = false)
      go_enter Try.func67, Try.ntmps67
      go_wp2
      go_quiet ((go_at_call 81; exact Calls.quiet_of_same (within_is _ _ (by assumption) _)))
      go_wp2
      go_ret
      exact ⟨ret_bool hB.out.symm, below_drewN hbx.out _⟩
    | true =>
      cases h2 : cntB id.i with
      | false =>
        rw [h1, h2] at hB; replace hB := Lib.hid (hB.trans (by simp) : validB id s.n = false)
        go_enter Try.func67, Try.ntmps67
        go_wp2
        go_quiet ((go_at_call 81; exact Calls.quiet_of_same (within_is _ _ (by assumption) _)))
        go_wp2
        go_ret
        exact ⟨ret_bool hB.out.symm, below_drewN hbx.out _⟩
      | true =>
        cases h3 : cntB id.c with
        | false =>
          rw [h1, h2, h3] at hB; replace hB := Lib.hid (hB.trans (by simp) : validB id s.n = false)
          go_enter Try.func67, Try.ntmps67
          go_wp2
          go_quiet ((go_at_call 81; exact Calls.quiet_of_same (within_is _ _ (by assumption) _)))
          go_wp2
          go_ret
          exact ⟨ret_bool hB.out.symm, below_drewN hbx.out _⟩
        | true =>
          rw [h1, h2, h3] at hB; replace hB := Lib.hid (hB.trans (by simp) : validB id s.n = decide (0 ≤ id.l ∧ id.l < s.n))
          by_cases h4 : 0 ≤ id.l
          · have hd : decide (0 ≤ id.l) = true := by simp [h4]
            have hB2 := Lib.hid (show validB id s.n = decide (id.l < s.n) by rw [hB.out]; simp [h4])
            go_enter Try.func67, Try.ntmps67
            go_wp2
            go_quiet ((go_at_call 81; exact Calls.quiet_of_same (within_is _ _ (by assumption) _)))
            go_wp2
            go_ret
            exact ⟨ret_bool hB2.out.symm, below_drewN hbx.out _⟩
          · have hd : decide (0 ≤ id.l) = false := by simp [h4]
            have hB2 := Lib.hid (show validB id s.n = false by rw [hB.out]; simp [h4])
            go_enter Try.func67, Try.ntmps67
            go_wp2
            go_quiet ((go_at_call 81; exact Calls.quiet_of_same (within_is _ _ (by assumption) _)))
            go_wp2
            go_ret
            exact ⟨ret_bool hB2.out.symm, below_drewN hbx.out _⟩
end Go.Proofs.Ytfbeggdbjpmppaa
