/- RTake Take1, joined. -/
import Derived.Deep.DeepCutAuto
import Derived.Test.YtfbeggdbjpmppaaMw8
import Derived.Test.YtfbeggdbjpmppaaMw15
import Derived.Test.YtfbeggdbjpmppaaMw16
set_option linter.unusedVariables false
set_option linter.unusedSimpArgs false
/- The document's Take. -/
namespace Go.Proofs.Ytfbeggdbjpmppaa
open Go.RowKit
theorem tkp_make {w0 w6 w7 : World} {b : Nat} {F : List Nat} {s : St} {hs : List HdR} {X : Ptrs} {A' : Option Addr} {c' : Nat} {r : HdR} {q : Nat} {inc : Int} {p : Pr} (hr : r.h = ⟨q, inc, p⟩)
    (h6 : RefAt w6 b F s hs X) (b6 : Below w0.heap.size w0 w6) (hF : ∀ x ∈ F, x < w0.heap.size) (rS : RowF w6 F 1 eInt r.S p.set) (rV : RowF w6 F 1 eInt r.V p.vec)
    (ho7 : Owns w7 0 130 11 eHd A' c' (hs ++ [r])) (hk7 : Owns w7 0 130 11 eHd X.A X.cA hs) (hg7 : w6.grownBy w7 (blk X.A)) (hA7 : blk A' = blk X.A ∨ blk A' = some w6.heap.size) (hrep : Rep (s.put q inc p.wish) (hs.map (·.h) ++ [⟨q, inc, p⟩])) :
    TkP w0 (w7.setCells b 18 [.slice A' (hs.length + 1) c']) b F s (s.put q inc p.wish) hs X (F ++ (blk A').toList) (hs ++ [r]) { X with A := A', cA := c' } := by
  have z6 := b6.size
  have h1 : ∀ x ∈ F, x ∈ F ++ (blk A').toList := fun x hx => mem_ext.2 (.inl hx)
  have h2 : ∀ x ∈ F ++ (blk A').toList, x ∈ F ∨ w6.heap.size ≤ x := fun x hx => by
    rcases mem_ext.1 hx with e | e
    · exact .inl e
    · rcases hA7 with e2 | e2
      · exact .inl (h6.aF x (e2.symm.trans e))
      · rw [e2] at e; injection e with e; exact .inr (by omega)
  have h6' := h6.more h1 h2
  have h7 := h6'.appended hg7 hk7
  have hkeep : ∀ k, k < w6.heap.size → k ∉ F ++ (blk A').toList → w7.heap[k]? = w6.heap[k]? := fun k hk hn => hg7.block k hk (fun e => hn (h1 k (h6.aF k e.symm)))
  have haF : ∀ k, blk A' = some k → k ∈ F ++ (blk A').toList := fun k hk => mem_ext.2 (.inr hk)
  have hne : blk A' ≠ some b := by
    rcases hA7 with e | e
    · rw [e]; exact h6.ne
    · rw [e]; intro e2; injection e2 with e2; have := h6.bl; omega
  have each7 : ∀ x ∈ hs ++ [r], RowF w7 (F ++ (blk A').toList) 1 eInt x.S x.h.p.set ∧ RowF w7 (F ++ (blk A').toList) 1 eInt x.V x.h.p.vec := fun x hx => by
    rcases List.mem_append.1 hx with hx | hx
    · exact h7.each x hx
    · obtain rfl : x = r := by simpa using hx
      rw [hr]
      exact ⟨(rS.more h2).keep hg7.size hkeep, (rV.more h2).keep hg7.size hkeep⟩
  have hlen : (hs ++ [r]).length = hs.length + 1 := by simp
  have hmap : (hs ++ [r]).map (·.h) = hs.map (·.h) ++ [⟨q, inc, p⟩] := by rw [List.map_append]; simp [hr]
  have h8 := h7.setAll (hs ++ [r]) A' c' (s.put q inc p.wish) rfl ho7 each7 (by rw [hmap]; exact hrep) haF hne
  rw [hlen] at h8
  have hsz : ∀ x ∈ F ++ (blk A').toList, x < w7.heap.size := fun x hx => by
    rcases mem_ext.1 hx with e | e
    · have := hF x e; have := hg7.size; omega
    · exact (ho7.lo x e).2
  exact ⟨h8, hk7.kept (grown_sets b _ 18 w7) (.inr h6.ne), fun x hx => ⟨(h7.each x hx).1.sets h7.bF _ _, (h7.each x hx).2.sets h7.bF _ _⟩, h6.rep, fun k hk => h1 k (h6.aF k hk), h6.ne, fun k hk => by rw [size_sets]; exact hsz k (h1 k (h6.aF k hk)),
    ((Chg.ofBelow b6).trans (Chg.ofGrown2 hg7)).trans (Chg.sets _ _), h1, fun x hx => (h2 x hx).imp id (by omega), fun x hx => by rw [size_sets]; exact hsz x hx, hlen, fun k hk => hA7.elim (fun e => .inl (e.symm.trans hk)) (fun e => .inr (by rw [show ({ X with A := A', cA := c' } : Ptrs).A = A' from rfl, e] at hk; injection hk with hk; omega))⟩
theorem alloc_row {w : World} {cs : Array Value} {t : TypeId} {l : List Value} (h : cs.toList = l) : ∀ j u, l[j]? = some u → (w.alloc (.cells cs t)).cell? ⟨w.heap.size, j, none⟩ = some u := fun j u hu => by
  rw [World.cell?_alloc_at _ _ _ _ rfl]
  subst h
  simpa using hu
set_option maxRecDepth 100000 in
set_option maxHeartbeats 8000000 in
theorem rtake_fit (b : Nat) (F : List Nat) (s : St) (hs : List HdR) (X : Ptrs) (S V : Option Addr) (cS cV N : Nat) (p : Pr) (q : Nat) (inc : Int) (w : World) (h : RefAt w b F s hs X) (hF : ∀ x ∈ F, x < w.heap.size) (hI : Inv s) (hR : RInv s) (hlen : hs.length + 1 ≤ 1000000) (hq : q < s.n) (hs1 : q ≠ s.self) (hi1 : 1 ≤ inc) (hi2 : inc ≤ 4611686018427387904)
    (hN : N ≤ w.heap.size) (hS : RowAt w N 1 eInt S p.set) (hV : RowAt w N 1 eInt V p.vec) (hl1 : p.set.length ≤ 9223372036854775807) (hl2 : p.vec.length ≤ 9223372036854775807) (hg : p.goodB q inc s.n = true) (c1 : ¬ inc < (s.lt q).inc) (c2 : ¬ ((s.lt q).inc = inc ∧ p.rev ≤ (s.lt q).w.rev))  :
    Calls Try.prog 61 #[.pointer (some ⟨b, 0, none⟩), .int .i64 q, .int .i64 inc, .agg (prA S V cS cV p)] w fun x w' => x = .returned (.tuple #[.bool (s.take q inc p).1, .int .i64 (s.take q inc p).2.1]) ∧ RLeft w w' b F (s.take q inc p).2.2 (hs.length + 1) (blk X.A) := by
  obtain ⟨wA, hwA⟩ : ∃ wA, wA = w.alloc (.cells (prA S V cS cV p) 31) := ⟨_, rfl⟩
  have zA : wA.heap.size = w.heap.size + 1 := by rw [hwA, World.size_alloc]
  have hbA : Below w.heap.size w wA := by rw [hwA]; exact below_box1 _ _ _
  have vA : PVar wA w.heap.size S p.set.length cS V p.vec.length cV p := by rw [hwA]; exact PVar.new w S p.set.length cS V p.vec.length cV p 31
  have hx : ∀ W, Below w.heap.size w W → RowAt W N 1 eInt S p.set ∧ RowAt W N 1 eInt V p.vec ∧ N ≤ W.heap.size := fun W hW => ⟨hS.below hW hN, hV.below hW hN, Nat.le_trans hN hW.size⟩
  have hA := h.below hbA
  have hbl := h.bl
  have hn := hI.n2
  have hq16 : q < 16 := by omega
  have q0 := h.n
  have q1 := h.self
  have b3 : ((q : Int) == (s.self : Int)) = false := by simp; omega
  have hS0 : Below wA.heap.size wA wA.drew := Below.drew (Below.refl _ _)
  have hC : ∀ x' : Prop, (∀ W, Below wA.heap.size wA W → x') ↔ x' := fun x' => ⟨fun f => f _ hS0, fun f _ _ => f⟩
  have L44 : ∀ W, Below wA.heap.size wA W → (loadVar 31 ⟨w.heap.size, 0, none⟩).run Try.prog W = .ok (.agg (prA S V cS cV p)) W := fun W hW => (vA.same (hW.block _ (by omega))).load
  have L50 : ∀ W, Below wA.heap.size wA W → (loadVar 3 ⟨b, 0, none⟩).run Try.prog W = .ok (.int .i64 s.n) W := fun W hW => load3 (hA.below hW).n
  have hargs : ¬ ((q : Int) < 0 ∨ (s.n : Int) ≤ q ∨ (q : Int) = s.self ∨ inc < 1 ∨ 4611686018427387904 < inc) := by omega
  have zA1 : w.heap.size < wA.heap.size := by omega
  have zA2 : w.heap.size + 1 ≤ wA.heap.size := by omega
  replace zA := Lib.hid zA
  replace hS0 := Lib.hid hS0
  replace L44 := Lib.hid L44
  replace L50 := Lib.hid L50
  replace hx := Lib.hid hx
  replace vA := Lib.hid vA
  replace hA := Lib.hid hA
  replace hbA := Lib.hid hbA
  replace hwA := Lib.hid hwA
  clear hS hV
  have htk : s.take q inc p = if inc < (s.lt q).inc then (false, 50, s) else if (s.lt q).inc = inc ∧ p.rev ≤ (s.lt q).w.rev then (false, 51, s) else
      (if s.opn then
        if (s.put q inc p.wish).heard = (s.put q inc p.wish).own.vec then (false, 0, s.put q inc p.wish)
        else if (s.put q inc p.wish).own.rev < 4611686018427387904 then (false, 0, { (s.put q inc p.wish) with own := { (s.put q inc p.wish).own with vec := (s.put q inc p.wish).heard, rev := (s.put q inc p.wish).own.rev + 1 } })
        else (false, 3, s)
      else if leavesB (s.put q inc p.wish).mem q inc p.cid = false then (false, 0, s.put q inc p.wish)
      else if (s.put q inc p.wish).spent then (false, 3, s)
      else (true, 0, (s.put q inc p.wish).begin_ (s.put q inc p.wish).own.set)) := by
    unfold St.take
    rw [if_neg hargs, if_neg (by rw [Int.toNat_natCast, hg]; decide)]
    rfl
  have hgw := good_wish hI.n2 hg
  have hlS : p.set.length = s.n := by
    unfold Pr.goodB at hg; simp only [Bool.and_eq_true] at hg; exact packB_len hg.1.1.1.1.1.1
  have hlV : p.vec.length = s.n := by
    unfold Pr.goodB at hg; simp only [Bool.and_eq_true] at hg; exact packB_len hg.1.1.1.1.1.2
  obtain ⟨H, hH⟩ : ∃ H, H = hs.map (·.h) := ⟨_, rfl⟩
  have hHk : ∀ k, H[k]? = hs[k]?.map HdR.h := fun k => by rw [hH, List.getElem?_map]
  have hHl : H.length = hs.length := by rw [hH, List.length_map]
  have hrep : Rep s H := by rw [hH]; exact h.rep
  obtain ⟨L, hL⟩ : ∃ L, L = late H q := ⟨_, rfl⟩
  replace htk := Lib.hid htk
  replace hgw := Lib.hid hgw
  replace hlS := Lib.hid hlS
  replace hlV := Lib.hid hlV
  replace hHk := Lib.hid hHk
  replace hHl := Lib.hid hHl
  replace hH := Lib.hid hH
  replace hrep := Lib.hid hrep
  replace hL := Lib.hid hL
  have c1' := Lib.hid c1
  have c2' := Lib.hid c2
  replace c1 := Lib.hid (decide_eq_false c1)
  replace c2 := Lib.hid (decide_eq_false c2)
  replace hg := Lib.hid hg
  replace hargs := Lib.hid hargs
  replace h := Lib.hid h
  replace hF := Lib.hid hF
  replace hI := Lib.hid hI
  replace hR := Lib.hid hR
  go_enter Try.func61, Try.ntmps61
  go_wp2_with fail
  rw [← hwA.out]
  clear q0 q1
  refine wp_region_ord [([0, 1, 2, 3, 4, 5, 6], 7)] [8] (Below wA.heap.size wA) rfl (by kernel_rfl) rfl hS0.out ?_
  refine WO.seg rfl ?_ hS0.out
  simp only [picks, pick, List.cons_append, List.nil_append, List.append_nil]
  repeat (first
    | go_big_quiet_skip
    | (refine wpQuiet_loadC (by rfl) 31 (.tmp 7) rfl w.heap.size 0 (by rfl) _ L44.out ?_; simp only [Act.put, List.setIfInBounds_toArray, List.set_cons_zero, List.set_cons_succ])
    | (refine wpQuiet_loadC (by rfl) 3 (.tmp 49) rfl b 0 (by rfl) _ L50.out ?_; simp only [Act.put, List.setIfInBounds_toArray, List.set_cons_zero, List.set_cons_succ])
    | go_big_quiet_step (fail))
  refine wpQuiet_nil ?_
  intro K hK
  go_simp
  go_at_call 72
  refine (rvalid_any S V cS cV N p q s.n inc wA.drew (hx.out _ (Below.drew hbA.out)).2.2 (hx.out _ (Below.drew hbA.out)).1 (hx.out _ (Below.drew hbA.out)).2.1 hq hn hl1 hl2).mono ?_
  rintro e w1 ⟨rfl, hb1⟩
  rw [hg.out]
  have hb1' : Below wA.heap.size wA w1 := hS0.out.trans hb1
  have b1 := Lib.hid (hbA.out.trans (hb1'.mono (by omega)))
  have z1 := hb1'.size
  replace hb1' := Lib.hid hb1'
  go_wp2_with fail
  refine hK.out _ _ hb1'.out ?_
  clear hK K
  refine WO.end_ ?_
  simp only [picks, pick, List.cons_append, List.nil_append, List.append_nil]
  repeat go_big_quiet_step (fail)
  refine wpQuiet_nil ?_
  clear hC hb1
  go_upto_region 7 with (first
    | (go_at_call 73
       refine (latest_any b F s hs X q w1 (h.out.below b1.out) (by omega)).mono ?_
       rintro e w2 ⟨rfl, hb2⟩
       rw [← hH.out, ← hL.out])
    | fail)
  have z2 := hb2.size
  have b2 := b1.out.trans (hb2.mono (by omega))
  have v2 := vA.out.same ((hb1'.out.trans (hb2.mono (by omega))).block _ (by omega))
  have h2 := h.out.below b2
  have g2 : ∀ j, L = some j → ∃ gA oA r, X.A = some ⟨gA, oA, none⟩ ∧ j < hs.length ∧ (s.lt q).inc = r.h.inc ∧ (s.lt q).w.rev = r.h.p.rev ∧ w2.rangeAt gA (oA + j * 11) (eHd r) := fun j hj => by
    have hl := hL.out.symm.trans hj
    obtain ⟨hjl, x, hx, hxq⟩ := late_some hl
    rw [hHl.out] at hjl
    obtain ⟨gA, oA, r, hAe, hgA, hr, hcA⟩ := (h2.own.row len_eHd).hd hjl
    have hxr : x = r.h := by have := hHk.out j; rw [hx, hr.out] at this; simpa using this
    obtain ⟨e1, e2⟩ := lt_some hrep.out hq16 hl hx
    exact ⟨gA, oA, r, hAe, hjl, by rw [e1, hxr], by rw [e2, hxr], hcA⟩
  have g0 : L = none → (s.lt q).inc = 0 := fun hj => lt_none hrep.out hq16 (hL.out.symm.trans hj)
  replace g2 := Lib.hid g2
  replace g0 := Lib.hid g0
  replace b2 := Lib.hid b2
  replace v2 := Lib.hid v2
  replace h2 := Lib.hid h2
  clear hb2
  go_cut [70] (fun s70 wx => s70 = .bool (decide (inc < (s.lt q).inc)) ∧ wx = w2)
  case first =>
    cases L with
    | none =>
      have e0 := g0.out rfl
      have d1 := Lib.hid (show decide (inc < (s.lt q).inc) = false from decide_eq_false (by omega))
      rw [show lateI none = -1 from rfl]
      go_wp2_with fail
      go_meet
      exact ⟨by rw [d1.out], rfl⟩
    | some j =>
      obtain ⟨gA, oA, r, hAe, hjl, e1, e2, hcA⟩ := g2.out j rfl
      have k0 := h2.out.all
      rw [hAe] at k0
      have k1 : w2.cell? ⟨gA, oA + j * 11 + 1, none⟩ = some (.int .i64 r.h.inc) := hcA 1 _ rfl
      have hj0 : decide ((0 : Int) ≤ (j : Int)) = true := decide_eq_true (by omega)
      replace e1 := Lib.hid e1
      replace e2 := Lib.hid e2
      replace hAe := Lib.hid hAe
      replace hcA := Lib.hid hcA
      rw [show lateI (some j) = (j : Int) from rfl]
      go_wp2_with fail
      go_meet
      exact ⟨by rw [e1.out], rfl⟩
  case rest =>
    obtain ⟨rfl, rfl⟩ := hcut
    rw [c1.out]
    go_upto_region 9 with (fail)
    go_cut [98] (fun s98 wx => s98 = .bool (decide ((s.lt q).inc = inc ∧ p.rev ≤ (s.lt q).w.rev)) ∧ ∃ nq, wx = wc.drewN nq)
    case first =>
      have c2 := v2.out.c2
      cases L with
      | none =>
        have e0 := g0.out rfl
        have d2' := Lib.hid (show decide ((s.lt q).inc = inc ∧ p.rev ≤ (s.lt q).w.rev) = false from decide_eq_false (by omega))
        rw [show lateI none = -1 from rfl]
        refine wp_region_quiet_lit (by kernel_rfl) (by kernel_rfl) ?_
        repeat (first | go_big_quiet_skip | go_big_quiet_step (fail))
        refine wpQuiet_nil ?_
        first | rintro _ ⟨nq, rfl⟩ | intro nq
        go_wp2_with fail
        go_meet
        exact ⟨by rw [d2'.out], nq, rfl⟩
      | some j =>
        obtain ⟨gA, oA, r, hAe, hjl, e1, e2, hcA⟩ := g2.out j rfl
        have k0 := h2.out.all
        rw [hAe] at k0
        have k1 : wc.cell? ⟨gA, oA + j * 11 + 1, none⟩ = some (.int .i64 r.h.inc) := hcA 1 _ rfl
        have k4 : wc.cell? ⟨gA, oA + j * 11 + 4, none⟩ = some (.int .i64 r.h.p.rev) := hcA 4 _ rfl
        have hj0 : decide ((0 : Int) ≤ (j : Int)) = true := decide_eq_true (by omega)
        have hj1 : (0 : Int) ≤ (j : Int) := by omega
        have hj2 : (j : Int) < (hs.length : Int) := by omega
        replace e1 := Lib.hid e1
        replace e2 := Lib.hid e2
        replace hAe := Lib.hid hAe
        replace hcA := Lib.hid hcA
        rw [show lateI (some j) = (j : Int) from rfl]
        by_cases d : r.h.inc = inc
        · have d3 : (r.h.inc == inc) = true := by simp [d]
          have d4 := Lib.hid (show decide (r.h.inc = inc ∧ p.rev ≤ r.h.p.rev) = decide (p.rev ≤ r.h.p.rev) by simp [d])
          replace d := Lib.hid d
          refine wp_region_quiet_lit (by kernel_rfl) (by kernel_rfl) ?_
          repeat (first | go_big_quiet_skip | go_big_quiet_step (fail))
          refine wpQuiet_nil ?_
          first | rintro _ ⟨nq, rfl⟩ | intro nq
          go_wp2_with fail
          go_meet
          exact ⟨by rw [e1.out, e2.out, d4.out], nq, rfl⟩
        · have d3 : (r.h.inc == inc) = false := by simp [d]
          have d4 := Lib.hid (show decide (r.h.inc = inc ∧ p.rev ≤ r.h.p.rev) = false by simp [d])
          replace d := Lib.hid d
          refine wp_region_quiet_lit (by kernel_rfl) (by kernel_rfl) ?_
          repeat (first | go_big_quiet_skip | go_big_quiet_step (fail))
          refine wpQuiet_nil ?_
          first | rintro _ ⟨nq, rfl⟩ | intro nq
          go_wp2_with fail
          go_meet
          exact ⟨by rw [e1.out, e2.out, d4.out], nq, rfl⟩
    case rest =>
      obtain ⟨rfl, nq, rfl⟩ := hcut
      rw [c2.out]
      obtain ⟨w4, hw4⟩ : ∃ w4, w4 = wc.drewN nq := ⟨_, rfl⟩
      have b4 : Below w.heap.size w w4 := by rw [hw4]; exact below_drewN b2.out nq
      have v4 : PVar w4 w.heap.size S p.set.length cS V p.vec.length cV p := by rw [hw4]; exact v2.out.same rfl
      have z4 : w.heap.size < w4.heap.size := by rw [hw4]; show w.heap.size < wc.heap.size; omega
      rw [← hw4]
      have h4 := h.out.below b4
      have k4 := h4.all
      clear hw4
      have hS4 : (TkS b w.heap.size S p.set.length cS V p.vec.length cV p X.A hs.length X.cA) w4.drew := ⟨h4.all, v4.same rfl⟩
      have hC : ∀ x' : Prop, (∀ W, (TkS b w.heap.size S p.set.length cS V p.vec.length cV p X.A hs.length X.cA) W → x') ↔ x' := fun x' => ⟨fun f => f _ hS4, fun f _ _ => f⟩
      have L107 : ∀ W, (TkS b w.heap.size S p.set.length cS V p.vec.length cV p X.A hs.length X.cA) W → (loadVar 121 ⟨b, 18, none⟩).run Try.prog W = .ok (.slice X.A hs.length X.cA) W := fun W hW => load121 hW.all
      have L110 : ∀ W, (TkS b w.heap.size S p.set.length cS V p.vec.length cV p X.A hs.length X.cA) W → (loadVar 31 ⟨w.heap.size, 0, none⟩).run Try.prog W = .ok (.agg (prA S V cS cV p)) W := fun W hW => hW.var.load
      have lS6 : p.set.length ≤ 1000000 := by rw [hlS.out]; omega
      have lV6 : p.vec.length ≤ 1000000 := by rw [hlV.out]; omega
      replace L107 := Lib.hid L107
      replace L110 := Lib.hid L110
      replace hS4 := Lib.hid hS4
      replace h4 := Lib.hid h4
      replace v4 := Lib.hid v4
      replace b4 := Lib.hid b4
      go_wp2_with fail
      clear k4
      refine wp_region_ordt 14 [([0, 1, 2, 3, 4, 5, 6, 7], 8), ([9], 10), ([], 11), ([12, 13], 14)] [] (TkS b w.heap.size S p.set.length cS V p.vec.length cV p X.A hs.length X.cA) rfl (by kernel_rfl) rfl hS4.out ?_
      refine WO.seg rfl ?_ hS4.out
      simp only [picks, pick, List.cons_append, List.nil_append, List.append_nil]
      repeat (first
        | go_big_quiet_skip
        | (refine wpQuiet_loadC (by rfl) 121 (.tmp 106) rfl b 18 (by rfl) _ L107.out ?_; simp only [Act.put, List.setIfInBounds_toArray, List.set_cons_zero, List.set_cons_succ])
        | (refine wpQuiet_loadC (by rfl) 31 (.tmp 7) rfl w.heap.size 0 (by rfl) _ L110.out ?_; simp only [Act.put, List.setIfInBounds_toArray, List.set_cons_zero, List.set_cons_succ])
        | go_big_quiet_step (fail))
      refine wpQuiet_nil ?_
      intro K hK
      go_simp
      go_at_call 74
      refine (twin_any S cS V cV N p p.set p.vec w4.drew (hx.out _ (Below.drew b4.out)).2.2 (hx.out _ (Below.drew b4.out)).1 (hx.out _ (Below.drew b4.out)).2.1 lS6 lV6).mono ?_
      rintro e w5 ⟨S', cS', V', cV', rfl, rS5, rV5, hb5⟩
      have b45 : Below w4.heap.size w4 w5 := (Below.drew (Below.refl _ _)).trans hb5
      have z5 := b45.size
      have v5 := v4.out.same (b45.block _ z4)
      have h5 := h4.out.below b45
      have hS5 : (TkS b w.heap.size S p.set.length cS V p.vec.length cV p X.A hs.length X.cA) w5 := ⟨h5.all, v5⟩
      have b5 := b4.out.trans (b45.mono (by omega))
      replace hS5 := Lib.hid hS5
      replace h5 := Lib.hid h5
      replace v5 := Lib.hid v5
      replace b5 := Lib.hid b5
      replace rS5 := Lib.hid rS5
      replace rV5 := Lib.hid rV5
      clear hb5 b45
      go_wp2_with fail
      refine hK.out _ _ hS5.out ?_
      clear hK K
      refine WO.seg rfl ?_ hS5.out
      simp only [picks, pick, List.cons_append, List.nil_append, List.append_nil]
      repeat (first
        | go_big_quiet_skip
        | (refine wpQuiet_build130 (by rfl) (.tmp 108) (.tmp 109) (.tmp 111) rfl q inc p S' V' p.set.length cS' p.vec.length cV' (by rfl) (by rfl) (by rfl) ?_; simp only [Act.put, List.setIfInBounds_toArray, List.set_cons_zero, List.set_cons_succ])
        | go_big_quiet_step (fail))
      refine wpQuiet_nil ?_
      intro K hK
      go_simp
      obtain ⟨w6, hw6⟩ : ∃ w6, w6 = w5.alloc (.cells #[.int .i64 q, .int .i64 inc, .slice S' p.set.length cS', .int .i64 p.cid, .int .i64 p.rev, .int .i64 p.top, .int .i64 p.prev.e, .int .i64 p.prev.l, .int .i64 p.prev.i, .int .i64 p.prev.c, .slice V' p.vec.length cV'] 130) := ⟨_, rfl⟩
      have hb6 : Below w5.heap.size w5 w6 := by rw [hw6]; exact (Below.refl _ _).alloc (Nat.le_refl _) _
      have z6 := hb6.size
      have z6' : w5.heap.size < w6.heap.size := by rw [hw6]; simp
      have v6 := v5.out.same (hb6.block _ (by omega))
      have h6 := h5.out.below hb6
      have b6 := b5.out.trans (hb6.mono (by omega))
      have hS6 : (TkS b w.heap.size S p.set.length cS V p.vec.length cV p X.A hs.length X.cA) w6 := ⟨h6.all, v6⟩
      have row6 : ∀ j u, (eHd (⟨⟨q, inc, p⟩, S', cS', V', cV'⟩ : HdR))[j]? = some u → w6.cell? ⟨w5.heap.size, j, none⟩ = some u := by rw [hw6]; exact alloc_row rfl
      have rS6 : RowF w6 F 1 eInt S' p.set := (rS5.out.below hb6).away (fun x hx => by have := hF.out x hx; show x < w4.heap.size; omega)
      have rV6 : RowF w6 F 1 eInt V' p.vec := (rV5.out.below hb6).away (fun x hx => by have := hF.out x hx; show x < w4.heap.size; omega)
      rw [← hw6]
      replace hw6 := Lib.hid hw6
      replace hS6 := Lib.hid hS6
      replace h6 := Lib.hid h6
      replace v6 := Lib.hid v6
      replace b6 := Lib.hid b6
      replace row6 := Lib.hid row6
      replace rS6 := Lib.hid rS6
      replace rV6 := Lib.hid rV6
      refine hK.out _ _ hS6.out ?_
      clear hK K hb6
      refine WO.seg rfl ?_ hS6.out
      simp only [picks]
      refine wpQuiet_nil ?_
      intro K hK
      rw [if_pos (by rfl)]
      refine wp_append_keep w6 (.tmp 107) (.tmp 113) 121 rfl 0 130 11 120 (.agg zHd) Try.underlying121 info130 (by rfl) (by omega) eHd len_eHd one_eHd X.A X.cA hs w5.heap.size 1 hs.length ⟨⟨q, inc, p⟩, S', cS', V', cV'⟩ (by rfl) (by rfl) rfl h6.out.own row6.out (by omega) (by omega) (by omega) ?_
      intro A' c' w7 ho7 hk7 hg7 hA7
      have hgb := hg7.block b h6.out.bl (fun e => h6.out.ne e.symm)
      have hvb : ∀ k, blk X.A = some k → k < w.heap.size := fun k hk => hF.out k (h6.out.aF k hk)
      have hgv := hg7.block w.heap.size (by omega) (fun e => by have := hvb _ e.symm; omega)
      have v7 := v6.out.same hgv
      have hS7 : (TkS b w.heap.size S p.set.length cS V p.vec.length cV p X.A hs.length X.cA) w7 := ⟨(World.cell?_of_block (a := ⟨b, 18, none⟩) hgb).trans hS6.out.all, v7⟩
      have t7 : w7.there b 18 1 := fun j hj => by
        rw [World.cell?_of_block (a := ⟨b, 18 + j, none⟩) hgb, World.frozen?_of_block (a := ⟨b, 18 + j, none⟩) hgb]
        have := h6.out.there (18 + j) (by omega)
        rw [Nat.zero_add] at this; exact this
      have hrp := hrep.out
      rw [hH.out] at hrp
      have hP := tkp_make (w0 := w) (r := ⟨⟨q, inc, p⟩, S', cS', V', cV'⟩) (q := q) (inc := inc) (p := p) rfl h6.out b6.out hF.out rS6.out rV6.out ho7 hk7 hg7 hA7 (hrp.put hI.out.oth hq16 (Int.not_lt.2 c1'.out) c2'.out hi1 hlS.out hlV.out)
      obtain ⟨F', hF'⟩ : ∃ F', F' = F ++ (blk A').toList := ⟨_, rfl⟩
      obtain ⟨X', hX'⟩ : ∃ X' : Ptrs, X' = { X with A := A', cA := c' } := ⟨_, rfl⟩
      obtain ⟨hs', hhs'⟩ : ∃ hs', hs' = hs ++ [(⟨⟨q, inc, p⟩, S', cS', V', cV'⟩ : HdR)] := ⟨_, rfl⟩
      rw [← hF', ← hX', ← hhs'] at hP
      clear hF' hX' hhs' hrp
      have z7 := hg7.size
      replace hS7 := Lib.hid hS7
      replace v7 := Lib.hid v7
      replace t7 := Lib.hid t7
      replace hP := Lib.hid hP
      clear ho7 hk7 hg7 hA7 hgb hgv hvb
      refine hK.out _ _ hS7.out ?_
      clear hK K
      refine WO.segz rfl ?_
      simp only [picks, pick, List.cons_append, List.nil_append, List.append_nil]
      try simp only [Act.put, List.setIfInBounds_toArray, List.set_cons_zero, List.set_cons_succ]
      repeat go_big_quiet_step (fail)
      refine wpQuiet_nil ?_
      intro K hK
      rw [if_pos (by rfl)]
      refine wp_store121 (.tmp 116) (.tmp 114) rfl rfl b 18 (by rfl) A' (hs.length + 1) c' (by rfl) t7.out ?_
      intro w8 hw8
      have hP8 : TkP w w8 b F s (s.put q inc p.wish) hs X F' hs' X' := by rw [hw8.out]; exact hP.out
      have v8 : PVar w8 w.heap.size S p.set.length cS V p.vec.length cV p := by rw [hw8.out]; exact v7.out.same ((grown_sets _ _ _ _).block _ (by omega) (by intro e; injection e with e; omega))
      have z8 : w.heap.size < w8.heap.size := by rw [hw8.out, size_sets]; omega
      obtain ⟨t, ht⟩ : ∃ t, t = s.put q inc p.wish := ⟨_, rfl⟩
      rw [← ht] at hP8
      have It : Inv t := by rw [ht]; exact put_inv hI.out hgw.out
      have Rt : RInv t := by rw [ht]; exact put_rinv hR.out hI.out.oth hq16 (by omega)
      have tn : t.n = s.n := by rw [ht]; rfl
      have to_ : t.opn = s.opn := by rw [ht]; rfl
      have hback : s = { t with oth := s.oth } := by rw [ht]; rfl
      have k8 := hP8.at_.opn
      rw [to_] at k8
      have htl : hs'.length ≤ 1000000 := by rw [hP8.len]; exact hlen
      have tn16 : t.n ≤ 16 := by rw [tn]; exact hn
      have hbl8 := hP8.at_.bl
      replace hP8 := Lib.hid hP8
      replace v8 := Lib.hid v8
      replace ht := Lib.hid ht
      replace It := Lib.hid It
      replace Rt := Lib.hid Rt
      replace tn := Lib.hid tn
      replace to_ := Lib.hid to_
      replace hback := Lib.hid hback
      refine hK.out _ _ ?_
      clear hK K hC hw8
      cases hop : s.opn with
      | true =>
        rw [hop] at k8
        by_cases f1 : (s.put q inc p.wish).heard = (s.put q inc p.wish).own.vec
        · have hans := Lib.hid (show s.take q inc p = (false, 0, s.put q inc p.wish) by rw [htk.out, if_neg (Int.not_lt.2 c1'.out), if_neg c2'.out, if_pos hop, if_pos f1])
          have hop' := Lib.hid hop
          clear hop
          replace f1 := Lib.hid f1
          have hd := Lib.hid (show decide (t.heard.take t.n = t.own.vec.take t.n) = true from decide_eq_true ((heard_same Rt.out It.out).2 (by rw [ht.out]; exact f1.out)))
          have hS9 : Below w8.heap.size w8 w8.drew := Below.drew (Below.refl _ _)
          have hC : ∀ x' : Prop, (∀ W, Below w8.heap.size w8 W → x') ↔ x' := fun x' => ⟨fun f => f _ hS9, fun f _ _ => f⟩
          have L158 : ∀ W, Below w8.heap.size w8 W → (loadVar 27 ⟨b, 9, none⟩).run Try.prog W = .ok (.slice X'.S t.n X'.cS) W := fun W hW => load27 (hP8.out.at_.below hW).set
          have L163 : ∀ W, Below w8.heap.size w8 W → (loadVar 3 ⟨b, 10, none⟩).run Try.prog W = .ok (.int .i64 t.own.cid) W := fun W hW => load3 (hP8.out.at_.below hW).cid
          have hh8 := hP8.out.at_.below hS9
          replace L158 := Lib.hid L158
          replace L163 := Lib.hid L163
          replace hS9 := Lib.hid hS9
          replace hh8 := Lib.hid hh8
          go_wp2_with fail
          clear k8
          refine wp_region_ord [([0, 1, 2, 3, 4, 5, 6, 7, 8, 9, 10], 11)] [12] (Below w8.heap.size w8) rfl (by kernel_rfl) rfl hS9.out ?_
          refine WO.seg rfl ?_ hS9.out
          simp only [picks, pick, List.cons_append, List.nil_append, List.append_nil]
          repeat (first
            | go_big_quiet_skip
            | (refine wpQuiet_loadC (by rfl) 27 (.tmp 157) rfl b 9 (by rfl) _ L158.out ?_; simp only [Act.put, List.setIfInBounds_toArray, List.set_cons_zero, List.set_cons_succ])
            | (refine wpQuiet_loadC (by rfl) 3 (.tmp 162) rfl b 10 (by rfl) _ L163.out ?_; simp only [Act.put, List.setIfInBounds_toArray, List.set_cons_zero, List.set_cons_succ])
            | go_big_quiet_step (fail))
          refine wpQuiet_nil ?_
          intro K hK
          go_simp
          go_at_call 76
          refine (rvec_any b F' t hs' X' X'.S X'.cS w8.drew.heap.size (t.own.set.take t.n) t.own.cid w8.drew hh8.out It.out htl (len_take16 It.out.own.set tn16) (Nat.le_refl _) hh8.out.rset.row).mono ?_
          rintro e w9 ⟨Vv, cVv, rfl, rV9, hb9⟩
          rw [withSet_own Rt.out] at rV9
          have hb89 : Below w8.heap.size w8 w9 := hS9.out.trans hb9
          have z9 := hb89.size
          have hP9 := hP8.out.below hb89
          have rF9 : RowF w9 F' 1 eInt Vv (t.heard.take t.n) := rV9.away (fun x hx => hP8.out.lt x hx)
          have k17 := hP9.at_.vec
          replace hP9 := Lib.hid hP9
          replace hb89 := Lib.hid hb89
          replace rF9 := Lib.hid rF9
          clear rV9 hb9
          go_wp2_with fail
          refine hK.out _ _ hb89.out ?_
          clear hK K
          refine WO.end_ ?_
          simp only [picks, pick, List.cons_append, List.nil_append, List.append_nil]
          repeat go_big_quiet_step (fail)
          refine wpQuiet_nil ?_
          clear hC
          go_wp2_with (first
            | (go_at_call 70
               refine (equal_two Vv X'.V cVv X'.cV w9.heap.size (t.heard.take t.n) (t.own.vec.take t.n) t.n t.n w9 (len_take16 (len_heard t) tn16) (len_take16 It.out.own.vec tn16) (Nat.le_refl _) rF9.out.row hP9.out.at_.rvec.row (by omega) (by omega)).mono ?_
               rintro e w10 ⟨rfl, hb10⟩
               rw [hd.out]
               have z10 := hb10.size
               have hP10 := hP9.out.below hb10
               have rF10 := rF9.out.below hb10
               have k11 := hP10.at_.rev
               have f11 := there_frozen hP10.at_.there (k := 11) (by omega)
               have k18 := hP10.at_.all
               have f18 := there_frozen hP10.at_.there (k := 18) (by omega)
               clear k17
               have k17 := hP10.at_.vec
               have f17 := there_frozen hP10.at_.there (k := 17) (by omega)
               replace hP10 := Lib.hid hP10
               replace rF10 := Lib.hid rF10
               clear hb10)
            | fail)
          go_ret2
          exact ⟨by rw [hans.out]; rfl, by rw [hans.out, ← ht.out]; exact hP10.out.done⟩
        · by_cases f2 : (s.put q inc p.wish).own.rev < 4611686018427387904
          · have hans := Lib.hid (show s.take q inc p = (false, 0, { (s.put q inc p.wish) with own := { (s.put q inc p.wish).own with vec := (s.put q inc p.wish).heard, rev := (s.put q inc p.wish).own.rev + 1 } }) by rw [htk.out, if_neg (Int.not_lt.2 c1'.out), if_neg c2'.out, if_pos hop, if_neg f1, if_pos f2])
            have hop' := Lib.hid hop
            clear hop
            replace f1 := Lib.hid f1
            replace f2 := Lib.hid f2
            have hd := Lib.hid (show decide (t.heard.take t.n = t.own.vec.take t.n) = false from decide_eq_false (fun e => f1.out (by rw [← ht.out]; exact (heard_same Rt.out It.out).1 e)))
            have g3 : t.own.rev < 4611686018427387904 := by rw [ht.out]; exact f2.out
            have g2 : (t.own.rev == 4611686018427387904) = false := by simp; omega
            obtain ⟨g4, g5⟩ := It.out.own.rev
            have hS9 : Below w8.heap.size w8 w8.drew := Below.drew (Below.refl _ _)
            have hC : ∀ x' : Prop, (∀ W, Below w8.heap.size w8 W → x') ↔ x' := fun x' => ⟨fun f => f _ hS9, fun f _ _ => f⟩
            have L158 : ∀ W, Below w8.heap.size w8 W → (loadVar 27 ⟨b, 9, none⟩).run Try.prog W = .ok (.slice X'.S t.n X'.cS) W := fun W hW => load27 (hP8.out.at_.below hW).set
            have L163 : ∀ W, Below w8.heap.size w8 W → (loadVar 3 ⟨b, 10, none⟩).run Try.prog W = .ok (.int .i64 t.own.cid) W := fun W hW => load3 (hP8.out.at_.below hW).cid
            have hh8 := hP8.out.at_.below hS9
            replace L158 := Lib.hid L158
            replace L163 := Lib.hid L163
            replace hS9 := Lib.hid hS9
            replace hh8 := Lib.hid hh8
            go_wp2_with fail
            clear k8
            refine wp_region_ord [([0, 1, 2, 3, 4, 5, 6, 7, 8, 9, 10], 11)] [12] (Below w8.heap.size w8) rfl (by kernel_rfl) rfl hS9.out ?_
            refine WO.seg rfl ?_ hS9.out
            simp only [picks, pick, List.cons_append, List.nil_append, List.append_nil]
            repeat (first
              | go_big_quiet_skip
              | (refine wpQuiet_loadC (by rfl) 27 (.tmp 157) rfl b 9 (by rfl) _ L158.out ?_; simp only [Act.put, List.setIfInBounds_toArray, List.set_cons_zero, List.set_cons_succ])
              | (refine wpQuiet_loadC (by rfl) 3 (.tmp 162) rfl b 10 (by rfl) _ L163.out ?_; simp only [Act.put, List.setIfInBounds_toArray, List.set_cons_zero, List.set_cons_succ])
              | go_big_quiet_step (fail))
            refine wpQuiet_nil ?_
            intro K hK
            go_simp
            go_at_call 76
            refine (rvec_any b F' t hs' X' X'.S X'.cS w8.drew.heap.size (t.own.set.take t.n) t.own.cid w8.drew hh8.out It.out htl (len_take16 It.out.own.set tn16) (Nat.le_refl _) hh8.out.rset.row).mono ?_
            rintro e w9 ⟨Vv, cVv, rfl, rV9, hb9⟩
            rw [withSet_own Rt.out] at rV9
            have hb89 : Below w8.heap.size w8 w9 := hS9.out.trans hb9
            have z9 := hb89.size
            have hP9 := hP8.out.below hb89
            have rF9 : RowF w9 F' 1 eInt Vv (t.heard.take t.n) := rV9.away (fun x hx => hP8.out.lt x hx)
            have k17 := hP9.at_.vec
            replace hP9 := Lib.hid hP9
            replace hb89 := Lib.hid hb89
            replace rF9 := Lib.hid rF9
            clear rV9 hb9
            go_wp2_with fail
            refine hK.out _ _ hb89.out ?_
            clear hK K
            refine WO.end_ ?_
            simp only [picks, pick, List.cons_append, List.nil_append, List.append_nil]
            repeat go_big_quiet_step (fail)
            refine wpQuiet_nil ?_
            clear hC
            go_wp2_with (first
              | (go_at_call 70
                 refine (equal_two Vv X'.V cVv X'.cV w9.heap.size (t.heard.take t.n) (t.own.vec.take t.n) t.n t.n w9 (len_take16 (len_heard t) tn16) (len_take16 It.out.own.vec tn16) (Nat.le_refl _) rF9.out.row hP9.out.at_.rvec.row (by omega) (by omega)).mono ?_
                 rintro e w10 ⟨rfl, hb10⟩
                 rw [hd.out]
                 have z10 := hb10.size
                 have hP10 := hP9.out.below hb10
                 have rF10 := rF9.out.below hb10
                 have k11 := hP10.at_.rev
                 have f11 := there_frozen hP10.at_.there (k := 11) (by omega)
                 have k18 := hP10.at_.all
                 have f18 := there_frozen hP10.at_.there (k := 18) (by omega)
                 clear k17
                 have k17 := hP10.at_.vec
                 have f17 := there_frozen hP10.at_.there (k := 17) (by omega)
                 replace hP10 := Lib.hid hP10
                 replace rF10 := Lib.hid rF10
                 clear hb10)
              | fail)
            have h12 := (hP10.out.at_.setVec t.heard Vv cVv rF10.out).setRev (t.own.rev + 1)
            have c12 : Chg w ((w10.setCell ⟨b, 17, none⟩ (.slice Vv t.n cVv)).setCell ⟨b, 11, none⟩ (.int .i64 (t.own.rev + 1))) b (blk X.A) := (hP10.out.chg.trans (Chg.ofGrown (grown_cell _ _ _ _))).trans (Chg.ofGrown (grown_cell _ _ _ _))
            replace h12 := Lib.hid h12
            replace c12 := Lib.hid c12
            go_ret2
            exact ⟨by rw [hans.out]; rfl, by rw [hans.out, ← ht.out]; exact ⟨⟨F', hs', _, h12.out, hP10.out.sub, hP10.out.new, fun x hx => by rw [World.size_setCell, World.size_setCell]; exact hP10.out.lt x hx, Nat.le_of_eq hP10.out.len, hP10.out.anew⟩, c12.out⟩⟩
          · have hans := Lib.hid (show s.take q inc p = (false, 3, s) by rw [htk.out, if_neg (Int.not_lt.2 c1'.out), if_neg c2'.out, if_pos hop, if_neg f1, if_neg f2])
            have hop' := Lib.hid hop
            clear hop
            replace f1 := Lib.hid f1
            replace f2 := Lib.hid f2
            have hd := Lib.hid (show decide (t.heard.take t.n = t.own.vec.take t.n) = false from decide_eq_false (fun e => f1.out (by rw [← ht.out]; exact (heard_same Rt.out It.out).1 e)))
            obtain ⟨g4, g5⟩ := It.out.own.rev
            have g3 : ¬ t.own.rev < 4611686018427387904 := by rw [ht.out]; have := f2.out; omega
            have g2 : (t.own.rev == 4611686018427387904) = true := by simp; omega
            replace g3 := Lib.hid g3
            have hS9 : Below w8.heap.size w8 w8.drew := Below.drew (Below.refl _ _)
            have hC : ∀ x' : Prop, (∀ W, Below w8.heap.size w8 W → x') ↔ x' := fun x' => ⟨fun f => f _ hS9, fun f _ _ => f⟩
            have L158 : ∀ W, Below w8.heap.size w8 W → (loadVar 27 ⟨b, 9, none⟩).run Try.prog W = .ok (.slice X'.S t.n X'.cS) W := fun W hW => load27 (hP8.out.at_.below hW).set
            have L163 : ∀ W, Below w8.heap.size w8 W → (loadVar 3 ⟨b, 10, none⟩).run Try.prog W = .ok (.int .i64 t.own.cid) W := fun W hW => load3 (hP8.out.at_.below hW).cid
            have hh8 := hP8.out.at_.below hS9
            replace L158 := Lib.hid L158
            replace L163 := Lib.hid L163
            replace hS9 := Lib.hid hS9
            replace hh8 := Lib.hid hh8
            go_wp2_with fail
            clear k8
            refine wp_region_ord [([0, 1, 2, 3, 4, 5, 6, 7, 8, 9, 10], 11)] [12] (Below w8.heap.size w8) rfl (by kernel_rfl) rfl hS9.out ?_
            refine WO.seg rfl ?_ hS9.out
            simp only [picks, pick, List.cons_append, List.nil_append, List.append_nil]
            repeat (first
              | go_big_quiet_skip
              | (refine wpQuiet_loadC (by rfl) 27 (.tmp 157) rfl b 9 (by rfl) _ L158.out ?_; simp only [Act.put, List.setIfInBounds_toArray, List.set_cons_zero, List.set_cons_succ])
              | (refine wpQuiet_loadC (by rfl) 3 (.tmp 162) rfl b 10 (by rfl) _ L163.out ?_; simp only [Act.put, List.setIfInBounds_toArray, List.set_cons_zero, List.set_cons_succ])
              | go_big_quiet_step (fail))
            refine wpQuiet_nil ?_
            intro K hK
            go_simp
            go_at_call 76
            refine (rvec_any b F' t hs' X' X'.S X'.cS w8.drew.heap.size (t.own.set.take t.n) t.own.cid w8.drew hh8.out It.out htl (len_take16 It.out.own.set tn16) (Nat.le_refl _) hh8.out.rset.row).mono ?_
            rintro e w9 ⟨Vv, cVv, rfl, rV9, hb9⟩
            rw [withSet_own Rt.out] at rV9
            have hb89 : Below w8.heap.size w8 w9 := hS9.out.trans hb9
            have z9 := hb89.size
            have hP9 := hP8.out.below hb89
            have rF9 : RowF w9 F' 1 eInt Vv (t.heard.take t.n) := rV9.away (fun x hx => hP8.out.lt x hx)
            have k17 := hP9.at_.vec
            replace hP9 := Lib.hid hP9
            replace hb89 := Lib.hid hb89
            replace rF9 := Lib.hid rF9
            clear rV9 hb9
            go_wp2_with fail
            refine hK.out _ _ hb89.out ?_
            clear hK K
            refine WO.end_ ?_
            simp only [picks, pick, List.cons_append, List.nil_append, List.append_nil]
            repeat go_big_quiet_step (fail)
            refine wpQuiet_nil ?_
            clear hC
            go_wp2_with (first
              | (go_at_call 70
                 refine (equal_two Vv X'.V cVv X'.cV w9.heap.size (t.heard.take t.n) (t.own.vec.take t.n) t.n t.n w9 (len_take16 (len_heard t) tn16) (len_take16 It.out.own.vec tn16) (Nat.le_refl _) rF9.out.row hP9.out.at_.rvec.row (by omega) (by omega)).mono ?_
                 rintro e w10 ⟨rfl, hb10⟩
                 rw [hd.out]
                 have z10 := hb10.size
                 have hP10 := hP9.out.below hb10
                 have rF10 := rF9.out.below hb10
                 have k11 := hP10.at_.rev
                 have f11 := there_frozen hP10.at_.there (k := 11) (by omega)
                 have k18 := hP10.at_.all
                 have f18 := there_frozen hP10.at_.there (k := 18) (by omega)
                 clear k17
                 have k17 := hP10.at_.vec
                 have f17 := there_frozen hP10.at_.there (k := 17) (by omega)
                 replace hP10 := Lib.hid hP10
                 replace rF10 := Lib.hid rF10
                 clear hb10)
              | fail)
            have hb := hP10.out.back hback.out
            go_ret2
            exact ⟨by rw [hans.out]; rfl, by rw [hans.out]; exact hb⟩
      | false =>
        rw [hop] at k8
        cases f1 : leavesB (s.put q inc p.wish).mem q inc p.cid with
        | false =>
          have hans := Lib.hid (show s.take q inc p = (false, 0, s.put q inc p.wish) by rw [htk.out, if_neg (Int.not_lt.2 c1'.out), if_neg c2'.out, if_neg (by rw [hop]; decide), if_pos f1])
          have hop' := Lib.hid hop
          clear hop
          replace f1 := Lib.hid f1
          have c1c := v8.out.c1
          go_wp2_with (first
            | (go_at_call 75
               refine (leaves_any b F' t hs' X' q inc p.cid w8 hP8.out.at_ Rt.out).mono ?_
               rintro e w9 ⟨rfl, hb9⟩
               rw [show leavesB t.mem q inc p.cid = false by rw [ht.out]; exact f1.out]
               have z9 := hb9.size
               have hP9 := hP8.out.below hb9
               clear k8 c1c
               have k9 := hP9.at_.set
               replace hP9 := Lib.hid hP9
               clear hb9)
            | fail)
          go_ret2
          exact ⟨by rw [hans.out]; rfl, by rw [hans.out, ← ht.out]; exact hP9.out.done⟩
        | true =>
          by_cases f2 : (s.put q inc p.wish).spent = true
          · have hans := Lib.hid (show s.take q inc p = (false, 3, s) by rw [htk.out, if_neg (Int.not_lt.2 c1'.out), if_neg c2'.out, if_neg (by rw [hop]; decide), if_neg (by rw [f1]; decide), if_pos f2])
            have hop' := Lib.hid hop
            clear hop
            replace f1 := Lib.hid f1
            replace f2 := Lib.hid f2
            have c1c := v8.out.c1
            go_wp2_with (first
              | (go_at_call 75
                 refine (leaves_any b F' t hs' X' q inc p.cid w8 hP8.out.at_ Rt.out).mono ?_
                 rintro e w9 ⟨rfl, hb9⟩
                 rw [show leavesB t.mem q inc p.cid = true by rw [ht.out]; exact f1.out]
                 have z9 := hb9.size
                 have hP9 := hP8.out.below hb9
                 clear k8 c1c
                 have k9 := hP9.at_.set
                 replace hP9 := Lib.hid hP9
                 clear hb9)
              | (go_at_call 71
                 refine (rbegin_no b F' t hs' X' _ _ _ w9 hP9.out.at_ (by rw [ht.out]; exact f2.out)).mono ?_
                 rintro e w10 ⟨rfl, hb10⟩
                 have z10 := hb10.size
                 have hP10 := hP9.out.below hb10
                 clear k9
                 replace hP10 := Lib.hid hP10
                 clear hb10)
              | (refine wpList_store31 rfl (.tmp 14) (.tmp 138) rfl w10.heap.size 0 (by rfl) X'.S t.n X'.cS X'.V t.n X'.cV (t.own.pr t.n) (by rfl) (there_new w10 prZ 31) ?_
                 intro w11 hw11
                 have b11 : Below w10.heap.size w10 w11 := by rw [hw11.out]; exact below_sets ((Below.refl _ _).alloc (Nat.le_refl _) _) (Nat.le_refl _) _ _ (by simp)
                 have hP11 := hP10.out.below b11
                 have k18 := hP11.at_.all
                 have f18 := there_frozen hP11.at_.there (k := 18) (by omega)
                 replace hP11 := Lib.hid hP11
                 clear hw11)
              | fail)
            have hb := hP11.out.back hback.out
            go_ret2
            exact ⟨by rw [hans.out]; rfl, by rw [hans.out]; exact hb⟩
          · have hans := Lib.hid (show s.take q inc p = (true, 0, (s.put q inc p.wish).begin_ (s.put q inc p.wish).own.set) by rw [htk.out, if_neg (Int.not_lt.2 c1'.out), if_neg c2'.out, if_neg (by rw [hop]; decide), if_neg (by rw [f1]; decide), if_neg f2])
            have hop' := Lib.hid hop
            clear hop
            replace f1 := Lib.hid f1
            replace f2 := Lib.hid f2
            have c1c := v8.out.c1
            go_wp2_with (first
              | (go_at_call 75
                 refine (leaves_any b F' t hs' X' q inc p.cid w8 hP8.out.at_ Rt.out).mono ?_
                 rintro e w9 ⟨rfl, hb9⟩
                 rw [show leavesB t.mem q inc p.cid = true by rw [ht.out]; exact f1.out]
                 have z9 := hb9.size
                 have hP9 := hP8.out.below hb9
                 clear k8 c1c
                 have k9 := hP9.at_.set
                 replace hP9 := Lib.hid hP9
                 clear hb9)
              | (go_at_call 71
                 refine (rbegin_yes b F' t hs' X' _ X'.cS w9.heap.size (t.own.set.take t.n) w9 hP9.out.at_ It.out Rt.out htl (by rw [ht.out]; simpa using f2.out) (len_take16 It.out.own.set tn16) (Nat.le_refl _) hP9.out.at_.rset.row).mono ?_
                 rintro e w10 ⟨Sb, cSb, Vb, cVb, rfl, rSb, rVb, hb10⟩
                 rw [← Rt.out.set] at rVb
                 have z10 := hb10.size
                 have hP10 := hP9.out.below hb10
                 clear k9
                 have rS10 : RowF w10 F' 1 eInt Sb (t.own.set.take t.n) := rSb.away (fun x hx => by have := hP9.out.lt x hx; omega)
                 have rV10 : RowF w10 F' 1 eInt Vb ((t.begin_ t.own.set).own.vec.take t.n) := rVb.away (fun x hx => by have := hP9.out.lt x hx; omega)
                 rw [← Rt.out.set]
                 replace hP10 := Lib.hid hP10
                 replace rS10 := Lib.hid rS10
                 replace rV10 := Lib.hid rV10
                 clear hb10 rSb rVb)
              | (refine wpList_store31 rfl (.tmp 14) (.tmp 138) rfl w10.heap.size 0 (by rfl) Sb t.n cSb Vb t.n cVb ((t.begin_ t.own.set).own.pr t.n) (by rfl) (there_new w10 prZ 31) ?_
                 intro w11 hw11
                 have b11 : Below w10.heap.size w10 w11 := by rw [hw11.out]; exact below_sets ((Below.refl _ _).alloc (Nat.le_refl _) _) (Nat.le_refl _) _ _ (by simp)
                 have p11 : PVar w11 w10.heap.size Sb t.n cSb Vb t.n cVb ((t.begin_ t.own.set).own.pr t.n) := by rw [hw11.out]; exact PVar.put (there_new w10 prZ 31)
                 have hP11 := hP10.out.below b11
                 have t11 := World.there.at hP11.at_.there (o := 9) (m := 9) (by omega)
                 have rS11 := rS10.out.below b11
                 have rV11 := rV10.out.below b11
                 replace p11 := Lib.hid p11
                 replace hP11 := Lib.hid hP11
                 replace t11 := Lib.hid t11
                 replace rS11 := Lib.hid rS11
                 replace rV11 := Lib.hid rV11
                 clear hw11)
              | (refine wpList_loadR rfl 31 (.tmp 14) rfl w10.heap.size 0 (by rfl) _ (by exact p11.out.load) ?_)
              | (refine wpList_store31 rfl (.tmp 149) (.tmp 147) rfl b 9 (by rfl) Sb t.n cSb Vb t.n cVb ((t.begin_ t.own.set).own.pr t.n) (by rfl) t11.out ?_
                 intro w12 hw12
                 have h12 := hP11.out.at_.setOwn (t.begin_ t.own.set).own Sb cSb Vb cVb rS11.out rV11.out
                 rw [← prVar_set, ← hw12.out] at h12
                 have g12 : w11.grownBy w12 (some b) := by rw [hw12.out]; exact grown_sets _ _ _ _
                 have k12 : w12.cell? ⟨b, 8, none⟩ = some (.bool t.opn) := h12.opn
                 have f12 := there_frozen h12.there (k := 8) (by omega)
                 have h13 := h12.setOpn true
                 replace h12 := Lib.hid h12
                 replace h13 := Lib.hid h13)
              | fail)
            have c13 : Chg w (w12.setCell ⟨b, 8, none⟩ (.bool true)) b (blk X.A) := (hP11.out.chg.trans (Chg.ofGrown g12)).trans (Chg.ofGrown (grown_cell _ _ _ _))
            replace c13 := Lib.hid c13
            have z12 := g12.size
            go_ret2
            exact ⟨by rw [hans.out]; rfl, by rw [hans.out, ← ht.out]; exact ⟨⟨F', hs', _, h13.out, hP11.out.sub, hP11.out.new, fun x hx => by rw [World.size_setCell]; have := hP11.out.lt x hx; omega, Nat.le_of_eq hP11.out.len, hP11.out.anew⟩, c13.out⟩⟩
theorem rtake_any (b : Nat) (F : List Nat) (s : St) (hs : List HdR) (X : Ptrs) (S V : Option Addr) (cS cV N : Nat) (p : Pr) (q inc : Int) (w : World) (h : RefAt w b F s hs X) (hF : ∀ x ∈ F, x < w.heap.size) (hI : Inv s) (hR : RInv s) (hlen : hs.length + 1 ≤ 1000000)
    (hN : N ≤ w.heap.size) (hS : RowAt w N 1 eInt S p.set) (hV : RowAt w N 1 eInt V p.vec) (hl1 : p.set.length ≤ 9223372036854775807) (hl2 : p.vec.length ≤ 9223372036854775807) :
    Calls Try.prog 61 #[.pointer (some ⟨b, 0, none⟩), .int .i64 q, .int .i64 inc, .agg (prA S V cS cV p)] w fun x w' => x = .returned (.tuple #[.bool (s.take q inc p).1, .int .i64 (s.take q inc p).2.1]) ∧ RLeft w w' b F (s.take q inc p).2.2 (hs.length + 1) (blk X.A) := by
  by_cases hc : q < 0 ∨ (s.n : Int) ≤ q ∨ q = s.self ∨ inc < 1 ∨ 4611686018427387904 < inc
  · have e : s.take q inc p = (false, 1, s) := by unfold St.take; rw [if_pos hc]
    rw [e]
    exact rtake_bad b F s hs X S V cS cV p q inc w h hF hc
  · obtain ⟨k, rfl⟩ := Int.eq_ofNat_of_zero_le (show 0 ≤ q by omega)
    have k1 : k < s.n := by omega
    have k2 : k ≠ s.self := by omega
    have i1 : 1 ≤ inc := by omega
    have i2 : inc ≤ 4611686018427387904 := by omega
    cases hg : p.goodB k inc s.n with
    | false => exact rtake_unfit b F s hs X S V cS cV N p k inc w h hF hI hR hlen k1 k2 i1 i2 hN hS hV hl1 hl2 hg
    | true =>
      by_cases c1 : inc < (s.lt k).inc
      · exact rtake_old b F s hs X S V cS cV N p k inc w h hF hI hR hlen k1 k2 i1 i2 hN hS hV hl1 hl2 hg c1
      · by_cases c2 : (s.lt k).inc = inc ∧ p.rev ≤ (s.lt k).w.rev
        · exact rtake_stale b F s hs X S V cS cV N p k inc w h hF hI hR hlen k1 k2 i1 i2 hN hS hV hl1 hl2 hg c1 c2
        · exact rtake_fit b F s hs X S V cS cV N p k inc w h hF hI hR hlen k1 k2 i1 i2 hN hS hV hl1 hl2 hg c1 c2
end Go.Proofs.Ytfbeggdbjpmppaa
/- The program's Take: what is refused at once. -/
namespace Go.Proofs.Ytfbeggdbjpmppaa
open Go.RowKit
set_option maxRecDepth 100000 in
set_option maxHeartbeats 4000000 in
theorem take_bad (b : Nat) (s : St) (M : Option Addr) (cM : Nat) (S V : Option Addr) (cS cV : Nat) (p : Pr) (q inc : Int) (w : World) (h : AgAt w b s M cM) (hb : b < w.heap.size) (hc : q < 0 ∨ (s.n : Int) ≤ q ∨ q = s.self ∨ inc < 1 ∨ 4611686018427387904 < inc) :
    Calls Try.prog 36 #[.pointer (some ⟨b, 0, none⟩), .int .i64 q, .int .i64 inc, .agg (prA S V cS cV p)] w fun x w' => x = .returned (.tuple #[.bool false, .int .i64 1]) ∧ Left w w' b s M cM := by
  have hb1 : Below w.heap.size w (w.alloc (.cells (prA S V cS cV p) 31)) := (Below.refl _ _).alloc (Nat.le_refl _) _
  have q0 := h.n
  have q1 := h.self
  replace h := Lib.hid h
  replace hb1 := Lib.hid hb1
  have hc' : q < 0 ∨ (0 ≤ q ∧ (s.n : Int) ≤ q) ∨ (0 ≤ q ∧ q < s.n ∧ q = s.self) ∨ (0 ≤ q ∧ q < s.n ∧ q ≠ s.self ∧ inc < 1) ∨ (0 ≤ q ∧ q < s.n ∧ q ≠ s.self ∧ 1 ≤ inc ∧ 4611686018427387904 < inc) := by omega
  clear hc
  rcases hc' with h1 | ⟨h1, h2⟩ | ⟨h1, h2, h3⟩ | ⟨h1, h2, h3, h4⟩ | ⟨h1, h2, h3, h4, h5⟩
  · go_enter Try.func36, Try.ntmps36
    go_wp2
    go_ret2
    exact ⟨rfl, Left.below h.out hb hb1.out⟩
  · go_enter Try.func36, Try.ntmps36
    go_wp2
    go_ret2
    exact ⟨rfl, Left.below h.out hb hb1.out⟩
  · have b3 : (q == (s.self : Int)) = true := by simp [h3]
    replace h3 := Lib.hid h3
    go_enter Try.func36, Try.ntmps36
    go_wp2
    go_ret2
    exact ⟨rfl, Left.below h.out hb hb1.out⟩
  · have b3 : (q == (s.self : Int)) = false := by simp [h3]
    replace h3 := Lib.hid h3
    go_enter Try.func36, Try.ntmps36
    go_wp2
    go_ret2
    exact ⟨rfl, Left.below h.out hb hb1.out⟩
  · have b3 : (q == (s.self : Int)) = false := by simp [h3]
    replace h3 := Lib.hid h3
    go_enter Try.func36, Try.ntmps36
    go_wp2
    go_ret2
    exact ⟨rfl, Left.below h.out hb hb1.out⟩
set_option maxRecDepth 100000 in
set_option maxHeartbeats 4000000 in
theorem take_unfit (b : Nat) (s : St) (M : Option Addr) (cM : Nat) (S V : Option Addr) (cS cV N : Nat) (p : Pr) (q : Nat) (inc : Int) (w : World) (h : AgAt w b s M cM) (hb : b < w.heap.size) (hI : Inv s) (hq : q < s.n) (hs : q ≠ s.self) (hi1 : 1 ≤ inc) (hi2 : inc ≤ 4611686018427387904)
    (hN : N ≤ w.heap.size) (hS : RowAt w N 1 eInt S p.set) (hV : RowAt w N 1 eInt V p.vec) (hl1 : p.set.length ≤ 9223372036854775807) (hl2 : p.vec.length ≤ 9223372036854775807) (hg : p.goodB q inc s.n = false) :
    Calls Try.prog 36 #[.pointer (some ⟨b, 0, none⟩), .int .i64 q, .int .i64 inc, .agg (prA S V cS cV p)] w fun x w' => x = .returned (.tuple #[.bool false, .int .i64 60]) ∧ Left w w' b s M cM := by
  have hb0 : Below w.heap.size w (w.alloc (.cells (prA S V cS cV p) 31)) := (Below.refl _ _).alloc (Nat.le_refl _) _
  have z0 : (w.alloc (.cells (prA S V cS cV p) 31)).heap.size = w.heap.size + 1 := World.size_alloc _ _
  have h0 := Lib.hid (h.same (hb0.block b hb))
  have q0 := h.n
  have q1 := h.self
  have hn := hI.n2
  have rS := Lib.hid (hS.below hb0 hN)
  have rV := Lib.hid (hV.below hb0 hN)
  have b3 : ((q : Int) == (s.self : Int)) = false := by simp; omega
  replace h := Lib.hid h
  replace hb0 := Lib.hid hb0
  replace hI := Lib.hid hI
  replace hg := Lib.hid hg
  replace z0 := Lib.hid z0
  clear hS hV
  go_enter Try.func36, Try.ntmps36
  go_wp2_with (first
    | (go_at_call 52
       refine (read_any b s M cM S V cS cV N p q inc _ (by exact h0.out) (by rw [z0.out]; omega) hn hq (by rw [z0.out]; omega) (by exact rS.out) (by exact rV.out) hl1 hl2).mono ?_
       rintro e w1 ⟨⟨t, rfl, hwl, -⟩, hb1⟩
       rw [hg.out]
       rw [z0.out] at hb1
       have z1 := hb1.size
       rw [z0.out] at z1
       have b1 := Lib.hid (hb0.out.trans (hb1.mono (Nat.le_succ _)))
       replace hwl := Lib.hid hwl
       clear q0 q1)
    | (refine wpList_alloc96 rfl rfl ?_)
    | (refine wpList_store96 rfl (.tmp 10) (.tmp 46) rfl w1.heap.size 0 (by rfl) t (by rfl) (there_new96 _ _ wlen_zero) hwl.out ?_
       intro w2 hw2)
    | fail)
  go_ret2
  exact ⟨rfl, Left.below h.out hb (by rw [hw2.out]; exact below_sets (b1.out.alloc (by omega) _) (by omega) _ _ (by simp; omega))⟩
end Go.Proofs.Ytfbeggdbjpmppaa
