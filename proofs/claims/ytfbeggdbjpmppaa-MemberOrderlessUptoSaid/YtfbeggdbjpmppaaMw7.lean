/- RLate REq RVec, joined. -/
import Derived.Test.YtfbeggdbjpmppaaMw5
import Derived.Test.YtfbeggdbjpmppaaMw6
set_option linter.unusedVariables false
set_option linter.unusedSimpArgs false
/- The document's latest. -/
namespace Go.Proofs.Ytfbeggdbjpmppaa
open Go.RowKit
def lateI : Option Nat → Int
  | none => -1
  | some j => j
theorem load121 {w : World} {b o n c : Nat} {A : Option Addr} (h : w.cell? ⟨b, o, none⟩ = some (.slice A n c)) : (loadVar 121 ⟨b, o, none⟩).run Try.prog w = .ok (.slice A n c) w := by go_simp
theorem size130 : (Try.prog.info? 130).map (·.size) = some 11 := by kernel_rfl
theorem RowAt.hd {w : World} {N : Nat} {A : Option Addr} {l : List HdR} (h : RowAt w N 11 eHd A l) {k : Nat} (hk : k < l.length) :
    ∃ b off r, A = some ⟨b, off, none⟩ ∧ b < N ∧ Hid (l[k]? = some r) ∧ w.rangeAt b (off + k * 11) (eHd r) := by
  obtain ⟨b, off, e, hb, hc⟩ := h (by omega)
  have hx := List.getElem?_eq_getElem hk
  exact ⟨b, off, l[k], e, hb, hx, fun j u hu => hc k _ hx j u hu⟩
def zHd : Array Value := #[.int .i64 0, .int .i64 0, .slice none 0 0, .int .i64 0, .int .i64 0, .int .i64 0, .int .i64 0, .int .i64 0, .int .i64 0, .int .i64 0, .slice none 0 0]
set_option maxRecDepth 100000 in
set_option maxHeartbeats 4000000 in
theorem latest_any (b : Nat) (F : List Nat) (s : St) (hs : List HdR) (X : Ptrs) (q : Int) (w : World) (h : RefAt w b F s hs X) (hl : hs.length ≤ 1000000) :
    Calls Try.prog 73 #[.pointer (some ⟨b, 0, none⟩), .int .i64 q] w fun x w' => x = .returned (.int .i64 (lateI (late (hs.map (·.h)) q))) ∧ Below w.heap.size w w' := by
  have q0 := h.all
  have hbl := h.bl
  have hlen : (hs.map (·.h)).length = hs.length := List.length_map _
  obtain ⟨H, hH⟩ : ∃ H, H = hs.map (·.h) := ⟨_, rfl⟩
  rw [← hH] at hlen
  rw [← hH]
  have hHk : ∀ k, H[k]? = hs[k]?.map HdR.h := fun k => by rw [hH, List.getElem?_map]
  replace h := Lib.hid h
  replace hH := Lib.hid hH
  replace hHk := Lib.hid hHk
  replace hlen := Lib.hid hlen
  have hzd : ∀ W : World, (W.alloc (.cells #[.int .i64 0, .int .i64 0, .slice none 0 0, .int .i64 0, .int .i64 0, .int .i64 0, .int .i64 0, .int .i64 0, .int .i64 0, .int .i64 0, .slice none 0 0] 130)) = W.alloc (.cells zHd 130) := fun _ => rfl
  replace hzd := Lib.hid hzd
  go_enter Try.func73, Try.ntmps73
  go_wp2
  go_loopw [5, 6] (fun j k wr => ∃ i : Nat, k = .int .i64 i ∧ i ≤ hs.length ∧ j = .int .i64 (lateI (lateTo H q i)) ∧ Below w.heap.size w wr) (fun _ k _ => hs.length - (intOf k).toNat)
  case atStart => exact ⟨0, rfl, by omega, rfl, Below.refl _ _⟩
  case round =>
    obtain ⟨i, rfl, hi, rfl, hb⟩ := hrel
    have hsz := hb.size
    have hr := h.out.below hb
    have k0 := hr.all
    clear q0
    by_cases hlt : i < hs.length
    · obtain ⟨g, o, r, hAe, hg, hx, hc⟩ := (hr.own.row len_eHd).hd hlt
      have hxi : H[i]? = some r.h := by rw [hHk.out, hx.out]; rfl
      replace hxi := Lib.hid hxi
      have hrow := Lib.hid (hr.own.row len_eHd)
      replace hr := Lib.hid hr
      replace hc := Lib.hid hc
      rw [hAe] at k0
      have hth : (wr.alloc (.cells zHd 130)).there wr.heap.size 0 11 := there_new wr zHd 130
      obtain ⟨w3, hw3⟩ : ∃ w3, w3 = (wr.alloc (.cells zHd 130)).setCells wr.heap.size 0 (eHd r).toArray.toList := ⟨_, rfl⟩
      have hb3 : Below wr.heap.size wr w3 := by rw [hw3]; exact below_sets ((Below.refl _ _).alloc (Nat.le_refl _) _) (Nat.le_refl _) _ _ (by simp)
      have z3 : w3.heap.size = wr.heap.size + 1 := by rw [hw3, size_sets, World.size_alloc]
      have hb03 : Below w.heap.size w w3 := hb.trans (hb3.mono hsz)
      have r3 : w3.rangeAt wr.heap.size 0 (eHd r) := by rw [hw3]; exact World.rangeAt_setCells_same _ _ _ _ hth
      have d0 : w3.cell? ⟨wr.heap.size, 0, none⟩ = some (.int .i64 r.h.q) := r3 0 _ rfl
      have d1 : w3.cell? ⟨wr.heap.size, 1, none⟩ = some (.int .i64 r.h.inc) := r3 1 _ rfl
      have d4 : w3.cell? ⟨wr.heap.size, 4, none⟩ = some (.int .i64 r.h.p.rev) := r3 4 _ rfl
      have k3 := (hr.out.below hb3).all
      rw [hAe] at k3
      replace hw3 := Lib.hid hw3
      replace r3 := Lib.hid r3
      replace hb3 := Lib.hid hb3
      replace hb03 := Lib.hid hb03
      replace hAe := Lib.hid hAe
      by_cases e0 : r.h.q = q
      · have b0 : (r.h.q != q) = false := by simp [e0]
        cases hn : lateTo H q i with
        | none =>
          have hup := Lib.hid (lateTo_first hxi.out e0 hn)
          have bneg : lateI none = -1 := rfl
          replace hn := Lib.hid hn
          replace e0 := Lib.hid e0
          rw [bneg]
          go_wp2_with (first
            | (refine wpList_load_mid rfl 130 (.tmp 22) rfl g (o + i * 11) (by rfl) (eHd r) _ hc.out Try.underlying130 rfl (by rw [size130]; rfl) ?_)
            | (refine wpList_store_mid rfl 130 (.tmp 7) (.tmp 23) rfl wr.heap.size 0 (eHd r).toArray (by rfl) (by rfl) (by exact hth) (by rw [size130]; rfl) (all_oneCell_toArray (one_eHd r)) ?_
               rw [hzd.out, ← hw3.out]
               clear k0)
            | fail)
          refine wp_region_quiet_lit (by kernel_rfl) (by kernel_rfl) ?_
          repeat (first | go_big_quiet_skip | go_big_quiet_step (fail))
          refine wpQuiet_nil ?_
          first | rintro _ ⟨nq, rfl⟩ | intro nq
          go_wp2
          go_roundw
          case rel => go_light; exact ⟨i + 1, by go_num, by omega, by rw [hup.out]; rfl, below_drewN hb03.out _⟩
          case measure => go_light; simp [intOf]; omega
        | some j =>
          obtain ⟨hji, y, hy, hyq⟩ := lateTo_some (by rw [hlen.out]; omega) hn
          obtain ⟨g', o', ry, hAe', hg', hyy, hcy⟩ := hrow.out.hd (show j < hs.length by omega)
          obtain ⟨rfl, rfl⟩ : g' = g ∧ o' = o := by have := hAe.out.symm.trans hAe'; injection this with this; injection this with h1 h2; exact ⟨h1.symm, h2.symm⟩
          have hye : y = ry.h := by have := hHk.out j; rw [hyy.out, hy] at this; simpa using this
          subst hye
          have m1 : w3.cell? ⟨g', o' + j * 11 + 1, none⟩ = some (.int .i64 ry.h.inc) := (hb3.out.cell (p := ⟨g', _, none⟩) hg).trans (hcy 1 _ rfl)
          have m4 : w3.cell? ⟨g', o' + j * 11 + 4, none⟩ = some (.int .i64 ry.h.p.rev) := (hb3.out.cell (p := ⟨g', _, none⟩) hg).trans (hcy 4 _ rfl)
          have hjl : j < hs.length := by omega
          have hjn : decide ((j : Int) < 0) = false := decide_eq_false (by omega)
          have bj : lateI (some j) = (j : Int) := rfl
          rw [bj]
          replace hAe' := Lib.hid hAe'
          replace hcy := Lib.hid hcy
          skip
          by_cases g1 : ry.h.inc < r.h.inc
          · have b1 : decide (ry.h.inc < r.h.inc) = true := decide_eq_true g1
            have hup := Lib.hid (lateTo_beat hxi.out e0 hn hy (decide_eq_true (.inl g1)))
            replace hn := Lib.hid hn
            skip
            replace e0 := Lib.hid e0
            skip
            replace hyq := Lib.hid hyq
            go_wp2_with (first
              | (refine wpList_load_mid rfl 130 (.tmp 22) rfl g' (o' + i * 11) (by rfl) (eHd r) _ hc.out Try.underlying130 rfl (by rw [size130]; rfl) ?_)
              | (refine wpList_store_mid rfl 130 (.tmp 7) (.tmp 23) rfl wr.heap.size 0 (eHd r).toArray (by rfl) (by rfl) (by exact hth) (by rw [size130]; rfl) (all_oneCell_toArray (one_eHd r)) ?_
                 rw [hzd.out, ← hw3.out]
                 clear k0)
              | fail)
            refine wp_region_quiet_lit (by kernel_rfl) (by kernel_rfl) ?_
            repeat (first | go_big_quiet_skip | go_big_quiet_step (fail))
            refine wpQuiet_nil ?_
            first | rintro _ ⟨nq, rfl⟩ | intro nq
            go_wp2
            go_roundw
            case rel => go_light; exact ⟨i + 1, by go_num, by omega, by rw [hup.out]; rfl, below_drewN hb03.out _⟩
            case measure => go_light; simp [intOf]; omega
          · have b1 : decide (ry.h.inc < r.h.inc) = false := decide_eq_false g1
            by_cases g2 : r.h.inc = ry.h.inc
            · have b2 : (r.h.inc == ry.h.inc) = true := by simp [g2]
              by_cases g3 : ry.h.p.rev < r.h.p.rev
              · have b3 : decide (ry.h.p.rev < r.h.p.rev) = true := decide_eq_true g3
                have hup := Lib.hid (lateTo_beat hxi.out e0 hn hy (decide_eq_true (.inr ⟨g2, g3⟩)))
                replace hn := Lib.hid hn
                skip
                replace e0 := Lib.hid e0
                skip
                replace hyq := Lib.hid hyq
                replace g2 := Lib.hid g2
                go_wp2_with (first
                  | (refine wpList_load_mid rfl 130 (.tmp 22) rfl g' (o' + i * 11) (by rfl) (eHd r) _ hc.out Try.underlying130 rfl (by rw [size130]; rfl) ?_)
                  | (refine wpList_store_mid rfl 130 (.tmp 7) (.tmp 23) rfl wr.heap.size 0 (eHd r).toArray (by rfl) (by rfl) (by exact hth) (by rw [size130]; rfl) (all_oneCell_toArray (one_eHd r)) ?_
                     rw [hzd.out, ← hw3.out]
                     clear k0)
                  | fail)
                refine wp_region_quiet_lit (by kernel_rfl) (by kernel_rfl) ?_
                repeat (first | go_big_quiet_skip | go_big_quiet_step (fail))
                refine wpQuiet_nil ?_
                first | rintro _ ⟨nq, rfl⟩ | intro nq
                go_wp2
                go_roundw
                case rel => go_light; exact ⟨i + 1, by go_num, by omega, by rw [hup.out]; rfl, below_drewN hb03.out _⟩
                case measure => go_light; simp [intOf]; omega
              · have b3 : decide (ry.h.p.rev < r.h.p.rev) = false := decide_eq_false g3
                have hup := Lib.hid (lateTo_keep hxi.out e0 hn hy (decide_eq_false (by rintro (x | x); exact g1 x; exact g3 x.2)))
                replace hn := Lib.hid hn
                skip
                replace e0 := Lib.hid e0
                skip
                replace hyq := Lib.hid hyq
                replace g2 := Lib.hid g2
                go_wp2_with (first
                  | (refine wpList_load_mid rfl 130 (.tmp 22) rfl g' (o' + i * 11) (by rfl) (eHd r) _ hc.out Try.underlying130 rfl (by rw [size130]; rfl) ?_)
                  | (refine wpList_store_mid rfl 130 (.tmp 7) (.tmp 23) rfl wr.heap.size 0 (eHd r).toArray (by rfl) (by rfl) (by exact hth) (by rw [size130]; rfl) (all_oneCell_toArray (one_eHd r)) ?_
                     rw [hzd.out, ← hw3.out]
                     clear k0)
                  | fail)
                refine wp_region_quiet_lit (by kernel_rfl) (by kernel_rfl) ?_
                repeat (first | go_big_quiet_skip | go_big_quiet_step (fail))
                refine wpQuiet_nil ?_
                first | rintro _ ⟨nq, rfl⟩ | intro nq
                go_wp2
                go_roundw
                case rel => go_light; exact ⟨i + 1, by go_num, by omega, by rw [hup.out]; rfl, below_drewN hb03.out _⟩
                case measure => go_light; simp [intOf]; omega
            · have b2 : (r.h.inc == ry.h.inc) = false := by simp [g2]
              have hup := Lib.hid (lateTo_keep hxi.out e0 hn hy (decide_eq_false (by rintro (x | x); exact g1 x; exact g2 x.1)))
              replace hn := Lib.hid hn
              skip
              replace e0 := Lib.hid e0
              skip
              replace hyq := Lib.hid hyq
              replace g2 := Lib.hid g2
              go_wp2_with (first
                | (refine wpList_load_mid rfl 130 (.tmp 22) rfl g' (o' + i * 11) (by rfl) (eHd r) _ hc.out Try.underlying130 rfl (by rw [size130]; rfl) ?_)
                | (refine wpList_store_mid rfl 130 (.tmp 7) (.tmp 23) rfl wr.heap.size 0 (eHd r).toArray (by rfl) (by rfl) (by exact hth) (by rw [size130]; rfl) (all_oneCell_toArray (one_eHd r)) ?_
                   rw [hzd.out, ← hw3.out]
                   clear k0)
                | fail)
              refine wp_region_quiet_lit (by kernel_rfl) (by kernel_rfl) ?_
              repeat (first | go_big_quiet_skip | go_big_quiet_step (fail))
              refine wpQuiet_nil ?_
              first | rintro _ ⟨nq, rfl⟩ | intro nq
              go_wp2
              go_roundw
              case rel => go_light; exact ⟨i + 1, by go_num, by omega, by rw [hup.out]; rfl, below_drewN hb03.out _⟩
              case measure => go_light; simp [intOf]; omega
      · have b0 : (r.h.q != q) = true := by simp [e0]
        have hup := Lib.hid (lateTo_other hxi.out e0)
        replace e0 := Lib.hid e0
        go_wp2_with (first
          | (refine wpList_load_mid rfl 130 (.tmp 22) rfl g (o + i * 11) (by rfl) (eHd r) _ hc.out Try.underlying130 rfl (by rw [size130]; rfl) ?_)
          | (refine wpList_store_mid rfl 130 (.tmp 7) (.tmp 23) rfl wr.heap.size 0 (eHd r).toArray (by rfl) (by rfl) (by exact hth) (by rw [size130]; rfl) (all_oneCell_toArray (one_eHd r)) ?_
             rw [hzd.out, ← hw3.out]
             clear k0)
          | fail)
        go_roundw
        case rel => go_light; exact ⟨i + 1, by go_num, by omega, by rw [hup.out], hb03.out⟩
        case measure => go_light; simp [intOf]; omega
    · have hyes := Lib.hid (show lateTo H q i = late H q by unfold late; rw [hlen.out]; congr 1; omega)
      go_wp2
      go_ret
      exact ⟨ret_int (by rw [hyes.out]), hb⟩
end Go.Proofs.Ytfbeggdbjpmppaa
/- The document's equal, counts; the law's ints. -/
namespace Go.Proofs.Ytfbeggdbjpmppaa
open Go.RowKit
set_option maxRecDepth 100000 in
set_option maxHeartbeats 1000000 in
theorem equal_any (A B : Option Addr) (cA cB N : Nat) (l m : List Int) (w : World) (hN : N ≤ w.heap.size) (hA : RowAt w N 1 eInt A l) (hB : RowAt w N 1 eInt B m) (hl : l.length ≤ 9223372036854775807) (hm : m.length ≤ 9223372036854775807) :
    Calls Try.prog 70 #[.slice A l.length cA, .slice B m.length cB] w fun x w' => x = .returned (.bool (decide (l = m))) ∧ Below w.heap.size w w' := by
  by_cases he : l.length = m.length
  · have e1 : ((l.length : Int) != (m.length : Int)) = false := by simp [he]
    have he' := he
    replace he := Lib.hid he
    clear he'
    go_enter Try.func70, Try.ntmps70
    go_wp2
    go_loopw [5] (fun k wr => ∃ q : Nat, k = .int .i64 q ∧ q ≤ l.length ∧ agree l m q ∧ Below w.heap.size w wr) (fun k _ => l.length - (intOf k).toNat)
    case atStart => exact ⟨0, rfl, by omega, agree_zero _ _, Below.refl _ _⟩
    case round =>
      obtain ⟨q, rfl, hq, hag, hb⟩ := hrel
      have hsz := hb.size
      replace hag := Lib.hid hag
      by_cases hlt : q < l.length
      · obtain ⟨g, o, x, hAe, hg, hx, c0⟩ := (hA.below hb hN).int hlt
        obtain ⟨g', o', x', hBe, hg', hx', d0⟩ := (hB.below hb hN).int (show q < m.length by rw [← he.out]; exact hlt)
        have hlt' : q < m.length := by rw [← he.out]; exact hlt
        by_cases hxx : x = x'
        · have e2 : (x != x') = false := by simp [hxx]
          have hag' := Lib.hid (agree_succ hag.out (by rw [hx.out, hx'.out, hxx]))
          replace hxx := Lib.hid hxx
          rw [hAe, hBe]
          go_wp2
          go_quiet (fail)
          go_wp2
          go_roundw
          case rel => go_light; exact ⟨q + 1, by go_num, by omega, hag'.out, below_drewN hb _⟩
          case measure => go_light; simp [intOf]; omega
        · have e2 : (x != x') = true := by simp [hxx]
          have hno := Lib.hid (show decide (l = m) = false from decide_eq_false (fun e => by subst e; have := hx.out.symm.trans hx'.out; injection this with this; exact hxx this))
          replace hxx := Lib.hid hxx
          rw [hAe, hBe]
          go_wp2
          go_quiet (fail)
          go_wp2
          go_ret
          exact ⟨ret_bool hno.out.symm, below_drewN hb _⟩
      · obtain rfl : q = l.length := by omega
        have hyes := Lib.hid (show decide (l = m) = true from decide_eq_true (agree_all hag.out rfl he.out.symm))
        go_wp2
        go_ret
        exact ⟨ret_bool hyes.out.symm, hb⟩
  · have e1 : ((l.length : Int) != (m.length : Int)) = true := by simp; omega
    have hno := Lib.hid (show decide (l = m) = false from decide_eq_false (fun e => he (by rw [e])))
    replace he := Lib.hid he
    go_enter Try.func70, Try.ntmps70
    go_wp2
    go_ret
    exact ⟨ret_bool hno.out.symm, Below.refl _ _⟩
end Go.Proofs.Ytfbeggdbjpmppaa
/- The document's vec. -/
namespace Go.Proofs.Ytfbeggdbjpmppaa
open Go.RowKit
/-- The machine as vec sees it: this set, this number. -/
def St.withSet (s : St) (l : List Int) (cid : Int) : St := { s with own := { s.own with set := pad l, cid := cid } }
theorem pad_inj {l m : List Int} (h : l.length = m.length) : pad l = pad m ↔ l = m := by
  constructor
  · intro e
    have := congrArg (List.take l.length) e
    unfold pad at this
    rwa [List.take_left, h, List.take_left] at this
  · rintro rfl; rfl
theorem heard_snoc (t : St) {i : Nat} (hi : i < 16) : t.heard.take i ++ [t.vecAt i] = t.heard.take (i + 1) := by
  rw [List.take_add_one]
  congr 1
  unfold St.heard
  rw [List.getElem?_map, List.getElem?_range hi]; rfl
theorem nth_pad' {l : List Int} {q : Nat} (h : q < l.length) : nth (pad l) q = nth l q := by unfold nth pad; rw [List.getElem?_append_left h]
section
variable {s : St} {h : List Hd} {l : List Int} {cid : Int} {q : Nat}
theorem vec_self (hq : q = s.self) : (s.withSet l cid).vecAt q = cid := by unfold St.vecAt; rw [if_pos (show q = (s.withSet l cid).self from hq)]; rfl
theorem vec_not (hq : q ≠ s.self) (hm : (s.withSet l cid).matB q = false) : (s.withSet l cid).vecAt q = 0 := by
  unfold St.vecAt; rw [if_neg (show ¬ q = (s.withSet l cid).self from hq), if_neg (by rw [hm]; simp)]
theorem mat_zero (hql : q < l.length) (hz : nth l q = 0) : (s.withSet l cid).matB q = false := by
  unfold St.matB
  refine decide_eq_false fun x => x.1 (x.2.1.trans ?_)
  show nth (pad l) q = 0
  rw [nth_pad' hql]; exact hz
theorem mat_none (r : Rep s h) (hq : q < 16) (hn : late h q = none) : (s.withSet l cid).matB q = false := by
  unfold St.matB
  refine decide_eq_false fun x => x.1 ?_
  show (s.lt q).inc = 0
  rw [r.no q hq hn]; rfl
theorem mat_inc (r : Rep s h) (hq : q < 16) (hql : q < l.length) {j : Nat} {x : Hd} (hn : late h q = some j) (hx : h[j]? = some x) (he : x.inc ≠ nth l q) : (s.withSet l cid).matB q = false := by
  unfold St.matB
  refine decide_eq_false fun y => he ?_
  have := y.2.1
  change (s.lt q).inc = nth (pad l) q at this
  rw [r.yes q hq j x hn hx, nth_pad' hql] at this; exact this
theorem mat_set (r : Rep s h) (hq : q < 16) (hl : l.length = s.n) {j : Nat} {x : Hd} (hn : late h q = some j) (hx : h[j]? = some x) (he : x.p.set ≠ l) : (s.withSet l cid).matB q = false := by
  unfold St.matB
  refine decide_eq_false fun y => he ?_
  have := y.2.2
  change (s.lt q).w.set = pad l at this
  rw [r.yes q hq j x hn hx] at this
  exact (pad_inj (by rw [(r.ok x (List.mem_of_getElem? hx)).1, hl])).1 this
theorem vec_yes (r : Rep s h) (hq : q < 16) (hqn : q < s.n) (hqs : q ≠ s.self) (hl : l.length = s.n) {j : Nat} {x : Hd} (hn : late h q = some j) (hx : h[j]? = some x) (he : x.inc = nth l q) (he2 : x.p.set = l) : (s.withSet l cid).vecAt q = x.p.cid := by
  have hy := r.yes q hq j x hn hx
  have hm : (s.withSet l cid).matB q = true := by
    unfold St.matB
    refine decide_eq_true ⟨?_, ?_, ?_⟩
    · show (s.lt q).inc ≠ 0
      rw [hy]; have := (r.ok x (List.mem_of_getElem? hx)).2.2; show x.inc ≠ 0; omega
    · show (s.lt q).inc = nth (pad l) q
      rw [hy, nth_pad' (by omega)]; exact he
    · show (s.lt q).w.set = pad l
      rw [hy]; show pad x.p.set = pad l; rw [he2]
  unfold St.vecAt
  rw [if_neg (show ¬ q = (s.withSet l cid).self from hqs), if_pos ⟨hqn, hm⟩]
  show (s.lt q).w.cid = _
  rw [hy]; rfl
end
theorem int_at' {w : World} {N : Nat} {A : Option Addr} {l : List Int} (h : RowAt w N 1 eInt A l) {k : Nat} (hk : k < l.length) : ∃ g o, A = some ⟨g, o, none⟩ ∧ g < N ∧ w.cell? ⟨g, o + k, none⟩ = some (.int .i64 (nth l k)) := by
  obtain ⟨g, o, x, h1, h2, h3, h4⟩ := h.int hk
  refine ⟨g, o, h1, h2, ?_⟩
  unfold nth; rw [h3.out]; exact h4
theorem equal_any' (A B : Option Addr) (cA cB N : Nat) (l m : List Int) (n : Nat) (w : World) (hN : N ≤ w.heap.size) (hA : RowAt w N 1 eInt A l) (hB : RowAt w N 1 eInt B m) (hm : m.length = n) (hl : l.length ≤ 9223372036854775807) (hn : n ≤ 1000000 := by omega) :
    Calls Try.prog 70 #[.slice A l.length cA, .slice B n cB] w fun x w' => x = .returned (.bool (decide (l = m))) ∧ Below w.heap.size w w' := by
  subst hm
  exact equal_any A B cA cB N l m w hN hA hB hl (by omega)
/-- What vec answers. -/
def VecPost (w : World) (n : Nat) (l : List Int) (x : Ending) (w' : World) : Prop :=
  ∃ V c, x = .returned (.slice V n c) ∧ RowN w' w.heap.size 1 eInt V (l.take n) ∧ Below w.heap.size w w'
set_option maxRecDepth 100000 in
set_option maxHeartbeats 4000000 in
theorem rvec_any (b : Nat) (F : List Nat) (s : St) (hs : List HdR) (X : Ptrs) (S : Option Addr) (cS N : Nat) (l : List Int) (cid : Int) (w : World) (h : RefAt w b F s hs X) (hI : Inv s) (hlen : hs.length ≤ 1000000) (hl : l.length = s.n) (hN : N ≤ w.heap.size) (hS : RowAt w N 1 eInt S l) :
    Calls Try.prog 76 #[.pointer (some ⟨b, 0, none⟩), .slice S s.n cS, .int .i64 cid] w (VecPost w s.n (s.withSet l cid).heard) := by
  have hbl := h.bl
  have hn16 := hI.n2
  obtain ⟨t, ht⟩ : ∃ t, t = s.withSet l cid := ⟨_, rfl⟩
  rw [← ht]
  obtain ⟨H, hH⟩ : ∃ H, H = hs.map (·.h) := ⟨_, rfl⟩
  have hHk : ∀ k, H[k]? = hs[k]?.map HdR.h := fun k => by rw [hH, List.getElem?_map]
  have hrep : Rep s H := by rw [hH]; exact h.rep
  replace hrep := Lib.hid hrep
  replace hHk := Lib.hid hHk
  replace hH := Lib.hid hH
  replace ht := Lib.hid ht
  replace hl := Lib.hid hl
  replace hI := Lib.hid hI
  have hls : ∀ k, k < s.n → k < l.length := fun k hk => by rw [hl.out]; exact hk
  replace hls := Lib.hid hls
  replace h := Lib.hid h
  have q0 := h.out.n
  go_enter Try.func76, Try.ntmps76
  go_wp2
  clear q0
  go_loopw [7, 8] (fun v k wr => ∃ i V c, k = .int .i64 ((i : Nat) : Int) ∧ i ≤ s.n ∧ v = .slice V i c ∧ Owns wr w.heap.size 3 1 eInt V c (t.heard.take i) ∧ Below w.heap.size w wr) (fun _ k _ => s.n - (intOf k).toNat)
  case atStart => exact ⟨0, none, 0, rfl, by omega, rfl, owns_nil _ _ _ _ _, Below.refl _ _⟩
  case round =>
    obtain ⟨i, V, c, rfl, hi, rfl, ho, hb⟩ := hrel
    have hsz := hb.size
    have hr := h.out.below hb
    have k0 := hr.n
    by_cases hlt : i < s.n
    · have hi16 : i < 16 := by omega
      have hlq : (t.heard.take i).length = i := List.length_take_of_le (by rw [len_heard]; omega)
      have k1 := hr.self
      have hrr := Lib.hid (hS.below hb hN)
      replace hr := Lib.hid hr
      by_cases e0 : i = s.self
      · have b0 : (((i : Nat) : Int) == (s.self : Int)) = true := by simp [e0]
        have hsnoc := Lib.hid (show t.heard.take i ++ [cid] = t.heard.take (i + 1) by rw [← heard_snoc t hi16, ht.out, vec_self e0])
        have hb9 : Below w.heap.size w (wr.alloc (.cells #[.int .i64 cid] 3)) := (hb).alloc (hsz) _
        have ho9 := (ho).alloc (.cells #[.int .i64 cid] 3)
        have hrow9 := row_new (wr) 3 1 eInt cid #[.int .i64 cid] rfl
        have hlo9 := (ho).lo
        have hsz9 : w.heap.size ≤ (wr).heap.size := hsz
        replace ho9 := Lib.hid ho9
        replace hb9 := Lib.hid hb9
        replace hrow9 := Lib.hid hrow9
        replace hlo9 := Lib.hid hlo9
        replace e0 := Lib.hid e0
        replace ho := Lib.hid ho
        go_wp2_with (first
          | (refine wpList_append_rows _ rfl (.tmp 73) (.tmp 75) 27 rfl w.heap.size 3 1 8 (.int .i64 0) Try.underlying27 info3 (by rfl) (by omega) eInt len_eInt one_eInt V c (t.heard.take i) (some ⟨(wr).heap.size, 0, none⟩) 1 ((wr).heap.size + 1) i 1 [cid] (by rfl) (by rfl) hlq rfl ho9.out hrow9.out (by omega) (by omega) (by rw [World.size_alloc]; omega) ?_
             intro V' c' wz hoz hgz hBz
             rw [hsnoc.out] at hoz
             have hbz : Below w.heap.size w wz := hb9.out.grown hgz (by rw [World.size_alloc]; omega) (fun k hk => (hlo9.out k hk).1)
             replace hoz := Lib.hid hoz
             replace hbz := Lib.hid hbz)
          | fail)
        go_roundw
        case rel => go_light; exact ⟨i + 1, V', c', by go_num, by omega, rfl, hoz.out, hbz.out⟩
        case measure => go_light; simp [intOf]; omega
      · have b0 : (((i : Nat) : Int) == (s.self : Int)) = false := by simp; omega
        obtain ⟨gS, oS, hSe, hgS, cs⟩ := int_at' hrr.out (hls.out i hlt)
        by_cases e1 : nth l i = 0
        · have b1 : (nth l i != 0) = false := by simp [e1]
          have hsnoc := Lib.hid (show t.heard.take i ++ [(0 : Int)] = t.heard.take (i + 1) by rw [← heard_snoc t hi16, ht.out, vec_not e0 (mat_zero (hls.out i hlt) e1)])
          have hb9 : Below w.heap.size w (wr.alloc (.cells #[.int .i64 (0 : Int)] 3)) := (hb).alloc (hsz) _
          have ho9 := (ho).alloc (.cells #[.int .i64 (0 : Int)] 3)
          have hrow9 := row_new (wr) 3 1 eInt (0 : Int) #[.int .i64 (0 : Int)] rfl
          have hlo9 := (ho).lo
          have hsz9 : w.heap.size ≤ (wr).heap.size := hsz
          replace ho9 := Lib.hid ho9
          replace hb9 := Lib.hid hb9
          replace hrow9 := Lib.hid hrow9
          replace hlo9 := Lib.hid hlo9
          replace e0 := Lib.hid e0
          replace e1 := Lib.hid e1
          replace ho := Lib.hid ho
          rw [hSe]
          go_wp2_with (first
            | (refine wpList_append_rows _ rfl (.tmp 73) (.tmp 75) 27 rfl w.heap.size 3 1 8 (.int .i64 0) Try.underlying27 info3 (by rfl) (by omega) eInt len_eInt one_eInt V c (t.heard.take i) (some ⟨(wr).heap.size, 0, none⟩) 1 ((wr).heap.size + 1) i 1 [(0 : Int)] (by rfl) (by rfl) hlq rfl ho9.out hrow9.out (by omega) (by omega) (by rw [World.size_alloc]; omega) ?_
               intro V' c' wz hoz hgz hBz
               rw [hsnoc.out] at hoz
               have hbz : Below w.heap.size w wz := hb9.out.grown hgz (by rw [World.size_alloc]; omega) (fun k hk => (hlo9.out k hk).1)
               replace hoz := Lib.hid hoz
               replace hbz := Lib.hid hbz)
            | fail)
          go_roundw
          case rel => go_light; exact ⟨i + 1, V', c', by go_num, by omega, rfl, hoz.out, hbz.out⟩
          case measure => go_light; simp [intOf]; omega
        · have b1 : (nth l i != 0) = true := by simp [e1]
          cases hla : late H i with
          | none =>
            have hsnoc := Lib.hid (show t.heard.take i ++ [(0 : Int)] = t.heard.take (i + 1) by rw [← heard_snoc t hi16, ht.out, vec_not e0 (mat_none hrep.out hi16 hla)])
            have hlb := Lib.hid (show lateI (late H i) = -1 by rw [hla]; rfl)
            replace hla := Lib.hid hla
            replace e0 := Lib.hid e0
            replace e1 := Lib.hid e1
            replace ho := Lib.hid ho
            rw [hSe]
            go_wp2_with (first
              | (go_at_call 73
                 refine (latest_any b F s hs X i wr hr.out hlen).mono ?_
                 rintro e w1 ⟨rfl, hb1⟩
                 rw [← hH.out, hlb.out]
                 have z1 := hb1.size
                 have hb01 := hb.trans (hb1.mono hsz)
                 have ho1 := Lib.hid (ho.out.keep hb1 (fun k hk => (ho.out.lo k hk).2))
                 replace hb01 := Lib.hid hb01)
              | fail)
            refine wp_region_quiet_lit (by kernel_rfl) (by kernel_rfl) ?_
            repeat (first | go_big_quiet_skip | go_big_quiet_step (fail))
            refine wpQuiet_nil ?_
            first | rintro _ ⟨nq, rfl⟩ | intro nq
            have hb9 : Below w.heap.size w ((w1.drewN nq).alloc (.cells #[.int .i64 (0 : Int)] 3)) := (below_drewN hb01.out nq).alloc (by show w.heap.size ≤ w1.heap.size; omega) _
            have ho9 := (ho1.out.keep (below_drewN (Below.refl w1.heap.size w1) nq) (fun k hk => (ho1.out.lo k hk).2)).alloc (.cells #[.int .i64 (0 : Int)] 3)
            have hrow9 := row_new ((w1.drewN nq)) 3 1 eInt (0 : Int) #[.int .i64 (0 : Int)] rfl
            have hlo9 := (ho1.out.keep (below_drewN (Below.refl w1.heap.size w1) nq) (fun k hk => (ho1.out.lo k hk).2)).lo
            have hsz9 : w.heap.size ≤ ((w1.drewN nq)).heap.size := by show w.heap.size ≤ w1.heap.size; omega
            replace ho9 := Lib.hid ho9
            replace hb9 := Lib.hid hb9
            replace hrow9 := Lib.hid hrow9
            replace hlo9 := Lib.hid hlo9
            go_wp2_with (first
              | (refine wpList_append_rows _ rfl (.tmp 73) (.tmp 75) 27 rfl w.heap.size 3 1 8 (.int .i64 0) Try.underlying27 info3 (by rfl) (by omega) eInt len_eInt one_eInt V c (t.heard.take i) (some ⟨((w1.drewN nq)).heap.size, 0, none⟩) 1 (((w1.drewN nq)).heap.size + 1) i 1 [(0 : Int)] (by rfl) (by rfl) hlq rfl ho9.out hrow9.out (by omega) (by omega) (by rw [World.size_alloc]; omega) ?_
                 intro V' c' wz hoz hgz hBz
                 rw [hsnoc.out] at hoz
                 have hbz : Below w.heap.size w wz := hb9.out.grown hgz (by rw [World.size_alloc]; omega) (fun k hk => (hlo9.out k hk).1)
                 replace hoz := Lib.hid hoz
                 replace hbz := Lib.hid hbz)
              | fail)
            go_roundw
            case rel => go_light; exact ⟨i + 1, V', c', by go_num, by omega, rfl, hoz.out, hbz.out⟩
            case measure => go_light; simp [intOf]; omega
          | some j =>
            obtain ⟨hjl', x, hx, hxq⟩ := late_some hla
            have hjl : j < hs.length := by
              have := (List.getElem?_eq_some_iff.1 hx).1
              rw [hH.out, List.length_map] at this; exact this
            have hjn : decide ((0 : Int) ≤ (j : Int)) = true := decide_eq_true (by omega)
            by_cases e2 : x.inc = nth l i
            · by_cases e3 : x.p.set = l
              · skip
                have hxl : x.p.set.length ≤ 9223372036854775807 := by have := (hrep.out.ok x (List.mem_of_getElem? hx)).1; omega
                have hsnoc := Lib.hid (show t.heard.take i ++ [x.p.cid] = t.heard.take (i + 1) by rw [← heard_snoc t hi16, ht.out, vec_yes hrep.out hi16 hlt e0 hl.out hla hx e2 e3])
                have b2 : (x.inc == nth l i) = true := by simp [e2]
                have b3 := Lib.hid (decide_eq_true e3)
                replace e2 := Lib.hid e2
                replace e3 := Lib.hid e3
                have hlb := Lib.hid (show lateI (late H i) = (j : Int) by rw [hla]; rfl)
                replace hla := Lib.hid hla
                replace hx := Lib.hid hx
                replace hxq := Lib.hid hxq
                replace e0 := Lib.hid e0
                replace e1 := Lib.hid e1
                replace ho := Lib.hid ho
                replace hSe := Lib.hid hSe
                rw [hSe.out]
                go_wp2_with (first
                  | (go_at_call 73
                     refine (latest_any b F s hs X i wr hr.out hlen).mono ?_
                     rintro e w1 ⟨rfl, hb1⟩
                     rw [← hH.out, hlb.out]
                     have z1 := hb1.size
                     have hb01 := hb.trans (hb1.mono hsz)
                     have hr1 := hr.out.below hb1
                     have m0 := hr1.all
                     obtain ⟨gA, oA, ry, hAe, hgA, hry, hcA⟩ := (hr1.own.row len_eHd).hd hjl
                     have hxe : x = ry.h := by have := hHk.out j; rw [hry.out, hx.out] at this; simpa using this
                     rw [hAe] at m0
                     have a1 : w1.cell? ⟨gA, oA + j * 11 + 1, none⟩ = some (.int .i64 x.inc) := by rw [hxe]; exact hcA 1 _ rfl
                     have s1c := hb1.cell (p := ⟨gS, oS + i, none⟩) (by show gS < wr.heap.size; omega)
                     rw [cs] at s1c
                     have a2 : w1.cell? ⟨gA, oA + j * 11 + 2, none⟩ = some (.slice ry.S x.p.set.length ry.cS) := by rw [hxe]; exact hcA 2 _ rfl
                     have a3 : w1.cell? ⟨gA, oA + j * 11 + 3, none⟩ = some (.int .i64 x.p.cid) := by rw [hxe]; exact hcA 3 _ rfl
                     have hrowA : RowAt w1 w1.heap.size 1 eInt ry.S x.p.set := by rw [hxe]; exact (hr1.each ry (List.mem_of_getElem? hry.out)).1.row
                     have hrowS : RowAt w1 w1.heap.size 1 eInt S l := (hS.below hb01 hN).more (by omega)
                     replace hrowA := Lib.hid hrowA
                     replace hrowS := Lib.hid hrowS
                     replace hxe := Lib.hid hxe
                     replace hcA := Lib.hid hcA
                     replace hAe := Lib.hid hAe
                     replace hr1 := Lib.hid hr1
                     have ho1 := Lib.hid (ho.out.keep hb1 (fun k hk => (ho.out.lo k hk).2))
                     replace hb01 := Lib.hid hb01)
                  | fail)
                refine wp_region_quiet_lit (by kernel_rfl) (by kernel_rfl) ?_
                repeat (first | go_big_quiet_skip | go_big_quiet_step (fail))
                refine wpQuiet_nil ?_
                first | rintro _ ⟨nq, rfl⟩ | intro nq
                go_wp2_with (first
                  | (go_at_call 70
                     refine (equal_any' ry.S (some ⟨gS, oS, none⟩) ry.cS cS w1.heap.size x.p.set l s.n (w1.drewN nq) (Nat.le_refl _) (hrowA.out.below (below_drewN (Below.refl _ _) nq) (Nat.le_refl _)) (by rw [← hSe.out]; exact hrowS.out.below (below_drewN (Below.refl _ _) nq) (Nat.le_refl _)) hl.out hxl).mono ?_
                     rintro e w3 ⟨rfl, hb3⟩
                     rw [show decide (x.p.set = l) = true from b3.out]
                     have z3 : w1.heap.size ≤ w3.heap.size := hb3.size
                     have hb13 : Below w1.heap.size w1 w3 := (below_drewN (Below.refl _ _) nq).trans hb3
                     have hb03 := Lib.hid (hb01.out.trans (hb13.mono (by omega)))
                     have ho3 := Lib.hid (ho1.out.keep hb13 (fun k hk => (ho1.out.lo k hk).2))
                     have n0 := (hb13.cell (p := ⟨b, 18, none⟩) (by show b < w1.heap.size; omega)).trans m0
                     have n3 := (hb13.cell (p := ⟨gA, oA + j * 11 + 3, none⟩) hgA).trans a3
                     replace hb13 := Lib.hid hb13
                     have hb9 : Below w.heap.size w (w3.alloc (.cells #[.int .i64 x.p.cid] 3)) := (hb03.out).alloc (by omega) _
                     have ho9 := (ho3.out).alloc (.cells #[.int .i64 x.p.cid] 3)
                     have hrow9 := row_new (w3) 3 1 eInt x.p.cid #[.int .i64 x.p.cid] rfl
                     have hlo9 := (ho3.out).lo
                     have hsz9 : w.heap.size ≤ (w3).heap.size := by omega
                     replace ho9 := Lib.hid ho9
                     replace hb9 := Lib.hid hb9
                     replace hrow9 := Lib.hid hrow9
                     replace hlo9 := Lib.hid hlo9)
                  | (refine wpList_append_rows _ rfl (.tmp 73) (.tmp 75) 27 rfl w.heap.size 3 1 8 (.int .i64 0) Try.underlying27 info3 (by rfl) (by omega) eInt len_eInt one_eInt V c (t.heard.take i) (some ⟨(w3).heap.size, 0, none⟩) 1 ((w3).heap.size + 1) i 1 [x.p.cid] (by rfl) (by rfl) hlq rfl ho9.out hrow9.out (by omega) (by omega) (by rw [World.size_alloc]; omega) ?_
                     intro V' c' wz hoz hgz hBz
                     rw [hsnoc.out] at hoz
                     have hbz : Below w.heap.size w wz := hb9.out.grown hgz (by rw [World.size_alloc]; omega) (fun k hk => (hlo9.out k hk).1)
                     replace hoz := Lib.hid hoz
                     replace hbz := Lib.hid hbz)
                  | fail)
                go_roundw
                case rel => go_light; exact ⟨i + 1, V', c', by go_num, by omega, rfl, hoz.out, hbz.out⟩
                case measure => go_light; simp [intOf]; omega
              · skip
                have hxl : x.p.set.length ≤ 9223372036854775807 := by have := (hrep.out.ok x (List.mem_of_getElem? hx)).1; omega
                have hsnoc := Lib.hid (show t.heard.take i ++ [(0 : Int)] = t.heard.take (i + 1) by rw [← heard_snoc t hi16, ht.out, vec_not e0 (mat_set hrep.out hi16 hl.out hla hx e3)])
                have b2 : (x.inc == nth l i) = true := by simp [e2]
                have b3 := Lib.hid (decide_eq_false e3)
                replace e2 := Lib.hid e2
                replace e3 := Lib.hid e3
                have hlb := Lib.hid (show lateI (late H i) = (j : Int) by rw [hla]; rfl)
                replace hla := Lib.hid hla
                replace hx := Lib.hid hx
                replace hxq := Lib.hid hxq
                replace e0 := Lib.hid e0
                replace e1 := Lib.hid e1
                replace ho := Lib.hid ho
                replace hSe := Lib.hid hSe
                rw [hSe.out]
                go_wp2_with (first
                  | (go_at_call 73
                     refine (latest_any b F s hs X i wr hr.out hlen).mono ?_
                     rintro e w1 ⟨rfl, hb1⟩
                     rw [← hH.out, hlb.out]
                     have z1 := hb1.size
                     have hb01 := hb.trans (hb1.mono hsz)
                     have hr1 := hr.out.below hb1
                     have m0 := hr1.all
                     obtain ⟨gA, oA, ry, hAe, hgA, hry, hcA⟩ := (hr1.own.row len_eHd).hd hjl
                     have hxe : x = ry.h := by have := hHk.out j; rw [hry.out, hx.out] at this; simpa using this
                     rw [hAe] at m0
                     have a1 : w1.cell? ⟨gA, oA + j * 11 + 1, none⟩ = some (.int .i64 x.inc) := by rw [hxe]; exact hcA 1 _ rfl
                     have s1c := hb1.cell (p := ⟨gS, oS + i, none⟩) (by show gS < wr.heap.size; omega)
                     rw [cs] at s1c
                     have a2 : w1.cell? ⟨gA, oA + j * 11 + 2, none⟩ = some (.slice ry.S x.p.set.length ry.cS) := by rw [hxe]; exact hcA 2 _ rfl
                     have a3 : w1.cell? ⟨gA, oA + j * 11 + 3, none⟩ = some (.int .i64 x.p.cid) := by rw [hxe]; exact hcA 3 _ rfl
                     have hrowA : RowAt w1 w1.heap.size 1 eInt ry.S x.p.set := by rw [hxe]; exact (hr1.each ry (List.mem_of_getElem? hry.out)).1.row
                     have hrowS : RowAt w1 w1.heap.size 1 eInt S l := (hS.below hb01 hN).more (by omega)
                     replace hrowA := Lib.hid hrowA
                     replace hrowS := Lib.hid hrowS
                     replace hxe := Lib.hid hxe
                     replace hcA := Lib.hid hcA
                     replace hAe := Lib.hid hAe
                     replace hr1 := Lib.hid hr1
                     have ho1 := Lib.hid (ho.out.keep hb1 (fun k hk => (ho.out.lo k hk).2))
                     replace hb01 := Lib.hid hb01)
                  | fail)
                refine wp_region_quiet_lit (by kernel_rfl) (by kernel_rfl) ?_
                repeat (first | go_big_quiet_skip | go_big_quiet_step (fail))
                refine wpQuiet_nil ?_
                first | rintro _ ⟨nq, rfl⟩ | intro nq
                go_wp2_with (first
                  | (go_at_call 70
                     refine (equal_any' ry.S (some ⟨gS, oS, none⟩) ry.cS cS w1.heap.size x.p.set l s.n (w1.drewN nq) (Nat.le_refl _) (hrowA.out.below (below_drewN (Below.refl _ _) nq) (Nat.le_refl _)) (by rw [← hSe.out]; exact hrowS.out.below (below_drewN (Below.refl _ _) nq) (Nat.le_refl _)) hl.out hxl).mono ?_
                     rintro e w3 ⟨rfl, hb3⟩
                     rw [show decide (x.p.set = l) = false from b3.out]
                     have z3 : w1.heap.size ≤ w3.heap.size := hb3.size
                     have hb13 : Below w1.heap.size w1 w3 := (below_drewN (Below.refl _ _) nq).trans hb3
                     have hb03 := Lib.hid (hb01.out.trans (hb13.mono (by omega)))
                     have ho3 := Lib.hid (ho1.out.keep hb13 (fun k hk => (ho1.out.lo k hk).2))
                     replace hb13 := Lib.hid hb13
                     have hb9 : Below w.heap.size w (w3.alloc (.cells #[.int .i64 (0 : Int)] 3)) := (hb03.out).alloc (by omega) _
                     have ho9 := (ho3.out).alloc (.cells #[.int .i64 (0 : Int)] 3)
                     have hrow9 := row_new (w3) 3 1 eInt (0 : Int) #[.int .i64 (0 : Int)] rfl
                     have hlo9 := (ho3.out).lo
                     have hsz9 : w.heap.size ≤ (w3).heap.size := by omega
                     replace ho9 := Lib.hid ho9
                     replace hb9 := Lib.hid hb9
                     replace hrow9 := Lib.hid hrow9
                     replace hlo9 := Lib.hid hlo9)
                  | (refine wpList_append_rows _ rfl (.tmp 73) (.tmp 75) 27 rfl w.heap.size 3 1 8 (.int .i64 0) Try.underlying27 info3 (by rfl) (by omega) eInt len_eInt one_eInt V c (t.heard.take i) (some ⟨(w3).heap.size, 0, none⟩) 1 ((w3).heap.size + 1) i 1 [(0 : Int)] (by rfl) (by rfl) hlq rfl ho9.out hrow9.out (by omega) (by omega) (by rw [World.size_alloc]; omega) ?_
                     intro V' c' wz hoz hgz hBz
                     rw [hsnoc.out] at hoz
                     have hbz : Below w.heap.size w wz := hb9.out.grown hgz (by rw [World.size_alloc]; omega) (fun k hk => (hlo9.out k hk).1)
                     replace hoz := Lib.hid hoz
                     replace hbz := Lib.hid hbz)
                  | fail)
                go_roundw
                case rel => go_light; exact ⟨i + 1, V', c', by go_num, by omega, rfl, hoz.out, hbz.out⟩
                case measure => go_light; simp [intOf]; omega
            · skip
              have hsnoc := Lib.hid (show t.heard.take i ++ [(0 : Int)] = t.heard.take (i + 1) by rw [← heard_snoc t hi16, ht.out, vec_not e0 (mat_inc hrep.out hi16 (hls.out i hlt) hla hx e2)])
              have b2 : (x.inc == nth l i) = false := by simp [e2]
              replace e2 := Lib.hid e2
              have hlb := Lib.hid (show lateI (late H i) = (j : Int) by rw [hla]; rfl)
              replace hla := Lib.hid hla
              replace hx := Lib.hid hx
              replace hxq := Lib.hid hxq
              replace e0 := Lib.hid e0
              replace e1 := Lib.hid e1
              replace ho := Lib.hid ho
              rw [hSe]
              go_wp2_with (first
                | (go_at_call 73
                   refine (latest_any b F s hs X i wr hr.out hlen).mono ?_
                   rintro e w1 ⟨rfl, hb1⟩
                   rw [← hH.out, hlb.out]
                   have z1 := hb1.size
                   have hb01 := hb.trans (hb1.mono hsz)
                   have hr1 := hr.out.below hb1
                   have m0 := hr1.all
                   obtain ⟨gA, oA, ry, hAe, hgA, hry, hcA⟩ := (hr1.own.row len_eHd).hd hjl
                   have hxe : x = ry.h := by have := hHk.out j; rw [hry.out, hx.out] at this; simpa using this
                   rw [hAe] at m0
                   have a1 : w1.cell? ⟨gA, oA + j * 11 + 1, none⟩ = some (.int .i64 x.inc) := by rw [hxe]; exact hcA 1 _ rfl
                   have s1c := hb1.cell (p := ⟨gS, oS + i, none⟩) (by show gS < wr.heap.size; omega)
                   rw [cs] at s1c
                   replace hxe := Lib.hid hxe
                   replace hcA := Lib.hid hcA
                   replace hAe := Lib.hid hAe
                   replace hr1 := Lib.hid hr1
                   have ho1 := Lib.hid (ho.out.keep hb1 (fun k hk => (ho.out.lo k hk).2))
                   replace hb01 := Lib.hid hb01)
                | fail)
              refine wp_region_quiet_lit (by kernel_rfl) (by kernel_rfl) ?_
              repeat (first | go_big_quiet_skip | go_big_quiet_step (fail))
              refine wpQuiet_nil ?_
              first | rintro _ ⟨nq, rfl⟩ | intro nq
              have hb9 : Below w.heap.size w ((w1.drewN nq).alloc (.cells #[.int .i64 (0 : Int)] 3)) := (below_drewN hb01.out nq).alloc (by show w.heap.size ≤ w1.heap.size; omega) _
              have ho9 := (ho1.out.keep (below_drewN (Below.refl w1.heap.size w1) nq) (fun k hk => (ho1.out.lo k hk).2)).alloc (.cells #[.int .i64 (0 : Int)] 3)
              have hrow9 := row_new ((w1.drewN nq)) 3 1 eInt (0 : Int) #[.int .i64 (0 : Int)] rfl
              have hlo9 := (ho1.out.keep (below_drewN (Below.refl w1.heap.size w1) nq) (fun k hk => (ho1.out.lo k hk).2)).lo
              have hsz9 : w.heap.size ≤ ((w1.drewN nq)).heap.size := by show w.heap.size ≤ w1.heap.size; omega
              replace ho9 := Lib.hid ho9
              replace hb9 := Lib.hid hb9
              replace hrow9 := Lib.hid hrow9
              replace hlo9 := Lib.hid hlo9
              go_wp2_with (first
                | (refine wpList_append_rows _ rfl (.tmp 73) (.tmp 75) 27 rfl w.heap.size 3 1 8 (.int .i64 0) Try.underlying27 info3 (by rfl) (by omega) eInt len_eInt one_eInt V c (t.heard.take i) (some ⟨((w1.drewN nq)).heap.size, 0, none⟩) 1 (((w1.drewN nq)).heap.size + 1) i 1 [(0 : Int)] (by rfl) (by rfl) hlq rfl ho9.out hrow9.out (by omega) (by omega) (by rw [World.size_alloc]; omega) ?_
                   intro V' c' wz hoz hgz hBz
                   rw [hsnoc.out] at hoz
                   have hbz : Below w.heap.size w wz := hb9.out.grown hgz (by rw [World.size_alloc]; omega) (fun k hk => (hlo9.out k hk).1)
                   replace hoz := Lib.hid hoz
                   replace hbz := Lib.hid hbz)
                | fail)
              go_roundw
              case rel => go_light; exact ⟨i + 1, V', c', by go_num, by omega, rfl, hoz.out, hbz.out⟩
              case measure => go_light; simp [intOf]; omega
    · obtain rfl : i = s.n := by omega
      replace hr := Lib.hid hr
      replace ho := Lib.hid ho
      go_wp2
      go_ret
      exact ⟨V, c, rfl, ho.out.rowN len_eInt, hb⟩
end Go.Proofs.Ytfbeggdbjpmppaa
