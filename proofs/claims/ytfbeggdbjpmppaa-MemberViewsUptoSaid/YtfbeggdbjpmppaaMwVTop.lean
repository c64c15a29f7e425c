/- Proves that MemberViews (every View and Changing) returns true for every case of bulk at most 1048576. -/
import Derived.Test.YtfbeggdbjpmppaaRows
import Derived.Test.YtfbeggdbjpmppaaMw20
namespace Go.Proofs.Ytfbeggdbjpmppaa.memberViews
open Go.ChangeShapes Go.WideShapes Go.ChangeAt Go.RowKit
set_option linter.unusedVariables false
set_option maxRecDepth 100000 in
set_option maxHeartbeats 1000000 in
theorem law_any (n s i f : Int) (A : Option Addr) (c N : Nat) (os : List OpX) (w : World) (hN : N ≤ w.heap.size) (hA : OpsAt w N A os) :
    Calls Try.prog 8 #[.agg (caseA n s i f A os.length c)] w fun x w' => x = .returned (.bool true) ∧ Below w.heap.size w w' := by
  obtain ⟨wA, hwA⟩ : ∃ wA, wA = w.alloc (.cells (caseA n s i f A os.length c) 59) := ⟨_, rfl⟩
  have hbA : Below w.heap.size w wA := by rw [hwA]; exact below_box1 _ _ _
  have oA : wA.rangeAt w.heap.size 0 (caseA n s i f A os.length c).toList := by rw [hwA]; exact range_new w (caseA n s i f A os.length c) 59
  have hld : (loadVar 59 ⟨w.heap.size, 0, none⟩).run Try.prog wA = .ok (.agg (caseA n s i f A os.length c)) wA := by
    have c0 : wA.cell? ⟨w.heap.size, 0, none⟩ = some (.int .i64 n) := oA 0 _ rfl
    have c1 : wA.cell? ⟨w.heap.size, 1, none⟩ = some (.int .i64 s) := oA 1 _ rfl
    have c2 : wA.cell? ⟨w.heap.size, 2, none⟩ = some (.int .i64 i) := oA 2 _ rfl
    have c3 : wA.cell? ⟨w.heap.size, 3, none⟩ = some (.int .i64 f) := oA 3 _ rfl
    have c4 : wA.cell? ⟨w.heap.size, 4, none⟩ = some (.slice A os.length c) := oA 4 _ rfl
    clear oA hwA hbA hA
    go_simp
  have hA' := hA.up (hbA.mono hN) (Nat.le_refl _)
  have hz := hbA.size
  replace hA' := Lib.hid hA'
  replace hld := Lib.hid hld
  replace hwA := Lib.hid hwA
  replace hbA := Lib.hid hbA
  clear oA hA
  go_enter Try.func8, Try.ntmps8
  go_wp2_with (first
    | (rw [← hwA.out]
       refine wpList_loadR rfl 59 (.tmp 1) rfl w.heap.size 0 (by rfl) _ (by exact hld.out) ?_)
    | fail)
  go_wp2_with (first
    | (go_at_call 25
       refine (walk_any n s i f A c N os 6 7 wA (by omega) hA'.out).mono ?_
       rintro e w1 ⟨rfl, hb1⟩)
    | fail)
  go_ret
  exact ⟨rfl, hbA.out.trans (hb1.mono hz)⟩
set_option maxRecDepth 100000 in
theorem contract (H : Type) (enc : TypeId × Value → H) (W : World) (base : Nat) (args : Array Value) (ds gs : List (DataW H)) (before : List MemPlace)
    (hval : ∀ (j : Nat) t v, Try.f8.params[j]? = some t → args[j]? = some v → Value.okWide Try.prog W .any base t v)
    (hW : DataW.Whole enc Try.prog Try.f8.params.toList Rows.memberViewsSpec.vars false W args.toList ds gs before) (hk : Rows.uptoSmall H (ds ++ gs) = true) :
    Calls Try.prog 8 args W fun e W' => ∃ v, e = .returned v ∧ Rows.memberViewsSpec.post enc Try.prog Try.f8 false true false false W args v W' := by
  have hW' := hW
  obtain ⟨p, q, hA0, hV, rfl, hfz, hnd⟩ := hW
  have hA : DataW.TrodAll enc Try.prog W 0 (fun _ => true) true Try.f8.params.toList args.toList ds p := hA0
  rw [Try.params8] at hA hval
  obtain ⟨v0, vs0, d0, ds0, p0, q0, hargs, rfl, rfl, h0, r0⟩ := trodAll_cons hA
  obtain ⟨rfl, rfl, rfl⟩ := trodAll_nil r0
  obtain rfl : args = #[v0] := by cases args; simp_all
  obtain ⟨rfl, rfl⟩ := trodVars_none hV
  have hkb : Rows.uptoBulk d0 ≤ 1048576 := by
    have := of_decide_eq_true hk
    simpa [Rows.uptoBulkAll] using this
  obtain ⟨n, s, i, f, A, c, os, rfl, hOs⟩ := came59 (hval 0 59 v0 rfl rfl) h0 hkb
  clear hA0
  simp only [List.append_nil] at hW'
  refine (law_any n s i f A c W.heap.size os W (Nat.le_refl _) hOs).mono fun e W' ⟨he, hb⟩ => ?_
  subst he
  have hlt : ∀ x ∈ p0, x.block < W.heap.size := fun x hx => by simpa using hW'.lt x (by simpa using hx)
  have h0k := h0
  have hargs : ∀ sp : Nat → Bool, (∀ x ∈ p0, sp x.block = true) → DataW.TrodAll enc Try.prog W' 0 sp true Try.f8.params.toList #[Value.agg (caseA n s i f A os.length c)].toList [d0] p0 := fun sp hsp => by
    have h1 := trodAll_cons_mk (WideElems.Trod_stays laidOut readable59 row59 h0k (fun x hx => hb.same (hlt x hx)) hsp) trodAll_mk0
    rw [List.append_nil] at h1
    rw [Try.params8]
    exact h1
  exact ⟨_, rfl, post_of_below (pa := p0) (pv := []) hW' (fun _ _ _ => (trodAll_cons_mk (shut_bool Try.underlying4 _) trodAll_mk0))
    (fun sp hsp => hargs sp (fun x hx => hsp x (by simpa using hx))) (fun _ _ => rfl) (by simp)
    hb (ok_one (by kernel_rfl) rfl (okWide_bool_mk Try.underlying4 _))⟩
set_option maxRecDepth 100000 in
theorem lifted (os : Os) (started : os.Started) (H : Type) (enc : TypeId × Value → H) (F : Stop.Interp) :
    ReturnsInHanded {} Try.checked os 8 .any ((Rows.OpenSpec.upto Rows.memberViewsSpec).pre6 enc Try.prog Try.f8 Rows.memberViewsUptoRow.domain false) (((Rows.OpenSpec.upto Rows.memberViewsSpec).at F).post enc Try.prog Try.f8 false true false false) := by
  refine returnsInHanded_of_cond (C := Try.checked) (s := Rows.OpenSpec.upto Rows.memberViewsSpec) (k := Rows.uptoSmall) rfl own started (by kernel_rfl) Try.func8
    (OpenSpec.witness (enc := enc) (C := Try.checked) (s := Rows.OpenSpec.upto Rows.memberViewsSpec) (k := Rows.uptoSmall) rfl false ⟨#[], #[.agg #[.int .i64 0, .int .i64 0, .int .i64 0, .int .i64 0, .slice none 0 0]], []⟩ 8 (by kernel_rfl) (by kernel_rfl) (by kernel_rfl)
      (x := ([.agg [.lit (.int .i64 0), .lit (.int .i64 0), .lit (.int .i64 0), .lit (.int .i64 0), .nil]], [], [])) (by kernel_rfl) rfl (by kernel_rfl)) ?_
  intro W base args ds gs before hval hW _ hk _
  exact contract H enc W base args ds gs before hval hW hk

theorem over : Rows.memberViewsUptoRow.holds Try.pinned (Rows.OpenSpec.upto Rows.memberViewsSpec) :=
  OpenClaim.holds_of_cond 8 Try.f8 rfl rfl rfl rfl rfl rfl rfl ⟨rfl, rfl, rfl, rfl, rfl⟩ rfl rfl rfl rfl rfl (by kernel_rfl) Try.func8 (by kernel_rfl)
    (of_decide_eq_true (by kernel_rfl)) (by unfold Func.isWrapper; first | (rw [if_pos (by decide +kernel)]; kernel_rfl) | (rw [if_neg (by decide +kernel)]; exact ⟨rfl, rfl⟩))
    (fun os started H enc _ F => lifted os started H enc F)

/-- THE STATEMENT. -/
theorem proved : Rows.MemberViewsUptoSaid :=
  over
#print axioms proved
end Go.Proofs.Ytfbeggdbjpmppaa.memberViews
