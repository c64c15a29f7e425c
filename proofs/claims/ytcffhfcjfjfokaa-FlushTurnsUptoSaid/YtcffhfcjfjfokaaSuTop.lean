/- Proves that FlushTurns returns true for every two scripts of bulk at most 1048576. -/
import Derived.Test.YtcffhfcjfjfokaaRows
import Derived.WalkKit
import Derived.ProofKit
import Derived.OpenShut
import Derived.JoinedCond
import Derived.Test.YtcffhfcjfjfokaaSu27
import Derived.Test.YtcffhfcjfjfokaaSu28
namespace Go.Proofs.Ytcffhfcjfjfokaa.flushTurns
open Go.ChangeShapes Go.WideShapes Go.ChangeAt Go.RowKit
set_option linter.unusedVariables false
theorem readable85 : Try.prog.readableRec 85 = true := by kernel_rfl
theorem row85 : 85 < Try.prog.types.size := of_decide_eq_true (by kernel_rfl)
set_option maxRecDepth 100000 in
/-- A script that came in, of bulk at most 1048576. -/
theorem came85 {H : Type} {enc : TypeId × Value → H} {W : World} {sp : Nat → Bool} {base : Nat} {v : Value} {d : DataW H} {p : List MemPlace} (hv : Value.okWide Try.prog W .any base 85 v)
    (h : DataW.Trod enc Try.prog W 0 sp true 85 v d p) (hk : Rows.uptoBulk d ≤ 1048576) :
    ∃ (n : Int) (A : Option Addr) (os : List Opx) (c : Nat), v = .agg #[.int .i64 n, .slice A os.length c] ∧ ScAt W W.heap.size A os := by
  obtain ⟨cs, rfl, _⟩ := okWide_struct Try.underlying85 hv
  obtain ⟨fuel, h⟩ := h
  obtain ⟨n, A, os, c, e, h1⟩ := open85 (x := (d, p)) h hk
  refine ⟨n, A, os, c, ?_, h1⟩
  congr 1
  apply Array.toList_inj.1
  exact e
set_option maxRecDepth 100000 in
theorem contract (H : Type) (enc : TypeId × Value → H) (W : World) (base : Nat) (args : Array Value) (ds gs : List (DataW H)) (before : List MemPlace)
    (hval : ∀ (j : Nat) t v, Try.f10.params[j]? = some t → args[j]? = some v → Value.okWide Try.prog W .any base t v)
    (hW : DataW.Whole enc Try.prog Try.f10.params.toList Rows.flushTurnsSpec.vars false W args.toList ds gs before) (hk : Rows.uptoSmall H (ds ++ gs) = true) :
    Calls Try.prog 10 args W fun e W' => ∃ v, e = .returned v ∧ Rows.flushTurnsSpec.post enc Try.prog Try.f10 false true false false W args v W' := by
  have hW' := hW
  obtain ⟨p, q, hA0, hV, rfl, hfz, hnd⟩ := hW
  have hA : DataW.TrodAll enc Try.prog W 0 (fun _ => true) true Try.f10.params.toList args.toList ds p := hA0
  rw [Try.params10] at hA hval
  obtain ⟨v0, vs0, d0, ds0, p0, q0, hargs, rfl, rfl, h0, r0⟩ := trodAll_cons hA
  obtain ⟨v1, vs1, d1, ds1, p1, q1, rfl, rfl, rfl, h1, r1⟩ := trodAll_cons r0
  obtain ⟨rfl, rfl, rfl⟩ := trodAll_nil r1
  obtain rfl : args = #[v0, v1] := by cases args; simp_all
  obtain ⟨rfl, rfl⟩ := trodVars_none hV
  have hkb : Rows.uptoBulk d0 ≤ 1048576 ∧ Rows.uptoBulk d1 ≤ 1048576 := by
    have := of_decide_eq_true hk
    simp [Rows.uptoBulkAll] at this
    omega
  obtain ⟨n, A, os, c, rfl, hc⟩ := came85 (hval 0 85 v0 rfl rfl) h0 hkb.1
  obtain ⟨n', A', os', c', rfl, hd⟩ := came85 (hval 1 85 v1 rfl rfl) h1 hkb.2
  clear hA0
  simp only [List.append_nil] at hW'
  refine (turns_walk n n' hc hd).mono fun e W' ⟨he, hb⟩ => ?_
  subst he
  have hlt : ∀ x ∈ p0 ++ p1, x.block < W.heap.size := fun x hx => by simpa using hW'.lt x (by simpa using hx)
  have hargs : ∀ sp : Nat → Bool, (∀ x ∈ p0 ++ p1, sp x.block = true) → DataW.TrodAll enc Try.prog W' 0 sp true Try.f10.params.toList #[Value.agg #[.int .i64 n, .slice A os.length c], Value.agg #[.int .i64 n', .slice A' os'.length c']].toList [d0, d1] (p0 ++ p1) := fun sp hsp => by
    have e1 := trodAll_cons_mk (WideElems.Trod_stays laidOut readable85 row85 h1 (fun x hx => hb.same (hlt x (List.mem_append_right _ hx))) (fun x hx => hsp x (List.mem_append_right _ hx))) trodAll_mk0
    have e0 := trodAll_cons_mk (WideElems.Trod_stays laidOut readable85 row85 h0 (fun x hx => hb.same (hlt x (List.mem_append_left _ hx))) (fun x hx => hsp x (List.mem_append_left _ hx))) e1
    rw [List.append_nil] at e0
    rw [Try.params10]
    exact e0
  exact ⟨_, rfl, post_of_below (pa := p0 ++ p1) (pv := []) hW' (fun _ _ _ => (trodAll_cons_mk (shut_bool Try.underlying4 _) trodAll_mk0))
    (fun sp hsp => hargs sp (fun x hx => hsp x (by simpa using hx))) (fun _ _ => rfl) (by simp)
    hb (ok_one (by kernel_rfl) rfl (okWide_bool_mk Try.underlying4 _))⟩
set_option maxRecDepth 100000 in
theorem lifted (os : Os) (started : os.Started) (H : Type) (enc : TypeId × Value → H) (F : Stop.Interp) :
    ReturnsInHanded {} Try.checked os 10 .any ((Rows.OpenSpec.upto Rows.flushTurnsSpec).pre6 enc Try.prog Try.f10 Rows.flushTurnsUptoRow.domain false) (((Rows.OpenSpec.upto Rows.flushTurnsSpec).at F).post enc Try.prog Try.f10 false true false false) := by
  refine returnsInHanded_of_cond (C := Try.checked) (s := Rows.OpenSpec.upto Rows.flushTurnsSpec) (k := Rows.uptoSmall) rfl own started (by kernel_rfl) Try.func10
    (OpenSpec.witness (enc := enc) (C := Try.checked) (s := Rows.OpenSpec.upto Rows.flushTurnsSpec) (k := Rows.uptoSmall) rfl false ⟨#[], #[.agg #[.int .i64 0, .slice none 0 0], .agg #[.int .i64 0, .slice none 0 0]], []⟩ 8 (by kernel_rfl) (by kernel_rfl) (by kernel_rfl)
      (x := ([.agg [.lit (.int .i64 0), .nil], .agg [.lit (.int .i64 0), .nil]], [], [])) (by kernel_rfl) rfl (by kernel_rfl)) ?_
  intro W base args ds gs before hval hW _ hk _
  exact contract H enc W base args ds gs before hval hW hk

theorem over : Rows.flushTurnsUptoRow.holds Try.pinned (Rows.OpenSpec.upto Rows.flushTurnsSpec) :=
  OpenClaim.holds_of_cond 10 Try.f10 rfl rfl rfl rfl rfl rfl rfl ⟨rfl, rfl, rfl, rfl, rfl⟩ rfl rfl rfl rfl rfl (by kernel_rfl) Try.func10 (by kernel_rfl)
    (of_decide_eq_true (by kernel_rfl)) (by unfold Func.isWrapper; first | (rw [if_pos (by decide +kernel)]; kernel_rfl) | (rw [if_neg (by decide +kernel)]; exact ⟨rfl, rfl⟩))
    (fun os started H enc _ F => lifted os started H enc F)

/-- THE STATEMENT. -/
theorem proved : Rows.FlushTurnsUptoSaid :=
  over
#print axioms proved
end Go.Proofs.Ytcffhfcjfjfokaa.flushTurns
