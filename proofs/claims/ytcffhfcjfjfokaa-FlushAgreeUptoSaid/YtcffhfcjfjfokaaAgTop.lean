/- Proves that FlushAgree returns true for every case of bulk at most 1048576. -/
import Derived.Test.YtcffhfcjfjfokaaRows
import Derived.WalkKit
import Derived.ProofKit
import Derived.OpenShut
import Derived.JoinedCond
import Derived.Test.YtcffhfcjfjfokaaAg9
namespace Go.Proofs.Ytcffhfcjfjfokaa.flushAgree
open Go.ChangeShapes Go.WideShapes Go.ChangeAt Go.RowKit
set_option linter.unusedVariables false
theorem readable68 : Try.prog.readableRec 68 = true := by kernel_rfl
theorem row68 : 68 < Try.prog.types.size := of_decide_eq_true (by kernel_rfl)
set_option maxRecDepth 100000 in
/-- A case that came in, of bulk at most 1048576. -/
theorem came68 {H : Type} {enc : TypeId × Value → H} {W : World} {sp : Nat → Bool} {base : Nat} {v : Value} {d : DataW H} {p : List MemPlace} (hv : Value.okWide Try.prog W .any base 68 v)
    (h : DataW.Trod enc Try.prog W 0 sp true 68 v d p) (hk : Rows.uptoBulk d ≤ 1048576) :
    ∃ cs : Array Value, v = .agg cs ∧ ∃ (A T M : Option Addr) (cA cT cM : Nat) (fs : List Fl) (tl : List Int) (ds : List Dt) (twice far more : Int), cs = mixC A T M fs.length cA tl.length cT ds.length cM twice far more ∧
      Fls W W.heap.size A fs ∧ Small fs ∧ RowAt W W.heap.size 1 eInt T tl ∧ tl.length ≤ 9223372036854775807 ∧ (∀ v ∈ tl, (Lit.int .i64 v).wf = true) ∧ (Lit.int .i64 twice).wf = true ∧ (Lit.int .i64 far).wf = true ∧ (Lit.int .i64 more).wf = true ∧
      Dts W W.heap.size M ds ∧ SmallD ds ∧ KeyD ds := by
  obtain ⟨cs, rfl, _⟩ := okWide_struct Try.underlying68 hv
  obtain ⟨fuel, h⟩ := h
  obtain ⟨A, T, M, fs, tl, ds, cA, cT, cM, twice, far, more, e, h1, h4, h5, t1, t2, t3, w1, w2, w3, h6, h7, h8, h9⟩ := open68 (x := (d, p)) h
  refine ⟨cs, rfl, A, T, M, cA, cT, cM, fs, tl, ds, twice, far, more, ?_, h1, ⟨Nat.le_trans h4 hk, fun f hf => ⟨Nat.le_trans (h5 f hf).1 hk, Nat.le_trans (h5 f hf).2 hk⟩⟩, t1, by have := Nat.le_trans t2 hk; omega, t3, w1, w2, w3, h6, ⟨Nat.le_trans h7 hk, fun d hd => Nat.le_trans (h8 d hd) hk⟩, h9⟩
  apply Array.toList_inj.1
  exact e
set_option maxRecDepth 100000 in
theorem contract (H : Type) (enc : TypeId × Value → H) (W : World) (base : Nat) (args : Array Value) (ds gs : List (DataW H)) (before : List MemPlace)
    (hval : ∀ (j : Nat) t v, Try.f6.params[j]? = some t → args[j]? = some v → Value.okWide Try.prog W .any base t v)
    (hW : DataW.Whole enc Try.prog Try.f6.params.toList Rows.flushAgreeSpec.vars false W args.toList ds gs before) (hk : Rows.uptoSmall H (ds ++ gs) = true) :
    Calls Try.prog 6 args W fun e W' => ∃ v, e = .returned v ∧ Rows.flushAgreeSpec.post enc Try.prog Try.f6 false true false false W args v W' := by
  have hW' := hW
  obtain ⟨p, q, hA0, hV, rfl, hfz, hnd⟩ := hW
  have hA : DataW.TrodAll enc Try.prog W 0 (fun _ => true) true Try.f6.params.toList args.toList ds p := hA0
  rw [Try.params6] at hA hval
  obtain ⟨v0, vs0, d0, ds0, p0, q0, hargs, rfl, rfl, h0, r0⟩ := trodAll_cons hA
  obtain ⟨rfl, rfl, rfl⟩ := trodAll_nil r0
  obtain rfl : args = #[v0] := by cases args; simp_all
  obtain ⟨rfl, rfl⟩ := trodVars_none hV
  have hkb : Rows.uptoBulk d0 ≤ 1048576 := by
    have := of_decide_eq_true hk
    simpa [Rows.uptoBulkAll] using this
  obtain ⟨v, rfl, hAg⟩ := came68 (hval 0 68 v0 rfl rfl) h0 hkb
  obtain ⟨A, T, M, cA, cT, cM, fs, tl, dz, twice, far, more, rfl, hA1, hsm, hT, htl, hwf, hw2, hw3, hw4, hM, hsd, hkd⟩ := hAg
  clear hA0
  simp only [List.append_nil] at hW'
  refine (flushAgree_walk A T M cA cT cM W.heap.size fs tl dz twice far more W (Nat.le_refl _) hA1 hsm hT htl hwf hw2 hw3 hw4 hM hsd hkd).mono fun e W' ⟨he, hb⟩ => ?_
  subst he
  have hlt : ∀ x ∈ p0, x.block < W.heap.size := fun x hx => by simpa using hW'.lt x (by simpa using hx)
  have h0k := h0
  have hargs : ∀ sp : Nat → Bool, (∀ x ∈ p0, sp x.block = true) → DataW.TrodAll enc Try.prog W' 0 sp true Try.f6.params.toList #[Value.agg (mixC A T M fs.length cA tl.length cT dz.length cM twice far more)].toList [d0] p0 := fun sp hsp => by
    have h1 := trodAll_cons_mk (WideElems.Trod_stays laidOut readable68 row68 h0k (fun x hx => hb.same (hlt x hx)) hsp) trodAll_mk0
    rw [List.append_nil] at h1
    rw [Try.params6]
    exact h1
  exact ⟨_, rfl, post_of_below (pa := p0) (pv := []) hW' (fun _ _ _ => (trodAll_cons_mk (shut_bool Try.underlying4 _) trodAll_mk0))
    (fun sp hsp => hargs sp (fun x hx => hsp x (by simpa using hx))) (fun _ _ => rfl) (by simp)
    hb (ok_one (by kernel_rfl) rfl (okWide_bool_mk Try.underlying4 _))⟩
set_option maxRecDepth 100000 in
theorem lifted (os : Os) (started : os.Started) (H : Type) (enc : TypeId × Value → H) (F : Stop.Interp) :
    ReturnsInHanded {} Try.checked os 6 .any ((Rows.OpenSpec.upto Rows.flushAgreeSpec).pre6 enc Try.prog Try.f6 Rows.flushAgreeUptoRow.domain false) (((Rows.OpenSpec.upto Rows.flushAgreeSpec).at F).post enc Try.prog Try.f6 false true false false) := by
  refine returnsInHanded_of_cond (C := Try.checked) (s := Rows.OpenSpec.upto Rows.flushAgreeSpec) (k := Rows.uptoSmall) rfl own started (by kernel_rfl) Try.func6
    (OpenSpec.witness (enc := enc) (C := Try.checked) (s := Rows.OpenSpec.upto Rows.flushAgreeSpec) (k := Rows.uptoSmall) rfl false ⟨#[], #[.agg #[.slice none 0 0, .slice none 0 0, .int .i64 0, .int .i64 0, .int .i64 0, .slice none 0 0]], []⟩ 8 (by kernel_rfl) (by kernel_rfl) (by kernel_rfl)
      (x := ([.agg [.nil, .nil, .lit (.int .i64 0), .lit (.int .i64 0), .lit (.int .i64 0), .nil]], [], [])) (by kernel_rfl) rfl (by kernel_rfl)) ?_
  intro W base args ds gs before hval hW _ hk _
  exact contract H enc W base args ds gs before hval hW hk

theorem over : Rows.flushAgreeUptoRow.holds Try.pinned (Rows.OpenSpec.upto Rows.flushAgreeSpec) :=
  OpenClaim.holds_of_cond 6 Try.f6 rfl rfl rfl rfl rfl rfl rfl ⟨rfl, rfl, rfl, rfl, rfl⟩ rfl rfl rfl rfl rfl (by kernel_rfl) Try.func6 (by kernel_rfl)
    (of_decide_eq_true (by kernel_rfl)) (by unfold Func.isWrapper; first | (rw [if_pos (by decide +kernel)]; kernel_rfl) | (rw [if_neg (by decide +kernel)]; exact ⟨rfl, rfl⟩))
    (fun os started H enc _ F => lifted os started H enc F)

/-- THE STATEMENT. -/
theorem proved : Rows.FlushAgreeUptoSaid :=
  over
#print axioms proved
end Go.Proofs.Ytcffhfcjfjfokaa.flushAgree
