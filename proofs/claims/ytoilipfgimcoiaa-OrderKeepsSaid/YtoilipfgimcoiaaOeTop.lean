/- Proves that OrderKeeps answers true for every number of members, every window and every list of acts: a message that a member has taken and that some member has not delivered is in its Messages byte for byte, and of a frozen member Content and Messages stay the same. No conditions. -/
import Derived.Test.YtoilipfgimcoiaaRows
import Derived.Test.YtoilipfgimcoiaaOe21
import Derived.Test.YtoilipfgimcoiaaOe24
namespace Go.Proofs.Ytoilipfgimcoiaa.orderKeeps
open Go.ChangeShapes Go.WideShapes Go.ChangeAt Go.RowKit
set_option linter.unusedVariables false
set_option maxRecDepth 100000 in
theorem lifted (os : _root_.Go.Os) (started : os.Started) (H : Type) (enc : TypeId × Value → H) :
    ReturnsInHanded {} Try.checked os 7 .any (Rows.orderKeepsSpec.pre6 enc Try.prog Try.f7 Rows.orderKeepsRow.domain false) (Rows.orderKeepsSpec.post enc Try.prog Try.f7 false true false false) := by
  refine returnsInHanded_of_change (C := Try.checked) own started (by kernel_rfl) Try.func7
    (ChangeSpec.witness6 (enc := enc) (C := Try.checked) false ⟨#[], #[.int .i64 0, .int .i64 0, .slice none 0 0], []⟩ 8 (by kernel_rfl) (by kernel_rfl) (by kernel_rfl) (by kernel_rfl)) ?_
  intro W base args ds gs before hval0 hW hcnd _
  have hval : ∀ (j : Nat) t v, Try.f7.params[j]? = some t → args[j]? = some v → Value.okWide Try.prog W .any base t v := hval0
  have hW' := hW
  obtain ⟨p, q, hA0, hV, rfl, hfz, hnd⟩ := hW
  have hA : DataW.TrodAll enc Try.prog W 0 (fun _ => true) true Try.f7.params.toList args.toList ds p := hA0
  rw [Try.params7] at hA hval
  obtain ⟨v0, vs0, d0, ds0, p0, q0, hargs, rfl, rfl, h0, r0⟩ := trodAll_cons hA
  obtain ⟨v1, vs1, d1, ds1, p1, q1, rfl, rfl, rfl, h1, r1⟩ := trodAll_cons r0
  obtain ⟨v2, vs2, d2, ds2, p2, q2, rfl, rfl, rfl, h2, r2⟩ := trodAll_cons r1
  obtain ⟨rfl, rfl, rfl⟩ := trodAll_nil r2
  obtain rfl : args = #[v0, v1, v2] := by cases args; simp_all
  obtain ⟨rfl, rfl⟩ := trodVars_none hV
  obtain ⟨m0, rfl, m1, m2⟩ := came3 (hval 0 3 v0 rfl rfl) h0
  obtain ⟨w0, rfl, w1, w2⟩ := came3 (hval 1 3 v1 rfl rfl) h1
  obtain ⟨A, c, l, rfl, rl, ll⟩ := came22 (hval 2 22 v2 rfl rfl) h2
  clear hA0
  simp only [List.append_nil] at hW'
  refine (orderKeeps_walk m0 w0 A c l.length l W m1 m2 w1 w2 rfl rl).mono fun e W' ⟨he, hb⟩ => ?_
  subst he
  have hlt : ∀ x ∈ p0 ++ (p1 ++ p2), x.block < W.heap.size := fun x hx => by simpa using hW'.lt x (by simpa using hx)
  have hargs : ∀ sp : Nat → Bool, (∀ x ∈ p0 ++ (p1 ++ p2), sp x.block = true) → DataW.TrodAll enc Try.prog W' 0 sp true Try.f7.params.toList #[Value.int .i64 m0, Value.int .i64 w0, Value.slice A l.length c].toList [d0, d1, d2] (p0 ++ (p1 ++ p2)) := fun sp hsp => by
    have e2 := trodAll_cons_mk (WideElems.Trod_stays laidOut readable22 row22 h2 (fun x hx => hb.same (hlt x (by simp [hx]))) (fun x hx => hsp x (by simp [hx]))) trodAll_mk0
    have e1 := trodAll_cons_mk (WideElems.Trod_stays laidOut readable3 row3 h1 (fun x hx => hb.same (hlt x (by simp [hx]))) (fun x hx => hsp x (by simp [hx]))) e2
    have e0 := trodAll_cons_mk (WideElems.Trod_stays laidOut readable3 row3 h0 (fun x hx => hb.same (hlt x (by simp [hx]))) (fun x hx => hsp x (by simp [hx]))) e1
    rw [List.append_nil] at e0
    rw [Try.params7]
    exact e0
  exact ⟨_, rfl, post_of_below (pa := p0 ++ (p1 ++ p2)) (pv := []) hW' (fun _ _ _ => (trodAll_cons_mk (shut_bool Try.underlying4 _) trodAll_mk0))
    (fun sp hsp => hargs sp (fun x hx => hsp x (by simpa using hx))) (fun _ _ => rfl) (by simp)
    hb (ok_one (by kernel_rfl) rfl (okWide_bool_mk Try.underlying4 _))⟩

theorem over : Rows.orderKeepsRow.holds Try.pinned (OpenSpec.ofChange Rows.orderKeepsSpec) :=
  OpenClaim.holds_of_wide 7 Try.f7 rfl rfl rfl rfl rfl rfl rfl ⟨rfl, rfl, rfl, rfl, rfl⟩ rfl rfl rfl rfl rfl (by kernel_rfl) Try.func7 (by kernel_rfl)
    (of_decide_eq_true (by kernel_rfl)) (by unfold Func.isWrapper; first | (rw [if_pos (by decide +kernel)]; kernel_rfl) | (rw [if_neg (by decide +kernel)]; exact ⟨rfl, rfl⟩))
    (fun os started H enc _ => lifted os started H enc)

/-- THE STATEMENT. -/
theorem proved : Rows.OrderKeepsSaid :=
  over
#print axioms proved
end Go.Proofs.Ytoilipfgimcoiaa.orderKeeps
