/- The keys of this program's maps: slots and numbers. -/
import Derived.Test.YtcffhfcjfjfokaaSmall
import Derived.Test.YtcffhfcjfjfokaaMaps
namespace Go.Proofs.Ytcffhfcjfjfokaa
open Go.RowKit
theorem laidOut_ : laidOutB Try.prog = true := by kernel_rfl
theorem keyRow66 : (66 : TypeId) < Try.prog.types.size := of_decide_eq_true (by kernel_rfl)
theorem keyWide66 : (match Try.prog.underlying 66 with | some (.array _ _) | some (.struct _) => true | _ => false) = true := by rw [Try.underlying66]
theorem keyDeep66 : Try.prog.keyTypeAt 2 66 = true := by kernel_rfl
set_option maxRecDepth 100000 in
theorem lawSlot : Maps.Keyed Try.prog 66 := Maps.Keyed.of_law (deep_law_laid laidOut_ (m := 2) (by omega) keyRow66 keyDeep66 keyWide66)
theorem keyType66 : Try.prog.keyType 66 = true := by kernel_rfl
theorem typesSize : Try.prog.types.size = 197 := by kernel_rfl
theorem cells66 : Try.prog.cellsOf 66 = 2 := by kernel_rfl
theorem cells3 : Try.prog.cellsOf 3 = 1 := by kernel_rfl
theorem key_two {P : Program} {k e : TypeId} {f0 f1 : Field} (hu : P.underlying k = some (.struct #[f0, f1])) (he : P.underlying e = some (.int .i64)) (hc : P.cellsOf k = 2) (hce : P.cellsOf e = 1) (hk : P.keyType k = true)
    (h0 : f0.type = e) (h1 : f1.type = e) (o0 : f0.offset = 0) (o1 : f1.offset = 1) (n0 : (f0.name != "_") = true) (n1 : (f1.name != "_") = true)
    (a b : Int) (ha : (Lit.int .i64 a).wf = true) (hb : (Lit.int .i64 b).wf = true) (hs : 0 < P.types.size) : ∃ l, keyOf P k (.agg #[.int .i64 a, .int .i64 b]) = some l := by
  obtain ⟨d, hd⟩ : ∃ d, P.types.size = d + 1 := ⟨P.types.size - 1, by omega⟩
  refine ⟨.string (keyBytes [.int .i64 a, .int .i64 b]), ?_⟩
  have hi : ∀ n : Int, (Lit.int .i64 n).wf = true → P.keyLits (d + 1) e [.int .i64 n] = some [.int .i64 n] := fun n hn => by
    unfold Program.keyLits; simp [he, hn]
  have hs2 : P.keyLits (d + 1 + 1) k [.int .i64 a, .int .i64 b] = some [.int .i64 a, .int .i64 b] := by
    unfold Program.keyLits
    simp [hu, hc, h0, h1, o0, o1, hce, hi a ha, hi b hb]
    exact ⟨by simpa using n0, by simpa using n1⟩
  simp [keyOf, hu, hk, Value.formed, hc, Value.cells, hd, hs2]
theorem fields66 : ∃ f0 f1 : Field, Try.prog.underlying 66 = some (.struct #[f0, f1]) ∧ f0.type = 3 ∧ f1.type = 3 ∧ f0.offset = 0 ∧ f1.offset = 1 ∧ (f0.name != "_") = true ∧ (f1.name != "_") = true :=
  ⟨_, _, Try.underlying66, rfl, rfl, rfl, rfl, by decide, by decide⟩
theorem key_slot (a b : Int) (ha : (Lit.int .i64 a).wf = true) (hb : (Lit.int .i64 b).wf = true) : ∃ l, keyOf Try.prog 66 (.agg #[.int .i64 a, .int .i64 b]) = some l := by
  obtain ⟨f0, f1, hu, h0, h1, o0, o1, n0, n1⟩ := fields66
  exact key_two hu Try.underlying3 cells66 cells3 keyType66 h0 h1 o0 o1 n0 n1 a b ha hb (by rw [typesSize]; omega)
theorem lawInt : Maps.Keyed Try.prog 3 := Maps.int_keyed Try.underlying3
theorem key_int (a : Int) (ha : (Lit.int .i64 a).wf = true) : ∃ l, keyOf Try.prog 3 (.int .i64 a) = some l := ⟨_, Maps.keyOf_int_mk Try.underlying3 ha⟩
theorem zero3 (w : World) : (zeroValue 3).run Try.prog w = .ok (.int .i64 0) w := by kernel_rfl
theorem zero66 (w : World) : (zeroValue 66).run Try.prog w = .ok (.agg #[.int .i64 0, .int .i64 0]) w := by kernel_rfl
def vSlot (s : Int × Int) : Value := .agg #[.int .i64 s.1, .int .i64 s.2]
def vInt (n : Int) : Value := .int .i64 n
theorem vSlot_inj (x y : Int × Int) (h : vSlot x = vSlot y) : x = y := by
  obtain ⟨a, b⟩ := x; obtain ⟨c, d⟩ := y
  simp [vSlot] at h; simp [h]
theorem vInt_inj (x y : Int) (h : vInt x = vInt y) : x = y := by simpa [vInt] using h
end Go.Proofs.Ytcffhfcjfjfokaa
