/-
  No cell of these rows narrows 'for every input' (looked for: loops, veiled, ifaces, maps, wideKeys, modest, calm, conditions, laid).
  DERIVED. THE GIVEN ROWS OF THIS SEAT. 10 by the template 'for every input the law returns true; each argument reads behind the call as it read before'; 0 by the template 'total and deterministic' (their statements: YtcffhfcjfjfokaaTotals.lean).
  GIVEN WITH THE SEED: the statements are not yours to turn. If you find one false, say at which input.
  Laid BY PROGRAM, IN A SANDBOX (cutbox-rows.mjs): the forced cells as the released guide's own fill.sh prints them over the translation 7867b19e40c00375… (all of the seat's roots in one cut). By AI agents, Wed Nov 11 2026. No macro, syntax, notation, axiom, sorry.
-/
import Derived.Test.YtcffhfcjfjfokaaChecked
import GoSem.Claim
import GoSem.ClaimJoined
import GoSem.ClaimMapViews
import Derived.JoinedTies
import Derived.KernelRfl
namespace Go.Proofs.Ytcffhfcjfjfokaa
/- THE CELL 'sum', in the pinned program and in every row, IS THE sha256 OF THE DUMP (.gsa) THAT YtcffhfcjfjfokaaProg.lean LOADS. Nothing in Lean hashes anything: it is a label: what it is worth is what the hold of that sum in a sandbox is worth. -/
noncomputable def Try.pinned : Pinned := { name := "ytcffhfcjfjfokaa", sum := "7867b19e40c0037552b81edc62e9a1241e6bbad699c299e39ae545740e849d76", checked := Try.checked }
namespace Rows
def none {H : Type} : Left H := { results := [], args := [] }

/-- 'quoratelaw08.FlushCut': WHATEVER THE INPUT: true; the input reads as it did. -/
def flushCutSpec : ChangeSpec := { name := "flushCut", fn := fun _ => fun
  | [d] => { results := [.lit (.bool true)], args := [d] }
  | _ => none }
def flushCutRow : OpenClaim := { program := "ytcffhfcjfjfokaa", sum := "7867b19e40c0037552b81edc62e9a1241e6bbad699c299e39ae545740e849d76", func := "quorate/quoratelaw08.FlushCut", spec := "flushCut", unfollowed := true, recurses := true, plainKeys := false, apart := false }
def FlushCutSaid : Prop := flushCutRow.holds Try.pinned (OpenSpec.ofChange flushCutSpec)

/-- ITS FALSE NEIGHBOUR: 'it returns false'. Refute it at one input. -/
def flushCutWrong : ChangeSpec := { name := "flushCut", fn := fun _ => fun
  | [d] => { results := [.lit (.bool false)], args := [d] }
  | _ => none }
def FlushCutWrongFalsely : Prop := flushCutRow.holds Try.pinned (OpenSpec.ofChange flushCutWrong)

/-- 'quoratelaw08.FlushRest': WHATEVER THE INPUT: true; the input reads as it did. -/
def flushRestSpec : ChangeSpec := { name := "flushRest", fn := fun _ => fun
  | [d] => { results := [.lit (.bool true)], args := [d] }
  | _ => none }
def flushRestRow : OpenClaim := { program := "ytcffhfcjfjfokaa", sum := "7867b19e40c0037552b81edc62e9a1241e6bbad699c299e39ae545740e849d76", func := "quorate/quoratelaw08.FlushRest", spec := "flushRest", unfollowed := true, recurses := true, plainKeys := false, apart := false }
def FlushRestSaid : Prop := flushRestRow.holds Try.pinned (OpenSpec.ofChange flushRestSpec)

/-- ITS FALSE NEIGHBOUR: 'it returns false'. Refute it at one input. -/
def flushRestWrong : ChangeSpec := { name := "flushRest", fn := fun _ => fun
  | [d] => { results := [.lit (.bool false)], args := [d] }
  | _ => none }
def FlushRestWrongFalsely : Prop := flushRestRow.holds Try.pinned (OpenSpec.ofChange flushRestWrong)

/-- 'quoratelaw08.FlushLacks': WHATEVER THE INPUT: true; the input reads as it did. -/
def flushLacksSpec : ChangeSpec := { name := "flushLacks", fn := fun _ => fun
  | [d] => { results := [.lit (.bool true)], args := [d] }
  | _ => none }
def flushLacksRow : OpenClaim := { program := "ytcffhfcjfjfokaa", sum := "7867b19e40c0037552b81edc62e9a1241e6bbad699c299e39ae545740e849d76", func := "quorate/quoratelaw08.FlushLacks", spec := "flushLacks", unfollowed := true, recurses := true, plainKeys := false, apart := false }
def FlushLacksSaid : Prop := flushLacksRow.holds Try.pinned (OpenSpec.ofChange flushLacksSpec)

/-- ITS FALSE NEIGHBOUR: 'it returns false'. Refute it at one input. -/
def flushLacksWrong : ChangeSpec := { name := "flushLacks", fn := fun _ => fun
  | [d] => { results := [.lit (.bool false)], args := [d] }
  | _ => none }
def FlushLacksWrongFalsely : Prop := flushLacksRow.holds Try.pinned (OpenSpec.ofChange flushLacksWrong)

/-- 'quoratelaw08.FlushAgree': WHATEVER THE INPUT: true; the input reads as it did. -/
def flushAgreeSpec : ChangeSpec := { name := "flushAgree", fn := fun _ => fun
  | [d] => { results := [.lit (.bool true)], args := [d] }
  | _ => none }
def flushAgreeRow : OpenClaim := { program := "ytcffhfcjfjfokaa", sum := "7867b19e40c0037552b81edc62e9a1241e6bbad699c299e39ae545740e849d76", func := "quorate/quoratelaw08.FlushAgree", spec := "flushAgree", unfollowed := true, recurses := true, plainKeys := false, apart := false }
def FlushAgreeSaid : Prop := flushAgreeRow.holds Try.pinned (OpenSpec.ofChange flushAgreeSpec)

/-- ITS FALSE NEIGHBOUR: 'it returns false'. Refute it at one input. -/
def flushAgreeWrong : ChangeSpec := { name := "flushAgree", fn := fun _ => fun
  | [d] => { results := [.lit (.bool false)], args := [d] }
  | _ => none }
def FlushAgreeWrongFalsely : Prop := flushAgreeRow.holds Try.pinned (OpenSpec.ofChange flushAgreeWrong)

/-- 'quoratelaw08.FlushDuty': WHATEVER THE INPUT: true; the input reads as it did. -/
def flushDutySpec : ChangeSpec := { name := "flushDuty", fn := fun _ => fun
  | [d] => { results := [.lit (.bool true)], args := [d] }
  | _ => none }
def flushDutyRow : OpenClaim := { program := "ytcffhfcjfjfokaa", sum := "7867b19e40c0037552b81edc62e9a1241e6bbad699c299e39ae545740e849d76", func := "quorate/quoratelaw08.FlushDuty", spec := "flushDuty", unfollowed := true, recurses := true, plainKeys := false, apart := false }
def FlushDutySaid : Prop := flushDutyRow.holds Try.pinned (OpenSpec.ofChange flushDutySpec)

/-- ITS FALSE NEIGHBOUR: 'it returns false'. Refute it at one input. -/
def flushDutyWrong : ChangeSpec := { name := "flushDuty", fn := fun _ => fun
  | [d] => { results := [.lit (.bool false)], args := [d] }
  | _ => none }
def FlushDutyWrongFalsely : Prop := flushDutyRow.holds Try.pinned (OpenSpec.ofChange flushDutyWrong)

/-- 'quoratelaw08.FlushShares': WHATEVER THE INPUT: true; the input reads as it did. -/
def flushSharesSpec : ChangeSpec := { name := "flushShares", fn := fun _ => fun
  | [d] => { results := [.lit (.bool true)], args := [d] }
  | _ => none }
def flushSharesRow : OpenClaim := { program := "ytcffhfcjfjfokaa", sum := "7867b19e40c0037552b81edc62e9a1241e6bbad699c299e39ae545740e849d76", func := "quorate/quoratelaw08.FlushShares", spec := "flushShares", unfollowed := true, recurses := true, plainKeys := false, apart := false }
def FlushSharesSaid : Prop := flushSharesRow.holds Try.pinned (OpenSpec.ofChange flushSharesSpec)

/-- ITS FALSE NEIGHBOUR: 'it returns false'. Refute it at one input. -/
def flushSharesWrong : ChangeSpec := { name := "flushShares", fn := fun _ => fun
  | [d] => { results := [.lit (.bool false)], args := [d] }
  | _ => none }
def FlushSharesWrongFalsely : Prop := flushSharesRow.holds Try.pinned (OpenSpec.ofChange flushSharesWrong)

/-- 'quoratelaw08.FlushStore': WHATEVER THE INPUT: true; the input reads as it did. -/
def flushStoreSpec : ChangeSpec := { name := "flushStore", fn := fun _ => fun
  | [d] => { results := [.lit (.bool true)], args := [d] }
  | _ => none }
def flushStoreRow : OpenClaim := { program := "ytcffhfcjfjfokaa", sum := "7867b19e40c0037552b81edc62e9a1241e6bbad699c299e39ae545740e849d76", func := "quorate/quoratelaw08.FlushStore", spec := "flushStore", unfollowed := true, recurses := true, plainKeys := false, apart := false }
def FlushStoreSaid : Prop := flushStoreRow.holds Try.pinned (OpenSpec.ofChange flushStoreSpec)

/-- ITS FALSE NEIGHBOUR: 'it returns false'. Refute it at one input. -/
def flushStoreWrong : ChangeSpec := { name := "flushStore", fn := fun _ => fun
  | [d] => { results := [.lit (.bool false)], args := [d] }
  | _ => none }
def FlushStoreWrongFalsely : Prop := flushStoreRow.holds Try.pinned (OpenSpec.ofChange flushStoreWrong)

/-- 'quoratelaw08.FlushTurns': WHATEVER THE INPUT: true; the input reads as it did. -/
def flushTurnsSpec : ChangeSpec := { name := "flushTurns", fn := fun _ => fun
  | [d1, d2] => { results := [.lit (.bool true)], args := [d1, d2] }
  | _ => none }
def flushTurnsRow : OpenClaim := { program := "ytcffhfcjfjfokaa", sum := "7867b19e40c0037552b81edc62e9a1241e6bbad699c299e39ae545740e849d76", func := "quorate/quoratelaw08.FlushTurns", spec := "flushTurns", unfollowed := true, recurses := true, plainKeys := false, apart := false }
def FlushTurnsSaid : Prop := flushTurnsRow.holds Try.pinned (OpenSpec.ofChange flushTurnsSpec)

/-- ITS FALSE NEIGHBOUR: 'it returns false'. Refute it at one input. -/
def flushTurnsWrong : ChangeSpec := { name := "flushTurns", fn := fun _ => fun
  | [d1, d2] => { results := [.lit (.bool false)], args := [d1, d2] }
  | _ => none }
def FlushTurnsWrongFalsely : Prop := flushTurnsRow.holds Try.pinned (OpenSpec.ofChange flushTurnsWrong)

/-- 'quoratelaw08.FlushHeld': WHATEVER THE INPUT: true; the input reads as it did. -/
def flushHeldSpec : ChangeSpec := { name := "flushHeld", fn := fun _ => fun
  | [d1, d2] => { results := [.lit (.bool true)], args := [d1, d2] }
  | _ => none }
def flushHeldRow : OpenClaim := { program := "ytcffhfcjfjfokaa", sum := "7867b19e40c0037552b81edc62e9a1241e6bbad699c299e39ae545740e849d76", func := "quorate/quoratelaw08.FlushHeld", spec := "flushHeld", unfollowed := true, recurses := true, plainKeys := false, apart := false }
def FlushHeldSaid : Prop := flushHeldRow.holds Try.pinned (OpenSpec.ofChange flushHeldSpec)

/-- ITS FALSE NEIGHBOUR: 'it returns false'. Refute it at one input. -/
def flushHeldWrong : ChangeSpec := { name := "flushHeld", fn := fun _ => fun
  | [d1, d2] => { results := [.lit (.bool false)], args := [d1, d2] }
  | _ => none }
def FlushHeldWrongFalsely : Prop := flushHeldRow.holds Try.pinned (OpenSpec.ofChange flushHeldWrong)

/-- 'quoratelaw08.FlushPlace': WHATEVER THE INPUT: true; the input reads as it did. -/
def flushPlaceSpec : ChangeSpec := { name := "flushPlace", fn := fun _ => fun
  | [d1, d2] => { results := [.lit (.bool true)], args := [d1, d2] }
  | _ => none }
def flushPlaceRow : OpenClaim := { program := "ytcffhfcjfjfokaa", sum := "7867b19e40c0037552b81edc62e9a1241e6bbad699c299e39ae545740e849d76", func := "quorate/quoratelaw08.FlushPlace", spec := "flushPlace", unfollowed := true, recurses := true, plainKeys := false, apart := false }
def FlushPlaceSaid : Prop := flushPlaceRow.holds Try.pinned (OpenSpec.ofChange flushPlaceSpec)

/-- ITS FALSE NEIGHBOUR: 'it returns false'. Refute it at one input. -/
def flushPlaceWrong : ChangeSpec := { name := "flushPlace", fn := fun _ => fun
  | [d1, d2] => { results := [.lit (.bool false)], args := [d1, d2] }
  | _ => none }
def FlushPlaceWrongFalsely : Prop := flushPlaceRow.holds Try.pinned (OpenSpec.ofChange flushPlaceWrong)

/- THE SECOND FORM. 'bulk': how many values and letters a reading holds, each counted each time it is reached (what is shared counts as often as it is met; a slice's spare places count too). A statement '..UptoSaid' is the law's where the arguments, and the package variables that the reading takes, are together of bulk at most 1048576: NARROWER than '..Said'. Prove '..Said' where nothing that the law and all that it calls make is longer than what came in: it says more and counts as full. Else prove '..UptoSaid'. A law counts once. -/
mutual
def uptoBulk {H : Type} : DataW H → Nat
  | .lit (.string bytes) => bytes.length + 1
  | .lit _ => 1
  | .nil => 1
  | .ptr d => uptoBulk d + 1
  | .slice elems spare => uptoBulkAll elems + uptoBulkAll spare + 1
  | .agg parts => uptoBulkAll parts + 1
  | .iface _ d => uptoBulk d + 1
  | .map entries => uptoBulkEntries entries + 1
  | .held _ => 1
def uptoBulkAll {H : Type} : List (DataW H) → Nat
  | [] => 0
  | d :: r => uptoBulk d + uptoBulkAll r
def uptoBulkEntries {H : Type} : List (Lit × DataW H) → Nat
  | [] => 0
  | x :: r => uptoBulkEntry x + uptoBulkEntries r
def uptoBulkEntry {H : Type} : Lit × DataW H → Nat
  | (.string bytes, d) => bytes.length + uptoBulk d + 1
  | (_, d) => uptoBulk d + 1
 end
def uptoSmall : (H : Type) → List (DataW H) → Bool := fun _ ds => decide (uptoBulkAll ds ≤ 1048576)
def OpenSpec.upto (s : _root_.Go.ChangeSpec) : _root_.Go.OpenSpec := { _root_.Go.OpenSpec.ofChange s with cond := some uptoSmall }

/-- 'quoratelaw08.FlushCut', WHERE WHAT IT READS IS OF BULK AT MOST 1048576: true; the input reads as it did. -/
def flushCutUptoRow : OpenClaim := { program := "ytcffhfcjfjfokaa", sum := "7867b19e40c0037552b81edc62e9a1241e6bbad699c299e39ae545740e849d76", func := "quorate/quoratelaw08.FlushCut", spec := "flushCut", unfollowed := true, recurses := true, plainKeys := false, apart := false, narrowed := true }
def FlushCutUptoSaid : Prop := flushCutUptoRow.holds Try.pinned (OpenSpec.upto flushCutSpec)

/-- 'quoratelaw08.FlushRest', WHERE WHAT IT READS IS OF BULK AT MOST 1048576: true; the input reads as it did. -/
def flushRestUptoRow : OpenClaim := { program := "ytcffhfcjfjfokaa", sum := "7867b19e40c0037552b81edc62e9a1241e6bbad699c299e39ae545740e849d76", func := "quorate/quoratelaw08.FlushRest", spec := "flushRest", unfollowed := true, recurses := true, plainKeys := false, apart := false, narrowed := true }
def FlushRestUptoSaid : Prop := flushRestUptoRow.holds Try.pinned (OpenSpec.upto flushRestSpec)

/-- 'quoratelaw08.FlushLacks', WHERE WHAT IT READS IS OF BULK AT MOST 1048576: true; the input reads as it did. -/
def flushLacksUptoRow : OpenClaim := { program := "ytcffhfcjfjfokaa", sum := "7867b19e40c0037552b81edc62e9a1241e6bbad699c299e39ae545740e849d76", func := "quorate/quoratelaw08.FlushLacks", spec := "flushLacks", unfollowed := true, recurses := true, plainKeys := false, apart := false, narrowed := true }
def FlushLacksUptoSaid : Prop := flushLacksUptoRow.holds Try.pinned (OpenSpec.upto flushLacksSpec)

/-- 'quoratelaw08.FlushAgree', WHERE WHAT IT READS IS OF BULK AT MOST 1048576: true; the input reads as it did. -/
def flushAgreeUptoRow : OpenClaim := { program := "ytcffhfcjfjfokaa", sum := "7867b19e40c0037552b81edc62e9a1241e6bbad699c299e39ae545740e849d76", func := "quorate/quoratelaw08.FlushAgree", spec := "flushAgree", unfollowed := true, recurses := true, plainKeys := false, apart := false, narrowed := true }
def FlushAgreeUptoSaid : Prop := flushAgreeUptoRow.holds Try.pinned (OpenSpec.upto flushAgreeSpec)

/-- 'quoratelaw08.FlushDuty', WHERE WHAT IT READS IS OF BULK AT MOST 1048576: true; the input reads as it did. -/
def flushDutyUptoRow : OpenClaim := { program := "ytcffhfcjfjfokaa", sum := "7867b19e40c0037552b81edc62e9a1241e6bbad699c299e39ae545740e849d76", func := "quorate/quoratelaw08.FlushDuty", spec := "flushDuty", unfollowed := true, recurses := true, plainKeys := false, apart := false, narrowed := true }
def FlushDutyUptoSaid : Prop := flushDutyUptoRow.holds Try.pinned (OpenSpec.upto flushDutySpec)

/-- 'quoratelaw08.FlushShares', WHERE WHAT IT READS IS OF BULK AT MOST 1048576: true; the input reads as it did. -/
def flushSharesUptoRow : OpenClaim := { program := "ytcffhfcjfjfokaa", sum := "7867b19e40c0037552b81edc62e9a1241e6bbad699c299e39ae545740e849d76", func := "quorate/quoratelaw08.FlushShares", spec := "flushShares", unfollowed := true, recurses := true, plainKeys := false, apart := false, narrowed := true }
def FlushSharesUptoSaid : Prop := flushSharesUptoRow.holds Try.pinned (OpenSpec.upto flushSharesSpec)

/-- 'quoratelaw08.FlushStore', WHERE WHAT IT READS IS OF BULK AT MOST 1048576: true; the input reads as it did. -/
def flushStoreUptoRow : OpenClaim := { program := "ytcffhfcjfjfokaa", sum := "7867b19e40c0037552b81edc62e9a1241e6bbad699c299e39ae545740e849d76", func := "quorate/quoratelaw08.FlushStore", spec := "flushStore", unfollowed := true, recurses := true, plainKeys := false, apart := false, narrowed := true }
def FlushStoreUptoSaid : Prop := flushStoreUptoRow.holds Try.pinned (OpenSpec.upto flushStoreSpec)

/-- 'quoratelaw08.FlushTurns', WHERE WHAT IT READS IS OF BULK AT MOST 1048576: true; the input reads as it did. -/
def flushTurnsUptoRow : OpenClaim := { program := "ytcffhfcjfjfokaa", sum := "7867b19e40c0037552b81edc62e9a1241e6bbad699c299e39ae545740e849d76", func := "quorate/quoratelaw08.FlushTurns", spec := "flushTurns", unfollowed := true, recurses := true, plainKeys := false, apart := false, narrowed := true }
def FlushTurnsUptoSaid : Prop := flushTurnsUptoRow.holds Try.pinned (OpenSpec.upto flushTurnsSpec)

/-- 'quoratelaw08.FlushHeld', WHERE WHAT IT READS IS OF BULK AT MOST 1048576: true; the input reads as it did. -/
def flushHeldUptoRow : OpenClaim := { program := "ytcffhfcjfjfokaa", sum := "7867b19e40c0037552b81edc62e9a1241e6bbad699c299e39ae545740e849d76", func := "quorate/quoratelaw08.FlushHeld", spec := "flushHeld", unfollowed := true, recurses := true, plainKeys := false, apart := false, narrowed := true }
def FlushHeldUptoSaid : Prop := flushHeldUptoRow.holds Try.pinned (OpenSpec.upto flushHeldSpec)

/-- 'quoratelaw08.FlushPlace', WHERE WHAT IT READS IS OF BULK AT MOST 1048576: true; the input reads as it did. -/
def flushPlaceUptoRow : OpenClaim := { program := "ytcffhfcjfjfokaa", sum := "7867b19e40c0037552b81edc62e9a1241e6bbad699c299e39ae545740e849d76", func := "quorate/quoratelaw08.FlushPlace", spec := "flushPlace", unfollowed := true, recurses := true, plainKeys := false, apart := false, narrowed := true }
def FlushPlaceUptoSaid : Prop := flushPlaceUptoRow.holds Try.pinned (OpenSpec.upto flushPlaceSpec)

end Rows
end Go.Proofs.Ytcffhfcjfjfokaa
