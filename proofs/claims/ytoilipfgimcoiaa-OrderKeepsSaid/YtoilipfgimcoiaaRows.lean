/-
  No cell of these rows narrows 'for every input' (looked for: loops, veiled, ifaces, maps, wideKeys, modest, calm, conditions, laid).
  DERIVED. THE GIVEN ROWS OF THIS SEAT. 5 by the template 'for every input the law returns true; each argument reads behind the call as it read before'; 0 by the template 'total and deterministic' (their statements: YtoilipfgimcoiaaTotals.lean).
  GIVEN WITH THE SEED: the statements are not yours to turn. If you find one false, say at which input.
  Laid BY PROGRAM, IN A SANDBOX (cutbox-rows.mjs): the forced cells as the released guide's own fill.sh prints them over the translation 0a95bb79b074ab37… (all of the seat's roots in one cut). By AI agents, Wed Nov 11 2026. No macro, syntax, notation, axiom, sorry.
-/
import Derived.Test.YtoilipfgimcoiaaChecked
import GoSem.Claim
import GoSem.ClaimJoined
import GoSem.ClaimMapViews
import Derived.JoinedTies
import Derived.KernelRfl
namespace Go.Proofs.Ytoilipfgimcoiaa
/- THE CELL 'sum', in the pinned program and in every row, IS THE sha256 OF THE DUMP (.gsa) THAT YtoilipfgimcoiaaProg.lean LOADS. Nothing in Lean hashes anything: it is a label: what it is worth is what the hold of that sum in a sandbox is worth. -/
noncomputable def Try.pinned : Pinned := { name := "ytoilipfgimcoiaa", sum := "0a95bb79b074ab371a2d9ee472a495d4acb5c78184d9f1af54c1459fb4318f86", checked := Try.checked }
namespace Rows
def none {H : Type} : Left H := { results := [], args := [] }

/-- 'quoratelaw07.OrderOne': WHATEVER THE INPUT: true; the input reads as it did. -/
def orderOneSpec : ChangeSpec := { name := "orderOne", fn := fun _ => fun
  | [d1, d2, d3] => { results := [.lit (.bool true)], args := [d1, d2, d3] }
  | _ => none }
def orderOneRow : OpenClaim := { program := "ytoilipfgimcoiaa", sum := "0a95bb79b074ab371a2d9ee472a495d4acb5c78184d9f1af54c1459fb4318f86", func := "quorate/quoratelaw07.OrderOne", spec := "orderOne", unfollowed := true, recurses := true, plainKeys := false, apart := false }
def OrderOneSaid : Prop := orderOneRow.holds Try.pinned (OpenSpec.ofChange orderOneSpec)

/-- ITS FALSE NEIGHBOUR: 'it returns false'. Refute it at one input. -/
def orderOneWrong : ChangeSpec := { name := "orderOne", fn := fun _ => fun
  | [d1, d2, d3] => { results := [.lit (.bool false)], args := [d1, d2, d3] }
  | _ => none }
def OrderOneWrongFalsely : Prop := orderOneRow.holds Try.pinned (OpenSpec.ofChange orderOneWrong)

/-- 'quoratelaw07.OrderTrue': WHATEVER THE INPUT: true; the input reads as it did. -/
def orderTrueSpec : ChangeSpec := { name := "orderTrue", fn := fun _ => fun
  | [d1, d2, d3] => { results := [.lit (.bool true)], args := [d1, d2, d3] }
  | _ => none }
def orderTrueRow : OpenClaim := { program := "ytoilipfgimcoiaa", sum := "0a95bb79b074ab371a2d9ee472a495d4acb5c78184d9f1af54c1459fb4318f86", func := "quorate/quoratelaw07.OrderTrue", spec := "orderTrue", unfollowed := true, recurses := true, plainKeys := false, apart := false }
def OrderTrueSaid : Prop := orderTrueRow.holds Try.pinned (OpenSpec.ofChange orderTrueSpec)

/-- ITS FALSE NEIGHBOUR: 'it returns false'. Refute it at one input. -/
def orderTrueWrong : ChangeSpec := { name := "orderTrue", fn := fun _ => fun
  | [d1, d2, d3] => { results := [.lit (.bool false)], args := [d1, d2, d3] }
  | _ => none }
def OrderTrueWrongFalsely : Prop := orderTrueRow.holds Try.pinned (OpenSpec.ofChange orderTrueWrong)

/-- 'quoratelaw07.OrderGoesOn': WHATEVER THE INPUT: true; the input reads as it did. -/
def orderGoesOnSpec : ChangeSpec := { name := "orderGoesOn", fn := fun _ => fun
  | [d1, d2, d3] => { results := [.lit (.bool true)], args := [d1, d2, d3] }
  | _ => none }
def orderGoesOnRow : OpenClaim := { program := "ytoilipfgimcoiaa", sum := "0a95bb79b074ab371a2d9ee472a495d4acb5c78184d9f1af54c1459fb4318f86", func := "quorate/quoratelaw07.OrderGoesOn", spec := "orderGoesOn", unfollowed := true, recurses := true, plainKeys := false, apart := false }
def OrderGoesOnSaid : Prop := orderGoesOnRow.holds Try.pinned (OpenSpec.ofChange orderGoesOnSpec)

/-- ITS FALSE NEIGHBOUR: 'it returns false'. Refute it at one input. -/
def orderGoesOnWrong : ChangeSpec := { name := "orderGoesOn", fn := fun _ => fun
  | [d1, d2, d3] => { results := [.lit (.bool false)], args := [d1, d2, d3] }
  | _ => none }
def OrderGoesOnWrongFalsely : Prop := orderGoesOnRow.holds Try.pinned (OpenSpec.ofChange orderGoesOnWrong)

/-- 'quoratelaw07.OrderBounded': WHATEVER THE INPUT: true; the input reads as it did. -/
def orderBoundedSpec : ChangeSpec := { name := "orderBounded", fn := fun _ => fun
  | [d1, d2, d3] => { results := [.lit (.bool true)], args := [d1, d2, d3] }
  | _ => none }
def orderBoundedRow : OpenClaim := { program := "ytoilipfgimcoiaa", sum := "0a95bb79b074ab371a2d9ee472a495d4acb5c78184d9f1af54c1459fb4318f86", func := "quorate/quoratelaw07.OrderBounded", spec := "orderBounded", unfollowed := true, recurses := true, plainKeys := false, apart := false }
def OrderBoundedSaid : Prop := orderBoundedRow.holds Try.pinned (OpenSpec.ofChange orderBoundedSpec)

/-- ITS FALSE NEIGHBOUR: 'it returns false'. Refute it at one input. -/
def orderBoundedWrong : ChangeSpec := { name := "orderBounded", fn := fun _ => fun
  | [d1, d2, d3] => { results := [.lit (.bool false)], args := [d1, d2, d3] }
  | _ => none }
def OrderBoundedWrongFalsely : Prop := orderBoundedRow.holds Try.pinned (OpenSpec.ofChange orderBoundedWrong)

/-- 'quoratelaw07.OrderKeeps': WHATEVER THE INPUT: true; the input reads as it did. -/
def orderKeepsSpec : ChangeSpec := { name := "orderKeeps", fn := fun _ => fun
  | [d1, d2, d3] => { results := [.lit (.bool true)], args := [d1, d2, d3] }
  | _ => none }
def orderKeepsRow : OpenClaim := { program := "ytoilipfgimcoiaa", sum := "0a95bb79b074ab371a2d9ee472a495d4acb5c78184d9f1af54c1459fb4318f86", func := "quorate/quoratelaw07.OrderKeeps", spec := "orderKeeps", unfollowed := true, recurses := true, plainKeys := false, apart := false }
def OrderKeepsSaid : Prop := orderKeepsRow.holds Try.pinned (OpenSpec.ofChange orderKeepsSpec)

/-- ITS FALSE NEIGHBOUR: 'it returns false'. Refute it at one input. -/
def orderKeepsWrong : ChangeSpec := { name := "orderKeeps", fn := fun _ => fun
  | [d1, d2, d3] => { results := [.lit (.bool false)], args := [d1, d2, d3] }
  | _ => none }
def OrderKeepsWrongFalsely : Prop := orderKeepsRow.holds Try.pinned (OpenSpec.ofChange orderKeepsWrong)

/- THE SECOND FORM. 'bulk': how many values and letters a reading holds, each counted each time it is reached (what is shared counts as often as it is met; a slice's spare places count too). A statement '..UptoSaid' is the law's where the arguments, and the package variables that the reading takes, are together of bulk at most 1048576: NARROWER than '..Said'. Prove '..Said' where nothing that the law and all that it calls make is longer than what came in: it says more and counts as full. Else prove '..UptoSaid'. A law counts once. -/
mutual
def uptoBulk {H : Type} : DataW H → Nat
  | .lit (.string bytes) => bytes.length + 1
  | .lit _ => 1
  | .nil => 1
  | .ptr d => uptoBulk d + 1
  | .slice elems spare => uptoBulkAll elems + uptoBulkAll spare + 1
  | .agg parts => uptoBulkAll parts + 1
  | .iface _ d => uptoBulk d + 1
  | .map entries => uptoBulkEntries entries + 1
  | .held _ => 1
def uptoBulkAll {H : Type} : List (DataW H) → Nat
  | [] => 0
  | d :: r => uptoBulk d + uptoBulkAll r
def uptoBulkEntries {H : Type} : List (Lit × DataW H) → Nat
  | [] => 0
  | x :: r => uptoBulkEntry x + uptoBulkEntries r
def uptoBulkEntry {H : Type} : Lit × DataW H → Nat
  | (.string bytes, d) => bytes.length + uptoBulk d + 1
  | (_, d) => uptoBulk d + 1
 end
def uptoSmall : (H : Type) → List (DataW H) → Bool := fun _ ds => decide (uptoBulkAll ds ≤ 1048576)
def OpenSpec.upto (s : _root_.Go.ChangeSpec) : _root_.Go.OpenSpec := { _root_.Go.OpenSpec.ofChange s with cond := some uptoSmall }

/-- 'quoratelaw07.OrderOne', WHERE WHAT IT READS IS OF BULK AT MOST 1048576: true; the input reads as it did. -/
def orderOneUptoRow : OpenClaim := { program := "ytoilipfgimcoiaa", sum := "0a95bb79b074ab371a2d9ee472a495d4acb5c78184d9f1af54c1459fb4318f86", func := "quorate/quoratelaw07.OrderOne", spec := "orderOne", unfollowed := true, recurses := true, plainKeys := false, apart := false, narrowed := true }
def OrderOneUptoSaid : Prop := orderOneUptoRow.holds Try.pinned (OpenSpec.upto orderOneSpec)

/-- 'quoratelaw07.OrderTrue', WHERE WHAT IT READS IS OF BULK AT MOST 1048576: true; the input reads as it did. -/
def orderTrueUptoRow : OpenClaim := { program := "ytoilipfgimcoiaa", sum := "0a95bb79b074ab371a2d9ee472a495d4acb5c78184d9f1af54c1459fb4318f86", func := "quorate/quoratelaw07.OrderTrue", spec := "orderTrue", unfollowed := true, recurses := true, plainKeys := false, apart := false, narrowed := true }
def OrderTrueUptoSaid : Prop := orderTrueUptoRow.holds Try.pinned (OpenSpec.upto orderTrueSpec)

/-- 'quoratelaw07.OrderGoesOn', WHERE WHAT IT READS IS OF BULK AT MOST 1048576: true; the input reads as it did. -/
def orderGoesOnUptoRow : OpenClaim := { program := "ytoilipfgimcoiaa", sum := "0a95bb79b074ab371a2d9ee472a495d4acb5c78184d9f1af54c1459fb4318f86", func := "quorate/quoratelaw07.OrderGoesOn", spec := "orderGoesOn", unfollowed := true, recurses := true, plainKeys := false, apart := false, narrowed := true }
def OrderGoesOnUptoSaid : Prop := orderGoesOnUptoRow.holds Try.pinned (OpenSpec.upto orderGoesOnSpec)

/-- 'quoratelaw07.OrderBounded', WHERE WHAT IT READS IS OF BULK AT MOST 1048576: true; the input reads as it did. -/
def orderBoundedUptoRow : OpenClaim := { program := "ytoilipfgimcoiaa", sum := "0a95bb79b074ab371a2d9ee472a495d4acb5c78184d9f1af54c1459fb4318f86", func := "quorate/quoratelaw07.OrderBounded", spec := "orderBounded", unfollowed := true, recurses := true, plainKeys := false, apart := false, narrowed := true }
def OrderBoundedUptoSaid : Prop := orderBoundedUptoRow.holds Try.pinned (OpenSpec.upto orderBoundedSpec)

/-- 'quoratelaw07.OrderKeeps', WHERE WHAT IT READS IS OF BULK AT MOST 1048576: true; the input reads as it did. -/
def orderKeepsUptoRow : OpenClaim := { program := "ytoilipfgimcoiaa", sum := "0a95bb79b074ab371a2d9ee472a495d4acb5c78184d9f1af54c1459fb4318f86", func := "quorate/quoratelaw07.OrderKeeps", spec := "orderKeeps", unfollowed := true, recurses := true, plainKeys := false, apart := false, narrowed := true }
def OrderKeepsUptoSaid : Prop := orderKeepsUptoRow.holds Try.pinned (OpenSpec.upto orderKeepsSpec)

end Rows
end Go.Proofs.Ytoilipfgimcoiaa
