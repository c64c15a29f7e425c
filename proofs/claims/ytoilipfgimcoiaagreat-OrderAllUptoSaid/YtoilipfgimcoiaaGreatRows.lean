/-
  No cell of these rows narrows 'for every input' (looked for: loops, veiled, ifaces, maps, wideKeys, modest, calm, conditions, laid).
  DERIVED. THE GIVEN ROWS OF THIS SEAT. 8 by the template 'for every input the law returns true; each argument reads behind the call as it read before'; 0 by the template 'total and deterministic' (their statements: YtoilipfgimcoiaaGreatTotals.lean).
  GIVEN WITH THE SEED: the statements are not yours to turn. If you find one false, say at which input.
  Laid BY PROGRAM, IN A SANDBOX (cutbox-rows.mjs): the forced cells as the released guide's own fill.sh prints them over the translation 9e6b9083fdcdbaf6… (all of the seat's roots in one cut). By AI agents, Wed Nov 11 2026. No macro, syntax, notation, axiom, sorry.
-/
import Derived.Test.YtoilipfgimcoiaaGreatChecked
import GoSem.Claim
import GoSem.ClaimJoined
import GoSem.ClaimMapViews
import Derived.JoinedTies
import Derived.KernelRfl
namespace Go.Proofs.YtoilipfgimcoiaaGreat
/- THE CELL 'sum', in the pinned program and in every row, IS THE sha256 OF THE DUMP (.gsa) THAT YtoilipfgimcoiaaGreatProg.lean LOADS. Nothing in Lean hashes anything: it is a label: what it is worth is what the hold of that sum in a sandbox is worth. -/
noncomputable def Tryz.pinned : Pinned := { name := "ytoilipfgimcoiaagreat", sum := "9e6b9083fdcdbaf6677ed22c8f4a70b49aaa0116cb7d7a6d772f161e24991bab", checked := Tryz.checked }
namespace Rows
def none {H : Type} : Left H := { results := [], args := [] }

/-- 'quoratelaw07.OrderNews': WHATEVER THE INPUT: true; the input reads as it did. -/
def orderNewsSpec : ChangeSpec := { name := "orderNews", fn := fun _ => fun
  | [d] => { results := [.lit (.bool true)], args := [d] }
  | _ => none }
def orderNewsRow : OpenClaim := { program := "ytoilipfgimcoiaagreat", sum := "9e6b9083fdcdbaf6677ed22c8f4a70b49aaa0116cb7d7a6d772f161e24991bab", func := "quorate/quoratelaw07.OrderNews", spec := "orderNews", unfollowed := true, recurses := true, plainKeys := false, apart := false }
def OrderNewsSaid : Prop := orderNewsRow.holds Tryz.pinned (OpenSpec.ofChange orderNewsSpec)

/-- ITS FALSE NEIGHBOUR: 'it returns false'. Refute it at one input. -/
def orderNewsWrong : ChangeSpec := { name := "orderNews", fn := fun _ => fun
  | [d] => { results := [.lit (.bool false)], args := [d] }
  | _ => none }
def OrderNewsWrongFalsely : Prop := orderNewsRow.holds Tryz.pinned (OpenSpec.ofChange orderNewsWrong)

/-- 'quoratelaw07.OrderSends': WHATEVER THE INPUT: true; the input reads as it did. -/
def orderSendsSpec : ChangeSpec := { name := "orderSends", fn := fun _ => fun
  | [d] => { results := [.lit (.bool true)], args := [d] }
  | _ => none }
def orderSendsRow : OpenClaim := { program := "ytoilipfgimcoiaagreat", sum := "9e6b9083fdcdbaf6677ed22c8f4a70b49aaa0116cb7d7a6d772f161e24991bab", func := "quorate/quoratelaw07.OrderSends", spec := "orderSends", unfollowed := true, recurses := true, plainKeys := false, apart := false }
def OrderSendsSaid : Prop := orderSendsRow.holds Tryz.pinned (OpenSpec.ofChange orderSendsSpec)

/-- ITS FALSE NEIGHBOUR: 'it returns false'. Refute it at one input. -/
def orderSendsWrong : ChangeSpec := { name := "orderSends", fn := fun _ => fun
  | [d] => { results := [.lit (.bool false)], args := [d] }
  | _ => none }
def OrderSendsWrongFalsely : Prop := orderSendsRow.holds Tryz.pinned (OpenSpec.ofChange orderSendsWrong)

/-- 'quoratelaw07.OrderPlaces': WHATEVER THE INPUT: true; the input reads as it did. -/
def orderPlacesSpec : ChangeSpec := { name := "orderPlaces", fn := fun _ => fun
  | [d] => { results := [.lit (.bool true)], args := [d] }
  | _ => none }
def orderPlacesRow : OpenClaim := { program := "ytoilipfgimcoiaagreat", sum := "9e6b9083fdcdbaf6677ed22c8f4a70b49aaa0116cb7d7a6d772f161e24991bab", func := "quorate/quoratelaw07.OrderPlaces", spec := "orderPlaces", unfollowed := true, recurses := true, plainKeys := false, apart := false }
def OrderPlacesSaid : Prop := orderPlacesRow.holds Tryz.pinned (OpenSpec.ofChange orderPlacesSpec)

/-- ITS FALSE NEIGHBOUR: 'it returns false'. Refute it at one input. -/
def orderPlacesWrong : ChangeSpec := { name := "orderPlaces", fn := fun _ => fun
  | [d] => { results := [.lit (.bool false)], args := [d] }
  | _ => none }
def OrderPlacesWrongFalsely : Prop := orderPlacesRow.holds Tryz.pinned (OpenSpec.ofChange orderPlacesWrong)

/-- 'quoratelaw07.OrderAssigns': WHATEVER THE INPUT: true; the input reads as it did. -/
def orderAssignsSpec : ChangeSpec := { name := "orderAssigns", fn := fun _ => fun
  | [d] => { results := [.lit (.bool true)], args := [d] }
  | _ => none }
def orderAssignsRow : OpenClaim := { program := "ytoilipfgimcoiaagreat", sum := "9e6b9083fdcdbaf6677ed22c8f4a70b49aaa0116cb7d7a6d772f161e24991bab", func := "quorate/quoratelaw07.OrderAssigns", spec := "orderAssigns", unfollowed := true, recurses := true, plainKeys := false, apart := false }
def OrderAssignsSaid : Prop := orderAssignsRow.holds Tryz.pinned (OpenSpec.ofChange orderAssignsSpec)

/-- ITS FALSE NEIGHBOUR: 'it returns false'. Refute it at one input. -/
def orderAssignsWrong : ChangeSpec := { name := "orderAssigns", fn := fun _ => fun
  | [d] => { results := [.lit (.bool false)], args := [d] }
  | _ => none }
def OrderAssignsWrongFalsely : Prop := orderAssignsRow.holds Tryz.pinned (OpenSpec.ofChange orderAssignsWrong)

/-- 'quoratelaw07.OrderDelivers': WHATEVER THE INPUT: true; the input reads as it did. -/
def orderDeliversSpec : ChangeSpec := { name := "orderDelivers", fn := fun _ => fun
  | [d] => { results := [.lit (.bool true)], args := [d] }
  | _ => none }
def orderDeliversRow : OpenClaim := { program := "ytoilipfgimcoiaagreat", sum := "9e6b9083fdcdbaf6677ed22c8f4a70b49aaa0116cb7d7a6d772f161e24991bab", func := "quorate/quoratelaw07.OrderDelivers", spec := "orderDelivers", unfollowed := true, recurses := true, plainKeys := false, apart := false }
def OrderDeliversSaid : Prop := orderDeliversRow.holds Tryz.pinned (OpenSpec.ofChange orderDeliversSpec)

/-- ITS FALSE NEIGHBOUR: 'it returns false'. Refute it at one input. -/
def orderDeliversWrong : ChangeSpec := { name := "orderDelivers", fn := fun _ => fun
  | [d] => { results := [.lit (.bool false)], args := [d] }
  | _ => none }
def OrderDeliversWrongFalsely : Prop := orderDeliversRow.holds Tryz.pinned (OpenSpec.ofChange orderDeliversWrong)

/-- 'quoratelaw07.OrderHears': WHATEVER THE INPUT: true; the input reads as it did. -/
def orderHearsSpec : ChangeSpec := { name := "orderHears", fn := fun _ => fun
  | [d] => { results := [.lit (.bool true)], args := [d] }
  | _ => none }
def orderHearsRow : OpenClaim := { program := "ytoilipfgimcoiaagreat", sum := "9e6b9083fdcdbaf6677ed22c8f4a70b49aaa0116cb7d7a6d772f161e24991bab", func := "quorate/quoratelaw07.OrderHears", spec := "orderHears", unfollowed := true, recurses := true, plainKeys := false, apart := false }
def OrderHearsSaid : Prop := orderHearsRow.holds Tryz.pinned (OpenSpec.ofChange orderHearsSpec)

/-- ITS FALSE NEIGHBOUR: 'it returns false'. Refute it at one input. -/
def orderHearsWrong : ChangeSpec := { name := "orderHears", fn := fun _ => fun
  | [d] => { results := [.lit (.bool false)], args := [d] }
  | _ => none }
def OrderHearsWrongFalsely : Prop := orderHearsRow.holds Tryz.pinned (OpenSpec.ofChange orderHearsWrong)

/-- 'quoratelaw07.OrderContents': WHATEVER THE INPUT: true; the input reads as it did. -/
def orderContentsSpec : ChangeSpec := { name := "orderContents", fn := fun _ => fun
  | [d] => { results := [.lit (.bool true)], args := [d] }
  | _ => none }
def orderContentsRow : OpenClaim := { program := "ytoilipfgimcoiaagreat", sum := "9e6b9083fdcdbaf6677ed22c8f4a70b49aaa0116cb7d7a6d772f161e24991bab", func := "quorate/quoratelaw07.OrderContents", spec := "orderContents", unfollowed := true, recurses := true, plainKeys := false, apart := false }
def OrderContentsSaid : Prop := orderContentsRow.holds Tryz.pinned (OpenSpec.ofChange orderContentsSpec)

/-- ITS FALSE NEIGHBOUR: 'it returns false'. Refute it at one input. -/
def orderContentsWrong : ChangeSpec := { name := "orderContents", fn := fun _ => fun
  | [d] => { results := [.lit (.bool false)], args := [d] }
  | _ => none }
def OrderContentsWrongFalsely : Prop := orderContentsRow.holds Tryz.pinned (OpenSpec.ofChange orderContentsWrong)

/-- 'quoratelaw07.OrderAll': WHATEVER THE INPUT: true; the input reads as it did. -/
def orderAllSpec : ChangeSpec := { name := "orderAll", fn := fun _ => fun
  | [d] => { results := [.lit (.bool true)], args := [d] }
  | _ => none }
def orderAllRow : OpenClaim := { program := "ytoilipfgimcoiaagreat", sum := "9e6b9083fdcdbaf6677ed22c8f4a70b49aaa0116cb7d7a6d772f161e24991bab", func := "quorate/quoratelaw07.OrderAll", spec := "orderAll", unfollowed := true, recurses := true, plainKeys := false, apart := false }
def OrderAllSaid : Prop := orderAllRow.holds Tryz.pinned (OpenSpec.ofChange orderAllSpec)

/-- ITS FALSE NEIGHBOUR: 'it returns false'. Refute it at one input. -/
def orderAllWrong : ChangeSpec := { name := "orderAll", fn := fun _ => fun
  | [d] => { results := [.lit (.bool false)], args := [d] }
  | _ => none }
def OrderAllWrongFalsely : Prop := orderAllRow.holds Tryz.pinned (OpenSpec.ofChange orderAllWrong)

/- THE SECOND FORM. 'bulk': how many values and letters a reading holds, each counted each time it is reached (what is shared counts as often as it is met; a slice's spare places count too). A statement '..UptoSaid' is the law's where the arguments, and the package variables that the reading takes, are together of bulk at most 1048576: NARROWER than '..Said'. Prove '..Said' where nothing that the law and all that it calls make is longer than what came in: it says more and counts as full. Else prove '..UptoSaid'. A law counts once. -/
mutual
def uptoBulk {H : Type} : DataW H → Nat
  | .lit (.string bytes) => bytes.length + 1
  | .lit _ => 1
  | .nil => 1
  | .ptr d => uptoBulk d + 1
  | .slice elems spare => uptoBulkAll elems + uptoBulkAll spare + 1
  | .agg parts => uptoBulkAll parts + 1
  | .iface _ d => uptoBulk d + 1
  | .map entries => uptoBulkEntries entries + 1
  | .held _ => 1
def uptoBulkAll {H : Type} : List (DataW H) → Nat
  | [] => 0
  | d :: r => uptoBulk d + uptoBulkAll r
def uptoBulkEntries {H : Type} : List (Lit × DataW H) → Nat
  | [] => 0
  | x :: r => uptoBulkEntry x + uptoBulkEntries r
def uptoBulkEntry {H : Type} : Lit × DataW H → Nat
  | (.string bytes, d) => bytes.length + uptoBulk d + 1
  | (_, d) => uptoBulk d + 1
 end
def uptoSmall : (H : Type) → List (DataW H) → Bool := fun _ ds => decide (uptoBulkAll ds ≤ 1048576)
def OpenSpec.upto (s : _root_.Go.ChangeSpec) : _root_.Go.OpenSpec := { _root_.Go.OpenSpec.ofChange s with cond := some uptoSmall }

/-- 'quoratelaw07.OrderNews', WHERE WHAT IT READS IS OF BULK AT MOST 1048576: true; the input reads as it did. -/
def orderNewsUptoRow : OpenClaim := { program := "ytoilipfgimcoiaagreat", sum := "9e6b9083fdcdbaf6677ed22c8f4a70b49aaa0116cb7d7a6d772f161e24991bab", func := "quorate/quoratelaw07.OrderNews", spec := "orderNews", unfollowed := true, recurses := true, plainKeys := false, apart := false, narrowed := true }
def OrderNewsUptoSaid : Prop := orderNewsUptoRow.holds Tryz.pinned (OpenSpec.upto orderNewsSpec)

/-- 'quoratelaw07.OrderSends', WHERE WHAT IT READS IS OF BULK AT MOST 1048576: true; the input reads as it did. -/
def orderSendsUptoRow : OpenClaim := { program := "ytoilipfgimcoiaagreat", sum := "9e6b9083fdcdbaf6677ed22c8f4a70b49aaa0116cb7d7a6d772f161e24991bab", func := "quorate/quoratelaw07.OrderSends", spec := "orderSends", unfollowed := true, recurses := true, plainKeys := false, apart := false, narrowed := true }
def OrderSendsUptoSaid : Prop := orderSendsUptoRow.holds Tryz.pinned (OpenSpec.upto orderSendsSpec)

/-- 'quoratelaw07.OrderPlaces', WHERE WHAT IT READS IS OF BULK AT MOST 1048576: true; the input reads as it did. -/
def orderPlacesUptoRow : OpenClaim := { program := "ytoilipfgimcoiaagreat", sum := "9e6b9083fdcdbaf6677ed22c8f4a70b49aaa0116cb7d7a6d772f161e24991bab", func := "quorate/quoratelaw07.OrderPlaces", spec := "orderPlaces", unfollowed := true, recurses := true, plainKeys := false, apart := false, narrowed := true }
def OrderPlacesUptoSaid : Prop := orderPlacesUptoRow.holds Tryz.pinned (OpenSpec.upto orderPlacesSpec)

/-- 'quoratelaw07.OrderAssigns', WHERE WHAT IT READS IS OF BULK AT MOST 1048576: true; the input reads as it did. -/
def orderAssignsUptoRow : OpenClaim := { program := "ytoilipfgimcoiaagreat", sum := "9e6b9083fdcdbaf6677ed22c8f4a70b49aaa0116cb7d7a6d772f161e24991bab", func := "quorate/quoratelaw07.OrderAssigns", spec := "orderAssigns", unfollowed := true, recurses := true, plainKeys := false, apart := false, narrowed := true }
def OrderAssignsUptoSaid : Prop := orderAssignsUptoRow.holds Tryz.pinned (OpenSpec.upto orderAssignsSpec)

/-- 'quoratelaw07.OrderDelivers', WHERE WHAT IT READS IS OF BULK AT MOST 1048576: true; the input reads as it did. -/
def orderDeliversUptoRow : OpenClaim := { program := "ytoilipfgimcoiaagreat", sum := "9e6b9083fdcdbaf6677ed22c8f4a70b49aaa0116cb7d7a6d772f161e24991bab", func := "quorate/quoratelaw07.OrderDelivers", spec := "orderDelivers", unfollowed := true, recurses := true, plainKeys := false, apart := false, narrowed := true }
def OrderDeliversUptoSaid : Prop := orderDeliversUptoRow.holds Tryz.pinned (OpenSpec.upto orderDeliversSpec)

/-- 'quoratelaw07.OrderHears', WHERE WHAT IT READS IS OF BULK AT MOST 1048576: true; the input reads as it did. -/
def orderHearsUptoRow : OpenClaim := { program := "ytoilipfgimcoiaagreat", sum := "9e6b9083fdcdbaf6677ed22c8f4a70b49aaa0116cb7d7a6d772f161e24991bab", func := "quorate/quoratelaw07.OrderHears", spec := "orderHears", unfollowed := true, recurses := true, plainKeys := false, apart := false, narrowed := true }
def OrderHearsUptoSaid : Prop := orderHearsUptoRow.holds Tryz.pinned (OpenSpec.upto orderHearsSpec)

/-- 'quoratelaw07.OrderContents', WHERE WHAT IT READS IS OF BULK AT MOST 1048576: true; the input reads as it did. -/
def orderContentsUptoRow : OpenClaim := { program := "ytoilipfgimcoiaagreat", sum := "9e6b9083fdcdbaf6677ed22c8f4a70b49aaa0116cb7d7a6d772f161e24991bab", func := "quorate/quoratelaw07.OrderContents", spec := "orderContents", unfollowed := true, recurses := true, plainKeys := false, apart := false, narrowed := true }
def OrderContentsUptoSaid : Prop := orderContentsUptoRow.holds Tryz.pinned (OpenSpec.upto orderContentsSpec)

/-- 'quoratelaw07.OrderAll', WHERE WHAT IT READS IS OF BULK AT MOST 1048576: true; the input reads as it did. -/
def orderAllUptoRow : OpenClaim := { program := "ytoilipfgimcoiaagreat", sum := "9e6b9083fdcdbaf6677ed22c8f4a70b49aaa0116cb7d7a6d772f161e24991bab", func := "quorate/quoratelaw07.OrderAll", spec := "orderAll", unfollowed := true, recurses := true, plainKeys := false, apart := false, narrowed := true }
def OrderAllUptoSaid : Prop := orderAllUptoRow.holds Tryz.pinned (OpenSpec.upto orderAllSpec)

end Rows
end Go.Proofs.YtoilipfgimcoiaaGreat
