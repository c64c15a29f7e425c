/-
  No cell of these rows narrows 'for every input' (looked for: loops, veiled, ifaces, maps, wideKeys, modest, calm, conditions, laid).
  DERIVED. THE GIVEN ROWS OF THIS SEAT. 12 by the template 'for every input the law returns true; each argument reads behind the call as it read before'; 0 by the template 'total and deterministic' (their statements: YtfbeggdbjpmppaaTotals.lean).
  GIVEN WITH THE SEED: the statements are not yours to turn. If you find one false, say at which input.
  Laid BY PROGRAM, IN A SANDBOX (cutbox-rows.mjs): the forced cells as the released guide's own fill.sh prints them over the translation 0777b9738558b3a9… (all of the seat's roots in one cut). By AI agents, Wed Nov 11 2026. No macro, syntax, notation, axiom, sorry.
-/
import Derived.Test.YtfbeggdbjpmppaaChecked
import GoSem.Claim
import GoSem.ClaimJoined
import GoSem.ClaimMapViews
import Derived.JoinedTies
import Derived.KernelRfl
namespace Go.Proofs.Ytfbeggdbjpmppaa
/- THE CELL 'sum', in the pinned program and in every row, IS THE sha256 OF THE DUMP (.gsa) THAT YtfbeggdbjpmppaaProg.lean LOADS. Nothing in Lean hashes anything: it is a label: what it is worth is what the hold of that sum in a sandbox is worth. -/
noncomputable def Try.pinned : Pinned := { name := "ytfbeggdbjpmppaa", sum := "0777b9738558b3a907b3187847eaf5700b7ef0b6b27626e736e738989d8bfe5d", checked := Try.checked }
namespace Rows
def none {H : Type} : Left H := { results := [], args := [] }

/-- 'quoratelaw06.MemberOneView': WHATEVER THE INPUT: true; the input reads as it did. -/
def memberOneViewSpec : ChangeSpec := { name := "memberOneView", fn := fun _ => fun
  | [d1, d2, d3] => { results := [.lit (.bool true)], args := [d1, d2, d3] }
  | _ => none }
def memberOneViewRow : OpenClaim := { program := "ytfbeggdbjpmppaa", sum := "0777b9738558b3a907b3187847eaf5700b7ef0b6b27626e736e738989d8bfe5d", func := "quorate/quoratelaw06.MemberOneView", spec := "memberOneView", unfollowed := true, recurses := true, apart := false }
def MemberOneViewSaid : Prop := memberOneViewRow.holds Try.pinned (OpenSpec.ofChange memberOneViewSpec)

/-- ITS FALSE NEIGHBOUR: 'it returns false'. Refute it at one input. -/
def memberOneViewWrong : ChangeSpec := { name := "memberOneView", fn := fun _ => fun
  | [d1, d2, d3] => { results := [.lit (.bool false)], args := [d1, d2, d3] }
  | _ => none }
def MemberOneViewWrongFalsely : Prop := memberOneViewRow.holds Try.pinned (OpenSpec.ofChange memberOneViewWrong)

/-- 'quoratelaw06.MemberEstimates': WHATEVER THE INPUT: true; the input reads as it did. -/
def memberEstimatesSpec : ChangeSpec := { name := "memberEstimates", fn := fun _ => fun
  | [d] => { results := [.lit (.bool true)], args := [d] }
  | _ => none }
def memberEstimatesRow : OpenClaim := { program := "ytfbeggdbjpmppaa", sum := "0777b9738558b3a907b3187847eaf5700b7ef0b6b27626e736e738989d8bfe5d", func := "quorate/quoratelaw06.MemberEstimates", spec := "memberEstimates", unfollowed := true, recurses := true, apart := false }
def MemberEstimatesSaid : Prop := memberEstimatesRow.holds Try.pinned (OpenSpec.ofChange memberEstimatesSpec)

/-- ITS FALSE NEIGHBOUR: 'it returns false'. Refute it at one input. -/
def memberEstimatesWrong : ChangeSpec := { name := "memberEstimates", fn := fun _ => fun
  | [d] => { results := [.lit (.bool false)], args := [d] }
  | _ => none }
def MemberEstimatesWrongFalsely : Prop := memberEstimatesRow.holds Try.pinned (OpenSpec.ofChange memberEstimatesWrong)

/-- 'quoratelaw06.MemberTakes': WHATEVER THE INPUT: true; the input reads as it did. -/
def memberTakesSpec : ChangeSpec := { name := "memberTakes", fn := fun _ => fun
  | [d] => { results := [.lit (.bool true)], args := [d] }
  | _ => none }
def memberTakesRow : OpenClaim := { program := "ytfbeggdbjpmppaa", sum := "0777b9738558b3a907b3187847eaf5700b7ef0b6b27626e736e738989d8bfe5d", func := "quorate/quoratelaw06.MemberTakes", spec := "memberTakes", unfollowed := true, recurses := true, apart := false }
def MemberTakesSaid : Prop := memberTakesRow.holds Try.pinned (OpenSpec.ofChange memberTakesSpec)

/-- ITS FALSE NEIGHBOUR: 'it returns false'. Refute it at one input. -/
def memberTakesWrong : ChangeSpec := { name := "memberTakes", fn := fun _ => fun
  | [d] => { results := [.lit (.bool false)], args := [d] }
  | _ => none }
def MemberTakesWrongFalsely : Prop := memberTakesRow.holds Try.pinned (OpenSpec.ofChange memberTakesWrong)

/-- 'quoratelaw06.MemberProposes': WHATEVER THE INPUT: true; the input reads as it did. -/
def memberProposesSpec : ChangeSpec := { name := "memberProposes", fn := fun _ => fun
  | [d] => { results := [.lit (.bool true)], args := [d] }
  | _ => none }
def memberProposesRow : OpenClaim := { program := "ytfbeggdbjpmppaa", sum := "0777b9738558b3a907b3187847eaf5700b7ef0b6b27626e736e738989d8bfe5d", func := "quorate/quoratelaw06.MemberProposes", spec := "memberProposes", unfollowed := true, recurses := true, apart := false }
def MemberProposesSaid : Prop := memberProposesRow.holds Try.pinned (OpenSpec.ofChange memberProposesSpec)

/-- ITS FALSE NEIGHBOUR: 'it returns false'. Refute it at one input. -/
def memberProposesWrong : ChangeSpec := { name := "memberProposes", fn := fun _ => fun
  | [d] => { results := [.lit (.bool false)], args := [d] }
  | _ => none }
def MemberProposesWrongFalsely : Prop := memberProposesRow.holds Try.pinned (OpenSpec.ofChange memberProposesWrong)

/-- 'quoratelaw06.MemberAgrees': WHATEVER THE INPUT: true; the input reads as it did. -/
def memberAgreesSpec : ChangeSpec := { name := "memberAgrees", fn := fun _ => fun
  | [d] => { results := [.lit (.bool true)], args := [d] }
  | _ => none }
def memberAgreesRow : OpenClaim := { program := "ytfbeggdbjpmppaa", sum := "0777b9738558b3a907b3187847eaf5700b7ef0b6b27626e736e738989d8bfe5d", func := "quorate/quoratelaw06.MemberAgrees", spec := "memberAgrees", unfollowed := true, recurses := true, apart := false }
def MemberAgreesSaid : Prop := memberAgreesRow.holds Try.pinned (OpenSpec.ofChange memberAgreesSpec)

/-- ITS FALSE NEIGHBOUR: 'it returns false'. Refute it at one input. -/
def memberAgreesWrong : ChangeSpec := { name := "memberAgrees", fn := fun _ => fun
  | [d] => { results := [.lit (.bool false)], args := [d] }
  | _ => none }
def MemberAgreesWrongFalsely : Prop := memberAgreesRow.holds Try.pinned (OpenSpec.ofChange memberAgreesWrong)

/-- 'quoratelaw06.MemberViews': WHATEVER THE INPUT: true; the input reads as it did. -/
def memberViewsSpec : ChangeSpec := { name := "memberViews", fn := fun _ => fun
  | [d] => { results := [.lit (.bool true)], args := [d] }
  | _ => none }
def memberViewsRow : OpenClaim := { program := "ytfbeggdbjpmppaa", sum := "0777b9738558b3a907b3187847eaf5700b7ef0b6b27626e736e738989d8bfe5d", func := "quorate/quoratelaw06.MemberViews", spec := "memberViews", unfollowed := true, recurses := true, apart := false }
def MemberViewsSaid : Prop := memberViewsRow.holds Try.pinned (OpenSpec.ofChange memberViewsSpec)

/-- ITS FALSE NEIGHBOUR: 'it returns false'. Refute it at one input. -/
def memberViewsWrong : ChangeSpec := { name := "memberViews", fn := fun _ => fun
  | [d] => { results := [.lit (.bool false)], args := [d] }
  | _ => none }
def MemberViewsWrongFalsely : Prop := memberViewsRow.holds Try.pinned (OpenSpec.ofChange memberViewsWrong)

/-- 'quoratelaw06.MemberAll': WHATEVER THE INPUT: true; the input reads as it did. -/
def memberAllSpec : ChangeSpec := { name := "memberAll", fn := fun _ => fun
  | [d] => { results := [.lit (.bool true)], args := [d] }
  | _ => none }
def memberAllRow : OpenClaim := { program := "ytfbeggdbjpmppaa", sum := "0777b9738558b3a907b3187847eaf5700b7ef0b6b27626e736e738989d8bfe5d", func := "quorate/quoratelaw06.MemberAll", spec := "memberAll", unfollowed := true, recurses := true, apart := false }
def MemberAllSaid : Prop := memberAllRow.holds Try.pinned (OpenSpec.ofChange memberAllSpec)

/-- ITS FALSE NEIGHBOUR: 'it returns false'. Refute it at one input. -/
def memberAllWrong : ChangeSpec := { name := "memberAll", fn := fun _ => fun
  | [d] => { results := [.lit (.bool false)], args := [d] }
  | _ => none }
def MemberAllWrongFalsely : Prop := memberAllRow.holds Try.pinned (OpenSpec.ofChange memberAllWrong)

/-- 'quoratelaw06.MemberRises': WHATEVER THE INPUT: true; the input reads as it did. -/
def memberRisesSpec : ChangeSpec := { name := "memberRises", fn := fun _ => fun
  | [d] => { results := [.lit (.bool true)], args := [d] }
  | _ => none }
def memberRisesRow : OpenClaim := { program := "ytfbeggdbjpmppaa", sum := "0777b9738558b3a907b3187847eaf5700b7ef0b6b27626e736e738989d8bfe5d", func := "quorate/quoratelaw06.MemberRises", spec := "memberRises", unfollowed := true, recurses := true, apart := false }
def MemberRisesSaid : Prop := memberRisesRow.holds Try.pinned (OpenSpec.ofChange memberRisesSpec)

/-- ITS FALSE NEIGHBOUR: 'it returns false'. Refute it at one input. -/
def memberRisesWrong : ChangeSpec := { name := "memberRises", fn := fun _ => fun
  | [d] => { results := [.lit (.bool false)], args := [d] }
  | _ => none }
def MemberRisesWrongFalsely : Prop := memberRisesRow.holds Try.pinned (OpenSpec.ofChange memberRisesWrong)

/-- 'quoratelaw06.MemberRefusals': WHATEVER THE INPUT: true; the input reads as it did. -/
def memberRefusalsSpec : ChangeSpec := { name := "memberRefusals", fn := fun _ => fun
  | [d] => { results := [.lit (.bool true)], args := [d] }
  | _ => none }
def memberRefusalsRow : OpenClaim := { program := "ytfbeggdbjpmppaa", sum := "0777b9738558b3a907b3187847eaf5700b7ef0b6b27626e736e738989d8bfe5d", func := "quorate/quoratelaw06.MemberRefusals", spec := "memberRefusals", unfollowed := true, recurses := true, apart := false }
def MemberRefusalsSaid : Prop := memberRefusalsRow.holds Try.pinned (OpenSpec.ofChange memberRefusalsSpec)

/-- ITS FALSE NEIGHBOUR: 'it returns false'. Refute it at one input. -/
def memberRefusalsWrong : ChangeSpec := { name := "memberRefusals", fn := fun _ => fun
  | [d] => { results := [.lit (.bool false)], args := [d] }
  | _ => none }
def MemberRefusalsWrongFalsely : Prop := memberRefusalsRow.holds Try.pinned (OpenSpec.ofChange memberRefusalsWrong)

/-- 'quoratelaw06.MemberOrderless': WHATEVER THE INPUT: true; the input reads as it did. -/
def memberOrderlessSpec : ChangeSpec := { name := "memberOrderless", fn := fun _ => fun
  | [d1, d2] => { results := [.lit (.bool true)], args := [d1, d2] }
  | _ => none }
def memberOrderlessRow : OpenClaim := { program := "ytfbeggdbjpmppaa", sum := "0777b9738558b3a907b3187847eaf5700b7ef0b6b27626e736e738989d8bfe5d", func := "quorate/quoratelaw06.MemberOrderless", spec := "memberOrderless", unfollowed := true, recurses := true, apart := false }
def MemberOrderlessSaid : Prop := memberOrderlessRow.holds Try.pinned (OpenSpec.ofChange memberOrderlessSpec)

/-- ITS FALSE NEIGHBOUR: 'it returns false'. Refute it at one input. -/
def memberOrderlessWrong : ChangeSpec := { name := "memberOrderless", fn := fun _ => fun
  | [d1, d2] => { results := [.lit (.bool false)], args := [d1, d2] }
  | _ => none }
def MemberOrderlessWrongFalsely : Prop := memberOrderlessRow.holds Try.pinned (OpenSpec.ofChange memberOrderlessWrong)

/-- 'quoratelaw06.MemberCalm': WHATEVER THE INPUT: true; the input reads as it did. -/
def memberCalmSpec : ChangeSpec := { name := "memberCalm", fn := fun _ => fun
  | [d1, d2, d3, d4] => { results := [.lit (.bool true)], args := [d1, d2, d3, d4] }
  | _ => none }
def memberCalmRow : OpenClaim := { program := "ytfbeggdbjpmppaa", sum := "0777b9738558b3a907b3187847eaf5700b7ef0b6b27626e736e738989d8bfe5d", func := "quorate/quoratelaw06.MemberCalm", spec := "memberCalm", unfollowed := true, recurses := true, apart := false }
def MemberCalmSaid : Prop := memberCalmRow.holds Try.pinned (OpenSpec.ofChange memberCalmSpec)

/-- ITS FALSE NEIGHBOUR: 'it returns false'. Refute it at one input. -/
def memberCalmWrong : ChangeSpec := { name := "memberCalm", fn := fun _ => fun
  | [d1, d2, d3, d4] => { results := [.lit (.bool false)], args := [d1, d2, d3, d4] }
  | _ => none }
def MemberCalmWrongFalsely : Prop := memberCalmRow.holds Try.pinned (OpenSpec.ofChange memberCalmWrong)

/-- 'quoratelaw06.MemberFollows': WHATEVER THE INPUT: true; the input reads as it did. -/
def memberFollowsSpec : ChangeSpec := { name := "memberFollows", fn := fun _ => fun
  | [d1, d2, d3, d4] => { results := [.lit (.bool true)], args := [d1, d2, d3, d4] }
  | _ => none }
def memberFollowsRow : OpenClaim := { program := "ytfbeggdbjpmppaa", sum := "0777b9738558b3a907b3187847eaf5700b7ef0b6b27626e736e738989d8bfe5d", func := "quorate/quoratelaw06.MemberFollows", spec := "memberFollows", unfollowed := true, recurses := true, apart := false }
def MemberFollowsSaid : Prop := memberFollowsRow.holds Try.pinned (OpenSpec.ofChange memberFollowsSpec)

/-- ITS FALSE NEIGHBOUR: 'it returns false'. Refute it at one input. -/
def memberFollowsWrong : ChangeSpec := { name := "memberFollows", fn := fun _ => fun
  | [d1, d2, d3, d4] => { results := [.lit (.bool false)], args := [d1, d2, d3, d4] }
  | _ => none }
def MemberFollowsWrongFalsely : Prop := memberFollowsRow.holds Try.pinned (OpenSpec.ofChange memberFollowsWrong)

/- THE SECOND FORM. 'bulk': how many values and letters a reading holds, each counted each time it is reached (what is shared counts as often as it is met; a slice's spare places count too). A statement '..UptoSaid' is the law's where the arguments, and the package variables that the reading takes, are together of bulk at most 1048576: NARROWER than '..Said'. Prove '..Said' where nothing that the law and all that it calls make is longer than what came in: it says more and counts as full. Else prove '..UptoSaid'. A law counts once. -/
mutual
def uptoBulk {H : Type} : DataW H → Nat
  | .lit (.string bytes) => bytes.length + 1
  | .lit _ => 1
  | .nil => 1
  | .ptr d => uptoBulk d + 1
  | .slice elems spare => uptoBulkAll elems + uptoBulkAll spare + 1
  | .agg parts => uptoBulkAll parts + 1
  | .iface _ d => uptoBulk d + 1
  | .map entries => uptoBulkEntries entries + 1
  | .held _ => 1
def uptoBulkAll {H : Type} : List (DataW H) → Nat
  | [] => 0
  | d :: r => uptoBulk d + uptoBulkAll r
def uptoBulkEntries {H : Type} : List (Lit × DataW H) → Nat
  | [] => 0
  | x :: r => uptoBulkEntry x + uptoBulkEntries r
def uptoBulkEntry {H : Type} : Lit × DataW H → Nat
  | (.string bytes, d) => bytes.length + uptoBulk d + 1
  | (_, d) => uptoBulk d + 1
 end
def uptoSmall : (H : Type) → List (DataW H) → Bool := fun _ ds => decide (uptoBulkAll ds ≤ 1048576)
def OpenSpec.upto (s : _root_.Go.ChangeSpec) : _root_.Go.OpenSpec := { _root_.Go.OpenSpec.ofChange s with cond := some uptoSmall }

/-- 'quoratelaw06.MemberOneView', WHERE WHAT IT READS IS OF BULK AT MOST 1048576: true; the input reads as it did. -/
def memberOneViewUptoRow : OpenClaim := { program := "ytfbeggdbjpmppaa", sum := "0777b9738558b3a907b3187847eaf5700b7ef0b6b27626e736e738989d8bfe5d", func := "quorate/quoratelaw06.MemberOneView", spec := "memberOneView", unfollowed := true, recurses := true, apart := false, narrowed := true }
def MemberOneViewUptoSaid : Prop := memberOneViewUptoRow.holds Try.pinned (OpenSpec.upto memberOneViewSpec)

/-- 'quoratelaw06.MemberEstimates', WHERE WHAT IT READS IS OF BULK AT MOST 1048576: true; the input reads as it did. -/
def memberEstimatesUptoRow : OpenClaim := { program := "ytfbeggdbjpmppaa", sum := "0777b9738558b3a907b3187847eaf5700b7ef0b6b27626e736e738989d8bfe5d", func := "quorate/quoratelaw06.MemberEstimates", spec := "memberEstimates", unfollowed := true, recurses := true, apart := false, narrowed := true }
def MemberEstimatesUptoSaid : Prop := memberEstimatesUptoRow.holds Try.pinned (OpenSpec.upto memberEstimatesSpec)

/-- 'quoratelaw06.MemberTakes', WHERE WHAT IT READS IS OF BULK AT MOST 1048576: true; the input reads as it did. -/
def memberTakesUptoRow : OpenClaim := { program := "ytfbeggdbjpmppaa", sum := "0777b9738558b3a907b3187847eaf5700b7ef0b6b27626e736e738989d8bfe5d", func := "quorate/quoratelaw06.MemberTakes", spec := "memberTakes", unfollowed := true, recurses := true, apart := false, narrowed := true }
def MemberTakesUptoSaid : Prop := memberTakesUptoRow.holds Try.pinned (OpenSpec.upto memberTakesSpec)

/-- 'quoratelaw06.MemberProposes', WHERE WHAT IT READS IS OF BULK AT MOST 1048576: true; the input reads as it did. -/
def memberProposesUptoRow : OpenClaim := { program := "ytfbeggdbjpmppaa", sum := "0777b9738558b3a907b3187847eaf5700b7ef0b6b27626e736e738989d8bfe5d", func := "quorate/quoratelaw06.MemberProposes", spec := "memberProposes", unfollowed := true, recurses := true, apart := false, narrowed := true }
def MemberProposesUptoSaid : Prop := memberProposesUptoRow.holds Try.pinned (OpenSpec.upto memberProposesSpec)

/-- 'quoratelaw06.MemberAgrees', WHERE WHAT IT READS IS OF BULK AT MOST 1048576: true; the input reads as it did. -/
def memberAgreesUptoRow : OpenClaim := { program := "ytfbeggdbjpmppaa", sum := "0777b9738558b3a907b3187847eaf5700b7ef0b6b27626e736e738989d8bfe5d", func := "quorate/quoratelaw06.MemberAgrees", spec := "memberAgrees", unfollowed := true, recurses := true, apart := false, narrowed := true }
def MemberAgreesUptoSaid : Prop := memberAgreesUptoRow.holds Try.pinned (OpenSpec.upto memberAgreesSpec)

/-- 'quoratelaw06.MemberViews', WHERE WHAT IT READS IS OF BULK AT MOST 1048576: true; the input reads as it did. -/
def memberViewsUptoRow : OpenClaim := { program := "ytfbeggdbjpmppaa", sum := "0777b9738558b3a907b3187847eaf5700b7ef0b6b27626e736e738989d8bfe5d", func := "quorate/quoratelaw06.MemberViews", spec := "memberViews", unfollowed := true, recurses := true, apart := false, narrowed := true }
def MemberViewsUptoSaid : Prop := memberViewsUptoRow.holds Try.pinned (OpenSpec.upto memberViewsSpec)

/-- 'quoratelaw06.MemberAll', WHERE WHAT IT READS IS OF BULK AT MOST 1048576: true; the input reads as it did. -/
def memberAllUptoRow : OpenClaim := { program := "ytfbeggdbjpmppaa", sum := "0777b9738558b3a907b3187847eaf5700b7ef0b6b27626e736e738989d8bfe5d", func := "quorate/quoratelaw06.MemberAll", spec := "memberAll", unfollowed := true, recurses := true, apart := false, narrowed := true }
def MemberAllUptoSaid : Prop := memberAllUptoRow.holds Try.pinned (OpenSpec.upto memberAllSpec)

/-- 'quoratelaw06.MemberRises', WHERE WHAT IT READS IS OF BULK AT MOST 1048576: true; the input reads as it did. -/
def memberRisesUptoRow : OpenClaim := { program := "ytfbeggdbjpmppaa", sum := "0777b9738558b3a907b3187847eaf5700b7ef0b6b27626e736e738989d8bfe5d", func := "quorate/quoratelaw06.MemberRises", spec := "memberRises", unfollowed := true, recurses := true, apart := false, narrowed := true }
def MemberRisesUptoSaid : Prop := memberRisesUptoRow.holds Try.pinned (OpenSpec.upto memberRisesSpec)

/-- 'quoratelaw06.MemberRefusals', WHERE WHAT IT READS IS OF BULK AT MOST 1048576: true; the input reads as it did. -/
def memberRefusalsUptoRow : OpenClaim := { program := "ytfbeggdbjpmppaa", sum := "0777b9738558b3a907b3187847eaf5700b7ef0b6b27626e736e738989d8bfe5d", func := "quorate/quoratelaw06.MemberRefusals", spec := "memberRefusals", unfollowed := true, recurses := true, apart := false, narrowed := true }
def MemberRefusalsUptoSaid : Prop := memberRefusalsUptoRow.holds Try.pinned (OpenSpec.upto memberRefusalsSpec)

/-- 'quoratelaw06.MemberOrderless', WHERE WHAT IT READS IS OF BULK AT MOST 1048576: true; the input reads as it did. -/
def memberOrderlessUptoRow : OpenClaim := { program := "ytfbeggdbjpmppaa", sum := "0777b9738558b3a907b3187847eaf5700b7ef0b6b27626e736e738989d8bfe5d", func := "quorate/quoratelaw06.MemberOrderless", spec := "memberOrderless", unfollowed := true, recurses := true, apart := false, narrowed := true }
def MemberOrderlessUptoSaid : Prop := memberOrderlessUptoRow.holds Try.pinned (OpenSpec.upto memberOrderlessSpec)

/-- 'quoratelaw06.MemberCalm', WHERE WHAT IT READS IS OF BULK AT MOST 1048576: true; the input reads as it did. -/
def memberCalmUptoRow : OpenClaim := { program := "ytfbeggdbjpmppaa", sum := "0777b9738558b3a907b3187847eaf5700b7ef0b6b27626e736e738989d8bfe5d", func := "quorate/quoratelaw06.MemberCalm", spec := "memberCalm", unfollowed := true, recurses := true, apart := false, narrowed := true }
def MemberCalmUptoSaid : Prop := memberCalmUptoRow.holds Try.pinned (OpenSpec.upto memberCalmSpec)

/-- 'quoratelaw06.MemberFollows', WHERE WHAT IT READS IS OF BULK AT MOST 1048576: true; the input reads as it did. -/
def memberFollowsUptoRow : OpenClaim := { program := "ytfbeggdbjpmppaa", sum := "0777b9738558b3a907b3187847eaf5700b7ef0b6b27626e736e738989d8bfe5d", func := "quorate/quoratelaw06.MemberFollows", spec := "memberFollows", unfollowed := true, recurses := true, apart := false, narrowed := true }
def MemberFollowsUptoSaid : Prop := memberFollowsUptoRow.holds Try.pinned (OpenSpec.upto memberFollowsSpec)

end Rows
end Go.Proofs.Ytfbeggdbjpmppaa
