/-
  No cell of these rows narrows 'for every input' (looked for: loops, veiled, ifaces, maps, wideKeys, modest, calm, conditions, laid).
  DERIVED. THE GIVEN ROWS OF THIS SEAT. 5 by the template 'for every input the law returns true; each argument reads behind the call as it read before'; 0 by the template 'total and deterministic' (their statements: YtifnopmkdempdaaGreatTotals.lean).
  GIVEN WITH THE SEED: the statements are not yours to turn. If you find one false, say at which input.
  Laid BY PROGRAM, IN A SANDBOX (cutbox-rows.mjs): the forced cells as the released guide's own fill.sh prints them over the translation 0cb23462ee23ae6e… (all of the seat's roots in one cut). By AI agents, Wed Nov 11 2026. No macro, syntax, notation, axiom, sorry.
-/
import Derived.Test.YtifnopmkdempdaaGreatChecked
import GoSem.Claim
import GoSem.ClaimJoined
import GoSem.ClaimMapViews
import Derived.JoinedTies
import Derived.KernelRfl
namespace Go.Proofs.YtifnopmkdempdaaGreat
/- THE CELL 'sum', in the pinned program and in every row, IS THE sha256 OF THE DUMP (.gsa) THAT YtifnopmkdempdaaGreatProg.lean LOADS. Nothing in Lean hashes anything: it is a label: what it is worth is what the hold of that sum in a sandbox is worth. -/
noncomputable def Tryz.pinned : Pinned := { name := "ytifnopmkdempdaagreat", sum := "0cb23462ee23ae6e92fac74a301219c8b2e16b69f979aac5e9d916628869f6c7", checked := Tryz.checked }
namespace Rows
def none {H : Type} : Left H := { results := [], args := [] }

/-- 'laws.FnExactIsSafeDecision': WHATEVER THE INPUT: true; the input reads as it did. -/
def fnExactIsSafeDecisionSpec : ChangeSpec := { name := "fnExactIsSafeDecision", fn := fun _ => fun
  | [d1, d2, d3] => { results := [.lit (.bool true)], args := [d1, d2, d3] }
  | _ => none }
def fnExactIsSafeDecisionRow : OpenClaim := { program := "ytifnopmkdempdaagreat", sum := "0cb23462ee23ae6e92fac74a301219c8b2e16b69f979aac5e9d916628869f6c7", func := "loop.example/g00827/laws.FnExactIsSafeDecision", spec := "fnExactIsSafeDecision", unfollowed := true, recurses := true, apart := false }
def FnExactIsSafeDecisionSaid : Prop := fnExactIsSafeDecisionRow.holds Tryz.pinned (OpenSpec.ofChange fnExactIsSafeDecisionSpec)

/-- ITS FALSE NEIGHBOUR: 'it returns false'. Refute it at one input. -/
def fnExactIsSafeDecisionWrong : ChangeSpec := { name := "fnExactIsSafeDecision", fn := fun _ => fun
  | [d1, d2, d3] => { results := [.lit (.bool false)], args := [d1, d2, d3] }
  | _ => none }
def FnExactIsSafeDecisionWrongFalsely : Prop := fnExactIsSafeDecisionRow.holds Tryz.pinned (OpenSpec.ofChange fnExactIsSafeDecisionWrong)

/-- 'laws.FnExactLazyDecision': WHATEVER THE INPUT: true; the input reads as it did. -/
def fnExactLazyDecisionSpec : ChangeSpec := { name := "fnExactLazyDecision", fn := fun _ => fun
  | [d1, d2] => { results := [.lit (.bool true)], args := [d1, d2] }
  | _ => none }
def fnExactLazyDecisionRow : OpenClaim := { program := "ytifnopmkdempdaagreat", sum := "0cb23462ee23ae6e92fac74a301219c8b2e16b69f979aac5e9d916628869f6c7", func := "loop.example/g00827/laws.FnExactLazyDecision", spec := "fnExactLazyDecision", unfollowed := true, recurses := true, apart := false }
def FnExactLazyDecisionSaid : Prop := fnExactLazyDecisionRow.holds Tryz.pinned (OpenSpec.ofChange fnExactLazyDecisionSpec)

/-- ITS FALSE NEIGHBOUR: 'it returns false'. Refute it at one input. -/
def fnExactLazyDecisionWrong : ChangeSpec := { name := "fnExactLazyDecision", fn := fun _ => fun
  | [d1, d2] => { results := [.lit (.bool false)], args := [d1, d2] }
  | _ => none }
def FnExactLazyDecisionWrongFalsely : Prop := fnExactLazyDecisionRow.holds Tryz.pinned (OpenSpec.ofChange fnExactLazyDecisionWrong)

/-- 'laws.FnExactUrgentNodes': WHATEVER THE INPUT: true; the input reads as it did. -/
def fnExactUrgentNodesSpec : ChangeSpec := { name := "fnExactUrgentNodes", fn := fun _ => fun
  | [d1, d2] => { results := [.lit (.bool true)], args := [d1, d2] }
  | _ => none }
def fnExactUrgentNodesRow : OpenClaim := { program := "ytifnopmkdempdaagreat", sum := "0cb23462ee23ae6e92fac74a301219c8b2e16b69f979aac5e9d916628869f6c7", func := "loop.example/g00827/laws.FnExactUrgentNodes", spec := "fnExactUrgentNodes", unfollowed := true, recurses := true, apart := false }
def FnExactUrgentNodesSaid : Prop := fnExactUrgentNodesRow.holds Tryz.pinned (OpenSpec.ofChange fnExactUrgentNodesSpec)

/-- ITS FALSE NEIGHBOUR: 'it returns false'. Refute it at one input. -/
def fnExactUrgentNodesWrong : ChangeSpec := { name := "fnExactUrgentNodes", fn := fun _ => fun
  | [d1, d2] => { results := [.lit (.bool false)], args := [d1, d2] }
  | _ => none }
def FnExactUrgentNodesWrongFalsely : Prop := fnExactUrgentNodesRow.holds Tryz.pinned (OpenSpec.ofChange fnExactUrgentNodesWrong)

/-- 'laws.FnExactBadEndings': WHATEVER THE INPUT: true; the input reads as it did. -/
def fnExactBadEndingsSpec : ChangeSpec := { name := "fnExactBadEndings", fn := fun _ => fun
  | [d1, d2] => { results := [.lit (.bool true)], args := [d1, d2] }
  | _ => none }
def fnExactBadEndingsRow : OpenClaim := { program := "ytifnopmkdempdaagreat", sum := "0cb23462ee23ae6e92fac74a301219c8b2e16b69f979aac5e9d916628869f6c7", func := "loop.example/g00827/laws.FnExactBadEndings", spec := "fnExactBadEndings", unfollowed := true, recurses := true, apart := false }
def FnExactBadEndingsSaid : Prop := fnExactBadEndingsRow.holds Tryz.pinned (OpenSpec.ofChange fnExactBadEndingsSpec)

/-- ITS FALSE NEIGHBOUR: 'it returns false'. Refute it at one input. -/
def fnExactBadEndingsWrong : ChangeSpec := { name := "fnExactBadEndings", fn := fun _ => fun
  | [d1, d2] => { results := [.lit (.bool false)], args := [d1, d2] }
  | _ => none }
def FnExactBadEndingsWrongFalsely : Prop := fnExactBadEndingsRow.holds Tryz.pinned (OpenSpec.ofChange fnExactBadEndingsWrong)

/-- 'laws.FnExactBadValues': WHATEVER THE INPUT: true; the input reads as it did. -/
def fnExactBadValuesSpec : ChangeSpec := { name := "fnExactBadValues", fn := fun _ => fun
  | [d1, d2, d3] => { results := [.lit (.bool true)], args := [d1, d2, d3] }
  | _ => none }
def fnExactBadValuesRow : OpenClaim := { program := "ytifnopmkdempdaagreat", sum := "0cb23462ee23ae6e92fac74a301219c8b2e16b69f979aac5e9d916628869f6c7", func := "loop.example/g00827/laws.FnExactBadValues", spec := "fnExactBadValues", unfollowed := true, recurses := true, apart := false }
def FnExactBadValuesSaid : Prop := fnExactBadValuesRow.holds Tryz.pinned (OpenSpec.ofChange fnExactBadValuesSpec)

/-- ITS FALSE NEIGHBOUR: 'it returns false'. Refute it at one input. -/
def fnExactBadValuesWrong : ChangeSpec := { name := "fnExactBadValues", fn := fun _ => fun
  | [d1, d2, d3] => { results := [.lit (.bool false)], args := [d1, d2, d3] }
  | _ => none }
def FnExactBadValuesWrongFalsely : Prop := fnExactBadValuesRow.holds Tryz.pinned (OpenSpec.ofChange fnExactBadValuesWrong)

/- THE SECOND FORM. 'bulk': how many values and letters a reading holds, each counted each time it is reached (what is shared counts as often as it is met; a slice's spare places count too). A statement '..UptoSaid' is the law's where the arguments, and the package variables that the reading takes, are together of bulk at most 1048576: NARROWER than '..Said'. Prove '..Said' where nothing that the law and all that it calls make is longer than what came in: it says more and counts as full. Else prove '..UptoSaid'. A law counts once. -/
mutual
def uptoBulk {H : Type} : DataW H → Nat
  | .lit (.string bytes) => bytes.length + 1
  | .lit _ => 1
  | .nil => 1
  | .ptr d => uptoBulk d + 1
  | .slice elems spare => uptoBulkAll elems + uptoBulkAll spare + 1
  | .agg parts => uptoBulkAll parts + 1
  | .iface _ d => uptoBulk d + 1
  | .map entries => uptoBulkEntries entries + 1
  | .held _ => 1
def uptoBulkAll {H : Type} : List (DataW H) → Nat
  | [] => 0
  | d :: r => uptoBulk d + uptoBulkAll r
def uptoBulkEntries {H : Type} : List (Lit × DataW H) → Nat
  | [] => 0
  | x :: r => uptoBulkEntry x + uptoBulkEntries r
def uptoBulkEntry {H : Type} : Lit × DataW H → Nat
  | (.string bytes, d) => bytes.length + uptoBulk d + 1
  | (_, d) => uptoBulk d + 1
 end
def uptoSmall : (H : Type) → List (DataW H) → Bool := fun _ ds => decide (uptoBulkAll ds ≤ 1048576)
def OpenSpec.upto (s : _root_.Go.ChangeSpec) : _root_.Go.OpenSpec := { _root_.Go.OpenSpec.ofChange s with cond := some uptoSmall }

/-- 'laws.FnExactIsSafeDecision', WHERE WHAT IT READS IS OF BULK AT MOST 1048576: true; the input reads as it did. -/
def fnExactIsSafeDecisionUptoRow : OpenClaim := { program := "ytifnopmkdempdaagreat", sum := "0cb23462ee23ae6e92fac74a301219c8b2e16b69f979aac5e9d916628869f6c7", func := "loop.example/g00827/laws.FnExactIsSafeDecision", spec := "fnExactIsSafeDecision", unfollowed := true, recurses := true, apart := false, narrowed := true }
def FnExactIsSafeDecisionUptoSaid : Prop := fnExactIsSafeDecisionUptoRow.holds Tryz.pinned (OpenSpec.upto fnExactIsSafeDecisionSpec)

/-- 'laws.FnExactLazyDecision', WHERE WHAT IT READS IS OF BULK AT MOST 1048576: true; the input reads as it did. -/
def fnExactLazyDecisionUptoRow : OpenClaim := { program := "ytifnopmkdempdaagreat", sum := "0cb23462ee23ae6e92fac74a301219c8b2e16b69f979aac5e9d916628869f6c7", func := "loop.example/g00827/laws.FnExactLazyDecision", spec := "fnExactLazyDecision", unfollowed := true, recurses := true, apart := false, narrowed := true }
def FnExactLazyDecisionUptoSaid : Prop := fnExactLazyDecisionUptoRow.holds Tryz.pinned (OpenSpec.upto fnExactLazyDecisionSpec)

/-- 'laws.FnExactUrgentNodes', WHERE WHAT IT READS IS OF BULK AT MOST 1048576: true; the input reads as it did. -/
def fnExactUrgentNodesUptoRow : OpenClaim := { program := "ytifnopmkdempdaagreat", sum := "0cb23462ee23ae6e92fac74a301219c8b2e16b69f979aac5e9d916628869f6c7", func := "loop.example/g00827/laws.FnExactUrgentNodes", spec := "fnExactUrgentNodes", unfollowed := true, recurses := true, apart := false, narrowed := true }
def FnExactUrgentNodesUptoSaid : Prop := fnExactUrgentNodesUptoRow.holds Tryz.pinned (OpenSpec.upto fnExactUrgentNodesSpec)

/-- 'laws.FnExactBadEndings', WHERE WHAT IT READS IS OF BULK AT MOST 1048576: true; the input reads as it did. -/
def fnExactBadEndingsUptoRow : OpenClaim := { program := "ytifnopmkdempdaagreat", sum := "0cb23462ee23ae6e92fac74a301219c8b2e16b69f979aac5e9d916628869f6c7", func := "loop.example/g00827/laws.FnExactBadEndings", spec := "fnExactBadEndings", unfollowed := true, recurses := true, apart := false, narrowed := true }
def FnExactBadEndingsUptoSaid : Prop := fnExactBadEndingsUptoRow.holds Tryz.pinned (OpenSpec.upto fnExactBadEndingsSpec)

/-- 'laws.FnExactBadValues', WHERE WHAT IT READS IS OF BULK AT MOST 1048576: true; the input reads as it did. -/
def fnExactBadValuesUptoRow : OpenClaim := { program := "ytifnopmkdempdaagreat", sum := "0cb23462ee23ae6e92fac74a301219c8b2e16b69f979aac5e9d916628869f6c7", func := "loop.example/g00827/laws.FnExactBadValues", spec := "fnExactBadValues", unfollowed := true, recurses := true, apart := false, narrowed := true }
def FnExactBadValuesUptoSaid : Prop := fnExactBadValuesUptoRow.holds Tryz.pinned (OpenSpec.upto fnExactBadValuesSpec)

end Rows
end Go.Proofs.YtifnopmkdempdaaGreat
