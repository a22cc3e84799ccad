/-
  No cell of these rows narrows 'for every input' (looked for: loops, veiled, ifaces, maps, wideKeys, modest, calm, conditions, laid).
  DERIVED. THE GIVEN ROWS OF THIS SEAT. 2 by the template 'for every input the law returns true; each argument reads behind the call as it read before'; 0 by the template 'total and deterministic' (their statements: YtececadpjelanaaTotals.lean).
  GIVEN WITH THE SEED: the statements are not yours to turn. If you find one false, say at which input.
  Laid BY PROGRAM, IN A SANDBOX (cutbox-rows.mjs): the forced cells as the released guide's own fill.sh prints them over the translation 9145ef029c62c9b4… (all of the seat's roots in one cut). By AI agents, Wed Nov 11 2026. No macro, syntax, notation, axiom, sorry.
-/
import Derived.Test.YtececadpjelanaaChecked
import GoSem.Claim
import GoSem.ClaimJoined
import GoSem.ClaimMapViews
import Derived.JoinedTies
import Derived.KernelRfl
namespace Go.Proofs.Ytececadpjelanaa
/- THE CELL 'sum', in the pinned program and in every row, IS THE sha256 OF THE DUMP (.gsa) THAT YtececadpjelanaaProg.lean LOADS. Nothing in Lean hashes anything: it is a label: what it is worth is what the hold of that sum in a sandbox is worth. -/
noncomputable def Try.pinned : Pinned := { name := "ytececadpjelanaa", sum := "9145ef029c62c9b4b78afd80a1a698a3be10be42bf02695cbbf1fd1435cea4d7", checked := Try.checked }
namespace Rows
def none {H : Type} : Left H := { results := [], args := [] }

/-- 'laws.FnExactEnabledNodes': WHATEVER THE INPUT: true; the input reads as it did. -/
def fnExactEnabledNodesSpec : ChangeSpec := { name := "fnExactEnabledNodes", fn := fun _ => fun
  | [d1, d2] => { results := [.lit (.bool true)], args := [d1, d2] }
  | _ => none }
def fnExactEnabledNodesRow : OpenClaim := { program := "ytececadpjelanaa", sum := "9145ef029c62c9b4b78afd80a1a698a3be10be42bf02695cbbf1fd1435cea4d7", func := "loop.example/g00827/laws.FnExactEnabledNodes", spec := "fnExactEnabledNodes", unfollowed := true, recurses := true, apart := false }
def FnExactEnabledNodesSaid : Prop := fnExactEnabledNodesRow.holds Try.pinned (OpenSpec.ofChange fnExactEnabledNodesSpec)

/-- ITS FALSE NEIGHBOUR: 'it returns false'. Refute it at one input. -/
def fnExactEnabledNodesWrong : ChangeSpec := { name := "fnExactEnabledNodes", fn := fun _ => fun
  | [d1, d2] => { results := [.lit (.bool false)], args := [d1, d2] }
  | _ => none }
def FnExactEnabledNodesWrongFalsely : Prop := fnExactEnabledNodesRow.holds Try.pinned (OpenSpec.ofChange fnExactEnabledNodesWrong)

/-- 'laws.FnExactDecisionsOf': WHATEVER THE INPUT: true; the input reads as it did. -/
def fnExactDecisionsOfSpec : ChangeSpec := { name := "fnExactDecisionsOf", fn := fun _ => fun
  | [d1, d2] => { results := [.lit (.bool true)], args := [d1, d2] }
  | _ => none }
def fnExactDecisionsOfRow : OpenClaim := { program := "ytececadpjelanaa", sum := "9145ef029c62c9b4b78afd80a1a698a3be10be42bf02695cbbf1fd1435cea4d7", func := "loop.example/g00827/laws.FnExactDecisionsOf", spec := "fnExactDecisionsOf", unfollowed := true, recurses := true, apart := false }
def FnExactDecisionsOfSaid : Prop := fnExactDecisionsOfRow.holds Try.pinned (OpenSpec.ofChange fnExactDecisionsOfSpec)

/-- ITS FALSE NEIGHBOUR: 'it returns false'. Refute it at one input. -/
def fnExactDecisionsOfWrong : ChangeSpec := { name := "fnExactDecisionsOf", fn := fun _ => fun
  | [d1, d2] => { results := [.lit (.bool false)], args := [d1, d2] }
  | _ => none }
def FnExactDecisionsOfWrongFalsely : Prop := fnExactDecisionsOfRow.holds Try.pinned (OpenSpec.ofChange fnExactDecisionsOfWrong)

/- THE SECOND FORM. 'bulk': how many values and letters a reading holds, each counted each time it is reached (what is shared counts as often as it is met; a slice's spare places count too). A statement '..UptoSaid' is the law's where the arguments, and the package variables that the reading takes, are together of bulk at most 1048576: NARROWER than '..Said'. Prove '..Said' where nothing that the law and all that it calls make is longer than what came in: it says more and counts as full. Else prove '..UptoSaid'. A law counts once. -/
mutual
def uptoBulk {H : Type} : DataW H → Nat
  | .lit (.string bytes) => bytes.length + 1
  | .lit _ => 1
  | .nil => 1
  | .ptr d => uptoBulk d + 1
  | .slice elems spare => uptoBulkAll elems + uptoBulkAll spare + 1
  | .agg parts => uptoBulkAll parts + 1
  | .iface _ d => uptoBulk d + 1
  | .map entries => uptoBulkEntries entries + 1
  | .held _ => 1
def uptoBulkAll {H : Type} : List (DataW H) → Nat
  | [] => 0
  | d :: r => uptoBulk d + uptoBulkAll r
def uptoBulkEntries {H : Type} : List (Lit × DataW H) → Nat
  | [] => 0
  | x :: r => uptoBulkEntry x + uptoBulkEntries r
def uptoBulkEntry {H : Type} : Lit × DataW H → Nat
  | (.string bytes, d) => bytes.length + uptoBulk d + 1
  | (_, d) => uptoBulk d + 1
 end
def uptoSmall : (H : Type) → List (DataW H) → Bool := fun _ ds => decide (uptoBulkAll ds ≤ 1048576)
def OpenSpec.upto (s : _root_.Go.ChangeSpec) : _root_.Go.OpenSpec := { _root_.Go.OpenSpec.ofChange s with cond := some uptoSmall }

/-- 'laws.FnExactEnabledNodes', WHERE WHAT IT READS IS OF BULK AT MOST 1048576: true; the input reads as it did. -/
def fnExactEnabledNodesUptoRow : OpenClaim := { program := "ytececadpjelanaa", sum := "9145ef029c62c9b4b78afd80a1a698a3be10be42bf02695cbbf1fd1435cea4d7", func := "loop.example/g00827/laws.FnExactEnabledNodes", spec := "fnExactEnabledNodes", unfollowed := true, recurses := true, apart := false, narrowed := true }
def FnExactEnabledNodesUptoSaid : Prop := fnExactEnabledNodesUptoRow.holds Try.pinned (OpenSpec.upto fnExactEnabledNodesSpec)

/-- 'laws.FnExactDecisionsOf', WHERE WHAT IT READS IS OF BULK AT MOST 1048576: true; the input reads as it did. -/
def fnExactDecisionsOfUptoRow : OpenClaim := { program := "ytececadpjelanaa", sum := "9145ef029c62c9b4b78afd80a1a698a3be10be42bf02695cbbf1fd1435cea4d7", func := "loop.example/g00827/laws.FnExactDecisionsOf", spec := "fnExactDecisionsOf", unfollowed := true, recurses := true, apart := false, narrowed := true }
def FnExactDecisionsOfUptoSaid : Prop := fnExactDecisionsOfUptoRow.holds Try.pinned (OpenSpec.upto fnExactDecisionsOfSpec)

end Rows
end Go.Proofs.Ytececadpjelanaa
