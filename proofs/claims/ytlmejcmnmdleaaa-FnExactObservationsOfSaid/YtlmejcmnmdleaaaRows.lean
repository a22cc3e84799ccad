/-
  No cell of these rows narrows 'for every input' (looked for: loops, veiled, ifaces, maps, wideKeys, modest, calm, conditions, laid).
  DERIVED. THE GIVEN ROWS OF THIS SEAT. 7 by the template 'for every input the law returns true; each argument reads behind the call as it read before'; 0 by the template 'total and deterministic' (their statements: YtlmejcmnmdleaaaTotals.lean).
  GIVEN WITH THE SEED: the statements are not yours to turn. If you find one false, say at which input.
  Laid BY PROGRAM, IN A SANDBOX (cutbox-rows.mjs): the forced cells as the released guide's own fill.sh prints them over the translation f99562f68773a751… (all of the seat's roots in one cut). By AI agents, Wed Nov 11 2026. No macro, syntax, notation, axiom, sorry.
-/
import Derived.Test.YtlmejcmnmdleaaaChecked
import GoSem.Claim
import GoSem.ClaimJoined
import GoSem.ClaimMapViews
import Derived.JoinedTies
import Derived.KernelRfl
namespace Go.Proofs.Ytlmejcmnmdleaaa
/- THE CELL 'sum', in the pinned program and in every row, IS THE sha256 OF THE DUMP (.gsa) THAT YtlmejcmnmdleaaaProg.lean LOADS. Nothing in Lean hashes anything: it is a label: what it is worth is what the hold of that sum in a sandbox is worth. -/
noncomputable def Try.pinned : Pinned := { name := "ytlmejcmnmdleaaa", sum := "f99562f68773a751572f69f6f5484161c0ba687aabae227eb12db94a6bf59700", checked := Try.checked }
namespace Rows
def none {H : Type} : Left H := { results := [], args := [] }

/-- 'laws.FnExactSheetOk': WHATEVER THE INPUT: true; the input reads as it did. -/
def fnExactSheetOkSpec : ChangeSpec := { name := "fnExactSheetOk", fn := fun _ => fun
  | [d] => { results := [.lit (.bool true)], args := [d] }
  | _ => none }
def fnExactSheetOkRow : OpenClaim := { program := "ytlmejcmnmdleaaa", sum := "f99562f68773a751572f69f6f5484161c0ba687aabae227eb12db94a6bf59700", func := "loop.example/g00827/laws.FnExactSheetOk", spec := "fnExactSheetOk", unfollowed := true, recurses := true, apart := false }
def FnExactSheetOkSaid : Prop := fnExactSheetOkRow.holds Try.pinned (OpenSpec.ofChange fnExactSheetOkSpec)

/-- ITS FALSE NEIGHBOUR: 'it returns false'. Refute it at one input. -/
def fnExactSheetOkWrong : ChangeSpec := { name := "fnExactSheetOk", fn := fun _ => fun
  | [d] => { results := [.lit (.bool false)], args := [d] }
  | _ => none }
def FnExactSheetOkWrongFalsely : Prop := fnExactSheetOkRow.holds Try.pinned (OpenSpec.ofChange fnExactSheetOkWrong)

/-- 'laws.FnExactSameSheets': WHATEVER THE INPUT: true; the input reads as it did. -/
def fnExactSameSheetsSpec : ChangeSpec := { name := "fnExactSameSheets", fn := fun _ => fun
  | [d1, d2] => { results := [.lit (.bool true)], args := [d1, d2] }
  | _ => none }
def fnExactSameSheetsRow : OpenClaim := { program := "ytlmejcmnmdleaaa", sum := "f99562f68773a751572f69f6f5484161c0ba687aabae227eb12db94a6bf59700", func := "loop.example/g00827/laws.FnExactSameSheets", spec := "fnExactSameSheets", apart := false }
def FnExactSameSheetsSaid : Prop := fnExactSameSheetsRow.holds Try.pinned (OpenSpec.ofChange fnExactSameSheetsSpec)

/-- ITS FALSE NEIGHBOUR: 'it returns false'. Refute it at one input. -/
def fnExactSameSheetsWrong : ChangeSpec := { name := "fnExactSameSheets", fn := fun _ => fun
  | [d1, d2] => { results := [.lit (.bool false)], args := [d1, d2] }
  | _ => none }
def FnExactSameSheetsWrongFalsely : Prop := fnExactSameSheetsRow.holds Try.pinned (OpenSpec.ofChange fnExactSameSheetsWrong)

/-- 'laws.FnExactBeginNode': WHATEVER THE INPUT: true; the input reads as it did. -/
def fnExactBeginNodeSpec : ChangeSpec := { name := "fnExactBeginNode", fn := fun _ => fun
  | [d1, d2] => { results := [.lit (.bool true)], args := [d1, d2] }
  | _ => none }
def fnExactBeginNodeRow : OpenClaim := { program := "ytlmejcmnmdleaaa", sum := "f99562f68773a751572f69f6f5484161c0ba687aabae227eb12db94a6bf59700", func := "loop.example/g00827/laws.FnExactBeginNode", spec := "fnExactBeginNode", unfollowed := true, recurses := true, apart := false }
def FnExactBeginNodeSaid : Prop := fnExactBeginNodeRow.holds Try.pinned (OpenSpec.ofChange fnExactBeginNodeSpec)

/-- ITS FALSE NEIGHBOUR: 'it returns false'. Refute it at one input. -/
def fnExactBeginNodeWrong : ChangeSpec := { name := "fnExactBeginNode", fn := fun _ => fun
  | [d1, d2] => { results := [.lit (.bool false)], args := [d1, d2] }
  | _ => none }
def FnExactBeginNodeWrongFalsely : Prop := fnExactBeginNodeRow.holds Try.pinned (OpenSpec.ofChange fnExactBeginNodeWrong)

/-- 'laws.FnExactEndNode': WHATEVER THE INPUT: true; the input reads as it did. -/
def fnExactEndNodeSpec : ChangeSpec := { name := "fnExactEndNode", fn := fun _ => fun
  | [d1, d2] => { results := [.lit (.bool true)], args := [d1, d2] }
  | _ => none }
def fnExactEndNodeRow : OpenClaim := { program := "ytlmejcmnmdleaaa", sum := "f99562f68773a751572f69f6f5484161c0ba687aabae227eb12db94a6bf59700", func := "loop.example/g00827/laws.FnExactEndNode", spec := "fnExactEndNode", unfollowed := true, recurses := true, apart := false }
def FnExactEndNodeSaid : Prop := fnExactEndNodeRow.holds Try.pinned (OpenSpec.ofChange fnExactEndNodeSpec)

/-- ITS FALSE NEIGHBOUR: 'it returns false'. Refute it at one input. -/
def fnExactEndNodeWrong : ChangeSpec := { name := "fnExactEndNode", fn := fun _ => fun
  | [d1, d2] => { results := [.lit (.bool false)], args := [d1, d2] }
  | _ => none }
def FnExactEndNodeWrongFalsely : Prop := fnExactEndNodeRow.holds Try.pinned (OpenSpec.ofChange fnExactEndNodeWrong)

/-- 'laws.FnExactCueOfNode': WHATEVER THE INPUT: true; the input reads as it did. -/
def fnExactCueOfNodeSpec : ChangeSpec := { name := "fnExactCueOfNode", fn := fun _ => fun
  | [d1, d2] => { results := [.lit (.bool true)], args := [d1, d2] }
  | _ => none }
def fnExactCueOfNodeRow : OpenClaim := { program := "ytlmejcmnmdleaaa", sum := "f99562f68773a751572f69f6f5484161c0ba687aabae227eb12db94a6bf59700", func := "loop.example/g00827/laws.FnExactCueOfNode", spec := "fnExactCueOfNode", unfollowed := true, recurses := true, apart := false }
def FnExactCueOfNodeSaid : Prop := fnExactCueOfNodeRow.holds Try.pinned (OpenSpec.ofChange fnExactCueOfNodeSpec)

/-- ITS FALSE NEIGHBOUR: 'it returns false'. Refute it at one input. -/
def fnExactCueOfNodeWrong : ChangeSpec := { name := "fnExactCueOfNode", fn := fun _ => fun
  | [d1, d2] => { results := [.lit (.bool false)], args := [d1, d2] }
  | _ => none }
def FnExactCueOfNodeWrongFalsely : Prop := fnExactCueOfNodeRow.holds Try.pinned (OpenSpec.ofChange fnExactCueOfNodeWrong)

/-- 'laws.FnExactUsersOf': WHATEVER THE INPUT: true; the input reads as it did. -/
def fnExactUsersOfSpec : ChangeSpec := { name := "fnExactUsersOf", fn := fun _ => fun
  | [d1, d2] => { results := [.lit (.bool true)], args := [d1, d2] }
  | _ => none }
def fnExactUsersOfRow : OpenClaim := { program := "ytlmejcmnmdleaaa", sum := "f99562f68773a751572f69f6f5484161c0ba687aabae227eb12db94a6bf59700", func := "loop.example/g00827/laws.FnExactUsersOf", spec := "fnExactUsersOf", apart := false }
def FnExactUsersOfSaid : Prop := fnExactUsersOfRow.holds Try.pinned (OpenSpec.ofChange fnExactUsersOfSpec)

/-- ITS FALSE NEIGHBOUR: 'it returns false'. Refute it at one input. -/
def fnExactUsersOfWrong : ChangeSpec := { name := "fnExactUsersOf", fn := fun _ => fun
  | [d1, d2] => { results := [.lit (.bool false)], args := [d1, d2] }
  | _ => none }
def FnExactUsersOfWrongFalsely : Prop := fnExactUsersOfRow.holds Try.pinned (OpenSpec.ofChange fnExactUsersOfWrong)

/-- 'laws.FnExactObservationsOf': WHATEVER THE INPUT: true; the input reads as it did. -/
def fnExactObservationsOfSpec : ChangeSpec := { name := "fnExactObservationsOf", fn := fun _ => fun
  | [d] => { results := [.lit (.bool true)], args := [d] }
  | _ => none }
def fnExactObservationsOfRow : OpenClaim := { program := "ytlmejcmnmdleaaa", sum := "f99562f68773a751572f69f6f5484161c0ba687aabae227eb12db94a6bf59700", func := "loop.example/g00827/laws.FnExactObservationsOf", spec := "fnExactObservationsOf", apart := false }
def FnExactObservationsOfSaid : Prop := fnExactObservationsOfRow.holds Try.pinned (OpenSpec.ofChange fnExactObservationsOfSpec)

/-- ITS FALSE NEIGHBOUR: 'it returns false'. Refute it at one input. -/
def fnExactObservationsOfWrong : ChangeSpec := { name := "fnExactObservationsOf", fn := fun _ => fun
  | [d] => { results := [.lit (.bool false)], args := [d] }
  | _ => none }
def FnExactObservationsOfWrongFalsely : Prop := fnExactObservationsOfRow.holds Try.pinned (OpenSpec.ofChange fnExactObservationsOfWrong)

/- THE SECOND FORM. 'bulk': how many values and letters a reading holds, each counted each time it is reached (what is shared counts as often as it is met; a slice's spare places count too). A statement '..UptoSaid' is the law's where the arguments, and the package variables that the reading takes, are together of bulk at most 1048576: NARROWER than '..Said'. Prove '..Said' where nothing that the law and all that it calls make is longer than what came in: it says more and counts as full. Else prove '..UptoSaid'. A law counts once. -/
mutual
def uptoBulk {H : Type} : DataW H → Nat
  | .lit (.string bytes) => bytes.length + 1
  | .lit _ => 1
  | .nil => 1
  | .ptr d => uptoBulk d + 1
  | .slice elems spare => uptoBulkAll elems + uptoBulkAll spare + 1
  | .agg parts => uptoBulkAll parts + 1
  | .iface _ d => uptoBulk d + 1
  | .map entries => uptoBulkEntries entries + 1
  | .held _ => 1
def uptoBulkAll {H : Type} : List (DataW H) → Nat
  | [] => 0
  | d :: r => uptoBulk d + uptoBulkAll r
def uptoBulkEntries {H : Type} : List (Lit × DataW H) → Nat
  | [] => 0
  | x :: r => uptoBulkEntry x + uptoBulkEntries r
def uptoBulkEntry {H : Type} : Lit × DataW H → Nat
  | (.string bytes, d) => bytes.length + uptoBulk d + 1
  | (_, d) => uptoBulk d + 1
 end
def uptoSmall : (H : Type) → List (DataW H) → Bool := fun _ ds => decide (uptoBulkAll ds ≤ 1048576)
def OpenSpec.upto (s : _root_.Go.ChangeSpec) : _root_.Go.OpenSpec := { _root_.Go.OpenSpec.ofChange s with cond := some uptoSmall }

/-- 'laws.FnExactSheetOk', WHERE WHAT IT READS IS OF BULK AT MOST 1048576: true; the input reads as it did. -/
def fnExactSheetOkUptoRow : OpenClaim := { program := "ytlmejcmnmdleaaa", sum := "f99562f68773a751572f69f6f5484161c0ba687aabae227eb12db94a6bf59700", func := "loop.example/g00827/laws.FnExactSheetOk", spec := "fnExactSheetOk", unfollowed := true, recurses := true, apart := false, narrowed := true }
def FnExactSheetOkUptoSaid : Prop := fnExactSheetOkUptoRow.holds Try.pinned (OpenSpec.upto fnExactSheetOkSpec)

/-- 'laws.FnExactSameSheets', WHERE WHAT IT READS IS OF BULK AT MOST 1048576: true; the input reads as it did. -/
def fnExactSameSheetsUptoRow : OpenClaim := { program := "ytlmejcmnmdleaaa", sum := "f99562f68773a751572f69f6f5484161c0ba687aabae227eb12db94a6bf59700", func := "loop.example/g00827/laws.FnExactSameSheets", spec := "fnExactSameSheets", apart := false, narrowed := true }
def FnExactSameSheetsUptoSaid : Prop := fnExactSameSheetsUptoRow.holds Try.pinned (OpenSpec.upto fnExactSameSheetsSpec)

/-- 'laws.FnExactBeginNode', WHERE WHAT IT READS IS OF BULK AT MOST 1048576: true; the input reads as it did. -/
def fnExactBeginNodeUptoRow : OpenClaim := { program := "ytlmejcmnmdleaaa", sum := "f99562f68773a751572f69f6f5484161c0ba687aabae227eb12db94a6bf59700", func := "loop.example/g00827/laws.FnExactBeginNode", spec := "fnExactBeginNode", unfollowed := true, recurses := true, apart := false, narrowed := true }
def FnExactBeginNodeUptoSaid : Prop := fnExactBeginNodeUptoRow.holds Try.pinned (OpenSpec.upto fnExactBeginNodeSpec)

/-- 'laws.FnExactEndNode', WHERE WHAT IT READS IS OF BULK AT MOST 1048576: true; the input reads as it did. -/
def fnExactEndNodeUptoRow : OpenClaim := { program := "ytlmejcmnmdleaaa", sum := "f99562f68773a751572f69f6f5484161c0ba687aabae227eb12db94a6bf59700", func := "loop.example/g00827/laws.FnExactEndNode", spec := "fnExactEndNode", unfollowed := true, recurses := true, apart := false, narrowed := true }
def FnExactEndNodeUptoSaid : Prop := fnExactEndNodeUptoRow.holds Try.pinned (OpenSpec.upto fnExactEndNodeSpec)

/-- 'laws.FnExactCueOfNode', WHERE WHAT IT READS IS OF BULK AT MOST 1048576: true; the input reads as it did. -/
def fnExactCueOfNodeUptoRow : OpenClaim := { program := "ytlmejcmnmdleaaa", sum := "f99562f68773a751572f69f6f5484161c0ba687aabae227eb12db94a6bf59700", func := "loop.example/g00827/laws.FnExactCueOfNode", spec := "fnExactCueOfNode", unfollowed := true, recurses := true, apart := false, narrowed := true }
def FnExactCueOfNodeUptoSaid : Prop := fnExactCueOfNodeUptoRow.holds Try.pinned (OpenSpec.upto fnExactCueOfNodeSpec)

/-- 'laws.FnExactUsersOf', WHERE WHAT IT READS IS OF BULK AT MOST 1048576: true; the input reads as it did. -/
def fnExactUsersOfUptoRow : OpenClaim := { program := "ytlmejcmnmdleaaa", sum := "f99562f68773a751572f69f6f5484161c0ba687aabae227eb12db94a6bf59700", func := "loop.example/g00827/laws.FnExactUsersOf", spec := "fnExactUsersOf", apart := false, narrowed := true }
def FnExactUsersOfUptoSaid : Prop := fnExactUsersOfUptoRow.holds Try.pinned (OpenSpec.upto fnExactUsersOfSpec)

/-- 'laws.FnExactObservationsOf', WHERE WHAT IT READS IS OF BULK AT MOST 1048576: true; the input reads as it did. -/
def fnExactObservationsOfUptoRow : OpenClaim := { program := "ytlmejcmnmdleaaa", sum := "f99562f68773a751572f69f6f5484161c0ba687aabae227eb12db94a6bf59700", func := "loop.example/g00827/laws.FnExactObservationsOf", spec := "fnExactObservationsOf", apart := false, narrowed := true }
def FnExactObservationsOfUptoSaid : Prop := fnExactObservationsOfUptoRow.holds Try.pinned (OpenSpec.upto fnExactObservationsOfSpec)

end Rows
end Go.Proofs.Ytlmejcmnmdleaaa
