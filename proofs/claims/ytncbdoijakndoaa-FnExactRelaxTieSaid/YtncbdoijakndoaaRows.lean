/-
  No cell of these rows narrows 'for every input' (looked for: loops, veiled, ifaces, maps, wideKeys, modest, calm, conditions, laid).
  DERIVED. THE GIVEN ROWS OF THIS SEAT. 3 by the template 'for every input the law returns true; each argument reads behind the call as it read before'; 0 by the template 'total and deterministic' (their statements: YtncbdoijakndoaaTotals.lean).
  GIVEN WITH THE SEED: the statements are not yours to turn. If you find one false, say at which input.
  Laid BY PROGRAM, IN A SANDBOX (cutbox-rows.mjs): the forced cells as the released guide's own fill.sh prints them over the translation f746cb93cb4b5c27… (all of the seat's roots in one cut). By AI agents, Wed Nov 11 2026. No macro, syntax, notation, axiom, sorry.
-/
import Derived.Test.YtncbdoijakndoaaChecked
import GoSem.Claim
import GoSem.ClaimJoined
import GoSem.ClaimMapViews
import Derived.JoinedTies
import Derived.KernelRfl
namespace Go.Proofs.Ytncbdoijakndoaa
/- THE CELL 'sum', in the pinned program and in every row, IS THE sha256 OF THE DUMP (.gsa) THAT YtncbdoijakndoaaProg.lean LOADS. Nothing in Lean hashes anything: it is a label: what it is worth is what the hold of that sum in a sandbox is worth. -/
noncomputable def Try.pinned : Pinned := { name := "ytncbdoijakndoaa", sum := "f746cb93cb4b5c27c199a0264bafbba307bc1ee6939680b5e1660c3588af5fc8", checked := Try.checked }
namespace Rows
def none {H : Type} : Left H := { results := [], args := [] }

/-- 'laws.FnExactHurryTie': WHATEVER THE INPUT: true; the input reads as it did. -/
def fnExactHurryTieSpec : ChangeSpec := { name := "fnExactHurryTie", fn := fun _ => fun
  | [d1, d2, d3] => { results := [.lit (.bool true)], args := [d1, d2, d3] }
  | _ => none }
def fnExactHurryTieRow : OpenClaim := { program := "ytncbdoijakndoaa", sum := "f746cb93cb4b5c27c199a0264bafbba307bc1ee6939680b5e1660c3588af5fc8", func := "loop.example/g00827/laws.FnExactHurryTie", spec := "fnExactHurryTie", unfollowed := true, recurses := true, apart := false }
def FnExactHurryTieSaid : Prop := fnExactHurryTieRow.holds Try.pinned (OpenSpec.ofChange fnExactHurryTieSpec)

/-- ITS FALSE NEIGHBOUR: 'it returns false'. Refute it at one input. -/
def fnExactHurryTieWrong : ChangeSpec := { name := "fnExactHurryTie", fn := fun _ => fun
  | [d1, d2, d3] => { results := [.lit (.bool false)], args := [d1, d2, d3] }
  | _ => none }
def FnExactHurryTieWrongFalsely : Prop := fnExactHurryTieRow.holds Try.pinned (OpenSpec.ofChange fnExactHurryTieWrong)

/-- 'laws.FnExactRelaxTie': WHATEVER THE INPUT: true; the input reads as it did. -/
def fnExactRelaxTieSpec : ChangeSpec := { name := "fnExactRelaxTie", fn := fun _ => fun
  | [d1, d2, d3] => { results := [.lit (.bool true)], args := [d1, d2, d3] }
  | _ => none }
def fnExactRelaxTieRow : OpenClaim := { program := "ytncbdoijakndoaa", sum := "f746cb93cb4b5c27c199a0264bafbba307bc1ee6939680b5e1660c3588af5fc8", func := "loop.example/g00827/laws.FnExactRelaxTie", spec := "fnExactRelaxTie", unfollowed := true, recurses := true, apart := false }
def FnExactRelaxTieSaid : Prop := fnExactRelaxTieRow.holds Try.pinned (OpenSpec.ofChange fnExactRelaxTieSpec)

/-- ITS FALSE NEIGHBOUR: 'it returns false'. Refute it at one input. -/
def fnExactRelaxTieWrong : ChangeSpec := { name := "fnExactRelaxTie", fn := fun _ => fun
  | [d1, d2, d3] => { results := [.lit (.bool false)], args := [d1, d2, d3] }
  | _ => none }
def FnExactRelaxTieWrongFalsely : Prop := fnExactRelaxTieRow.holds Try.pinned (OpenSpec.ofChange fnExactRelaxTieWrong)

/-- 'laws.FnExactCompileSheet': WHATEVER THE INPUT: true; the input reads as it did. -/
def fnExactCompileSheetSpec : ChangeSpec := { name := "fnExactCompileSheet", fn := fun _ => fun
  | [d] => { results := [.lit (.bool true)], args := [d] }
  | _ => none }
def fnExactCompileSheetRow : OpenClaim := { program := "ytncbdoijakndoaa", sum := "f746cb93cb4b5c27c199a0264bafbba307bc1ee6939680b5e1660c3588af5fc8", func := "loop.example/g00827/laws.FnExactCompileSheet", spec := "fnExactCompileSheet", unfollowed := true, recurses := true, apart := false }
def FnExactCompileSheetSaid : Prop := fnExactCompileSheetRow.holds Try.pinned (OpenSpec.ofChange fnExactCompileSheetSpec)

/-- ITS FALSE NEIGHBOUR: 'it returns false'. Refute it at one input. -/
def fnExactCompileSheetWrong : ChangeSpec := { name := "fnExactCompileSheet", fn := fun _ => fun
  | [d] => { results := [.lit (.bool false)], args := [d] }
  | _ => none }
def FnExactCompileSheetWrongFalsely : Prop := fnExactCompileSheetRow.holds Try.pinned (OpenSpec.ofChange fnExactCompileSheetWrong)

/- THE SECOND FORM. 'bulk': how many values and letters a reading holds, each counted each time it is reached (what is shared counts as often as it is met; a slice's spare places count too). A statement '..UptoSaid' is the law's where the arguments, and the package variables that the reading takes, are together of bulk at most 1048576: NARROWER than '..Said'. Prove '..Said' where nothing that the law and all that it calls make is longer than what came in: it says more and counts as full. Else prove '..UptoSaid'. A law counts once. -/
mutual
def uptoBulk {H : Type} : DataW H → Nat
  | .lit (.string bytes) => bytes.length + 1
  | .lit _ => 1
  | .nil => 1
  | .ptr d => uptoBulk d + 1
  | .slice elems spare => uptoBulkAll elems + uptoBulkAll spare + 1
  | .agg parts => uptoBulkAll parts + 1
  | .iface _ d => uptoBulk d + 1
  | .map entries => uptoBulkEntries entries + 1
  | .held _ => 1
def uptoBulkAll {H : Type} : List (DataW H) → Nat
  | [] => 0
  | d :: r => uptoBulk d + uptoBulkAll r
def uptoBulkEntries {H : Type} : List (Lit × DataW H) → Nat
  | [] => 0
  | x :: r => uptoBulkEntry x + uptoBulkEntries r
def uptoBulkEntry {H : Type} : Lit × DataW H → Nat
  | (.string bytes, d) => bytes.length + uptoBulk d + 1
  | (_, d) => uptoBulk d + 1
 end
def uptoSmall : (H : Type) → List (DataW H) → Bool := fun _ ds => decide (uptoBulkAll ds ≤ 1048576)
def OpenSpec.upto (s : _root_.Go.ChangeSpec) : _root_.Go.OpenSpec := { _root_.Go.OpenSpec.ofChange s with cond := some uptoSmall }

/-- 'laws.FnExactHurryTie', WHERE WHAT IT READS IS OF BULK AT MOST 1048576: true; the input reads as it did. -/
def fnExactHurryTieUptoRow : OpenClaim := { program := "ytncbdoijakndoaa", sum := "f746cb93cb4b5c27c199a0264bafbba307bc1ee6939680b5e1660c3588af5fc8", func := "loop.example/g00827/laws.FnExactHurryTie", spec := "fnExactHurryTie", unfollowed := true, recurses := true, apart := false, narrowed := true }
def FnExactHurryTieUptoSaid : Prop := fnExactHurryTieUptoRow.holds Try.pinned (OpenSpec.upto fnExactHurryTieSpec)

/-- 'laws.FnExactRelaxTie', WHERE WHAT IT READS IS OF BULK AT MOST 1048576: true; the input reads as it did. -/
def fnExactRelaxTieUptoRow : OpenClaim := { program := "ytncbdoijakndoaa", sum := "f746cb93cb4b5c27c199a0264bafbba307bc1ee6939680b5e1660c3588af5fc8", func := "loop.example/g00827/laws.FnExactRelaxTie", spec := "fnExactRelaxTie", unfollowed := true, recurses := true, apart := false, narrowed := true }
def FnExactRelaxTieUptoSaid : Prop := fnExactRelaxTieUptoRow.holds Try.pinned (OpenSpec.upto fnExactRelaxTieSpec)

/-- 'laws.FnExactCompileSheet', WHERE WHAT IT READS IS OF BULK AT MOST 1048576: true; the input reads as it did. -/
def fnExactCompileSheetUptoRow : OpenClaim := { program := "ytncbdoijakndoaa", sum := "f746cb93cb4b5c27c199a0264bafbba307bc1ee6939680b5e1660c3588af5fc8", func := "loop.example/g00827/laws.FnExactCompileSheet", spec := "fnExactCompileSheet", unfollowed := true, recurses := true, apart := false, narrowed := true }
def FnExactCompileSheetUptoSaid : Prop := fnExactCompileSheetUptoRow.holds Try.pinned (OpenSpec.upto fnExactCompileSheetSpec)

end Rows
end Go.Proofs.Ytncbdoijakndoaa
