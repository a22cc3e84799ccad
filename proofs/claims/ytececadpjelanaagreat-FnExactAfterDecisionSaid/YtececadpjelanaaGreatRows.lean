/-
  No cell of these rows narrows 'for every input' (looked for: loops, veiled, ifaces, maps, wideKeys, modest, calm, conditions, laid).
  DERIVED. THE GIVEN ROWS OF THIS SEAT. 6 by the template 'for every input the law returns true; each argument reads behind the call as it read before'; 0 by the template 'total and deterministic' (their statements: YtececadpjelanaaGreatTotals.lean).
  GIVEN WITH THE SEED: the statements are not yours to turn. If you find one false, say at which input.
  Laid BY PROGRAM, IN A SANDBOX (cutbox-rows.mjs): the forced cells as the released guide's own fill.sh prints them over the translation 88a1b2f211e697e3… (all of the seat's roots in one cut). By AI agents, Wed Nov 11 2026. No macro, syntax, notation, axiom, sorry.
-/
import Derived.Test.YtececadpjelanaaGreatChecked
import GoSem.Claim
import GoSem.ClaimJoined
import GoSem.ClaimMapViews
import Derived.JoinedTies
import Derived.KernelRfl
namespace Go.Proofs.YtececadpjelanaaGreat
/- THE CELL 'sum', in the pinned program and in every row, IS THE sha256 OF THE DUMP (.gsa) THAT YtececadpjelanaaGreatProg.lean LOADS. Nothing in Lean hashes anything: it is a label: what it is worth is what the hold of that sum in a sandbox is worth. -/
noncomputable def Tryz.pinned : Pinned := { name := "ytececadpjelanaagreat", sum := "88a1b2f211e697e376d0f0af3aead697e9738bd9f5ad4156632c13894cf5d759", checked := Tryz.checked }
namespace Rows
def none {H : Type} : Left H := { results := [], args := [] }

/-- 'laws.FnExactEndingsOf': WHATEVER THE INPUT: true; the input reads as it did. -/
def fnExactEndingsOfSpec : ChangeSpec := { name := "fnExactEndingsOf", fn := fun _ => fun
  | [d1, d2] => { results := [.lit (.bool true)], args := [d1, d2] }
  | _ => none }
def fnExactEndingsOfRow : OpenClaim := { program := "ytececadpjelanaagreat", sum := "88a1b2f211e697e376d0f0af3aead697e9738bd9f5ad4156632c13894cf5d759", func := "loop.example/g00827/laws.FnExactEndingsOf", spec := "fnExactEndingsOf", unfollowed := true, recurses := true, apart := false }
def FnExactEndingsOfSaid : Prop := fnExactEndingsOfRow.holds Tryz.pinned (OpenSpec.ofChange fnExactEndingsOfSpec)

/-- ITS FALSE NEIGHBOUR: 'it returns false'. Refute it at one input. -/
def fnExactEndingsOfWrong : ChangeSpec := { name := "fnExactEndingsOf", fn := fun _ => fun
  | [d1, d2] => { results := [.lit (.bool false)], args := [d1, d2] }
  | _ => none }
def FnExactEndingsOfWrongFalsely : Prop := fnExactEndingsOfRow.holds Tryz.pinned (OpenSpec.ofChange fnExactEndingsOfWrong)

/-- 'laws.FnExactAfterEndings': WHATEVER THE INPUT: true; the input reads as it did. -/
def fnExactAfterEndingsSpec : ChangeSpec := { name := "fnExactAfterEndings", fn := fun _ => fun
  | [d1, d2, d3] => { results := [.lit (.bool true)], args := [d1, d2, d3] }
  | _ => none }
def fnExactAfterEndingsRow : OpenClaim := { program := "ytececadpjelanaagreat", sum := "88a1b2f211e697e376d0f0af3aead697e9738bd9f5ad4156632c13894cf5d759", func := "loop.example/g00827/laws.FnExactAfterEndings", spec := "fnExactAfterEndings", unfollowed := true, recurses := true, apart := false }
def FnExactAfterEndingsSaid : Prop := fnExactAfterEndingsRow.holds Tryz.pinned (OpenSpec.ofChange fnExactAfterEndingsSpec)

/-- ITS FALSE NEIGHBOUR: 'it returns false'. Refute it at one input. -/
def fnExactAfterEndingsWrong : ChangeSpec := { name := "fnExactAfterEndings", fn := fun _ => fun
  | [d1, d2, d3] => { results := [.lit (.bool false)], args := [d1, d2, d3] }
  | _ => none }
def FnExactAfterEndingsWrongFalsely : Prop := fnExactAfterEndingsRow.holds Tryz.pinned (OpenSpec.ofChange fnExactAfterEndingsWrong)

/-- 'laws.FnExactAfterDecision': WHATEVER THE INPUT: true; the input reads as it did. -/
def fnExactAfterDecisionSpec : ChangeSpec := { name := "fnExactAfterDecision", fn := fun _ => fun
  | [d1, d2, d3] => { results := [.lit (.bool true)], args := [d1, d2, d3] }
  | _ => none }
def fnExactAfterDecisionRow : OpenClaim := { program := "ytececadpjelanaagreat", sum := "88a1b2f211e697e376d0f0af3aead697e9738bd9f5ad4156632c13894cf5d759", func := "loop.example/g00827/laws.FnExactAfterDecision", spec := "fnExactAfterDecision", unfollowed := true, recurses := true, apart := false }
def FnExactAfterDecisionSaid : Prop := fnExactAfterDecisionRow.holds Tryz.pinned (OpenSpec.ofChange fnExactAfterDecisionSpec)

/-- ITS FALSE NEIGHBOUR: 'it returns false'. Refute it at one input. -/
def fnExactAfterDecisionWrong : ChangeSpec := { name := "fnExactAfterDecision", fn := fun _ => fun
  | [d1, d2, d3] => { results := [.lit (.bool false)], args := [d1, d2, d3] }
  | _ => none }
def FnExactAfterDecisionWrongFalsely : Prop := fnExactAfterDecisionRow.holds Tryz.pinned (OpenSpec.ofChange fnExactAfterDecisionWrong)

/-- 'laws.FnExactCanWin': WHATEVER THE INPUT: true; the input reads as it did. -/
def fnExactCanWinSpec : ChangeSpec := { name := "fnExactCanWin", fn := fun _ => fun
  | [d1, d2] => { results := [.lit (.bool true)], args := [d1, d2] }
  | _ => none }
def fnExactCanWinRow : OpenClaim := { program := "ytececadpjelanaagreat", sum := "88a1b2f211e697e376d0f0af3aead697e9738bd9f5ad4156632c13894cf5d759", func := "loop.example/g00827/laws.FnExactCanWin", spec := "fnExactCanWin", unfollowed := true, recurses := true, apart := false }
def FnExactCanWinSaid : Prop := fnExactCanWinRow.holds Tryz.pinned (OpenSpec.ofChange fnExactCanWinSpec)

/-- ITS FALSE NEIGHBOUR: 'it returns false'. Refute it at one input. -/
def fnExactCanWinWrong : ChangeSpec := { name := "fnExactCanWin", fn := fun _ => fun
  | [d1, d2] => { results := [.lit (.bool false)], args := [d1, d2] }
  | _ => none }
def FnExactCanWinWrongFalsely : Prop := fnExactCanWinRow.holds Tryz.pinned (OpenSpec.ofChange fnExactCanWinWrong)

/-- 'laws.FnExactIsDynamic': WHATEVER THE INPUT: true; the input reads as it did. -/
def fnExactIsDynamicSpec : ChangeSpec := { name := "fnExactIsDynamic", fn := fun _ => fun
  | [d] => { results := [.lit (.bool true)], args := [d] }
  | _ => none }
def fnExactIsDynamicRow : OpenClaim := { program := "ytececadpjelanaagreat", sum := "88a1b2f211e697e376d0f0af3aead697e9738bd9f5ad4156632c13894cf5d759", func := "loop.example/g00827/laws.FnExactIsDynamic", spec := "fnExactIsDynamic", unfollowed := true, recurses := true, apart := false }
def FnExactIsDynamicSaid : Prop := fnExactIsDynamicRow.holds Tryz.pinned (OpenSpec.ofChange fnExactIsDynamicSpec)

/-- ITS FALSE NEIGHBOUR: 'it returns false'. Refute it at one input. -/
def fnExactIsDynamicWrong : ChangeSpec := { name := "fnExactIsDynamic", fn := fun _ => fun
  | [d] => { results := [.lit (.bool false)], args := [d] }
  | _ => none }
def FnExactIsDynamicWrongFalsely : Prop := fnExactIsDynamicRow.holds Tryz.pinned (OpenSpec.ofChange fnExactIsDynamicWrong)

/-- 'laws.FnExactSafeDecision': WHATEVER THE INPUT: true; the input reads as it did. -/
def fnExactSafeDecisionSpec : ChangeSpec := { name := "fnExactSafeDecision", fn := fun _ => fun
  | [d1, d2] => { results := [.lit (.bool true)], args := [d1, d2] }
  | _ => none }
def fnExactSafeDecisionRow : OpenClaim := { program := "ytececadpjelanaagreat", sum := "88a1b2f211e697e376d0f0af3aead697e9738bd9f5ad4156632c13894cf5d759", func := "loop.example/g00827/laws.FnExactSafeDecision", spec := "fnExactSafeDecision", unfollowed := true, recurses := true, apart := false }
def FnExactSafeDecisionSaid : Prop := fnExactSafeDecisionRow.holds Tryz.pinned (OpenSpec.ofChange fnExactSafeDecisionSpec)

/-- ITS FALSE NEIGHBOUR: 'it returns false'. Refute it at one input. -/
def fnExactSafeDecisionWrong : ChangeSpec := { name := "fnExactSafeDecision", fn := fun _ => fun
  | [d1, d2] => { results := [.lit (.bool false)], args := [d1, d2] }
  | _ => none }
def FnExactSafeDecisionWrongFalsely : Prop := fnExactSafeDecisionRow.holds Tryz.pinned (OpenSpec.ofChange fnExactSafeDecisionWrong)

/- THE SECOND FORM. 'bulk': how many values and letters a reading holds, each counted each time it is reached (what is shared counts as often as it is met; a slice's spare places count too). A statement '..UptoSaid' is the law's where the arguments, and the package variables that the reading takes, are together of bulk at most 1048576: NARROWER than '..Said'. Prove '..Said' where nothing that the law and all that it calls make is longer than what came in: it says more and counts as full. Else prove '..UptoSaid'. A law counts once. -/
mutual
def uptoBulk {H : Type} : DataW H → Nat
  | .lit (.string bytes) => bytes.length + 1
  | .lit _ => 1
  | .nil => 1
  | .ptr d => uptoBulk d + 1
  | .slice elems spare => uptoBulkAll elems + uptoBulkAll spare + 1
  | .agg parts => uptoBulkAll parts + 1
  | .iface _ d => uptoBulk d + 1
  | .map entries => uptoBulkEntries entries + 1
  | .held _ => 1
def uptoBulkAll {H : Type} : List (DataW H) → Nat
  | [] => 0
  | d :: r => uptoBulk d + uptoBulkAll r
def uptoBulkEntries {H : Type} : List (Lit × DataW H) → Nat
  | [] => 0
  | x :: r => uptoBulkEntry x + uptoBulkEntries r
def uptoBulkEntry {H : Type} : Lit × DataW H → Nat
  | (.string bytes, d) => bytes.length + uptoBulk d + 1
  | (_, d) => uptoBulk d + 1
 end
def uptoSmall : (H : Type) → List (DataW H) → Bool := fun _ ds => decide (uptoBulkAll ds ≤ 1048576)
def OpenSpec.upto (s : _root_.Go.ChangeSpec) : _root_.Go.OpenSpec := { _root_.Go.OpenSpec.ofChange s with cond := some uptoSmall }

/-- 'laws.FnExactEndingsOf', WHERE WHAT IT READS IS OF BULK AT MOST 1048576: true; the input reads as it did. -/
def fnExactEndingsOfUptoRow : OpenClaim := { program := "ytececadpjelanaagreat", sum := "88a1b2f211e697e376d0f0af3aead697e9738bd9f5ad4156632c13894cf5d759", func := "loop.example/g00827/laws.FnExactEndingsOf", spec := "fnExactEndingsOf", unfollowed := true, recurses := true, apart := false, narrowed := true }
def FnExactEndingsOfUptoSaid : Prop := fnExactEndingsOfUptoRow.holds Tryz.pinned (OpenSpec.upto fnExactEndingsOfSpec)

/-- 'laws.FnExactAfterEndings', WHERE WHAT IT READS IS OF BULK AT MOST 1048576: true; the input reads as it did. -/
def fnExactAfterEndingsUptoRow : OpenClaim := { program := "ytececadpjelanaagreat", sum := "88a1b2f211e697e376d0f0af3aead697e9738bd9f5ad4156632c13894cf5d759", func := "loop.example/g00827/laws.FnExactAfterEndings", spec := "fnExactAfterEndings", unfollowed := true, recurses := true, apart := false, narrowed := true }
def FnExactAfterEndingsUptoSaid : Prop := fnExactAfterEndingsUptoRow.holds Tryz.pinned (OpenSpec.upto fnExactAfterEndingsSpec)

/-- 'laws.FnExactAfterDecision', WHERE WHAT IT READS IS OF BULK AT MOST 1048576: true; the input reads as it did. -/
def fnExactAfterDecisionUptoRow : OpenClaim := { program := "ytececadpjelanaagreat", sum := "88a1b2f211e697e376d0f0af3aead697e9738bd9f5ad4156632c13894cf5d759", func := "loop.example/g00827/laws.FnExactAfterDecision", spec := "fnExactAfterDecision", unfollowed := true, recurses := true, apart := false, narrowed := true }
def FnExactAfterDecisionUptoSaid : Prop := fnExactAfterDecisionUptoRow.holds Tryz.pinned (OpenSpec.upto fnExactAfterDecisionSpec)

/-- 'laws.FnExactCanWin', WHERE WHAT IT READS IS OF BULK AT MOST 1048576: true; the input reads as it did. -/
def fnExactCanWinUptoRow : OpenClaim := { program := "ytececadpjelanaagreat", sum := "88a1b2f211e697e376d0f0af3aead697e9738bd9f5ad4156632c13894cf5d759", func := "loop.example/g00827/laws.FnExactCanWin", spec := "fnExactCanWin", unfollowed := true, recurses := true, apart := false, narrowed := true }
def FnExactCanWinUptoSaid : Prop := fnExactCanWinUptoRow.holds Tryz.pinned (OpenSpec.upto fnExactCanWinSpec)

/-- 'laws.FnExactIsDynamic', WHERE WHAT IT READS IS OF BULK AT MOST 1048576: true; the input reads as it did. -/
def fnExactIsDynamicUptoRow : OpenClaim := { program := "ytececadpjelanaagreat", sum := "88a1b2f211e697e376d0f0af3aead697e9738bd9f5ad4156632c13894cf5d759", func := "loop.example/g00827/laws.FnExactIsDynamic", spec := "fnExactIsDynamic", unfollowed := true, recurses := true, apart := false, narrowed := true }
def FnExactIsDynamicUptoSaid : Prop := fnExactIsDynamicUptoRow.holds Tryz.pinned (OpenSpec.upto fnExactIsDynamicSpec)

/-- 'laws.FnExactSafeDecision', WHERE WHAT IT READS IS OF BULK AT MOST 1048576: true; the input reads as it did. -/
def fnExactSafeDecisionUptoRow : OpenClaim := { program := "ytececadpjelanaagreat", sum := "88a1b2f211e697e376d0f0af3aead697e9738bd9f5ad4156632c13894cf5d759", func := "loop.example/g00827/laws.FnExactSafeDecision", spec := "fnExactSafeDecision", unfollowed := true, recurses := true, apart := false, narrowed := true }
def FnExactSafeDecisionUptoSaid : Prop := fnExactSafeDecisionUptoRow.holds Tryz.pinned (OpenSpec.upto fnExactSafeDecisionSpec)

end Rows
end Go.Proofs.YtececadpjelanaaGreat
