/-
  No cell of these rows narrows 'for every input' (looked for: loops, veiled, ifaces, maps, wideKeys, modest, calm, conditions, laid).
  DERIVED. THE GIVEN ROWS OF THIS SEAT. 6 by the template 'for every input the law returns true; each argument reads behind the call as it read before'; 0 by the template 'total and deterministic' (their statements: YtfafehnchmelnaaGreatTotals.lean).
  GIVEN WITH THE SEED: the statements are not yours to turn. If you find one false, say at which input.
  Laid BY PROGRAM, IN A SANDBOX (cutbox-rows.mjs): the forced cells as the released guide's own fill.sh prints them over the translation a58ff38f0cf9fc5c… (all of the seat's roots in one cut). By AI agents, Wed Nov 11 2026. No macro, syntax, notation, axiom, sorry.
-/
import Derived.Test.YtfafehnchmelnaaGreatChecked
import GoSem.Claim
import GoSem.ClaimJoined
import GoSem.ClaimMapViews
import Derived.JoinedTies
import Derived.KernelRfl
namespace Go.Proofs.YtfafehnchmelnaaGreat
/- THE CELL 'sum', in the pinned program and in every row, IS THE sha256 OF THE DUMP (.gsa) THAT YtfafehnchmelnaaGreatProg.lean LOADS. Nothing in Lean hashes anything: it is a label: what it is worth is what the hold of that sum in a sandbox is worth. -/
noncomputable def Tryz.pinned : Pinned := { name := "ytfafehnchmelnaagreat", sum := "a58ff38f0cf9fc5c01d61e51054704bd3d9e97446d850ad95f4aaed13f5d6385", checked := Tryz.checked }
namespace Rows
def none {H : Type} : Left H := { results := [], args := [] }

/-- 'laws.FnExactIsDynamic': WHATEVER THE INPUT: true; the input reads as it did. -/
def fnExactIsDynamicSpec : ChangeSpec := { name := "fnExactIsDynamic", fn := fun _ => fun
  | [d] => { results := [.lit (.bool true)], args := [d] }
  | _ => none }
def fnExactIsDynamicRow : OpenClaim := { program := "ytfafehnchmelnaagreat", sum := "a58ff38f0cf9fc5c01d61e51054704bd3d9e97446d850ad95f4aaed13f5d6385", func := "loop.example/g00827/laws.FnExactIsDynamic", spec := "fnExactIsDynamic", unfollowed := true, recurses := true, apart := false }
def FnExactIsDynamicSaid : Prop := fnExactIsDynamicRow.holds Tryz.pinned (OpenSpec.ofChange fnExactIsDynamicSpec)

/-- ITS FALSE NEIGHBOUR: 'it returns false'. Refute it at one input. -/
def fnExactIsDynamicWrong : ChangeSpec := { name := "fnExactIsDynamic", fn := fun _ => fun
  | [d] => { results := [.lit (.bool false)], args := [d] }
  | _ => none }
def FnExactIsDynamicWrongFalsely : Prop := fnExactIsDynamicRow.holds Tryz.pinned (OpenSpec.ofChange fnExactIsDynamicWrong)

/-- 'laws.FnExactMoreTime': WHATEVER THE INPUT: true; the input reads as it did. -/
def fnExactMoreTimeSpec : ChangeSpec := { name := "fnExactMoreTime", fn := fun _ => fun
  | [d] => { results := [.lit (.bool true)], args := [d] }
  | _ => none }
def fnExactMoreTimeRow : OpenClaim := { program := "ytfafehnchmelnaagreat", sum := "a58ff38f0cf9fc5c01d61e51054704bd3d9e97446d850ad95f4aaed13f5d6385", func := "loop.example/g00827/laws.FnExactMoreTime", spec := "fnExactMoreTime", unfollowed := true, recurses := true, apart := false }
def FnExactMoreTimeSaid : Prop := fnExactMoreTimeRow.holds Tryz.pinned (OpenSpec.ofChange fnExactMoreTimeSpec)

/-- ITS FALSE NEIGHBOUR: 'it returns false'. Refute it at one input. -/
def fnExactMoreTimeWrong : ChangeSpec := { name := "fnExactMoreTime", fn := fun _ => fun
  | [d] => { results := [.lit (.bool false)], args := [d] }
  | _ => none }
def FnExactMoreTimeWrongFalsely : Prop := fnExactMoreTimeRow.holds Tryz.pinned (OpenSpec.ofChange fnExactMoreTimeWrong)

/-- 'laws.FnExactLeastHurry': WHATEVER THE INPUT: true; the input reads as it did. -/
def fnExactLeastHurrySpec : ChangeSpec := { name := "fnExactLeastHurry", fn := fun _ => fun
  | [d] => { results := [.lit (.bool true)], args := [d] }
  | _ => none }
def fnExactLeastHurryRow : OpenClaim := { program := "ytfafehnchmelnaagreat", sum := "a58ff38f0cf9fc5c01d61e51054704bd3d9e97446d850ad95f4aaed13f5d6385", func := "loop.example/g00827/laws.FnExactLeastHurry", spec := "fnExactLeastHurry", unfollowed := true, recurses := true, apart := false }
def FnExactLeastHurrySaid : Prop := fnExactLeastHurryRow.holds Tryz.pinned (OpenSpec.ofChange fnExactLeastHurrySpec)

/-- ITS FALSE NEIGHBOUR: 'it returns false'. Refute it at one input. -/
def fnExactLeastHurryWrong : ChangeSpec := { name := "fnExactLeastHurry", fn := fun _ => fun
  | [d] => { results := [.lit (.bool false)], args := [d] }
  | _ => none }
def FnExactLeastHurryWrongFalsely : Prop := fnExactLeastHurryRow.holds Tryz.pinned (OpenSpec.ofChange fnExactLeastHurryWrong)

/-- 'laws.FnExactLeastRelaxation': WHATEVER THE INPUT: true; the input reads as it did. -/
def fnExactLeastRelaxationSpec : ChangeSpec := { name := "fnExactLeastRelaxation", fn := fun _ => fun
  | [d1, d2] => { results := [.lit (.bool true)], args := [d1, d2] }
  | _ => none }
def fnExactLeastRelaxationRow : OpenClaim := { program := "ytfafehnchmelnaagreat", sum := "a58ff38f0cf9fc5c01d61e51054704bd3d9e97446d850ad95f4aaed13f5d6385", func := "loop.example/g00827/laws.FnExactLeastRelaxation", spec := "fnExactLeastRelaxation", unfollowed := true, recurses := true, apart := false }
def FnExactLeastRelaxationSaid : Prop := fnExactLeastRelaxationRow.holds Tryz.pinned (OpenSpec.ofChange fnExactLeastRelaxationSpec)

/-- ITS FALSE NEIGHBOUR: 'it returns false'. Refute it at one input. -/
def fnExactLeastRelaxationWrong : ChangeSpec := { name := "fnExactLeastRelaxation", fn := fun _ => fun
  | [d1, d2] => { results := [.lit (.bool false)], args := [d1, d2] }
  | _ => none }
def FnExactLeastRelaxationWrongFalsely : Prop := fnExactLeastRelaxationRow.holds Tryz.pinned (OpenSpec.ofChange fnExactLeastRelaxationWrong)

/-- 'laws.FnRelaxed': WHATEVER THE INPUT: true; the input reads as it did. -/
def fnRelaxedSpec : ChangeSpec := { name := "fnRelaxed", fn := fun _ => fun
  | [d] => { results := [.lit (.bool true)], args := [d] }
  | _ => none }
def fnRelaxedRow : OpenClaim := { program := "ytfafehnchmelnaagreat", sum := "a58ff38f0cf9fc5c01d61e51054704bd3d9e97446d850ad95f4aaed13f5d6385", func := "loop.example/g00827/laws.FnRelaxed", spec := "fnRelaxed", unfollowed := true, recurses := true, apart := false }
def FnRelaxedSaid : Prop := fnRelaxedRow.holds Tryz.pinned (OpenSpec.ofChange fnRelaxedSpec)

/-- ITS FALSE NEIGHBOUR: 'it returns false'. Refute it at one input. -/
def fnRelaxedWrong : ChangeSpec := { name := "fnRelaxed", fn := fun _ => fun
  | [d] => { results := [.lit (.bool false)], args := [d] }
  | _ => none }
def FnRelaxedWrongFalsely : Prop := fnRelaxedRow.holds Tryz.pinned (OpenSpec.ofChange fnRelaxedWrong)

/-- 'laws.FnHurried': WHATEVER THE INPUT: true; the input reads as it did. -/
def fnHurriedSpec : ChangeSpec := { name := "fnHurried", fn := fun _ => fun
  | [d] => { results := [.lit (.bool true)], args := [d] }
  | _ => none }
def fnHurriedRow : OpenClaim := { program := "ytfafehnchmelnaagreat", sum := "a58ff38f0cf9fc5c01d61e51054704bd3d9e97446d850ad95f4aaed13f5d6385", func := "loop.example/g00827/laws.FnHurried", spec := "fnHurried", unfollowed := true, recurses := true, apart := false }
def FnHurriedSaid : Prop := fnHurriedRow.holds Tryz.pinned (OpenSpec.ofChange fnHurriedSpec)

/-- ITS FALSE NEIGHBOUR: 'it returns false'. Refute it at one input. -/
def fnHurriedWrong : ChangeSpec := { name := "fnHurried", fn := fun _ => fun
  | [d] => { results := [.lit (.bool false)], args := [d] }
  | _ => none }
def FnHurriedWrongFalsely : Prop := fnHurriedRow.holds Tryz.pinned (OpenSpec.ofChange fnHurriedWrong)

/- THE SECOND FORM. 'bulk': how many values and letters a reading holds, each counted each time it is reached (what is shared counts as often as it is met; a slice's spare places count too). A statement '..UptoSaid' is the law's where the arguments, and the package variables that the reading takes, are together of bulk at most 1048576: NARROWER than '..Said'. Prove '..Said' where nothing that the law and all that it calls make is longer than what came in: it says more and counts as full. Else prove '..UptoSaid'. A law counts once. -/
mutual
def uptoBulk {H : Type} : DataW H → Nat
  | .lit (.string bytes) => bytes.length + 1
  | .lit _ => 1
  | .nil => 1
  | .ptr d => uptoBulk d + 1
  | .slice elems spare => uptoBulkAll elems + uptoBulkAll spare + 1
  | .agg parts => uptoBulkAll parts + 1
  | .iface _ d => uptoBulk d + 1
  | .map entries => uptoBulkEntries entries + 1
  | .held _ => 1
def uptoBulkAll {H : Type} : List (DataW H) → Nat
  | [] => 0
  | d :: r => uptoBulk d + uptoBulkAll r
def uptoBulkEntries {H : Type} : List (Lit × DataW H) → Nat
  | [] => 0
  | x :: r => uptoBulkEntry x + uptoBulkEntries r
def uptoBulkEntry {H : Type} : Lit × DataW H → Nat
  | (.string bytes, d) => bytes.length + uptoBulk d + 1
  | (_, d) => uptoBulk d + 1
 end
def uptoSmall : (H : Type) → List (DataW H) → Bool := fun _ ds => decide (uptoBulkAll ds ≤ 1048576)
def OpenSpec.upto (s : _root_.Go.ChangeSpec) : _root_.Go.OpenSpec := { _root_.Go.OpenSpec.ofChange s with cond := some uptoSmall }

/-- 'laws.FnExactIsDynamic', WHERE WHAT IT READS IS OF BULK AT MOST 1048576: true; the input reads as it did. -/
def fnExactIsDynamicUptoRow : OpenClaim := { program := "ytfafehnchmelnaagreat", sum := "a58ff38f0cf9fc5c01d61e51054704bd3d9e97446d850ad95f4aaed13f5d6385", func := "loop.example/g00827/laws.FnExactIsDynamic", spec := "fnExactIsDynamic", unfollowed := true, recurses := true, apart := false, narrowed := true }
def FnExactIsDynamicUptoSaid : Prop := fnExactIsDynamicUptoRow.holds Tryz.pinned (OpenSpec.upto fnExactIsDynamicSpec)

/-- 'laws.FnExactMoreTime', WHERE WHAT IT READS IS OF BULK AT MOST 1048576: true; the input reads as it did. -/
def fnExactMoreTimeUptoRow : OpenClaim := { program := "ytfafehnchmelnaagreat", sum := "a58ff38f0cf9fc5c01d61e51054704bd3d9e97446d850ad95f4aaed13f5d6385", func := "loop.example/g00827/laws.FnExactMoreTime", spec := "fnExactMoreTime", unfollowed := true, recurses := true, apart := false, narrowed := true }
def FnExactMoreTimeUptoSaid : Prop := fnExactMoreTimeUptoRow.holds Tryz.pinned (OpenSpec.upto fnExactMoreTimeSpec)

/-- 'laws.FnExactLeastHurry', WHERE WHAT IT READS IS OF BULK AT MOST 1048576: true; the input reads as it did. -/
def fnExactLeastHurryUptoRow : OpenClaim := { program := "ytfafehnchmelnaagreat", sum := "a58ff38f0cf9fc5c01d61e51054704bd3d9e97446d850ad95f4aaed13f5d6385", func := "loop.example/g00827/laws.FnExactLeastHurry", spec := "fnExactLeastHurry", unfollowed := true, recurses := true, apart := false, narrowed := true }
def FnExactLeastHurryUptoSaid : Prop := fnExactLeastHurryUptoRow.holds Tryz.pinned (OpenSpec.upto fnExactLeastHurrySpec)

/-- 'laws.FnExactLeastRelaxation', WHERE WHAT IT READS IS OF BULK AT MOST 1048576: true; the input reads as it did. -/
def fnExactLeastRelaxationUptoRow : OpenClaim := { program := "ytfafehnchmelnaagreat", sum := "a58ff38f0cf9fc5c01d61e51054704bd3d9e97446d850ad95f4aaed13f5d6385", func := "loop.example/g00827/laws.FnExactLeastRelaxation", spec := "fnExactLeastRelaxation", unfollowed := true, recurses := true, apart := false, narrowed := true }
def FnExactLeastRelaxationUptoSaid : Prop := fnExactLeastRelaxationUptoRow.holds Tryz.pinned (OpenSpec.upto fnExactLeastRelaxationSpec)

/-- 'laws.FnRelaxed', WHERE WHAT IT READS IS OF BULK AT MOST 1048576: true; the input reads as it did. -/
def fnRelaxedUptoRow : OpenClaim := { program := "ytfafehnchmelnaagreat", sum := "a58ff38f0cf9fc5c01d61e51054704bd3d9e97446d850ad95f4aaed13f5d6385", func := "loop.example/g00827/laws.FnRelaxed", spec := "fnRelaxed", unfollowed := true, recurses := true, apart := false, narrowed := true }
def FnRelaxedUptoSaid : Prop := fnRelaxedUptoRow.holds Tryz.pinned (OpenSpec.upto fnRelaxedSpec)

/-- 'laws.FnHurried', WHERE WHAT IT READS IS OF BULK AT MOST 1048576: true; the input reads as it did. -/
def fnHurriedUptoRow : OpenClaim := { program := "ytfafehnchmelnaagreat", sum := "a58ff38f0cf9fc5c01d61e51054704bd3d9e97446d850ad95f4aaed13f5d6385", func := "loop.example/g00827/laws.FnHurried", spec := "fnHurried", unfollowed := true, recurses := true, apart := false, narrowed := true }
def FnHurriedUptoSaid : Prop := fnHurriedUptoRow.holds Tryz.pinned (OpenSpec.upto fnHurriedSpec)

end Rows
end Go.Proofs.YtfafehnchmelnaaGreat
