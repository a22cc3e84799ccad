/-
  No cell of these rows narrows 'for every input' (looked for: loops, veiled, ifaces, maps, wideKeys, modest, calm, conditions, laid).
  DERIVED. THE GIVEN ROWS OF THIS SEAT. 6 by the template 'for every input the law returns true; each argument reads behind the call as it read before'; 0 by the template 'total and deterministic' (their statements: YtjhkgmnfbacenaaTotals.lean).
  GIVEN WITH THE SEED: the statements are not yours to turn. If you find one false, say at which input.
  Laid BY PROGRAM, IN A SANDBOX (cutbox-rows.mjs): the forced cells as the released guide's own fill.sh prints them over the translation 39fadd1dc76646c4… (all of the seat's roots in one cut). By AI agents, Wed Nov 11 2026. No macro, syntax, notation, axiom, sorry.
-/
import Derived.Test.YtjhkgmnfbacenaaChecked
import GoSem.Claim
import GoSem.ClaimJoined
import GoSem.ClaimMapViews
import Derived.JoinedTies
import Derived.KernelRfl
namespace Go.Proofs.Ytjhkgmnfbacenaa
/- THE CELL 'sum', in the pinned program and in every row, IS THE sha256 OF THE DUMP (.gsa) THAT YtjhkgmnfbacenaaProg.lean LOADS. Nothing in Lean hashes anything: it is a label: what it is worth is what the hold of that sum in a sandbox is worth. -/
noncomputable def Try.pinned : Pinned := { name := "ytjhkgmnfbacenaa", sum := "39fadd1dc76646c492159ab4e51af0126b185ca2149abf5ca9df79b9d1e1fb99", checked := Try.checked }
namespace Rows
def none {H : Type} : Left H := { results := [], args := [] }

/-- 'laws.FnExactClassName': WHATEVER THE INPUT: true; the input reads as it did. -/
def fnExactClassNameSpec : ChangeSpec := { name := "fnExactClassName", fn := fun _ => fun
  | [d] => { results := [.lit (.bool true)], args := [d] }
  | _ => none }
def fnExactClassNameRow : OpenClaim := { program := "ytjhkgmnfbacenaa", sum := "39fadd1dc76646c492159ab4e51af0126b185ca2149abf5ca9df79b9d1e1fb99", func := "loop.example/g00827/laws.FnExactClassName", spec := "fnExactClassName", apart := false }
def FnExactClassNameSaid : Prop := fnExactClassNameRow.holds Try.pinned (OpenSpec.ofChange fnExactClassNameSpec)

/-- ITS FALSE NEIGHBOUR: 'it returns false'. Refute it at one input. -/
def fnExactClassNameWrong : ChangeSpec := { name := "fnExactClassName", fn := fun _ => fun
  | [d] => { results := [.lit (.bool false)], args := [d] }
  | _ => none }
def FnExactClassNameWrongFalsely : Prop := fnExactClassNameRow.holds Try.pinned (OpenSpec.ofChange fnExactClassNameWrong)

/-- 'laws.FnExactWorseClass': WHATEVER THE INPUT: true; the input reads as it did. -/
def fnExactWorseClassSpec : ChangeSpec := { name := "fnExactWorseClass", fn := fun _ => fun
  | [d1, d2] => { results := [.lit (.bool true)], args := [d1, d2] }
  | _ => none }
def fnExactWorseClassRow : OpenClaim := { program := "ytjhkgmnfbacenaa", sum := "39fadd1dc76646c492159ab4e51af0126b185ca2149abf5ca9df79b9d1e1fb99", func := "loop.example/g00827/laws.FnExactWorseClass", spec := "fnExactWorseClass", apart := false }
def FnExactWorseClassSaid : Prop := fnExactWorseClassRow.holds Try.pinned (OpenSpec.ofChange fnExactWorseClassSpec)

/-- ITS FALSE NEIGHBOUR: 'it returns false'. Refute it at one input. -/
def fnExactWorseClassWrong : ChangeSpec := { name := "fnExactWorseClass", fn := fun _ => fun
  | [d1, d2] => { results := [.lit (.bool false)], args := [d1, d2] }
  | _ => none }
def FnExactWorseClassWrongFalsely : Prop := fnExactWorseClassRow.holds Try.pinned (OpenSpec.ofChange fnExactWorseClassWrong)

/-- 'laws.FnExactCueOk': WHATEVER THE INPUT: true; the input reads as it did. -/
def fnExactCueOkSpec : ChangeSpec := { name := "fnExactCueOk", fn := fun _ => fun
  | [d1, d2] => { results := [.lit (.bool true)], args := [d1, d2] }
  | _ => none }
def fnExactCueOkRow : OpenClaim := { program := "ytjhkgmnfbacenaa", sum := "39fadd1dc76646c492159ab4e51af0126b185ca2149abf5ca9df79b9d1e1fb99", func := "loop.example/g00827/laws.FnExactCueOk", spec := "fnExactCueOk", apart := false }
def FnExactCueOkSaid : Prop := fnExactCueOkRow.holds Try.pinned (OpenSpec.ofChange fnExactCueOkSpec)

/-- ITS FALSE NEIGHBOUR: 'it returns false'. Refute it at one input. -/
def fnExactCueOkWrong : ChangeSpec := { name := "fnExactCueOk", fn := fun _ => fun
  | [d1, d2] => { results := [.lit (.bool false)], args := [d1, d2] }
  | _ => none }
def FnExactCueOkWrongFalsely : Prop := fnExactCueOkRow.holds Try.pinned (OpenSpec.ofChange fnExactCueOkWrong)

/-- 'laws.FnExactObservationsOf': WHATEVER THE INPUT: true; the input reads as it did. -/
def fnExactObservationsOfSpec : ChangeSpec := { name := "fnExactObservationsOf", fn := fun _ => fun
  | [d] => { results := [.lit (.bool true)], args := [d] }
  | _ => none }
def fnExactObservationsOfRow : OpenClaim := { program := "ytjhkgmnfbacenaa", sum := "39fadd1dc76646c492159ab4e51af0126b185ca2149abf5ca9df79b9d1e1fb99", func := "loop.example/g00827/laws.FnExactObservationsOf", spec := "fnExactObservationsOf", apart := false }
def FnExactObservationsOfSaid : Prop := fnExactObservationsOfRow.holds Try.pinned (OpenSpec.ofChange fnExactObservationsOfSpec)

/-- ITS FALSE NEIGHBOUR: 'it returns false'. Refute it at one input. -/
def fnExactObservationsOfWrong : ChangeSpec := { name := "fnExactObservationsOf", fn := fun _ => fun
  | [d] => { results := [.lit (.bool false)], args := [d] }
  | _ => none }
def FnExactObservationsOfWrongFalsely : Prop := fnExactObservationsOfRow.holds Try.pinned (OpenSpec.ofChange fnExactObservationsOfWrong)

/-- 'laws.FnExactCanMeet': WHATEVER THE INPUT: true; the input reads as it did. -/
def fnExactCanMeetSpec : ChangeSpec := { name := "fnExactCanMeet", fn := fun _ => fun
  | [d1, d2, d3] => { results := [.lit (.bool true)], args := [d1, d2, d3] }
  | _ => none }
def fnExactCanMeetRow : OpenClaim := { program := "ytjhkgmnfbacenaa", sum := "39fadd1dc76646c492159ab4e51af0126b185ca2149abf5ca9df79b9d1e1fb99", func := "loop.example/g00827/laws.FnExactCanMeet", spec := "fnExactCanMeet", apart := false }
def FnExactCanMeetSaid : Prop := fnExactCanMeetRow.holds Try.pinned (OpenSpec.ofChange fnExactCanMeetSpec)

/-- ITS FALSE NEIGHBOUR: 'it returns false'. Refute it at one input. -/
def fnExactCanMeetWrong : ChangeSpec := { name := "fnExactCanMeet", fn := fun _ => fun
  | [d1, d2, d3] => { results := [.lit (.bool false)], args := [d1, d2, d3] }
  | _ => none }
def FnExactCanMeetWrongFalsely : Prop := fnExactCanMeetRow.holds Try.pinned (OpenSpec.ofChange fnExactCanMeetWrong)

/-- 'laws.FnExactCueNamed': WHATEVER THE INPUT: true; the input reads as it did. -/
def fnExactCueNamedSpec : ChangeSpec := { name := "fnExactCueNamed", fn := fun _ => fun
  | [d1, d2] => { results := [.lit (.bool true)], args := [d1, d2] }
  | _ => none }
def fnExactCueNamedRow : OpenClaim := { program := "ytjhkgmnfbacenaa", sum := "39fadd1dc76646c492159ab4e51af0126b185ca2149abf5ca9df79b9d1e1fb99", func := "loop.example/g00827/laws.FnExactCueNamed", spec := "fnExactCueNamed", unfollowed := true, recurses := true, apart := false }
def FnExactCueNamedSaid : Prop := fnExactCueNamedRow.holds Try.pinned (OpenSpec.ofChange fnExactCueNamedSpec)

/-- ITS FALSE NEIGHBOUR: 'it returns false'. Refute it at one input. -/
def fnExactCueNamedWrong : ChangeSpec := { name := "fnExactCueNamed", fn := fun _ => fun
  | [d1, d2] => { results := [.lit (.bool false)], args := [d1, d2] }
  | _ => none }
def FnExactCueNamedWrongFalsely : Prop := fnExactCueNamedRow.holds Try.pinned (OpenSpec.ofChange fnExactCueNamedWrong)

/- THE SECOND FORM. 'bulk': how many values and letters a reading holds, each counted each time it is reached (what is shared counts as often as it is met; a slice's spare places count too). A statement '..UptoSaid' is the law's where the arguments, and the package variables that the reading takes, are together of bulk at most 1048576: NARROWER than '..Said'. Prove '..Said' where nothing that the law and all that it calls make is longer than what came in: it says more and counts as full. Else prove '..UptoSaid'. A law counts once. -/
mutual
def uptoBulk {H : Type} : DataW H → Nat
  | .lit (.string bytes) => bytes.length + 1
  | .lit _ => 1
  | .nil => 1
  | .ptr d => uptoBulk d + 1
  | .slice elems spare => uptoBulkAll elems + uptoBulkAll spare + 1
  | .agg parts => uptoBulkAll parts + 1
  | .iface _ d => uptoBulk d + 1
  | .map entries => uptoBulkEntries entries + 1
  | .held _ => 1
def uptoBulkAll {H : Type} : List (DataW H) → Nat
  | [] => 0
  | d :: r => uptoBulk d + uptoBulkAll r
def uptoBulkEntries {H : Type} : List (Lit × DataW H) → Nat
  | [] => 0
  | x :: r => uptoBulkEntry x + uptoBulkEntries r
def uptoBulkEntry {H : Type} : Lit × DataW H → Nat
  | (.string bytes, d) => bytes.length + uptoBulk d + 1
  | (_, d) => uptoBulk d + 1
 end
def uptoSmall : (H : Type) → List (DataW H) → Bool := fun _ ds => decide (uptoBulkAll ds ≤ 1048576)
def OpenSpec.upto (s : _root_.Go.ChangeSpec) : _root_.Go.OpenSpec := { _root_.Go.OpenSpec.ofChange s with cond := some uptoSmall }

/-- 'laws.FnExactClassName', WHERE WHAT IT READS IS OF BULK AT MOST 1048576: true; the input reads as it did. -/
def fnExactClassNameUptoRow : OpenClaim := { program := "ytjhkgmnfbacenaa", sum := "39fadd1dc76646c492159ab4e51af0126b185ca2149abf5ca9df79b9d1e1fb99", func := "loop.example/g00827/laws.FnExactClassName", spec := "fnExactClassName", apart := false, narrowed := true }
def FnExactClassNameUptoSaid : Prop := fnExactClassNameUptoRow.holds Try.pinned (OpenSpec.upto fnExactClassNameSpec)

/-- 'laws.FnExactWorseClass', WHERE WHAT IT READS IS OF BULK AT MOST 1048576: true; the input reads as it did. -/
def fnExactWorseClassUptoRow : OpenClaim := { program := "ytjhkgmnfbacenaa", sum := "39fadd1dc76646c492159ab4e51af0126b185ca2149abf5ca9df79b9d1e1fb99", func := "loop.example/g00827/laws.FnExactWorseClass", spec := "fnExactWorseClass", apart := false, narrowed := true }
def FnExactWorseClassUptoSaid : Prop := fnExactWorseClassUptoRow.holds Try.pinned (OpenSpec.upto fnExactWorseClassSpec)

/-- 'laws.FnExactCueOk', WHERE WHAT IT READS IS OF BULK AT MOST 1048576: true; the input reads as it did. -/
def fnExactCueOkUptoRow : OpenClaim := { program := "ytjhkgmnfbacenaa", sum := "39fadd1dc76646c492159ab4e51af0126b185ca2149abf5ca9df79b9d1e1fb99", func := "loop.example/g00827/laws.FnExactCueOk", spec := "fnExactCueOk", apart := false, narrowed := true }
def FnExactCueOkUptoSaid : Prop := fnExactCueOkUptoRow.holds Try.pinned (OpenSpec.upto fnExactCueOkSpec)

/-- 'laws.FnExactObservationsOf', WHERE WHAT IT READS IS OF BULK AT MOST 1048576: true; the input reads as it did. -/
def fnExactObservationsOfUptoRow : OpenClaim := { program := "ytjhkgmnfbacenaa", sum := "39fadd1dc76646c492159ab4e51af0126b185ca2149abf5ca9df79b9d1e1fb99", func := "loop.example/g00827/laws.FnExactObservationsOf", spec := "fnExactObservationsOf", apart := false, narrowed := true }
def FnExactObservationsOfUptoSaid : Prop := fnExactObservationsOfUptoRow.holds Try.pinned (OpenSpec.upto fnExactObservationsOfSpec)

/-- 'laws.FnExactCanMeet', WHERE WHAT IT READS IS OF BULK AT MOST 1048576: true; the input reads as it did. -/
def fnExactCanMeetUptoRow : OpenClaim := { program := "ytjhkgmnfbacenaa", sum := "39fadd1dc76646c492159ab4e51af0126b185ca2149abf5ca9df79b9d1e1fb99", func := "loop.example/g00827/laws.FnExactCanMeet", spec := "fnExactCanMeet", apart := false, narrowed := true }
def FnExactCanMeetUptoSaid : Prop := fnExactCanMeetUptoRow.holds Try.pinned (OpenSpec.upto fnExactCanMeetSpec)

/-- 'laws.FnExactCueNamed', WHERE WHAT IT READS IS OF BULK AT MOST 1048576: true; the input reads as it did. -/
def fnExactCueNamedUptoRow : OpenClaim := { program := "ytjhkgmnfbacenaa", sum := "39fadd1dc76646c492159ab4e51af0126b185ca2149abf5ca9df79b9d1e1fb99", func := "loop.example/g00827/laws.FnExactCueNamed", spec := "fnExactCueNamed", unfollowed := true, recurses := true, apart := false, narrowed := true }
def FnExactCueNamedUptoSaid : Prop := fnExactCueNamedUptoRow.holds Try.pinned (OpenSpec.upto fnExactCueNamedSpec)

end Rows
end Go.Proofs.Ytjhkgmnfbacenaa
