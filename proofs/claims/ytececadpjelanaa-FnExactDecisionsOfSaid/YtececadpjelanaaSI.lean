/- Sheets, part 2. -/
import Derived.Test.YtececadpjelanaaTy
import Derived.Test.YtececadpjelanaaSH
namespace Go.Proofs.Ytececadpjelanaa.Ai
open Go
set_option maxRecDepth 100000
set_option linter.unusedVariables false
set_option linter.unusedSimpArgs false
/-- The names are texts. -/
structure NamesOk (l : List Cue) : Prop where out : ∀ q ∈ l, q.name.size ≤ maxLen
end Go.Proofs.Ytececadpjelanaa.Ai
