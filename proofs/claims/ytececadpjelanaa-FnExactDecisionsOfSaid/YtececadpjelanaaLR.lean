/- Observed values. -/
import Derived.Test.YtececadpjelanaaTy
import Derived.Test.YtececadpjelanaaMT
namespace Go.Proofs.Ytececadpjelanaa.Ai
open Go
set_option maxRecDepth 100000
set_option linter.unusedVariables false
set_option linter.unusedSimpArgs false
structure PrT (ps : List Int) : Prop where out : ∀ p ∈ ps, 1 ≤ p ∧ p ≤ 3
end Go.Proofs.Ytececadpjelanaa.Ai
