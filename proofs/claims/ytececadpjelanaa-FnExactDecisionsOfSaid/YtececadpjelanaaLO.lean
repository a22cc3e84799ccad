/- Broken states, the program's side. -/
import Derived.Test.YtececadpjelanaaTy
import Derived.Test.YtececadpjelanaaLN
namespace Go.Proofs.Ytececadpjelanaa.Ai
open Go
set_option maxRecDepth 100000
set_option linter.unusedVariables false
set_option linter.unusedSimpArgs false
structure ShowIs (t u : Show) : Prop where out : t = u
structure TiesT (t : Show) (l : List Tie) : Prop where out : ∀ q ∈ l, TieT t q
end Go.Proofs.Ytececadpjelanaa.Ai
