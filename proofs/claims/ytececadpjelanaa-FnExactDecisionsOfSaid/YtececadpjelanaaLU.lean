/- Copies of shows. -/
import Derived.Test.YtececadpjelanaaTy
import Derived.Test.YtececadpjelanaaLT
namespace Go.Proofs.Ytececadpjelanaa.Ai
open Go
set_option maxRecDepth 100000
set_option linter.unusedVariables false
set_option linter.unusedSimpArgs false
structure ShowMem (t : Show) : Prop where
  len : t.nodes.length ≤ 1048576
  tlen : t.ties.length ≤ 1048576
  labs : ∀ q ∈ t.nodes, q.label.length ≤ 1048576
end Go.Proofs.Ytececadpjelanaa.Ai
