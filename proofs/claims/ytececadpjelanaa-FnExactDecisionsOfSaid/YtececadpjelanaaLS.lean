/- States behind observations. -/
import Derived.Test.YtececadpjelanaaTy
import Derived.Test.YtececadpjelanaaLR
namespace Go.Proofs.Ytececadpjelanaa.Ai
open Go
set_option maxRecDepth 100000
set_option linter.unusedVariables false
set_option linter.unusedSimpArgs false
structure V3 (v : List Int) : Prop where out : v.length = 3
structure SLn (a b : List Int) : Prop where out : a.length = b.length
end Go.Proofs.Ytececadpjelanaa.Ai
