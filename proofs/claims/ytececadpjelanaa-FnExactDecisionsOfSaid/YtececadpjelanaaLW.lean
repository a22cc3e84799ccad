/- Relaxed and hurried ties. -/
import Derived.Test.YtececadpjelanaaTy
import Derived.Test.YtececadpjelanaaLU
namespace Go.Proofs.Ytececadpjelanaa.Ai
open Go
set_option maxRecDepth 100000
set_option linter.unusedVariables false
set_option linter.unusedSimpArgs false
structure TieH (t : Show) (k y : Int) : Prop where
  le : ShowLe t
  mem : ShowMem t
  k : inI k
  y : inI y
structure WideH (t : Show) (k : Int) : Prop where
  le : ShowLe t
  mem : ShowMem t
  k : inI k
end Go.Proofs.Ytececadpjelanaa.Ai
