/- Users of a device. -/
import Derived.Test.YtececadpjelanaaTy
import Derived.Test.YtececadpjelanaaOB
namespace Go.Proofs.Ytececadpjelanaa.Ai
open Go
set_option maxRecDepth 100000
set_option linter.unusedVariables false
set_option linter.unusedSimpArgs false
def rUs (l : List Int) : TV W := .v (false, [.osl (.i l)])
end Go.Proofs.Ytececadpjelanaa.Ai
