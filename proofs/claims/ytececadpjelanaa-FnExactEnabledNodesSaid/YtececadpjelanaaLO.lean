/- Broken states, the program's side. -/
import Derived.Test.YtececadpjelanaaTy
import Derived.Test.YtececadpjelanaaLN
namespace Go.Proofs.Ytececadpjelanaa.Ai
open Go
set_option maxRecDepth 100000
set_option linter.unusedVariables false
set_option linter.unusedSimpArgs false
structure ShowIs (t u : Show) : Prop where out : t = u
def wTieBr (f : Show → State → Tie → Bool) : Wr := w3 dcShow dcState dcTie (fun t x q => rB (f t x q)) (fun t x q => [StLe t x, StT t x, TieT t q])
def wAreOver (f : Show → State → Bool) : Wr := w2 dcShow dcState (fun t x => rB (f t x)) (fun t x => [StLe t x, StT t x])
structure TiesT (t : Show) (l : List Tie) : Prop where out : ∀ q ∈ l, TieT t q
def anyLate (l : List Tie) (t : Show) (x : State) : Bool := l.any fun q => lateB t x q
end Go.Proofs.Ytececadpjelanaa.Ai
