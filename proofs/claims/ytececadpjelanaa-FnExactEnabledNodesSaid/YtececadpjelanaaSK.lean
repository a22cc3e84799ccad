/- Cues by name. -/
import Derived.Test.YtececadpjelanaaTy
import Derived.Test.YtececadpjelanaaSJ
namespace Go.Proofs.Ytececadpjelanaa.Ai
open Go
set_option maxRecDepth 100000
set_option linter.unusedVariables false
set_option linter.unusedSimpArgs false
def cueIdx (l : List Cue) (s : ByteArray) : Int := idxF (fun q => eqS q.name s) l 0
def wCueNamed (f : List Cue → ByteArray → Int) : Wr := w2 dcSheet dcS (fun t s => rI (f t.cues s)) (fun t _ => [LLe t.cues maxLen])
end Go.Proofs.Ytececadpjelanaa.Ai
