/- The two CueOk. -/
import Derived.Test.YtececadpjelanaaTy
import Derived.Test.YtececadpjelanaaCU
namespace Go.Proofs.Ytececadpjelanaa.Ai
open Go
set_option maxRecDepth 100000
set_option linter.unusedVariables false
set_option linter.unusedSimpArgs false
def wCueS (f : Cue → Int → Bool) : Wr := w2 dcCue dcI (fun q i => rB (f q i)) (fun q _ => [SLen q.name])
end Go.Proofs.Ytececadpjelanaa.Ai
