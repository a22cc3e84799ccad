/- SheetOk. -/
import Derived.Test.YtececadpjelanaaTy
import Derived.Test.YtececadpjelanaaSK
namespace Go.Proofs.Ytececadpjelanaa.Ai
open Go
set_option maxRecDepth 100000
set_option linter.unusedVariables false
set_option linter.unusedSimpArgs false
def prepB (l : List Int) : Bool := l.all (fun n => upTo n 20)
def cueAt (cs : List Cue) (i : Nat) (q : Cue) : Bool := cueB q i && decide (cueIdx cs q.name = i)
def sheetB (t : Sheet) : Bool := allF (cueAt t.cues) t.cues 0 && decide (t.cues.length ≤ 6 ∧ t.prep.length = 3 ∧ 1 ≤ t.hor ∧ t.hor ≤ 10) && prepB t.prep
theorem inB_upTo (n m : Int) : inB n 0 m = upTo n m := rfl
def wSheetOk (f : Sheet → Bool) : Wr := w1 dcSheet (fun t => rB (f t)) (fun t => [LLe t.cues maxLen, LLe t.prep maxLen, NamesOk t.cues])
end Go.Proofs.Ytececadpjelanaa.Ai
