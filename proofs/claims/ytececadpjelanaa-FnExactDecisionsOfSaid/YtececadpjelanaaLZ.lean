/- Sheets compiled: the parts. -/
import Derived.Test.YtececadpjelanaaTy
import Derived.Test.YtececadpjelanaaLY
namespace Go.Proofs.Ytececadpjelanaa.Ai
open Go
set_option maxRecDepth 100000
set_option linter.unusedVariables false
set_option linter.unusedSimpArgs false
structure OvH (b e : List Int) (c : Int) : Prop where
  c : 0 ≤ c ∧ c < b.length
  e : e.length = b.length
structure MtH (t : Sheet) (i k : Int) : Prop where
  i : 0 ≤ i ∧ i < t.cues.length
  k : 0 ≤ k ∧ k < t.cues.length
  len : t.cues.length ≤ 6
  all : ∀ q ∈ t.cues, -3 ≤ q.cond ∧ q.cond ≤ 3
end Go.Proofs.Ytececadpjelanaa.Ai
