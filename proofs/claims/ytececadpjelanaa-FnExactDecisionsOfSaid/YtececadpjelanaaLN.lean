/- Ties that are late; states that are broken, or over. -/
import Derived.Test.YtececadpjelanaaTy
import Derived.Test.YtececadpjelanaaLM
namespace Go.Proofs.Ytececadpjelanaa.Ai
open Go
set_option maxRecDepth 100000
set_option linter.unusedVariables false
set_option linter.unusedSimpArgs false
def labI (l v : List Int) : Int := labF v l 1
def wLabState (f : List Int → List Int → Int) : Wr := w2 dcIs dcIs (fun l v => rI (f l v)) (fun l v => [LabT l, ValT v])
theorem wLabState_ok : WrOK Try.prog 47 (wLabState labI) := w2_ok fun l v h => specLabState_ok l v (h _ (.head _)).out (h _ (.tail _ (.head _))).out
structure TieT (t : Show) (q : Tie) : Prop where
  src : 0 ≤ q.src ∧ q.src < t.nodes.length
  dst : 0 ≤ q.dst ∧ q.dst < t.nodes.length
end Go.Proofs.Ytececadpjelanaa.Ai
