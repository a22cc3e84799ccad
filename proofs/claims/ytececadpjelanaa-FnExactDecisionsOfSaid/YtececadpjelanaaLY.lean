/- HurryTie and RelaxTie: the laws. -/
import Derived.Test.YtececadpjelanaaTy
import Derived.Test.YtececadpjelanaaLW
namespace Go.Proofs.Ytececadpjelanaa.Ai
open Go
set_option maxRecDepth 100000
set_option linter.unusedVariables false
set_option linter.unusedSimpArgs false
structure HTi (k : Int) (n : Nat) : Prop where out : n ≤ maxLen ∧ 0 < k ∧ k + 5 * n ≤ 4611686018427387904
structure HN (l : List Node) (k b : Int) : Prop where out : l.length ≤ maxLen ∧ (∀ q ∈ l, q.label.length ≤ maxLen) ∧ 0 < k ∧ b ≤ 4611686018427387904
structure HSh (t : Show) (k : Int) (n : Nat) (b : Int) : Prop where out : t.nodes = fN k t.nodes ∧ t.ties = shT k t.nodes n ∧ n = t.ties.length ∧ t.nodes.length ≤ maxLen ∧ (∀ q ∈ t.nodes, q.label.length ≤ maxLen) ∧ n ≤ maxLen ∧ 0 < k ∧ b ≤ 4611686018427387904
end Go.Proofs.Ytececadpjelanaa.Ai
