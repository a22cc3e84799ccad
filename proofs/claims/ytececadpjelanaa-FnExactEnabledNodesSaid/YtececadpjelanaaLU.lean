/- Copies of shows. -/
import Derived.Test.YtececadpjelanaaTy
import Derived.Test.YtececadpjelanaaLT
namespace Go.Proofs.Ytececadpjelanaa.Ai
open Go
set_option maxRecDepth 100000
set_option linter.unusedVariables false
set_option linter.unusedSimpArgs false
def wCloneT : Wr := w1 dcTies rTies (fun l => [LLe l 1048576])
theorem take_sn {α : Type} {l : List α} {i : Nat} (z : α) (h : i < l.length) : l.take (i + 1) = l.take i ++ [l.getD i z] := by
  rw [List.take_add_one, List.getElem?_eq_getElem h, getD_get h, Option.toList_some]
structure ShowMem (t : Show) : Prop where
  len : t.nodes.length ≤ 1048576
  tlen : t.ties.length ≤ 1048576
  labs : ∀ q ∈ t.nodes, q.label.length ≤ 1048576
def wCopyShow : Wr := w1 dcShow rShow (fun t => [ShowMem t])
end Go.Proofs.Ytececadpjelanaa.Ai
