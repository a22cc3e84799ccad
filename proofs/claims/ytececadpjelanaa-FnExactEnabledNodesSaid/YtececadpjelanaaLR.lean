/- Observed values. -/
import Derived.Test.YtececadpjelanaaTy
import Derived.Test.YtececadpjelanaaMT
namespace Go.Proofs.Ytececadpjelanaa.Ai
open Go
set_option maxRecDepth 100000
set_option linter.unusedVariables false
set_option linter.unusedSimpArgs false
def obsL (v ps vs : List Int) : Nat → List Int
  | 0 => v
  | i + 1 => (obsL v ps vs i).set (ps.getD i 0 - 1).toNat (vs.getD i 0)
theorem obsL_len (v ps vs : List Int) : ∀ i, (obsL v ps vs i).length = v.length
  | 0 => rfl
  | i + 1 => by simp only [obsL, List.length_set, obsL_len v ps vs i]
theorem obsL_in {v ps vs : List Int} (hv : ∀ x ∈ v, inI x) (hs : ∀ x ∈ vs, inI x) : ∀ i, i ≤ vs.length → ∀ x ∈ obsL v ps vs i, inI x
  | 0, _, x, h => hv x h
  | i + 1, hi, x, h => by
    simp only [obsL] at h
    rcases List.mem_or_eq_of_mem_set h with h | rfl
    · exact obsL_in hv hs i (by omega) x h
    · exact hs _ (mem_getD (z := (0 : Int)) (by omega)).out
structure PrT (ps : List Int) : Prop where out : ∀ p ∈ ps, 1 ≤ p ∧ p ≤ 3
def obsS (x : State) (ps vs : List Int) : State := ⟨IntKind.i64.wrap (x.now + 1), x.times, obsL x.vals ps vs ps.length⟩
end Go.Proofs.Ytececadpjelanaa.Ai
