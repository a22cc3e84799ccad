/- AfterValues: the law. -/
import Derived.Test.YtececadpjelanaaTy
import Derived.Test.YtececadpjelanaaLS
namespace Go.Proofs.Ytececadpjelanaa.Ai
open Go
set_option maxRecDepth 100000
set_option linter.unusedVariables false
set_option linter.unusedSimpArgs false
structure AftH (t : Show) (x : State) (ps vs : List Int) : Prop where
  sh : ShowLe t
  st : StateLe x
  sz : StSz x
  pl : ps.length ≤ 1048576
  vl : vs.length ≤ 1048576
  vi : ∀ n ∈ vs, inI n
theorem kN_le {l : List Node} (k : Int) (h : ∀ q ∈ l, q.label.length ≤ 1048576) : ∀ i, i ≤ l.length → kN k l i ≤ k + i * 1048578
  | 0, _ => by rw [kN_zero]; omega
  | i + 1, hi => by
    have h1 := kN_le k h i (by omega)
    have h2 := h _ (mem_getD (z := Node.z) (show i < l.length by omega)).out
    rw [kN_succ (by omega)]
    omega
structure ShGT (n : Int) (g : Int) : Prop where
  lo : 0 < g
  hi : g ≤ 4000000000000
theorem shG_in {t : Show} {n : Int} (h : ShowSz t n) : ShGT n (shG 1 t.nodes t.ties.length) ∧ gN 1 t.nodes ≤ 4000000000000 := by
  have h1 := kN_le 1 h.labs t.nodes.length (Nat.le_refl _)
  have h2 := kN_mono 1 t.nodes 0 t.nodes.length
  rw [kN_zero, Nat.zero_add] at h2
  have h3 := h.len
  have h4 := h.tlen
  unfold shG addT gN
  exact ⟨⟨by omega, by omega⟩, by omega⟩
theorem stF_len (k : Int) (n m : Nat) : (stF k n m).length = m := markI_len _ _
end Go.Proofs.Ytececadpjelanaa.Ai
