/- Defeats and states that are done. -/
import Derived.Test.YtececadpjelanaaTy
import Derived.Test.YtececadpjelanaaLO
namespace Go.Proofs.Ytececadpjelanaa.Ai
open Go
set_option maxRecDepth 100000
set_option linter.unusedVariables false
set_option linter.unusedSimpArgs false
theorem ShowIn.le {t : Show} (h : ShowIn t) : ShowLe t := ⟨h.len, h.tlen, fun q hq => ⟨(h.nodes q hq).name, (h.nodes q hq).len, (h.nodes q hq).label⟩⟩
theorem StateIn.le {x : State} (h : StateIn x) : StateLe x := ⟨h.now, h.len, h.vlen⟩
structure ShowSz (t : Show) (n : Int) : Prop where
  len : t.nodes.length ≤ 1048576
  tlen : t.ties.length ≤ 1048576
  labs : ∀ q ∈ t.nodes, q.label.length ≤ 1048576
  le : n ≤ 1048576
theorem showSz {t : Show} (h : 0 ≤ szShowI t 1048576) : ShowSz t (szShowI t 1048576) := by
  have := szShow_20 (n := 1048576) (by decide) h
  exact ⟨by omega, by omega, fun q hq => by have := (this.2.2.1 q hq).2; omega, this.2.2.2⟩
structure StateSz (x : State) : Prop where
  tlen : x.times.length ≤ 1048576
  vlen : x.vals.length ≤ 1048576
theorem stateSz {x : State} {n : Int} (h0 : 0 ≤ n) (h1 : n ≤ 1048576) (h : 0 ≤ szStateI x n) : StateSz x := by
  have := szState_20 h0 h
  exact ⟨by omega, by omega⟩
end Go.Proofs.Ytececadpjelanaa.Ai
