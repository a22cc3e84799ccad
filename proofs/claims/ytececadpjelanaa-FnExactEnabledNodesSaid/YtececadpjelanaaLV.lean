/- Ties with another High. -/
import Derived.Test.YtececadpjelanaaTy
import Derived.Test.YtececadpjelanaaLU
namespace Go.Proofs.Ytececadpjelanaa.Ai
open Go
set_option maxRecDepth 100000
set_option linter.unusedVariables false
set_option linter.unusedSimpArgs false
def wideS (t : Show) (k b : Int) : Show := ⟨t.nodes, modL Tie.z t.ties k.toNat (fun q => { q with high := IntKind.i64.wrap ((t.ties.getD k.toNat Tie.z).high + b) }), t.hor⟩
def wideC (t : Show) (k : Int) (fr : Bool) : Bool := showB t && (decide (0 ≤ k ∧ k < t.ties.length) && ((t.ties.getD k.toNat Tie.z).free == fr))
def wideOk (t : Show) (k b : Int) (fr : Bool) : Bool := wideC t k fr && showB (wideS t k b)
def rWid (t : Show) (b : Bool) : TV W := .tup [(true, t.w), (false, [.fz (.bool false b)])]
def wideR (s : Show) (b : Bool) : TV W := match b with | true => rWid s true | false => rWid ⟨[], [], 0⟩ false
def wideX (t : Show) (k b : Int) (fr : Bool) : Show := match wideOk t k b fr with | true => wideS t k b | false => ⟨[], [], 0⟩
theorem wideR_eq (t : Show) (k b : Int) (fr : Bool) : wideR (wideS t k b) (wideOk t k b fr) = rWid (wideX t k b fr) (wideOk t k b fr) := by
  unfold wideX wideR
  cases wideOk t k b fr <;> rfl
theorem wideS_le {t : Show} (h : ShowLe t) (k b : Int) : ShowLe (wideS t k b) := ⟨h.len, by unfold wideS; rw [modL_length]; exact h.tlen, h.nodes⟩
end Go.Proofs.Ytececadpjelanaa.Ai
