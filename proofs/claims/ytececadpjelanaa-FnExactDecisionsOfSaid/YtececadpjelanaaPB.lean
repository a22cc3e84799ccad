/- Enabled nodes: both sides, and the law. -/
import Derived.Test.YtececadpjelanaaTy
import Derived.Test.YtececadpjelanaaPA
namespace Go.Proofs.Ytececadpjelanaa.Ai
open Go
set_option maxRecDepth 100000
set_option linter.unusedVariables false
set_option linter.unusedSimpArgs false
theorem rEn_ne {l : List Int} (h : l ≠ []) : rEn l = rUs l := by cases l with | nil => exact absurd rfl h | cons a l => rfl
structure EnT (t : Show) (x : State) : Prop where
  le : StLe t x
  v : StV t x
  tl : x.times.length = t.nodes.length
structure EnNe (t : Show) (x : State) : Prop where
  e : EnT t x
  ne : enL t x ≠ []
structure EnNo (t : Show) (x : State) : Prop where
  e : EnT t x
  no : enL t x = []
def wEnP (f : Show → State → List Int) : Wr := w2 dcShow dcState (fun t x => rUs (f t x)) (fun t x => [EnNe t x])
theorem wEnP_ok : WrOK Try.prog 32 (wEnP enL) := w2_ok fun t x h => by
  have h := h _ (.head _)
  rw [← rEn_ne h.ne]
  exact enabled_ok t x h.e.le h.e.v h.e.tl
def wEn0 : Wr := w2 dcShow dcState (fun t x => rE) (fun t x => [EnNo t x])
theorem wEn0_ok : WrOK Try.prog 32 wEn0 := w2_ok fun t x h => by
  have h := h _ (.head _)
  have := enabled_ok t x h.e.le h.e.v h.e.tl
  rw [h.no] at this
  exact this
def wEnS (f : Show → State → List Int) : Wr := w2 dcShow dcState (fun t x => rUs (f t x)) (fun t x => [EnT t x])
theorem wEnS_ok : WrOK Try.prog 27 (wEnS enL) := w2_ok fun t x h => by
  have h := h _ (.head _)
  exact specEnabled_ok t x h.le h.v h.tl
end Go.Proofs.Ytececadpjelanaa.Ai
