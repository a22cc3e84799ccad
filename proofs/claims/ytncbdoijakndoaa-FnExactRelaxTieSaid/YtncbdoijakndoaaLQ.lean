/- Moments. -/
import Derived.Test.YtncbdoijakndoaaTy
import Derived.Test.YtncbdoijakndoaaLI
import Derived.Test.YtncbdoijakndoaaLK
import Derived.Test.YtncbdoijakndoaaLM
namespace Go.Proofs.Ytncbdoijakndoaa.Ai
open Go
set_option maxRecDepth 100000
set_option linter.unusedVariables false
set_option linter.unusedSimpArgs false
structure StSz (x : State) : Prop where
  tlen : x.times.length ≤ 1048576
  vlen : x.vals.length ≤ 1048576
def wSpecCopy : Wr := w1 dcState rState (fun x => [StSz x])
def clampI (n : Int) : Int := max (-1000000) (min n 1000000)
def wClamp (f : Int → Int) : Wr := w1 dcI (fun n => rI (f n)) (fun _ => [])
def momB (t : Show) (x : State) : Bool := showB t && (decide (0 ≤ x.now) && (decide (x.now ≤ t.hor) && stateB t ⟨x.now + 1, x.times, x.vals⟩))
theorem clampI_in (n : Int) : -1000000 ≤ clampI n ∧ clampI n ≤ 1000000 := by unfold clampI; omega
def wMomS (f : Show → State → Bool) : Wr := w2 dcShow dcState (fun t x => rB (f t x)) (fun t x => [StLe t x, StSz x])
def wMomI (f : Show → State → Bool) : Wr := w2 dcShow dcState (fun t x => rB (f t x)) (fun t x => [StLe t x])
end Go.Proofs.Ytncbdoijakndoaa.Ai
