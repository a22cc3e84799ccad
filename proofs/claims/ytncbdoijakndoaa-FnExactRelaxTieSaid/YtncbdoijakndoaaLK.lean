/- States that are right. -/
import Derived.Test.YtncbdoijakndoaaTy
import Derived.Test.YtncbdoijakndoaaU
import Derived.Test.YtncbdoijakndoaaLD
import Derived.Test.YtncbdoijakndoaaLE
import Derived.Test.YtncbdoijakndoaaLI
namespace Go.Proofs.Ytncbdoijakndoaa.Ai
open Go
set_option maxRecDepth 100000
set_option linter.unusedVariables false
set_option linter.unusedSimpArgs false
def openB (times : List Int) (w : Int) : Bool := decide (0 ≤ w) && decide (¬ times.getD w.toNat 0 = -1)
def timeP (now : Int) (i : Nat) (n : Int) : Bool := decide ((i = 0 → n = 0) ∧ (0 < i → -1 ≤ n ∧ n ≤ now - 1))
def valP (cs : List Node) (times : List Int) (i : Nat) (v : Int) : Bool := decide (¬ v = 0) == openB times (watI cs ((i : Int) + 1))
def stateB (t : Show) (x : State) : Bool := decide (0 ≤ x.now ∧ x.now ≤ t.hor + 1 ∧ x.times.length = t.nodes.length) && (valuesB x.vals && (allF (timeP x.now) x.times 0 && allF (valP t.nodes x.times) x.vals 0))
structure StateLe (x : State) : Prop where
  now : inI x.now
  tlen : x.times.length ≤ maxLen
  vlen : x.vals.length ≤ maxLen
theorem valuesB_len {l : List Int} (h : valuesB l = true) : l.length = 3 := by
  unfold valuesB at h
  simp only [Bool.and_eq_true, decide_eq_true_eq] at h
  exact h.2
theorem dec_ne (a b : Int) : decide (¬ a = b) = !(a == b) := by by_cases h : a = b <;> simp [h]
def stOkB (t : Show) (x : State) : Bool := showB t && stateB t x
structure ShowT (t : Show) : Prop where out : showB t = true
def wIsState (f : Show → State → Bool) : Wr := w2 dcShow dcState (fun t x => rB (f t x)) (fun t x => [ShowT t, StateLe x])
def wStateOk (f : Show → State → Bool) : Wr := w2 dcShow dcState (fun t x => rB (f t x)) (fun t x => [ShowLe t, StateLe x])
end Go.Proofs.Ytncbdoijakndoaa.Ai
