/- States behind observations. -/
import Derived.Test.YtececadpjelanaaTy
import Derived.Test.YtececadpjelanaaLR
namespace Go.Proofs.Ytececadpjelanaa.Ai
open Go
set_option maxRecDepth 100000
set_option linter.unusedVariables false
set_option linter.unusedSimpArgs false
def wCloneI : Wr := w1 dcIs rIs (fun l => [LLe l 1048576])
def wCopySt : Wr := w1 dcState rState (fun x => [StSz x])
def obF (v ps vs : List Int) : List Int := obsL v ps vs ps.length
theorem inI_wrap (n : Int) : inI (IntKind.i64.wrap n) := by
  rw [inI_iff]
  simp only [IntKind.wrap, IntKind.bits, IntKind.signed]
  simp
  omega
structure V3 (v : List Int) : Prop where out : v.length = 3
structure SLn (a b : List Int) : Prop where out : a.length = b.length
def nxI (n : Int) : Int := IntKind.i64.wrap (n + 1)
def wObV (g : Int → Int) (f : List Int → List Int → List Int → List Int) : Wr := w3 dcState dcIs dcIs (fun x ps vs => rState ⟨g x.now, x.times, f x.vals ps vs⟩) (fun x ps vs => [StSz x, V3 x.vals, SLn vs ps, LLe ps 1048576, PrT ps])
def prP (vs : List Int) (i : Nat) (p : Int) : Bool := decide (1 ≤ p ∧ p ≤ 3) && (decide (vs.getD i 0 = 1) || decide (vs.getD i 0 = -1))
theorem prP_all {ps vs : List Int} (h : allF (prP vs) ps 0 = true) : ∀ p ∈ ps, 1 ≤ p ∧ p ≤ 3 := fun p hp => by
  obtain ⟨i, hi⟩ := allF_mem h hp
  unfold prP at hi
  rw [Bool.and_eq_true, decide_eq_true_eq] at hi
  exact hi.1
def rAft (s : State) (b : Bool) : TV W := .tup [(true, s.w), (false, [.fz (.bool false b)])]
def aftR (s : State) (b : Bool) : TV W := match b with | true => rAft s true | false => rAft ⟨0, [], []⟩ false
def aftOk (t : Show) (x : State) (ps vs : List Int) : Bool := decide (ps.length = vs.length) && (valuesB x.vals && (allF (prP vs) ps 0 && stOkB t (obsS x ps vs)))
theorem LoopB.stopR {p A B : Bool} (h : LoopB p A B) (s : State) (hp : p = false) : eR (rAft ⟨0, [], []⟩ false) = eR (aftR s A) := by rw [h.no hp]; rfl
theorem LoopB.goR {p A B : Bool} (h : LoopB p A B) (s : State) (hp : p = true) : eR (aftR s B) = eR (aftR s A) := by rw [h.yes hp]
theorem stOkB_now {t : Show} {x : State} (h : 11 < x.now ∨ x.now < 0) : stOkB t x = false := by
  cases hs : stOkB t x with
  | false => rfl
  | true =>
    unfold stOkB at hs
    rw [Bool.and_eq_true] at hs
    have h1 := showB_hor hs.1
    have := (StT.mk hs.1 hs.2).now
    omega
end Go.Proofs.Ytececadpjelanaa.Ai
