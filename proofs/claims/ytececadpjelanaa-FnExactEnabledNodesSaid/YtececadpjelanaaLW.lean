/- Relaxed and hurried ties. -/
import Derived.Test.YtececadpjelanaaTy
import Derived.Test.YtececadpjelanaaLV
namespace Go.Proofs.Ytececadpjelanaa.Ai
open Go
set_option maxRecDepth 100000
set_option linter.unusedVariables false
set_option linter.unusedSimpArgs false
def sgB (fr : Bool) (y : Int) : Int := match fr with | true => -y | false => y
def tieOk (fr : Bool) (t : Show) (k y : Int) : Bool := decide (0 ≤ y ∧ y ≤ 20) && wideOk t k (sgB fr y) fr
def tieX (fr : Bool) (t : Show) (k y : Int) : Show := match tieOk fr t k y with | true => wideS t k (sgB fr y) | false => ⟨[], [], 0⟩
theorem tieR_eq (fr : Bool) (t : Show) (k y : Int) : wideR (wideS t k (sgB fr y)) (tieOk fr t k y) = rWid (tieX fr t k y) (tieOk fr t k y) := by
  unfold tieX wideR
  cases tieOk fr t k y <;> rfl
theorem tieX_in {fr : Bool} {t : Show} {k y : Int} (h : 0 ≤ y ∧ y ≤ 20) : tieX fr t k y = wideX t k (sgB fr y) fr ∧ tieOk fr t k y = wideOk t k (sgB fr y) fr := by
  have h1 : tieOk fr t k y = wideOk t k (sgB fr y) fr := by unfold tieOk; rw [decide_eq_true h]; rfl
  refine ⟨?_, h1⟩
  unfold tieX wideX
  rw [h1]
  cases wideOk t k (sgB fr y) fr <;> rfl
theorem tieX_out {fr : Bool} {t : Show} {k y : Int} (h : ¬ (0 ≤ y ∧ y ≤ 20)) : tieX fr t k y = ⟨[], [], 0⟩ ∧ tieOk fr t k y = false := by
  have h1 : tieOk fr t k y = false := by unfold tieOk; rw [decide_eq_false h]; rfl
  refine ⟨?_, h1⟩
  unfold tieX
  rw [h1]
structure TieH (t : Show) (k y : Int) : Prop where
  le : ShowLe t
  mem : ShowMem t
  k : inI k
  y : inI y
structure WideH (t : Show) (k : Int) : Prop where
  le : ShowLe t
  mem : ShowMem t
  k : inI k
def wWide (fs : Show → Int → Int → Bool → Show) (f : Show → Int → Int → Bool → Bool) : Wr := w4 dcShow dcI dcI dcB (fun t k b fr => rWid (fs t k b fr) (f t k b fr)) (fun t k _ _ => [WideH t k])
def wTieX (fs : Show → Int → Int → Show) (f : Show → Int → Int → Bool) : Wr := w3 dcShow dcI dcI (fun t k y => rWid (fs t k y) (f t k y)) (fun t k y => [TieH t k y])
end Go.Proofs.Ytececadpjelanaa.Ai
