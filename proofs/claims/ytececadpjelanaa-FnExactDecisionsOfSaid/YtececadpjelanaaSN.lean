/- Nodes of cues. -/
import Derived.Test.YtececadpjelanaaTy
import Derived.Test.YtececadpjelanaaSU
namespace Go.Proofs.Ytececadpjelanaa.Ai
open Go
set_option maxRecDepth 100000
set_option linter.unusedVariables false
set_option linter.unusedSimpArgs false
/-- A number up to a list's length. -/
structure InR {α : Type} (c : Int) (l : List α) : Prop where out : 0 ≤ c ∧ c ≤ l.length
/-- An index of a list. -/
structure InX {α : Type} (c : Int) (l : List α) : Prop where out : 0 ≤ c ∧ c < l.length
def isNodeB (n x : Int) : Bool := decide (0 ≤ x ∧ x < n)
theorem isNode_ok (n m : Int) : SCall Try.prog 81 [aI n, aI m] (rB (isNodeB n m)) := by
  refine SCall.of X81_ok (fn := Try.f81) (c := Try.f81.body.getD .skip) (dr := fun n => look 0 [] n) Try.func81 rfl (by kernel_rfl) (by kernel_rfl) (by kernel_rfl) ?_
  refine SEx.go (X := X81) X81_ok (fun n => look [] [] n) (fun _ => none) oraL_nil 60 ?_
  intro M R L N hM hAnd hImp hR hL hN
  cases M
  cbv
  repeat' first | (refine hAnd _ _ ?_ ?_) | (refine hImp _ _ (fun h => ?_)) | (refine hR _ ?_) | (refine hL _ _ (Hd.out ?_); try first | rw [hks] | rw [hk2] | rw [hk3]) | (refine hN _ _ ?_; cbv)
  all_goals (clear hAnd hImp hR hL hN; try clear hks; try clear hk2; try clear hk3)
  all_goals (cases hM; try dsimp only)
  all_goals (try simp only [Bool.not_eq_true', Bool.not_eq_false', decide_eq_true_eq, decide_eq_false_iff_not, Int.not_le, Int.not_lt, beq_iff_eq, beq_eq_false_iff_ne, ne_eq, Int.ofNat_eq_natCast, Int.toNat_natCast, List.length_replicate, ncast, Nat.sub_zero, List.drop_zero, Cue.eta, Tie.eta, Edge.eta, Link.eta, Node.eta] at *)
  all_goals simp only [er_B, isNodeB]
  all_goals (first | (rw [decide_eq_false (by omega)]; done) | (symm; apply decide_eq_decide.2; omega) | (rw [Bool.eq_iff_iff]; simp; omega))
def wIsNode (f : Int → Int → Bool) : Wr := w2 dcI dcI (fun x y => rB (f x y)) (fun _ _ => [])
theorem wIsNode_ok : WrOK Try.prog 81 (wIsNode isNodeB) := w2_ok fun x y _ => isNode_ok x y
end Go.Proofs.Ytececadpjelanaa.Ai
