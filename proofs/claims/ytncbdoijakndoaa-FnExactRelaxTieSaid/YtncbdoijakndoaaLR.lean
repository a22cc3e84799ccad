/- Observed values. -/
import Derived.Test.YtncbdoijakndoaaTy
import Derived.Test.YtncbdoijakndoaaU
namespace Go.Proofs.Ytncbdoijakndoaa.Ai
open Go
set_option maxRecDepth 100000
set_option linter.unusedVariables false
set_option linter.unusedSimpArgs false
def obsL (v ps vs : List Int) : Nat → List Int
  | 0 => v
  | i + 1 => (obsL v ps vs i).set (ps.getD i 0 - 1).toNat (vs.getD i 0)
theorem obsL_len (v ps vs : List Int) : ∀ i, (obsL v ps vs i).length = v.length
  | 0 => rfl
  | i + 1 => by simp only [obsL, List.length_set, obsL_len v ps vs i]
theorem obsL_in {v ps vs : List Int} (hv : ∀ x ∈ v, inI x) (hs : ∀ x ∈ vs, inI x) : ∀ i, i ≤ vs.length → ∀ x ∈ obsL v ps vs i, inI x
  | 0, _, x, h => hv x h
  | i + 1, hi, x, h => by
    simp only [obsL] at h
    rcases List.mem_or_eq_of_mem_set h with h | rfl
    · exact obsL_in hv hs i (by omega) x h
    · exact hs _ (mem_getD (z := (0 : Int)) (by omega)).out
structure PrT (ps : List Int) : Prop where out : ∀ p ∈ ps, 1 ≤ p ∧ p ≤ 3
def obsS (x : State) (ps vs : List Int) : State := ⟨IntKind.i64.wrap (x.now + 1), x.times, obsL x.vals ps vs ps.length⟩
theorem cloneI_ok (l : List Int) (h1 : l.length ≤ 1048576) : SCall Try.prog 88 [aIs l] (rIs l) := by
  refine SCall.of X88_ok (fn := Try.f88) (c := Try.f88.body.getD .skip) (dr := fun n => look 0 [] n) Try.func88 rfl (by kernel_rfl) (by kernel_rfl) (by kernel_rfl) ?_
  refine SEx.go (X := X88) X88_ok (fun n => look [] [] n) (fun _ => none) oraL_nil 60 ?_
  intro M R L N hM hAnd hImp hR hL hN
  cases M
  cbv
  repeat' first | (refine hAnd _ _ ?_ ?_) | (refine hImp _ _ (fun h => ?_)) | (refine hR _ ?_) | (refine hL _ _ (Hd.out ?_); try first | rw [hks] | rw [hk2] | rw [hk3]) | (refine hN _ _ ?_; cbv)
  all_goals (clear hAnd hImp hR hL hN; try clear hks; try clear hk2; try clear hk3)
  all_goals (cases hM; try dsimp only)
  all_goals (try simp only [Bool.not_eq_true', Bool.not_eq_false', decide_eq_true_eq, decide_eq_false_iff_not, Int.not_le, Int.not_lt, beq_iff_eq, beq_eq_false_iff_ne, ne_eq, Int.ofNat_eq_natCast, Int.toNat_natCast, List.length_replicate, ncast, Nat.sub_zero, List.drop_zero, Cue.eta, Tie.eta, Edge.eta, Link.eta, Node.eta] at *)
  all_goals first
    | (have := lim_ge; omega)
    | (have hl : l = [] := List.eq_nil_of_length_eq_zero (by omega)
       subst hl; rfl)
    | rfl
end Go.Proofs.Ytncbdoijakndoaa.Ai
