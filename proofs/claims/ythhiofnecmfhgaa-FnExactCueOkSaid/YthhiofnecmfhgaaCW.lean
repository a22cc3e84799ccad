/- The law FnExactCueOk. -/
import Derived.Test.YthhiofnecmfhgaaCV
namespace Go.Proofs.Ythhiofnecmfhgaa.Ai
open Go
set_option maxRecDepth 100000
set_option linter.unusedVariables false
set_option linter.unusedSimpArgs false
set_option maxHeartbeats 4000000 in
theorem lawCueOk_ok (q : Cue) (i : Int) (hs : q.name.size ≤ maxLen) : SCall Try.prog 3 [aCue q, aI i] (rB true) := by
  refine SCall.of XX_ok (fn := Try.f3) (c := Try.f3.body.getD .skip) (dr := fun n => look 0 [] n) Try.func3 rfl (by kernel_rfl) (by kernel_rfl) (by kernel_rfl) ?_
  obtain ⟨f, hf⟩ : ∃ f, f = cueB := ⟨_, rfl⟩
  obtain ⟨g, hg⟩ : ∃ g, g = szCueI := ⟨_, rfl⟩
  have hO : SOraOK Try.prog (oraL [(4, wSzCue g), (6, wToCue), (5, wCueS f), (7, wCueS f)]) := by subst hf hg; exact oraL_cons wSzCue_ok (oraL_cons wToCue_ok (oraL_cons wCueS_ok (oraL_cons wCueI_ok oraL_nil)))
  obtain ⟨x1, x2, x3, x4, x5, x6, x7, x8, x9, x10, x11⟩ := q
  have hs : x1.size ≤ maxLen := hs
  refine SEx.go (X := XX) XX_ok (fun n => look [] [] n) (fun _ => none) hO 60 ?_
  intro M R L N hM hAnd hImp hR hL hN
  cases M
  cbv
  repeat' first | (refine hAnd _ _ ?_ ?_) | (refine hImp _ _ (fun h => ?_)) | (refine hR _ ?_) | (refine hL _ _ (Hd.out ?_); try rw [hks]) | (refine hN _ _ ?_; cbv)
  all_goals (clear hAnd hImp hR hL hN; try clear hks)
  all_goals (cases hM; try dsimp only)
  all_goals (try simp only [Bool.not_eq_true', Bool.not_eq_false', decide_eq_true_eq, decide_eq_false_iff_not, Int.not_le, Int.not_lt, beq_iff_eq, beq_eq_false_iff_ne, ne_eq, Int.ofNat_eq_natCast, Int.toNat_natCast] at *)
  all_goals first
    | exact ⟨hs⟩
    | (clear hO hs; simp_all; done)
end Go.Proofs.Ythhiofnecmfhgaa.Ai
