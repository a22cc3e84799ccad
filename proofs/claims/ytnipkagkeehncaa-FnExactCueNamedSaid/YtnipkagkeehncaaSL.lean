/- Laws of sheets. -/
import Derived.Test.YtnipkagkeehncaaTy
import Derived.Test.YtnipkagkeehncaaCU
import Derived.Test.YtnipkagkeehncaaSJ
import Derived.Test.YtnipkagkeehncaaSK
namespace Go.Proofs.Ytnipkagkeehncaa.Ai
open Go
set_option maxRecDepth 100000
set_option linter.unusedVariables false
set_option linter.unusedSimpArgs false
theorem lawCueNamed_ok (t : Sheet) (s : ByteArray) (ht : SheetIn t) (hs : s.size ≤ maxLen) : SCall Try.prog 3 [aSheet t, aS s] (rB true) := by
  refine SCall.of X3_ok (fn := Try.f3) (c := Try.f3.body.getD .skip) (dr := fun n => look 0 [(12, 3)] n) Try.func3 rfl (by kernel_rfl) (by kernel_rfl) (by kernel_rfl) ?_
  obtain ⟨f, hf⟩ : ∃ f, f = cueIdx := ⟨_, rfl⟩
  obtain ⟨g, hg⟩ : ∃ g, g = szSheetI := ⟨_, rfl⟩
  have hO : SOraOK Try.prog (oraL [(4, wSzSheet g), (6, wToSheet), (5, wCueNamed f), (7, wCueNamed f), (8, wEqSheet)]) := by subst hf hg; exact oraL_cons wSzSheet_ok (oraL_cons wToSheet_ok (oraL_cons wCueNamedS_ok (oraL_cons wCueNamedI_ok (oraL_cons wEqSheet_ok oraL_nil))))
  have hge := szSheet_20 (t := t)
  rw [← hg] at hge
  have hn := ht.names
  have h1 := ht.len
  have h2 := ht.plen
  clear hf hg ht
  obtain ⟨cs, ps, hr⟩ := t
  dsimp only at h1 h2 hge hn
  refine SEx.go (X := X3) X3_ok (fun n => look [] [] n) (fun _ => none) hO 60 ?_
  intro M R L N hM hAnd hImp hR hL hN
  cases M
  cbv
  repeat' first | (refine hAnd _ _ ?_ ?_) | (refine hImp _ _ (fun h => ?_)) | (refine hR _ ?_) | (refine hL _ _ (Hd.out ?_); try rw [hks]) | (refine hN _ _ ?_; cbv)
  all_goals (clear hAnd hImp hR hL hN; try clear hks)
  all_goals (cases hM; try dsimp only)
  all_goals (try simp only [Bool.not_eq_true', Bool.not_eq_false', decide_eq_true_eq, decide_eq_false_iff_not, Int.not_le, Int.not_lt, beq_iff_eq, beq_eq_false_iff_ne, ne_eq, Int.ofNat_eq_natCast, Int.toNat_natCast, List.length_replicate] at *)
  all_goals (clear hO)
  all_goals first
    | rfl
    | exact ⟨rfl⟩
    | exact ⟨⟨by omega, by omega⟩⟩
    | exact ⟨by assumption⟩
    | exact ⟨(hge (by assumption)).1⟩
    | exact ⟨(hge (by assumption)).2.1⟩
    | exact ⟨(hge (by assumption)).2.2⟩
    | exact absurd rfl (by assumption)
    | exact absurd trivial (by assumption)
    | (exfalso; simp_all; done)
    | (exfalso; omega)
    | fail
end Go.Proofs.Ytnipkagkeehncaa.Ai
