/- Laws of sheets. -/
import Derived.Test.YtlmejcmnmdleaaaTy
import Derived.Test.YtlmejcmnmdleaaaU
import Derived.Test.YtlmejcmnmdleaaaSJ
import Derived.Test.YtlmejcmnmdleaaaSM
import Derived.Test.YtlmejcmnmdleaaaSN
namespace Go.Proofs.Ytlmejcmnmdleaaa.Ai
open Go
set_option maxRecDepth 100000
set_option linter.unusedVariables false
set_option linter.unusedSimpArgs false
theorem lawSheetOk_ok (t : Sheet) (ht : SheetIn t) : SCall Try.prog 3 [aSheet t] (rB true) := by
  refine SCall.of X3_ok (fn := Try.f3) (c := Try.f3.body.getD .skip) (dr := fun n => look 0 [(10, 3)] n) Try.func3 rfl (by kernel_rfl) (by kernel_rfl) (by kernel_rfl) ?_
  obtain ⟨f, hf⟩ : ∃ f, f = sheetB := ⟨_, rfl⟩
  obtain ⟨g, hg⟩ : ∃ g, g = szSheetI := ⟨_, rfl⟩
  have hO : SOraOK Try.prog (oraL [(10, wSzSheet g), (12, wToSheet), (11, wSheetOk f), (13, wSheetOk f), (14, wEqSheet)]) := by subst hf hg; exact oraL_cons wSzSheet_ok (oraL_cons wToSheet_ok (oraL_cons wSheetOkS_ok (oraL_cons wSheetOkI_ok (oraL_cons wEqSheet_ok oraL_nil))))
  have hge := szSheet_20 (t := t)
  rw [← hg] at hge
  have hn := ht.names
  have h1 := ht.len
  have h2 := ht.plen
  clear hf hg ht
  obtain ⟨cs, ps, hr⟩ := t
  dsimp only at h1 h2 hge hn
  refine SEx.go (X := X3) X3_ok (fun n => look [] [] n) (fun _ => none) hO 60 ?_
  intro M R L N hM hAnd hImp hR hL hN
  cases M
  cbv
  repeat' first | (refine hAnd _ _ ?_ ?_) | (refine hImp _ _ (fun h => ?_)) | (refine hR _ ?_) | (refine hL _ _ (Hd.out ?_); try rw [hks]) | (refine hN _ _ ?_; cbv)
  all_goals (clear hAnd hImp hR hL hN; try clear hks)
  all_goals (cases hM; try dsimp only)
  all_goals (try simp only [Bool.not_eq_true', Bool.not_eq_false', decide_eq_true_eq, decide_eq_false_iff_not, Int.not_le, Int.not_lt, beq_iff_eq, beq_eq_false_iff_ne, ne_eq, Int.ofNat_eq_natCast, Int.toNat_natCast, List.length_replicate, ncast, Nat.sub_zero, List.drop_zero, Cue.eta, Tie.eta, Edge.eta, Link.eta, Node.eta] at *)
  all_goals (clear hO)
  all_goals first
    | rfl
    | exact ⟨rfl⟩
    | exact ⟨⟨by omega, by omega⟩⟩
    | exact ⟨by assumption⟩
    | exact ⟨(hge (by assumption)).1⟩
    | exact ⟨(hge (by assumption)).2.1⟩
    | exact ⟨(hge (by assumption)).2.2⟩
    | exact absurd rfl (by assumption)
    | exact absurd trivial (by assumption)
    | (exfalso; simp_all; done)
    | (exfalso; omega)
    | fail
theorem lawBeginNode_ok (t : Sheet) (c : Int) (ht : SheetIn t) (hc : inI c) : SCall Try.prog 5 [aSheet t, aI c] (rB true) := by
  refine SCall.of X5_ok (fn := Try.f5) (c := Try.f5.body.getD .skip) (dr := fun n => look 0 [(10, 3)] n) Try.func5 rfl (by kernel_rfl) (by kernel_rfl) (by kernel_rfl) ?_
  obtain ⟨f, hf⟩ : ∃ f, f = beginN := ⟨_, rfl⟩
  obtain ⟨g, hg⟩ : ∃ g, g = szSheetI := ⟨_, rfl⟩
  have hO : SOraOK Try.prog (oraL [(10, wSzSheet g), (12, wToSheet), (17, wSheetI f), (18, wSheetI f), (14, wEqSheet)]) := by subst hf hg; exact oraL_cons wSzSheet_ok (oraL_cons wToSheet_ok (oraL_cons wBeginS_ok (oraL_cons wBeginI_ok (oraL_cons wEqSheet_ok oraL_nil))))
  have hge := szSheet_20 (t := t)
  rw [← hg] at hge
  have hn := ht.names
  have h1 := ht.len
  have h2 := ht.plen
  clear hf hg ht
  obtain ⟨cs, ps, hr⟩ := t
  dsimp only at h1 h2 hge hn
  refine SEx.go (X := X5) X5_ok (fun n => look [] [] n) (fun _ => none) hO 60 ?_
  intro M R L N hM hAnd hImp hR hL hN
  cases M
  cbv
  repeat' first | (refine hAnd _ _ ?_ ?_) | (refine hImp _ _ (fun h => ?_)) | (refine hR _ ?_) | (refine hL _ _ (Hd.out ?_); try rw [hks]) | (refine hN _ _ ?_; cbv)
  all_goals (clear hAnd hImp hR hL hN; try clear hks)
  all_goals (cases hM; try dsimp only)
  all_goals (try simp only [Bool.not_eq_true', Bool.not_eq_false', decide_eq_true_eq, decide_eq_false_iff_not, Int.not_le, Int.not_lt, beq_iff_eq, beq_eq_false_iff_ne, ne_eq, Int.ofNat_eq_natCast, Int.toNat_natCast, List.length_replicate, ncast, Nat.sub_zero, List.drop_zero, Cue.eta, Tie.eta, Edge.eta, Link.eta, Node.eta] at *)
  all_goals (clear hO)
  all_goals first
    | rfl
    | exact ⟨rfl⟩
    | exact ⟨⟨by omega, by omega⟩⟩
    | exact ⟨by assumption⟩
    | exact ⟨(hge (by assumption)).1⟩
    | exact ⟨(hge (by assumption)).2.1⟩
    | exact ⟨(hge (by assumption)).2.2⟩
    | exact absurd rfl (by assumption)
    | exact absurd trivial (by assumption)
    | (exfalso; simp_all; done)
    | (exfalso; omega)
    | fail
theorem lawEndNode_ok (t : Sheet) (c : Int) (ht : SheetIn t) (hc : inI c) : SCall Try.prog 6 [aSheet t, aI c] (rB true) := by
  refine SCall.of X6_ok (fn := Try.f6) (c := Try.f6.body.getD .skip) (dr := fun n => look 0 [(10, 3)] n) Try.func6 rfl (by kernel_rfl) (by kernel_rfl) (by kernel_rfl) ?_
  obtain ⟨f, hf⟩ : ∃ f, f = endN := ⟨_, rfl⟩
  obtain ⟨g, hg⟩ : ∃ g, g = szSheetI := ⟨_, rfl⟩
  have hO : SOraOK Try.prog (oraL [(10, wSzSheet g), (12, wToSheet), (19, wSheetI f), (20, wSheetI f), (14, wEqSheet)]) := by subst hf hg; exact oraL_cons wSzSheet_ok (oraL_cons wToSheet_ok (oraL_cons wEndS_ok (oraL_cons wEndI_ok (oraL_cons wEqSheet_ok oraL_nil))))
  have hge := szSheet_20 (t := t)
  rw [← hg] at hge
  have hn := ht.names
  have h1 := ht.len
  have h2 := ht.plen
  clear hf hg ht
  obtain ⟨cs, ps, hr⟩ := t
  dsimp only at h1 h2 hge hn
  refine SEx.go (X := X6) X6_ok (fun n => look [] [] n) (fun _ => none) hO 60 ?_
  intro M R L N hM hAnd hImp hR hL hN
  cases M
  cbv
  repeat' first | (refine hAnd _ _ ?_ ?_) | (refine hImp _ _ (fun h => ?_)) | (refine hR _ ?_) | (refine hL _ _ (Hd.out ?_); try rw [hks]) | (refine hN _ _ ?_; cbv)
  all_goals (clear hAnd hImp hR hL hN; try clear hks)
  all_goals (cases hM; try dsimp only)
  all_goals (try simp only [Bool.not_eq_true', Bool.not_eq_false', decide_eq_true_eq, decide_eq_false_iff_not, Int.not_le, Int.not_lt, beq_iff_eq, beq_eq_false_iff_ne, ne_eq, Int.ofNat_eq_natCast, Int.toNat_natCast, List.length_replicate, ncast, Nat.sub_zero, List.drop_zero, Cue.eta, Tie.eta, Edge.eta, Link.eta, Node.eta] at *)
  all_goals (clear hO)
  all_goals first
    | rfl
    | exact ⟨rfl⟩
    | exact ⟨⟨by omega, by omega⟩⟩
    | exact ⟨by assumption⟩
    | exact ⟨(hge (by assumption)).1⟩
    | exact ⟨(hge (by assumption)).2.1⟩
    | exact ⟨(hge (by assumption)).2.2⟩
    | exact absurd rfl (by assumption)
    | exact absurd trivial (by assumption)
    | (exfalso; simp_all; done)
    | (exfalso; omega)
    | fail
theorem lawCueOfNode_ok (t : Sheet) (c : Int) (ht : SheetIn t) (hc : inI c) : SCall Try.prog 7 [aSheet t, aI c] (rB true) := by
  refine SCall.of X7_ok (fn := Try.f7) (c := Try.f7.body.getD .skip) (dr := fun n => look 0 [(10, 3)] n) Try.func7 rfl (by kernel_rfl) (by kernel_rfl) (by kernel_rfl) ?_
  obtain ⟨f, hf⟩ : ∃ f, f = cueOf := ⟨_, rfl⟩
  obtain ⟨g, hg⟩ : ∃ g, g = szSheetI := ⟨_, rfl⟩
  have hO : SOraOK Try.prog (oraL [(10, wSzSheet g), (12, wToSheet), (21, wSheetI f), (22, wSheetI f), (14, wEqSheet)]) := by subst hf hg; exact oraL_cons wSzSheet_ok (oraL_cons wToSheet_ok (oraL_cons wCueOfS_ok (oraL_cons wCueOfI_ok (oraL_cons wEqSheet_ok oraL_nil))))
  have hge := szSheet_20 (t := t)
  rw [← hg] at hge
  have hn := ht.names
  have h1 := ht.len
  have h2 := ht.plen
  clear hf hg ht
  obtain ⟨cs, ps, hr⟩ := t
  dsimp only at h1 h2 hge hn
  refine SEx.go (X := X7) X7_ok (fun n => look [] [] n) (fun _ => none) hO 60 ?_
  intro M R L N hM hAnd hImp hR hL hN
  cases M
  cbv
  repeat' first | (refine hAnd _ _ ?_ ?_) | (refine hImp _ _ (fun h => ?_)) | (refine hR _ ?_) | (refine hL _ _ (Hd.out ?_); try rw [hks]) | (refine hN _ _ ?_; cbv)
  all_goals (clear hAnd hImp hR hL hN; try clear hks)
  all_goals (cases hM; try dsimp only)
  all_goals (try simp only [Bool.not_eq_true', Bool.not_eq_false', decide_eq_true_eq, decide_eq_false_iff_not, Int.not_le, Int.not_lt, beq_iff_eq, beq_eq_false_iff_ne, ne_eq, Int.ofNat_eq_natCast, Int.toNat_natCast, List.length_replicate, ncast, Nat.sub_zero, List.drop_zero, Cue.eta, Tie.eta, Edge.eta, Link.eta, Node.eta] at *)
  all_goals (clear hO)
  all_goals first
    | rfl
    | exact ⟨rfl⟩
    | exact ⟨⟨by omega, by omega⟩⟩
    | exact ⟨by assumption⟩
    | exact ⟨(hge (by assumption)).1⟩
    | exact ⟨(hge (by assumption)).2.1⟩
    | exact ⟨(hge (by assumption)).2.2⟩
    | exact absurd rfl (by assumption)
    | exact absurd trivial (by assumption)
    | (exfalso; simp_all; done)
    | (exfalso; omega)
    | fail
end Go.Proofs.Ytlmejcmnmdleaaa.Ai
