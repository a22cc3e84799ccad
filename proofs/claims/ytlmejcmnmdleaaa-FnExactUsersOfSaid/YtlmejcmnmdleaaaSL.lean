/- Laws of sheets. -/
import Derived.Test.YtlmejcmnmdleaaaTy
import Derived.Test.YtlmejcmnmdleaaaU
import Derived.Test.YtlmejcmnmdleaaaSH
import Derived.Test.YtlmejcmnmdleaaaSJ
import Derived.Test.YtlmejcmnmdleaaaMK
import Derived.Test.YtlmejcmnmdleaaaSU
namespace Go.Proofs.Ytlmejcmnmdleaaa.Ai
open Go
set_option maxRecDepth 100000
set_option linter.unusedVariables false
set_option linter.unusedSimpArgs false
theorem lawUsersOf_ok (t : Sheet) (d : Int) (ht : SheetIn t) (hd : inI d) : SCall Try.prog 8 [aSheet t, aI d] (rB true) := by
  refine SCall.of X8_ok (fn := Try.f8) (c := Try.f8.body.getD .skip) (dr := fun n => look 0 [(10, 3)] n) Try.func8 rfl (by kernel_rfl) (by kernel_rfl) (by kernel_rfl) ?_
  obtain ⟨f, hf⟩ : ∃ f, f = usersF := ⟨_, rfl⟩
  obtain ⟨g, hg⟩ : ∃ g, g = szSheetI := ⟨_, rfl⟩
  obtain ⟨f1, hf1⟩ : ∃ f, f = markC := ⟨_, rfl⟩
  obtain ⟨f2, hf2⟩ : ∃ f, f = markI := ⟨_, rfl⟩
  obtain ⟨f3, hf3⟩ : ∃ f, f = fun (k : Int) (n m : Nat) => markI (addC k n) m := ⟨_, rfl⟩
  obtain ⟨g1, hg1⟩ : ∃ f, f = addI := ⟨_, rfl⟩
  obtain ⟨ln, hln⟩ : ∃ f, f = @List.length Int := ⟨_, rfl⟩
  obtain ⟨g2, hg2⟩ : ∃ f, f = fun (k : Int) (n m : Nat) => addI (addC k n) m := ⟨_, rfl⟩
  have hO : SOraOK Try.prog (oraL [(10, wSzSheet g), (12, wToSheet), (23, wUsers f), (24, wUsers f), (14, wEqSheet), (25, wEqIntS), (28, wHeldI g1 f2 ln)]) := by subst hf hg hf2 hg1 hln; exact oraL_cons wSzSheet_ok (oraL_cons wToSheet_ok (oraL_cons wUsersS_ok (oraL_cons wUsersI_ok (oraL_cons wEqSheet_ok (oraL_cons wEqIntS_ok (oraL_cons wHeldI_ok oraL_nil))))))
  have hW : SOraWOK Try.prog (X8.withW [(26, [(0, 0), (0, 1)]), (27, [(0, 0)])] (oraWL [(26, wMarkSheet f1 f3 g2), (27, wMarkI f2 g1)])) := by
    subst hf1 hf2 hf3 hg1 hg2
    exact SX.withW_ok (oraWL_cons wMarkSheet_ok (oraWL_cons wMarkI_ok oraWL_nil))
  have hge := szSheet_20 (t := t)
  rw [← hg] at hge
  have hn := ht.names
  have h1 := ht.len
  have h2 := ht.plen
  obtain ⟨cs, ps, hr⟩ := t
  dsimp only at h1 h2 hge hn
  have hU : 0 ≤ g ⟨cs, ps, hr⟩ 1048576 → (f ⟨cs, ps, hr⟩ d).length ≤ 1048576 := by rw [hf]; exact fun h => usersF_len (t := ⟨cs, ps, hr⟩) (hge h).1
  unfold maxLen at h1 h2
  refine SEx.go (X := (X8.withW [(26, [(0, 0), (0, 1)]), (27, [(0, 0)])] (oraWL [(26, wMarkSheet f1 f3 g2), (27, wMarkI f2 g1)]))) X8_ok (fun n => look [] [] n) (fun _ => none) hO 120 ?_ hW
  intro M R L N hM hAnd hImp hR hL hN
  cases M
  cbv
  repeat' first | (refine hAnd _ _ ?_ ?_) | (refine hImp _ _ (fun h => ?_)) | (refine hR _ ?_) | (refine hL _ _ (Hd.out ?_); try rw [hks]) | (refine hN _ _ ?_; cbv)
  all_goals (clear hAnd hImp hR hL hN; try clear hks)
  all_goals (cases hM; try dsimp only)
  all_goals (try simp only [Bool.not_eq_true', Bool.not_eq_false', decide_eq_true_eq, decide_eq_false_iff_not, Int.not_le, Int.not_lt, beq_iff_eq, beq_eq_false_iff_ne, ne_eq, Int.ofNat_eq_natCast, Int.toNat_natCast, List.length_replicate, ncast, Nat.sub_zero, List.drop_zero, Cue.eta, Tie.eta, Edge.eta, Link.eta, Node.eta] at *)
  all_goals (clear hO hW; subst hf hf1 hf2 hf3 hg1 hg2 hln; clear hg; try simp only [addI, addC, markI_len] at *)
  all_goals first
    | rfl
    | contradiction
    | exact ⟨rfl⟩
    | exact ⟨⟨by omega, by omega⟩⟩
    | exact ⟨by assumption⟩
    | exact ⟨(hge (by assumption)).1⟩
    | exact ⟨(hge (by assumption)).2.1⟩
    | exact ⟨(hge (by assumption)).2.2⟩
    | exact (markC_len _ _).symm
    | exact (markI_len _ _).symm
    | exact ⟨⟨rfl, rfl, rfl, rfl⟩, rfl, rfl, h1, h2, by omega, by have := (hge (by assumption)).1; have := (hge (by assumption)).2.1; omega⟩
    | exact ⟨rfl, rfl, rfl, Nat.le_trans (hU (by assumption)) (by decide), by omega, by have := hU (by assumption); omega⟩
    | (refine ⟨?_⟩; rw [markI_len]; done)
    | exact ⟨Nat.le_trans (hU (by assumption)) (by decide)⟩
    | (refine ⟨?_⟩; rw [markI_len]; exact Nat.le_trans (hU (by assumption)) (by decide))
    | (show IAdd 1 (markI 1 _).length; rw [markI_len]; exact ⟨⟨by omega, by have := hU (by assumption); omega⟩⟩)
    | (exfalso; omega)
    | exact absurd rfl (by assumption)
    | exact absurd trivial (by assumption)
    | trace_state
end Go.Proofs.Ytlmejcmnmdleaaa.Ai
