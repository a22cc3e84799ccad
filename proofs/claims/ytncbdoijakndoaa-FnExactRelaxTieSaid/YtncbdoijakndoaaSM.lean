/- SheetOk. -/
import Derived.Test.YtncbdoijakndoaaTy
import Derived.Test.YtncbdoijakndoaaU
import Derived.Test.YtncbdoijakndoaaSF
import Derived.Test.YtncbdoijakndoaaCU
import Derived.Test.YtncbdoijakndoaaCV
import Derived.Test.YtncbdoijakndoaaSI
import Derived.Test.YtncbdoijakndoaaSK
namespace Go.Proofs.Ytncbdoijakndoaa.Ai
open Go
set_option maxRecDepth 100000
set_option linter.unusedVariables false
set_option linter.unusedSimpArgs false
def prepB (l : List Int) : Bool := l.all (fun n => upTo n 20)
def cueAt (cs : List Cue) (i : Nat) (q : Cue) : Bool := cueB q i && decide (cueIdx cs q.name = i)
def sheetB (t : Sheet) : Bool := allF (cueAt t.cues) t.cues 0 && decide (t.cues.length ≤ 6 ∧ t.prep.length = 3 ∧ 1 ≤ t.hor ∧ t.hor ≤ 10) && prepB t.prep
theorem inB_upTo (n m : Int) : inB n 0 m = upTo n m := rfl
theorem specSheetOk_ok (t : Sheet) (h1 : t.cues.length ≤ maxLen) (h2 : t.prep.length ≤ maxLen) (h3 : ∀ q ∈ t.cues, q.name.size ≤ maxLen) : SCall Try.prog 37 [aSheet t] (rB (sheetB t)) := by
  refine SCall.of X37_ok (fn := Try.f37) (c := Try.f37.body.getD .skip) (dr := fun n => look 0 [] n) Try.func37 rfl (by kernel_rfl) (by kernel_rfl) (by kernel_rfl) ?_
  obtain ⟨f, hf⟩ : ∃ f, f = inB := ⟨_, rfl⟩
  obtain ⟨g, hg⟩ : ∃ g, g = cueB := ⟨_, rfl⟩
  obtain ⟨k, hk⟩ : ∃ k, k = cueIdx := ⟨_, rfl⟩
  have hO : SOraOK Try.prog (oraL [(24, wInB f), (63, wCueS g), (64, wCueNamed k)]) := by subst hf hg hk; exact oraL_cons wInB_ok (oraL_cons wCueS_ok (oraL_cons wCueNamedS_ok oraL_nil))
  obtain ⟨cs, ps, hr⟩ := t
  dsimp only at h1 h2 h3
  unfold maxLen at h1 h2
  refine SEx.go (X := X37) X37_ok (fun n => look [] [(4, [1, 24, 25, 26]), (10, [1, 35, 36, 37])] n) (fun _ => none) hO 60 ?_
  intro M R L N hM hAnd hImp hR hL hN
  cases M
  cbv
  repeat' first | (refine hAnd _ _ ?_ ?_) | (refine hImp _ _ (fun h => ?_)) | (refine hR _ ?_) | (refine hL _ _ (Hd.out ?_); generalize hks : (List.cons _ _ : List K) = ks) | (refine hN _ _ ?_; cbv)
  all_goals (clear hAnd hImp hR hL hN)
  all_goals (cases hM; try dsimp only)
  all_goals (try simp only [Bool.not_eq_true', Bool.not_eq_false', decide_eq_true_eq, decide_eq_false_iff_not, Int.not_le, Int.not_lt, beq_iff_eq, beq_eq_false_iff_ne, ne_eq, Int.ofNat_eq_natCast, Int.toNat_natCast, List.length_replicate, ncast, Nat.sub_zero, List.drop_zero, Cue.eta, Tie.eta, Edge.eta, Link.eta, Node.eta] at *)
  · simp only [er_B, sheetB]
    rw [show decide (cs.length ≤ 6 ∧ ps.length = 3 ∧ 1 ≤ hr ∧ hr ≤ 10) = false from decide_eq_false (by omega), Bool.and_false, Bool.false_and]
  · simp only [er_B, sheetB]
    rw [show decide (cs.length ≤ 6 ∧ ps.length = 3 ∧ 1 ≤ hr ∧ hr ≤ 10) = false from decide_eq_false (by omega), Bool.and_false, Bool.false_and]
  · simp only [er_B, sheetB]
    have h : f hr 1 10 = false := by assumption
    rw [hf] at h
    rw [show decide (cs.length ≤ 6 ∧ ps.length = 3 ∧ 1 ≤ hr ∧ hr ≤ 10) = false from decide_eq_false (by have := of_decide_eq_false h; omega), Bool.and_false, Bool.false_and]
  have h : f hr 1 10 = true := by assumption
  rw [show sheetB ⟨cs, ps, hr⟩ = (allF (fun _ n => f n 0 20) (ps.drop 0) 0 && (allF (fun i q => g q i && decide (k cs q.name = i)) (cs.drop 0) 0 && true)) by
    rw [hf] at h
    have := of_decide_eq_true h
    unfold sheetB prepB
    dsimp only
    rw [decide_eq_true (by omega), hf, hg, hk, List.drop_zero, allF_all, Bool.and_true, Bool.and_true, Bool.and_comm]
    rfl]
  clear hf hg hk
  obtain ⟨n, hn⟩ : ∃ n, n = ps.length := ⟨_, rfl⟩
  refine ⟨SEx.same (SEx.idx n (fun i => ⟨55, [(1, bP 4096), (24, bL (.i ps)), (25, bI n), (26, bI i)], [(4096, .obx [.fz (.sl (.cue cs)), .fz (.sl (.i ps)), .fz (.int .i64 hr)])]⟩) (fun i => rB (allF (fun _ n => f n 0 20) (ps.drop i) i && (allF (fun i q => g q i && decide (k cs q.name = i)) (cs.drop 0) 0 && true))) ?_) (by rw [hn]; rfl) rfl⟩
  intro i hi ih
  rw [← hks]
  refine SEx.go (X := X37) X37_ok (fun n => look [] [(4, [1, 24, 25, 26]), (10, [1, 35, 36, 37])] n) (fun _ => none) hO 60 ?_
  intro M R L N hM hAnd hImp hR hL hN
  cases M
  cbv
  repeat' first | (refine hAnd _ _ ?_ ?_) | (refine hImp _ _ (fun h => ?_)) | (refine hR _ ?_) | (refine hL _ _ (Hd.out ?_); try first | rw [hks] | rw [hk2] | rw [hk3]) | (refine hN _ _ ?_; cbv)
  all_goals (clear hAnd hImp hR hL hN; try clear hks; try clear hk2; try clear hk3)
  all_goals (cases hM; try dsimp only)
  all_goals (try simp only [Bool.not_eq_true', Bool.not_eq_false', decide_eq_true_eq, decide_eq_false_iff_not, Int.not_le, Int.not_lt, beq_iff_eq, beq_eq_false_iff_ne, ne_eq, Int.ofNat_eq_natCast, Int.toNat_natCast, List.length_replicate, ncast, Nat.sub_zero, List.drop_zero, Cue.eta, Tie.eta, Edge.eta, Link.eta, Node.eta] at *)
  all_goals first
    | omega
    | exact mem_getD (z := (0 : Int)) (by omega)
    | exact ⟨rfl⟩
    | exact ⟨by omega⟩
    | (rw [allF_no_and (p := fun _ n => f n 0 20) (l := ps) (i := i) (0 : Int) (by omega) (by first | assumption | (simp_all; done))]; rfl)
    | (simp only [wrap_succ (show i < 9223372036854775807 by omega)]; exact ⟨(ih (by omega)).same rfl (by rw [allF_yes_and (p := fun _ n => f n 0 20) (l := ps) (i := i) (0 : Int) (by omega) (by first | assumption | (simp_all; done))])⟩)
    | skip
  rw [allF_end_and (l := ps) (by omega)]
  clear ih ks
  refine ⟨?_⟩
  generalize hks : (List.cons _ _ : List K) = ks
  obtain ⟨m, hm⟩ : ∃ m, m = cs.length := ⟨_, rfl⟩
  refine SEx.same (SEx.idx m (fun i => ⟨55, [(1, bP 4096), (35, bL (.cue cs)), (36, bI m), (37, bI i)], [(4096, .obx [.fz (.sl (.cue cs)), .fz (.sl (.i ps)), .fz (.int .i64 hr)])]⟩) (fun i => rB (allF (fun i q => g q i && decide (k cs q.name = i)) (cs.drop i) i && true)) ?_) (by rw [hm]; rfl) rfl
  intro i hi ih
  rw [← hks]
  refine SEx.go (X := X37) X37_ok (fun n => look [] [(4, [1, 24, 25, 26]), (10, [1, 35, 36, 37])] n) (fun _ => none) hO 60 ?_
  intro M R L N hM hAnd hImp hR hL hN
  cases M
  cbv
  repeat' first | (refine hAnd _ _ ?_ ?_) | (refine hImp _ _ (fun h => ?_)) | (refine hR _ ?_) | (refine hL _ _ (Hd.out ?_); try first | rw [hks] | rw [hk2] | rw [hk3]) | (refine hN _ _ ?_; cbv)
  all_goals (clear hAnd hImp hR hL hN; try clear hks; try clear hk2; try clear hk3)
  all_goals (cases hM; try dsimp only)
  all_goals (try simp only [Bool.not_eq_true', Bool.not_eq_false', decide_eq_true_eq, decide_eq_false_iff_not, Int.not_le, Int.not_lt, beq_iff_eq, beq_eq_false_iff_ne, ne_eq, Int.ofNat_eq_natCast, Int.toNat_natCast, List.length_replicate, ncast, Nat.sub_zero, List.drop_zero, Cue.eta, Tie.eta, Edge.eta, Link.eta, Node.eta] at *)
  all_goals first
    | omega
    | exact mem_getD (z := Cue.z) (by omega)
    | exact ⟨rfl⟩
    | exact ⟨by omega⟩
    | (rw [allF_no_and (p := fun i q => g q i && decide (k cs q.name = i)) (l := cs) (i := i) Cue.z (by omega) (by first | assumption | (simp_all; done))]; rfl)
    | (simp only [wrap_succ (show i < 9223372036854775807 by omega)]; exact ⟨(ih (by omega)).same rfl (by rw [allF_yes_and (p := fun i q => g q i && decide (k cs q.name = i)) (l := cs) (i := i) Cue.z (by omega) (by first | assumption | (simp_all; done))])⟩)
    | skip
  · exact ⟨h3 _ (mem_getD (z := Cue.z) (by omega)).out⟩
  · rw [allF_end_and (l := cs) (by omega)]
    rfl
theorem impSheetOk1_ok (n : Int) : SCall Try.prog 72 [aI n] (rB (!upTo n 20)) := by
  refine SCall.of X72_ok (fn := Try.f72) (c := Try.f72.body.getD .skip) (dr := fun n => look 0 [] n) Try.func72 rfl (by kernel_rfl) (by kernel_rfl) (by kernel_rfl) ?_
  obtain ⟨f, hf⟩ : ∃ f, f = upTo := ⟨_, rfl⟩
  have hO : SOraOK Try.prog (oraL [(73, wUpTo f)]) := by subst hf; exact oraL_cons wUpTo_ok oraL_nil
  rw [← hf]
  refine SEx.go (X := X72) X72_ok (fun n => look [] [] n) (fun _ => none) hO 60 ?_
  intro M R L N hM hAnd hImp hR hL hN
  cases M
  cbv
  repeat' first | (refine hAnd _ _ ?_ ?_) | (refine hImp _ _ (fun h => ?_)) | (refine hR _ ?_) | (refine hL _ _ (Hd.out ?_); try first | rw [hks] | rw [hk2] | rw [hk3]) | (refine hN _ _ ?_; cbv)
  all_goals (clear hAnd hImp hR hL hN; try clear hks; try clear hk2; try clear hk3)
  all_goals (cases hM; try dsimp only)
  all_goals (try simp only [Bool.not_eq_true', Bool.not_eq_false', decide_eq_true_eq, decide_eq_false_iff_not, Int.not_le, Int.not_lt, beq_iff_eq, beq_eq_false_iff_ne, ne_eq, Int.ofNat_eq_natCast, Int.toNat_natCast, List.length_replicate, ncast, Nat.sub_zero, List.drop_zero, Cue.eta, Tie.eta, Edge.eta, Link.eta, Node.eta] at *)
  rfl
theorem implSheetOk_ok (t : Sheet) (h1 : t.cues.length ≤ maxLen) (h2 : t.prep.length ≤ maxLen) (h3 : ∀ q ∈ t.cues, q.name.size ≤ maxLen) : SCall Try.prog 41 [aSheet t] (rB (sheetB t)) := by
  refine SCall.of X41_ok (fn := Try.f41) (c := Try.f41.body.getD .skip) (dr := fun n => look 0 [] n) Try.func41 rfl (by kernel_rfl) (by kernel_rfl) (by kernel_rfl) ?_
  obtain ⟨f, hf⟩ : ∃ f : List Int → Bool, f = fun l => l.any (fun n => !upTo n 20) := ⟨_, rfl⟩
  obtain ⟨g, hg⟩ : ∃ g, g = cueB := ⟨_, rfl⟩
  obtain ⟨k, hk⟩ : ∃ k, k = cueIdx := ⟨_, rfl⟩
  have hO : SOraOK Try.prog (oraL [(71, wCl dcIs 72 [] (fun l => rB (f l)) (fun l => [LLe l maxLen])), (69, wCueS g), (70, wCueNamed k)]) := by
    subst hf hg hk
    exact oraL_cons (wCl_ok fun l h => contFuncI_ok l _ _ _ (fun q _ => impSheetOk1_ok q) (h _ (.head _)).out) (oraL_cons wCueI_ok (oraL_cons wCueNamedI_ok oraL_nil))
  obtain ⟨cs, ps, hr⟩ := t
  dsimp only at h1 h2 h3
  unfold maxLen at h1 h2
  obtain ⟨c, hc⟩ : ∃ c, c = (decide (cs.length ≤ 6 ∧ ps.length = 3 ∧ 1 ≤ hr ∧ hr ≤ 10) && !f ps) := ⟨_, rfl⟩
  rw [show sheetB ⟨cs, ps, hr⟩ = (allF (fun i q => g q i && decide (k cs q.name = i)) (cs.drop 0) 0 && c) by
    unfold sheetB prepB
    rw [hc, hf, hg, hk, List.drop_zero, ← Bool.and_assoc, show (!List.any ps fun n => !upTo n 20) = ps.all fun n => upTo n 20 by rw [List.not_any_eq_all_not]; simp]
    rfl]
  clear hf hg hk
  refine SEx.go (X := X41) X41_ok (fun n => look [] [(2, [1, 6, 7, 8])] n) (fun _ => none) hO 60 ?_
  intro M R L N hM hAnd hImp hR hL hN
  cases M
  cbv
  repeat' first | (refine hAnd _ _ ?_ ?_) | (refine hImp _ _ (fun h => ?_)) | (refine hR _ ?_) | (refine hL _ _ (Hd.out ?_); generalize hks : (List.cons _ _ : List K) = ks) | (refine hN _ _ ?_; cbv)
  all_goals (clear hAnd hImp hR hL hN)
  all_goals (cases hM; try dsimp only)
  all_goals (try simp only [Bool.not_eq_true', Bool.not_eq_false', decide_eq_true_eq, decide_eq_false_iff_not, Int.not_le, Int.not_lt, beq_iff_eq, beq_eq_false_iff_ne, ne_eq, Int.ofNat_eq_natCast, Int.toNat_natCast, List.length_replicate, ncast, Nat.sub_zero, List.drop_zero, Cue.eta, Tie.eta, Edge.eta, Link.eta, Node.eta] at *)
  obtain ⟨m, hm⟩ : ∃ m, m = cs.length := ⟨_, rfl⟩
  refine ⟨SEx.same (SEx.idx m (fun i => ⟨50, [(1, bP 4096), (6, bL (.cue cs)), (7, bI m), (8, bI i)], [(4096, .obx [.fz (.sl (.cue cs)), .fz (.sl (.i ps)), .fz (.int .i64 hr)])]⟩) (fun i => rB (allF (fun i q => g q i && decide (k cs q.name = i)) (cs.drop i) i && c)) ?_) (by rw [hm]; rfl) rfl⟩
  intro i hi ih
  rw [← hks]
  refine SEx.go (X := X41) X41_ok (fun n => look [] [(2, [1, 6, 7, 8])] n) (fun _ => none) hO 60 ?_
  intro M R L N hM hAnd hImp hR hL hN
  cases M
  cbv
  repeat' first | (refine hAnd _ _ ?_ ?_) | (refine hImp _ _ (fun h => ?_)) | (refine hR _ ?_) | (refine hL _ _ (Hd.out ?_); try first | rw [hks] | rw [hk2] | rw [hk3]) | (refine hN _ _ ?_; cbv)
  all_goals (clear hAnd hImp hR hL hN; try clear hks; try clear hk2; try clear hk3)
  all_goals (cases hM; try dsimp only)
  all_goals (try simp only [Bool.not_eq_true', Bool.not_eq_false', decide_eq_true_eq, decide_eq_false_iff_not, Int.not_le, Int.not_lt, beq_iff_eq, beq_eq_false_iff_ne, ne_eq, Int.ofNat_eq_natCast, Int.toNat_natCast, List.length_replicate, ncast, Nat.sub_zero, List.drop_zero, Cue.eta, Tie.eta, Edge.eta, Link.eta, Node.eta] at *)
  all_goals first
    | omega
    | exact mem_getD (z := Cue.z) (by omega)
    | exact ⟨rfl⟩
    | exact ⟨by omega⟩
    | (rw [allF_no_and (p := fun i q => g q i && decide (k cs q.name = i)) (l := cs) (i := i) Cue.z (by omega) (by first | assumption | (simp_all; done))]; rfl)
    | (simp only [wrap_succ (show i < 9223372036854775807 by omega)]; exact ⟨(ih (by omega)).same rfl (by rw [allF_yes_and (p := fun i q => g q i && decide (k cs q.name = i)) (l := cs) (i := i) Cue.z (by omega) (by first | assumption | (simp_all; done))])⟩)
    | skip
  · exact ⟨h3 _ (mem_getD (z := Cue.z) (by omega)).out⟩
  all_goals (rw [allF_end_and (l := cs) (by omega)]; simp only [er_B])
  all_goals (rw [hc]; first | (rw [decide_eq_false (by omega)]; rfl) | (rw [decide_eq_true (by omega)]; rfl))
def wSheetOk (f : Sheet → Bool) : Wr := w1 dcSheet (fun t => rB (f t)) (fun t => [LLe t.cues maxLen, LLe t.prep maxLen, NamesOk t.cues])
theorem wSheetOkS_ok : WrOK Try.prog 37 (wSheetOk sheetB) := w1_ok fun t h => specSheetOk_ok t (h _ (.head _)).out (h _ (.tail _ (.head _))).out (h _ (.tail _ (.tail _ (.head _)))).out
theorem wSheetOkI_ok : WrOK Try.prog 41 (wSheetOk sheetB) := w1_ok fun t h => implSheetOk_ok t (h _ (.head _)).out (h _ (.tail _ (.head _))).out (h _ (.tail _ (.tail _ (.head _)))).out
end Go.Proofs.Ytncbdoijakndoaa.Ai
