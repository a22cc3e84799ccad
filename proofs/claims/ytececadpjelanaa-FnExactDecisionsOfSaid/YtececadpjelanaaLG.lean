/- The free tie into a node. -/
import Derived.Test.YtececadpjelanaaTy
import Derived.Test.YtececadpjelanaaLF
namespace Go.Proofs.Ytececadpjelanaa.Ai
open Go
set_option maxRecDepth 100000
set_option linter.unusedVariables false
set_option linter.unusedSimpArgs false
def freeI (l : List Tie) (x : Int) : Int := idxF (fun q => q.free && q.dst == x) l 0
theorem specFree_ok (t : Show) (x : Int) (h1 : t.ties.length ≤ maxLen) : SCall Try.prog 46 [aShow t, aI x] (rI (freeI t.ties x)) := by
  refine SCall.of X46_ok (fn := Try.f46) (c := Try.f46.body.getD .skip) (dr := fun n => look 0 [] n) Try.func46 rfl (by kernel_rfl) (by kernel_rfl) (by kernel_rfl) ?_
  obtain ⟨ns, cs, hr⟩ := t
  have h1 : cs.length ≤ maxLen := h1
  unfold maxLen at h1
  show SEx _ _ _ _ _ _ (rI (idxF _ cs 0))
  refine SEx.go (X := X46) X46_ok (fun n => look [] [(2, [1, 8, 9, 10])] n) (fun _ => none) oraL_nil 60 ?_
  intro M R L N hM hAnd hImp hR hL hN
  cases M
  cbv
  repeat' first | (refine hAnd _ _ ?_ ?_) | (refine hImp _ _ (fun h => ?_)) | (refine hR _ ?_) | (refine hL _ _ (Hd.out ?_); generalize hks : (List.cons _ _ : List K) = ks) | (refine hN _ _ ?_; cbv)
  all_goals (clear hAnd hImp hR hL hN)
  all_goals (cases hM; try dsimp only)
  all_goals (try simp only [Bool.not_eq_true', Bool.not_eq_false', decide_eq_true_eq, decide_eq_false_iff_not, Int.not_le, Int.not_lt, beq_iff_eq, beq_eq_false_iff_ne, ne_eq, Int.ofNat_eq_natCast, Int.toNat_natCast, List.length_replicate, ncast, Nat.sub_zero, List.drop_zero, Cue.eta, Tie.eta, Edge.eta, Link.eta, Node.eta] at *)
  obtain ⟨n, hn⟩ : ∃ n, n = cs.length := ⟨_, rfl⟩
  refine ⟨SEx.same (SEx.idx n (fun i => ⟨25, [(1, bI x), (8, bL (.tie cs)), (9, bI n), (10, bI i)], []⟩) (fun i => rI (idxF (fun q => q.free && q.dst == x) (cs.drop i) i)) ?_) (by rw [hn]; rfl) rfl⟩
  intro i hi ih
  rw [← hks]
  refine SEx.go (X := X46) X46_ok (fun n => look [] [(2, [1, 8, 9, 10])] n) (fun _ => none) oraL_nil 60 ?_
  intro M R L N hM hAnd hImp hR hL hN
  cases M
  cbv
  repeat' first | (refine hAnd _ _ ?_ ?_) | (refine hImp _ _ (fun h => ?_)) | (refine hR _ ?_) | (refine hL _ _ (Hd.out ?_); try first | rw [hks] | rw [hk2] | rw [hk3]) | (refine hN _ _ ?_; cbv)
  all_goals (clear hAnd hImp hR hL hN; try clear hks; try clear hk2; try clear hk3)
  all_goals (cases hM; try dsimp only)
  all_goals (try simp only [Bool.not_eq_true', Bool.not_eq_false', decide_eq_true_eq, decide_eq_false_iff_not, Int.not_le, Int.not_lt, beq_iff_eq, beq_eq_false_iff_ne, ne_eq, Int.ofNat_eq_natCast, Int.toNat_natCast, List.length_replicate, ncast, Nat.sub_zero, List.drop_zero, Cue.eta, Tie.eta, Edge.eta, Link.eta, Node.eta] at *)
  all_goals first
    | omega
    | (rw [idxF_yes (p := fun q => q.free && q.dst == x) (l := cs) (i := i) Tie.z (by omega) (by simp_all)]; rfl)
    | (rw [idxF_end (by omega)]; rfl)
    | (simp only [wrap_succ (show i < 9223372036854775807 by omega)]; exact ⟨(ih (by omega)).same rfl (by rw [idxF_no (p := fun q => q.free && q.dst == x) (l := cs) (i := i) Tie.z (by omega) (by simp_all)])⟩)
def wFree (f : List Tie → Int → Int) : Wr := w2 dcShow dcI (fun t x => rI (f t.ties x)) (fun t _ => [LLe t.ties maxLen])
theorem wFreeS_ok : WrOK Try.prog 46 (wFree freeI) := w2_ok fun t x h => specFree_ok t x (h _ (.head _)).out
end Go.Proofs.Ytececadpjelanaa.Ai
