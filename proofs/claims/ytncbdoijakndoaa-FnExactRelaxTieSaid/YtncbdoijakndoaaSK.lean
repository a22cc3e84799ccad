/- Cues by name. -/
import Derived.Test.YtncbdoijakndoaaTy
import Derived.Test.YtncbdoijakndoaaU
import Derived.Test.YtncbdoijakndoaaSF
namespace Go.Proofs.Ytncbdoijakndoaa.Ai
open Go
set_option maxRecDepth 100000
set_option linter.unusedVariables false
set_option linter.unusedSimpArgs false
theorem specCueNamed_ok (t : Sheet) (s : ByteArray) (h1 : t.cues.length ≤ maxLen) : SCall Try.prog 64 [aSheet t, aS s] (rI (idxF (fun q => eqS q.name s) t.cues 0)) := by
  refine SCall.of X64_ok (fn := Try.f64) (c := Try.f64.body.getD .skip) (dr := fun n => look 0 [] n) Try.func64 rfl (by kernel_rfl) (by kernel_rfl) (by kernel_rfl) ?_
  obtain ⟨cs, ps, hr⟩ := t
  have h1 : cs.length ≤ maxLen := h1
  unfold maxLen at h1
  show SEx _ _ _ _ _ _ (rI (idxF _ cs 0))
  refine SEx.go (X := X64) X64_ok (fun n => look [] [(2, [1, 8, 9, 10])] n) (fun _ => none) oraL_nil 60 ?_
  intro M R L N hM hAnd hImp hR hL hN
  cases M
  cbv
  repeat' first | (refine hAnd _ _ ?_ ?_) | (refine hImp _ _ (fun h => ?_)) | (refine hR _ ?_) | (refine hL _ _ (Hd.out ?_); generalize hks : (List.cons _ _ : List K) = ks) | (refine hN _ _ ?_; cbv)
  all_goals (clear hAnd hImp hR hL hN)
  all_goals (cases hM; try dsimp only)
  all_goals (try simp only [Bool.not_eq_true', Bool.not_eq_false', decide_eq_true_eq, decide_eq_false_iff_not, Int.not_le, Int.not_lt, beq_iff_eq, beq_eq_false_iff_ne, ne_eq, Int.ofNat_eq_natCast, Int.toNat_natCast, List.length_replicate, ncast, Nat.sub_zero, List.drop_zero, Cue.eta, Tie.eta, Edge.eta, Link.eta, Node.eta] at *)
  obtain ⟨n, hn⟩ : ∃ n, n = cs.length := ⟨_, rfl⟩
  refine ⟨SEx.same (SEx.idx n (fun i => ⟨21, [(1, bS s), (8, bL (.cue cs)), (9, bI n), (10, bI i)], []⟩) (fun i => rI (idxF (fun q => eqS q.name s) (cs.drop i) i)) ?_) (by rw [hn]; rfl) rfl⟩
  intro i hi ih
  rw [← hks]
  refine SEx.go (X := X64) X64_ok (fun n => look [] [(2, [1, 8, 9, 10])] n) (fun _ => none) oraL_nil 60 ?_
  intro M R L N hM hAnd hImp hR hL hN
  cases M
  cbv
  repeat' first | (refine hAnd _ _ ?_ ?_) | (refine hImp _ _ (fun h => ?_)) | (refine hR _ ?_) | (refine hL _ _ (Hd.out ?_); try first | rw [hks] | rw [hk2] | rw [hk3]) | (refine hN _ _ ?_; cbv)
  all_goals (clear hAnd hImp hR hL hN; try clear hks; try clear hk2; try clear hk3)
  all_goals (cases hM; try dsimp only)
  all_goals (try simp only [Bool.not_eq_true', Bool.not_eq_false', decide_eq_true_eq, decide_eq_false_iff_not, Int.not_le, Int.not_lt, beq_iff_eq, beq_eq_false_iff_ne, ne_eq, Int.ofNat_eq_natCast, Int.toNat_natCast, List.length_replicate, ncast, Nat.sub_zero, List.drop_zero, Cue.eta, Tie.eta, Edge.eta, Link.eta, Node.eta] at *)
  all_goals first
    | omega
    | exact ⟨rfl, by cases caps <;> rfl⟩
    | exact ⟨rfl, rfl⟩
    | exact mem_getD (z := Cue.z) (by omega)
    | (rw [idxF_yes (p := fun q => eqS q.name s) (l := cs) (i := i) Cue.z (by omega) (by first | assumption | exact beq_iff_eq.2 (by assumption))]; rfl)
    | (rw [idxF_end (by omega)]; rfl)
    | (simp only [wrap_succ (show i < 9223372036854775807 by omega)]; exact ⟨(ih (by omega)).same rfl (by rw [idxF_no (p := fun q => eqS q.name s) (l := cs) (i := i) Cue.z (by omega) (by first | assumption | exact beq_eq_false_iff_ne.2 (by assumption) | (simp_all; done))])⟩)
theorem cueNamed1_ok (q : Cue) (s : ByteArray) : SCall Try.prog 92 [aCue q, (false, [.ptr [.str s]])] (rB (eqS q.name s)) := by
  refine SCall.of X92_ok (fn := Try.f92) (c := Try.f92.body.getD .skip) (dr := fun n => look 0 [] n) Try.func92 rfl (by kernel_rfl) (by kernel_rfl) (by kernel_rfl) ?_
  obtain ⟨x1, x2, x3, x4, x5, x6, x7, x8, x9, x10, x11⟩ := q
  refine SEx.go (X := X92) X92_ok (fun n => look [] [] n) (fun _ => none) oraL_nil 60 ?_
  intro M R L N hM hAnd hImp hR hL hN
  cases M
  cbv
  repeat' first | (refine hAnd _ _ ?_ ?_) | (refine hImp _ _ (fun h => ?_)) | (refine hR _ ?_) | (refine hL _ _ (Hd.out ?_); try first | rw [hks] | rw [hk2] | rw [hk3]) | (refine hN _ _ ?_; cbv)
  all_goals (clear hAnd hImp hR hL hN; try clear hks; try clear hk2; try clear hk3)
  all_goals (cases hM; try dsimp only)
  all_goals (try simp only [Bool.not_eq_true', Bool.not_eq_false', decide_eq_true_eq, decide_eq_false_iff_not, Int.not_le, Int.not_lt, beq_iff_eq, beq_eq_false_iff_ne, ne_eq, Int.ofNat_eq_natCast, Int.toNat_natCast, List.length_replicate, ncast, Nat.sub_zero, List.drop_zero, Cue.eta, Tie.eta, Edge.eta, Link.eta, Node.eta] at *)
  rfl
def cueIdx (l : List Cue) (s : ByteArray) : Int := idxF (fun q => eqS q.name s) l 0
theorem implCueNamed_ok (t : Sheet) (s : ByteArray) (h1 : t.cues.length ≤ maxLen) : SCall Try.prog 70 [aSheet t, aS s] (rI (cueIdx t.cues s)) := by
  refine SCall.of X70_ok (fn := Try.f70) (c := Try.f70.body.getD .skip) (dr := fun n => look 0 [] n) Try.func70 rfl (by kernel_rfl) (by kernel_rfl) (by kernel_rfl) ?_
  obtain ⟨f, hf⟩ : ∃ f, f = cueIdx := ⟨_, rfl⟩
  have hO : SOraOK Try.prog (oraL [(91, w2 dcCues (dcFS 92) (fun l s => rI (f l s)) (fun l _ => [LLe l maxLen]))]) := by subst hf; exact oraL_cons (w2_ok fun l s h => idxFuncCue_ok l _ _ _ (fun q _ => cueNamed1_ok q s) (h _ (.head _)).out) oraL_nil
  obtain ⟨cs, ps, hr⟩ := t
  have h1 : cs.length ≤ maxLen := h1
  refine SEx.go (X := X70) X70_ok (fun n => look [] [] n) (fun _ => none) hO 60 ?_
  intro M R L N hM hAnd hImp hR hL hN
  cases M
  cbv
  repeat' first | (refine hAnd _ _ ?_ ?_) | (refine hImp _ _ (fun h => ?_)) | (refine hR _ ?_) | (refine hL _ _ (Hd.out ?_); try first | rw [hks] | rw [hk2] | rw [hk3]) | (refine hN _ _ ?_; cbv)
  all_goals (clear hAnd hImp hR hL hN; try clear hks; try clear hk2; try clear hk3)
  all_goals (cases hM; try dsimp only)
  all_goals (try simp only [Bool.not_eq_true', Bool.not_eq_false', decide_eq_true_eq, decide_eq_false_iff_not, Int.not_le, Int.not_lt, beq_iff_eq, beq_eq_false_iff_ne, ne_eq, Int.ofNat_eq_natCast, Int.toNat_natCast, List.length_replicate, ncast, Nat.sub_zero, List.drop_zero, Cue.eta, Tie.eta, Edge.eta, Link.eta, Node.eta] at *)
  all_goals first
    | exact ⟨h1⟩
    | (subst hf; rfl)
def wCueNamed (f : List Cue → ByteArray → Int) : Wr := w2 dcSheet dcS (fun t s => rI (f t.cues s)) (fun t _ => [LLe t.cues maxLen])
theorem wCueNamedS_ok : WrOK Try.prog 64 (wCueNamed cueIdx) := w2_ok fun t s h => specCueNamed_ok t s (h _ (.head _)).out
theorem wCueNamedI_ok : WrOK Try.prog 70 (wCueNamed cueIdx) := w2_ok fun t s h => implCueNamed_ok t s (h _ (.head _)).out
end Go.Proofs.Ytncbdoijakndoaa.Ai
