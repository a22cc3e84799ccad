/- The two CueOk. -/
import Derived.Test.YtncbdoijakndoaaTy
import Derived.Test.YtncbdoijakndoaaU
import Derived.Test.YtncbdoijakndoaaCU
namespace Go.Proofs.Ytncbdoijakndoaa.Ai
open Go
set_option maxRecDepth 100000
set_option linter.unusedVariables false
set_option linter.unusedSimpArgs false
set_option maxHeartbeats 4000000 in
theorem specCueOk_ok (q : Cue) (i : Int) (hs : q.name.size ≤ maxLen) : SCall Try.prog 63 [aCue q, aI i] (rB (cueB q i)) := by
  refine SCall.of X63_ok (fn := Try.f63) (c := Try.f63.body.getD .skip) (dr := fun n => look 0 [] n) Try.func63 rfl (by kernel_rfl) (by kernel_rfl) (by kernel_rfl) ?_
  obtain ⟨f, hf⟩ : ∃ f, f = (nameL · 0) := ⟨_, rfl⟩
  obtain ⟨g, hg⟩ : ∃ g, g = inB := ⟨_, rfl⟩
  have hO : SOraOK Try.prog (oraL [(24, wInB g), (89, wNameS f)]) := by subst hf hg; exact oraL_cons wInB_ok (oraL_cons wNameS_ok oraL_nil)
  obtain ⟨x1, x2, x3, x4, x5, x6, x7, x8, x9, x10, x11⟩ := q
  have hs : x1.size ≤ maxLen := hs
  clear hs
  refine SEx.go (X := X63) X63_ok (fun n => look [] [] n) (fun n => look none lv63 n) hO 12 ?_
  intro M R L N hM hAnd hImp hR hL hN
  cases M
  cbv
  repeat' first | (refine hAnd _ _ ?_ ?_) | (refine hImp _ _ (fun h => ?_)) | (refine hR _ ?_) | (refine hL _ _ (Hd.out ?_); try first | rw [hks] | rw [hk2] | rw [hk3]) | (refine hN _ _ ?_; cbv)
  all_goals (clear hAnd hImp hR hL hN; try clear hks; try clear hk2; try clear hk3)
  all_goals (cases hM; try dsimp only)
  all_goals (try simp only [Bool.not_eq_true', Bool.not_eq_false', decide_eq_true_eq, decide_eq_false_iff_not, Int.not_le, Int.not_lt, beq_iff_eq, beq_eq_false_iff_ne, ne_eq, Int.ofNat_eq_natCast, Int.toNat_natCast, List.length_replicate, ncast, Nat.sub_zero, List.drop_zero, Cue.eta, Tie.eta, Edge.eta, Link.eta, Node.eta] at *)
  all_goals first
    | exact ⟨hs⟩
    | (clear hO hs; simp only [er_B, cueB]; subst hf hg; rw [Bool.eq_iff_iff]; simp_all [inB]; try omega)
set_option maxHeartbeats 4000000 in
theorem implCueOk_ok (q : Cue) (i : Int) (hs : q.name.size ≤ maxLen) : SCall Try.prog 69 [aCue q, aI i] (rB (cueB q i)) := by
  refine SCall.of X69_ok (fn := Try.f69) (c := Try.f69.body.getD .skip) (dr := fun n => look 0 [] n) Try.func69 rfl (by kernel_rfl) (by kernel_rfl) (by kernel_rfl) ?_
  obtain ⟨f, hf⟩ : ∃ f, f = (nameL · 0) := ⟨_, rfl⟩
  obtain ⟨g, hg⟩ : ∃ g, g = upTo := ⟨_, rfl⟩
  have hO : SOraOK Try.prog (oraL [(73, wUpTo g), (90, wNameS f)]) := by subst hf hg; exact oraL_cons wUpTo_ok (oraL_cons wNameI_ok oraL_nil)
  obtain ⟨x1, x2, x3, x4, x5, x6, x7, x8, x9, x10, x11⟩ := q
  have hs : x1.size ≤ maxLen := hs
  clear hs
  refine SEx.go (X := X69) X69_ok (fun n => look [] [] n) (fun n => look none lv69 n) hO 12 ?_
  intro M R L N hM hAnd hImp hR hL hN
  cases M
  cbv
  repeat' first | (refine hAnd _ _ ?_ ?_) | (refine hImp _ _ (fun h => ?_)) | (refine hR _ ?_) | (refine hL _ _ (Hd.out ?_); try first | rw [hks] | rw [hk2] | rw [hk3]) | (refine hN _ _ ?_; cbv)
  all_goals (clear hAnd hImp hR hL hN; try clear hks; try clear hk2; try clear hk3)
  all_goals (cases hM; try dsimp only)
  all_goals (try simp only [Bool.not_eq_true', Bool.not_eq_false', decide_eq_true_eq, decide_eq_false_iff_not, Int.not_le, Int.not_lt, beq_iff_eq, beq_eq_false_iff_ne, ne_eq, Int.ofNat_eq_natCast, Int.toNat_natCast, List.length_replicate, ncast, Nat.sub_zero, List.drop_zero, Cue.eta, Tie.eta, Edge.eta, Link.eta, Node.eta] at *)
  all_goals first
    | exact ⟨hs⟩
    | (clear hO hs; simp only [er_B, cueB]; subst hf hg; rw [Bool.eq_iff_iff]; simp_all [upTo]; try omega)
def wCueS (f : Cue → Int → Bool) : Wr := w2 dcCue dcI (fun q i => rB (f q i)) (fun q _ => [SLen q.name])
theorem wCueS_ok : WrOK Try.prog 63 (wCueS cueB) := w2_ok fun q i h => specCueOk_ok q i (h _ List.mem_cons_self).out
theorem wCueI_ok : WrOK Try.prog 69 (wCueS cueB) := w2_ok fun q i h => implCueOk_ok q i (h _ List.mem_cons_self).out
end Go.Proofs.Ytncbdoijakndoaa.Ai
