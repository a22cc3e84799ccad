/- Members of labels; nodes that are right. -/
import Derived.Test.YtececadpjelanaaTy
import Derived.Test.YtececadpjelanaaLB
namespace Go.Proofs.Ytececadpjelanaa.Ai
open Go
set_option maxRecDepth 100000
set_option linter.unusedVariables false
set_option linter.unusedSimpArgs false
def hasB (l : List Int) (v : Int) : Bool := decide (0 ≤ idxF (fun x => v == x) l 0)
theorem contI_ok (l : List Int) (v : Int) (h1 : l.length ≤ maxLen) : SCall Try.prog 87 [aIs l, aI v] (rB (hasB l v)) := by
  refine SCall.of X87_ok (fn := Try.f87) (c := Try.f87.body.getD .skip) (dr := fun n => look 0 [] n) Try.func87 rfl (by kernel_rfl) (by kernel_rfl) (by kernel_rfl) ?_
  obtain ⟨f, hf⟩ : ∃ f : List Int → Int → Int, f = fun l v => idxF (fun x => v == x) l 0 := ⟨_, rfl⟩
  have hO : SOraOK Try.prog (oraL [(99, wIndexI f)]) := by subst hf; exact oraL_cons wIndexI_ok oraL_nil
  refine SEx.go (X := X87) X87_ok (fun n => look [] [] n) (fun _ => none) hO 60 ?_
  intro M R L N hM hAnd hImp hR hL hN
  cases M
  cbv
  repeat' first | (refine hAnd _ _ ?_ ?_) | (refine hImp _ _ (fun h => ?_)) | (refine hR _ ?_) | (refine hL _ _ (Hd.out ?_); try first | rw [hks] | rw [hk2] | rw [hk3]) | (refine hN _ _ ?_; cbv)
  all_goals (clear hAnd hImp hR hL hN; try clear hks; try clear hk2; try clear hk3)
  all_goals (cases hM; try dsimp only)
  all_goals (try simp only [Bool.not_eq_true', Bool.not_eq_false', decide_eq_true_eq, decide_eq_false_iff_not, Int.not_le, Int.not_lt, beq_iff_eq, beq_eq_false_iff_ne, ne_eq, Int.ofNat_eq_natCast, Int.toNat_natCast, List.length_replicate, ncast, Nat.sub_zero, List.drop_zero, Cue.eta, Tie.eta, Edge.eta, Link.eta, Node.eta] at *)
  all_goals first
    | exact ⟨h1⟩
    | (subst hf; rfl)
theorem has_ok (l : List Int) (v : Int) (h1 : l.length ≤ maxLen) : SCall Try.prog 77 [aIs l, aI v] (rB (hasB l v)) := by
  refine SCall.of X77_ok (fn := Try.f77) (c := Try.f77.body.getD .skip) (dr := fun n => look 0 [] n) Try.func77 rfl (by kernel_rfl) (by kernel_rfl) (by kernel_rfl) ?_
  unfold maxLen at h1
  obtain ⟨g, hg⟩ : ∃ g : Nat → Bool, g = fun i => decide (0 ≤ idxF (fun x => v == x) (l.drop i) i) := ⟨_, rfl⟩
  rw [show hasB l v = g 0 by rw [hg]; rfl]
  refine SEx.go (X := X77) X77_ok (fun n => look [] [(2, [1, 7, 8, 9])] n) (fun _ => none) oraL_nil 60 ?_
  intro M R L N hM hAnd hImp hR hL hN
  cases M
  cbv
  repeat' first | (refine hAnd _ _ ?_ ?_) | (refine hImp _ _ (fun h => ?_)) | (refine hR _ ?_) | (refine hL _ _ (Hd.out ?_); generalize hks : (List.cons _ _ : List K) = ks) | (refine hN _ _ ?_; cbv)
  all_goals (clear hAnd hImp hR hL hN)
  all_goals (cases hM; try dsimp only)
  all_goals (try simp only [Bool.not_eq_true', Bool.not_eq_false', decide_eq_true_eq, decide_eq_false_iff_not, Int.not_le, Int.not_lt, beq_iff_eq, beq_eq_false_iff_ne, ne_eq, Int.ofNat_eq_natCast, Int.toNat_natCast, List.length_replicate, ncast, Nat.sub_zero, List.drop_zero, Cue.eta, Tie.eta, Edge.eta, Link.eta, Node.eta] at *)
  obtain ⟨m, hm⟩ : ∃ m, m = l.length := ⟨_, rfl⟩
  refine ⟨SEx.same (SEx.idx m (fun i => ⟨17, [(1, bI v), (7, bL (.i l)), (8, bI m), (9, bI i)], []⟩) (fun i => rB (g i)) ?_) (by rw [hm]; rfl) rfl⟩
  intro i hi ih
  rw [← hks]
  refine SEx.go (X := X77) X77_ok (fun n => look [] [(2, [1, 7, 8, 9])] n) (fun _ => none) oraL_nil 60 ?_
  intro M R L N hM hAnd hImp hR hL hN
  cases M
  cbv
  repeat' first | (refine hAnd _ _ ?_ ?_) | (refine hImp _ _ (fun h => ?_)) | (refine hR _ ?_) | (refine hL _ _ (Hd.out ?_); try first | rw [hks] | rw [hk2] | rw [hk3]) | (refine hN _ _ ?_; cbv)
  all_goals (clear hAnd hImp hR hL hN; try clear hks; try clear hk2; try clear hk3)
  all_goals (cases hM; try dsimp only)
  all_goals (try simp only [Bool.not_eq_true', Bool.not_eq_false', decide_eq_true_eq, decide_eq_false_iff_not, Int.not_le, Int.not_lt, beq_iff_eq, beq_eq_false_iff_ne, ne_eq, Int.ofNat_eq_natCast, Int.toNat_natCast, List.length_replicate, ncast, Nat.sub_zero, List.drop_zero, Cue.eta, Tie.eta, Edge.eta, Link.eta, Node.eta] at *)
  all_goals first
    | omega
    | (have hh : l.getD i 0 = v := by assumption
       rw [hg]; simp only [er_B]; rw [idxF_yes (z := (0 : Int)) (by omega) (by rw [hh]; simp), decide_eq_true (by omega)])
    | (have hh : ¬ l.getD i 0 = v := by assumption
       simp only [wrap_succ (show i < 9223372036854775807 by omega)]
       have e : g i = g (i + 1) := by rw [hg]; simp only; rw [idxF_no (z := (0 : Int)) (by omega) (beq_eq_false_iff_ne.2 (fun e => hh e.symm))]
       exact ⟨(ih (by omega)).same rfl (by rw [e])⟩)
    | (rw [hg]; simp only [er_B]; rw [idxF_end (by omega)]; rfl)
    | trace_state
def wHas (f : List Int → Int → Bool) : Wr := w2 dcIs dcI (fun l v => rB (f l v)) (fun l _ => [LLe l maxLen])
theorem wHasS_ok : WrOK Try.prog 77 (wHas hasB) := w2_ok fun l v h => has_ok l v (h _ (.head _)).out
theorem wHasI_ok : WrOK Try.prog 87 (wHas hasB) := w2_ok fun l v h => contI_ok l v (h _ (.head _)).out
def nodeB (q : Node) : Bool := nameL q.name 0 && labelB q.label && (decide (0 ≤ q.watch) && decide (q.watch ≤ 3))
theorem specNodeOk_ok (q : Node) (hs : q.name.size ≤ maxLen) (hl : q.label.length ≤ maxLen) (hx : ∀ n ∈ q.label, inI n) : SCall Try.prog 75 [aNode q] (rB (nodeB q)) := by
  refine SCall.of X75_ok (fn := Try.f75) (c := Try.f75.body.getD .skip) (dr := fun n => look 0 [] n) Try.func75 rfl (by kernel_rfl) (by kernel_rfl) (by kernel_rfl) ?_
  obtain ⟨f0, hf0⟩ : ∃ f, f = l01InB := ⟨_, rfl⟩
  obtain ⟨f1, hf1⟩ : ∃ f, f = (nameL · 0) := ⟨_, rfl⟩
  obtain ⟨f2, hf2⟩ : ∃ f, f = labelB := ⟨_, rfl⟩
  have hO : SOraOK Try.prog (oraL [(96, wNameS f1), (97, wLabelOk f2), (43, wL01 f0)]) := by subst hf0 hf1 hf2; exact oraL_cons wNameS_ok (oraL_cons wLabelOkS_ok (oraL_cons wL01_ok oraL_nil))
  obtain ⟨x1, x2, x3⟩ := q
  refine SEx.go (X := X75) X75_ok (fun n => look [] [] n) (fun _ => none) hO 60 ?_
  intro M R L N hM hAnd hImp hR hL hN
  cases M
  cbv
  repeat' first | (refine hAnd _ _ ?_ ?_) | (refine hImp _ _ (fun h => ?_)) | (refine hR _ ?_) | (refine hL _ _ (Hd.out ?_); try first | rw [hks] | rw [hk2] | rw [hk3]) | (refine hN _ _ ?_; cbv)
  all_goals (clear hAnd hImp hR hL hN; try clear hks; try clear hk2; try clear hk3)
  all_goals (cases hM; try dsimp only)
  all_goals (try simp only [Bool.not_eq_true', Bool.not_eq_false', decide_eq_true_eq, decide_eq_false_iff_not, Int.not_le, Int.not_lt, beq_iff_eq, beq_eq_false_iff_ne, ne_eq, Int.ofNat_eq_natCast, Int.toNat_natCast, List.length_replicate, ncast, Nat.sub_zero, List.drop_zero, Cue.eta, Tie.eta, Edge.eta, Link.eta, Node.eta] at *)
  all_goals first
    | exact ⟨hs⟩
    | exact ⟨hl, hx⟩
    | (subst hf0 hf1 hf2; simp only [er_B, nodeB]; simp_all [l01InB]; done)
    | trace_state
theorem implNodeOk_ok (q : Node) (hs : q.name.size ≤ maxLen) (hl : q.label.length ≤ maxLen) (hx : ∀ n ∈ q.label, inI n) : SCall Try.prog 80 [aNode q] (rB (nodeB q)) := by
  refine SCall.of X80_ok (fn := Try.f80) (c := Try.f80.body.getD .skip) (dr := fun n => look 0 [] n) Try.func80 rfl (by kernel_rfl) (by kernel_rfl) (by kernel_rfl) ?_
  obtain ⟨f1, hf1⟩ : ∃ f, f = (nameL · 0) := ⟨_, rfl⟩
  obtain ⟨f2, hf2⟩ : ∃ f, f = labelB := ⟨_, rfl⟩
  have hO : SOraOK Try.prog (oraL [(98, wNameS f1), (94, wLabelOk f2)]) := by subst hf1 hf2; exact oraL_cons wNameI_ok (oraL_cons wLabelOkI_ok oraL_nil)
  obtain ⟨x1, x2, x3⟩ := q
  refine SEx.go (X := X80) X80_ok (fun n => look [] [] n) (fun _ => none) hO 60 ?_
  intro M R L N hM hAnd hImp hR hL hN
  cases M
  cbv
  repeat' first | (refine hAnd _ _ ?_ ?_) | (refine hImp _ _ (fun h => ?_)) | (refine hR _ ?_) | (refine hL _ _ (Hd.out ?_); try first | rw [hks] | rw [hk2] | rw [hk3]) | (refine hN _ _ ?_; cbv)
  all_goals (clear hAnd hImp hR hL hN; try clear hks; try clear hk2; try clear hk3)
  all_goals (cases hM; try dsimp only)
  all_goals (try simp only [Bool.not_eq_true', Bool.not_eq_false', decide_eq_true_eq, decide_eq_false_iff_not, Int.not_le, Int.not_lt, beq_iff_eq, beq_eq_false_iff_ne, ne_eq, Int.ofNat_eq_natCast, Int.toNat_natCast, List.length_replicate, ncast, Nat.sub_zero, List.drop_zero, Cue.eta, Tie.eta, Edge.eta, Link.eta, Node.eta] at *)
  all_goals first
    | exact ⟨hs⟩
    | exact ⟨hl, hx⟩
    | (subst hf1 hf2; simp only [er_B, nodeB]; simp_all; done)
    | (subst hf1 hf2; simp only [er_B, nodeB]; rw [decide_eq_false (by omega)]; simp; done)
    | trace_state
end Go.Proofs.Ytececadpjelanaa.Ai
