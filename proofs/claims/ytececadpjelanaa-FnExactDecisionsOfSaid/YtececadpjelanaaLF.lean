/- Lists that are the same; spans. -/
import Derived.Test.YtececadpjelanaaTy
import Derived.Test.YtececadpjelanaaLE
namespace Go.Proofs.Ytececadpjelanaa.Ai
open Go
set_option maxRecDepth 100000
set_option linter.unusedVariables false
set_option linter.unusedSimpArgs false
def spanB (n : Int) : Bool := decide (-20 ≤ n) && decide (n ≤ 20)
theorem isSpan_ok (n : Int) : SCall Try.prog 82 [aI n] (rB (spanB n)) := by
  refine SCall.of X82_ok (fn := Try.f82) (c := Try.f82.body.getD .skip) (dr := fun n => look 0 [] n) Try.func82 rfl (by kernel_rfl) (by kernel_rfl) (by kernel_rfl) ?_
  refine SEx.go (X := X82) X82_ok (fun n => look [] [] n) (fun _ => none) oraL_nil 60 ?_
  intro M R L N hM hAnd hImp hR hL hN
  cases M
  cbv
  repeat' first | (refine hAnd _ _ ?_ ?_) | (refine hImp _ _ (fun h => ?_)) | (refine hR _ ?_) | (refine hL _ _ (Hd.out ?_); try first | rw [hks] | rw [hk2] | rw [hk3]) | (refine hN _ _ ?_; cbv)
  all_goals (clear hAnd hImp hR hL hN; try clear hks; try clear hk2; try clear hk3)
  all_goals (cases hM; try dsimp only)
  all_goals (try simp only [Bool.not_eq_true', Bool.not_eq_false', decide_eq_true_eq, decide_eq_false_iff_not, Int.not_le, Int.not_lt, beq_iff_eq, beq_eq_false_iff_ne, ne_eq, Int.ofNat_eq_natCast, Int.toNat_natCast, List.length_replicate, ncast, Nat.sub_zero, List.drop_zero, Cue.eta, Tie.eta, Edge.eta, Link.eta, Node.eta] at *)
  all_goals simp only [er_B, spanB]
  all_goals first
    | (rw [decide_eq_false (show ¬ -20 ≤ n by omega)]; rfl)
    | (rw [decide_eq_true (show -20 ≤ n by omega), Bool.true_and])
def wSpan (f : Int → Bool) : Wr := w1 dcI (fun n => rB (f n)) (fun _ => [])
theorem wSpan_ok : WrOK Try.prog 82 (wSpan spanB) := w1_ok fun n _ => isSpan_ok n
def sameL (a b : List Int) : Bool := decide (a.length = b.length) && allF (fun i x => x == b.getD i 0) a 0
theorem l08Same_ok (a b : List Int) (h1 : a.length ≤ maxLen) (h2 : b.length ≤ maxLen) : SCall Try.prog 79 [aIs a, aIs b] (rB (sameL a b)) := by
  refine SCall.of X79_ok (fn := Try.f79) (c := Try.f79.body.getD .skip) (dr := fun n => look 0 [] n) Try.func79 rfl (by kernel_rfl) (by kernel_rfl) (by kernel_rfl) ?_
  unfold maxLen at h1 h2
  rw [show sameL a b = (decide (a.length = b.length) && allF (fun i x => x == b.getD i 0) (a.drop 0) 0) by rw [List.drop_zero]; rfl]
  refine SEx.go (X := X79) X79_ok (fun n => look [] [(4, [1, 12, 13, 14])] n) (fun _ => none) oraL_nil 60 ?_
  intro M R L N hM hAnd hImp hR hL hN
  cases M
  cbv
  repeat' first | (refine hAnd _ _ ?_ ?_) | (refine hImp _ _ (fun h => ?_)) | (refine hR _ ?_) | (refine hL _ _ (Hd.out ?_); generalize hks : (List.cons _ _ : List K) = ks) | (refine hN _ _ ?_; cbv)
  all_goals (clear hAnd hImp hR hL hN)
  all_goals (cases hM; try dsimp only)
  all_goals (try simp only [Bool.not_eq_true', Bool.not_eq_false', decide_eq_true_eq, decide_eq_false_iff_not, Int.not_le, Int.not_lt, beq_iff_eq, beq_eq_false_iff_ne, ne_eq, Int.ofNat_eq_natCast, Int.toNat_natCast, List.length_replicate, ncast, Nat.sub_zero, List.drop_zero, Cue.eta, Tie.eta, Edge.eta, Link.eta, Node.eta] at *)
  · simp only [er_B]; rw [decide_eq_false (by omega)]; rfl
  have hab : a.length = b.length := by omega
  rw [decide_eq_true hab, Bool.true_and]
  obtain ⟨m, hm⟩ : ∃ m, m = a.length := ⟨_, rfl⟩
  refine ⟨SEx.same (SEx.idx m (fun i => ⟨26, [(1, bL (.i b)), (12, bL (.i a)), (13, bI m), (14, bI i)], []⟩) (fun i => rB (allF (fun i x => x == b.getD i 0) (a.drop i) i)) ?_) (by rw [hm]; rfl) rfl⟩
  intro i hi ih
  rw [← hks]
  refine SEx.go (X := X79) X79_ok (fun n => look [] [(4, [1, 12, 13, 14])] n) (fun _ => none) oraL_nil 60 ?_
  intro M R L N hM hAnd hImp hR hL hN
  cases M
  cbv
  repeat' first | (refine hAnd _ _ ?_ ?_) | (refine hImp _ _ (fun h => ?_)) | (refine hR _ ?_) | (refine hL _ _ (Hd.out ?_); try first | rw [hks] | rw [hk2] | rw [hk3]) | (refine hN _ _ ?_; cbv)
  all_goals (clear hAnd hImp hR hL hN; try clear hks; try clear hk2; try clear hk3)
  all_goals (cases hM; try dsimp only)
  all_goals (try simp only [Bool.not_eq_true', Bool.not_eq_false', decide_eq_true_eq, decide_eq_false_iff_not, Int.not_le, Int.not_lt, beq_iff_eq, beq_eq_false_iff_ne, ne_eq, Int.ofNat_eq_natCast, Int.toNat_natCast, List.length_replicate, ncast, Nat.sub_zero, List.drop_zero, Cue.eta, Tie.eta, Edge.eta, Link.eta, Node.eta] at *)
  all_goals first
    | omega
    | (rw [allF_no (p := fun i x => x == b.getD i 0) (l := a) (i := i) (0 : Int) (by omega) (beq_eq_false_iff_ne.2 (by assumption))]; rfl)
    | (simp only [wrap_succ (show i < 9223372036854775807 by omega)]; exact ⟨(ih (by omega)).same rfl (by rw [allF_yes (p := fun i x => x == b.getD i 0) (l := a) (i := i) (0 : Int) (by omega) (beq_iff_eq.2 (by assumption))])⟩)
    | (rw [List.drop_eq_nil_of_le (by omega)]; rfl)
    | trace_state
theorem equalI_ok (a b : List Int) (h1 : a.length ≤ maxLen) (h2 : b.length ≤ maxLen) : SCall Try.prog 83 [aIs a, aIs b] (rB (sameL a b)) := by
  refine SCall.of X83_ok (fn := Try.f83) (c := Try.f83.body.getD .skip) (dr := fun n => look 0 [(6, 8)] n) Try.func83 rfl (by kernel_rfl) (by kernel_rfl) (by kernel_rfl) ?_
  unfold maxLen at h1 h2
  rw [show sameL a b = (decide (a.length = b.length) && allF (fun i x => x == b.getD i 0) (a.drop 0) 0) by rw [List.drop_zero]; rfl]
  refine SEx.go (X := X83) X83_ok (fun n => look [] [(4, [0, 1, 12, 13])] n) (fun _ => none) oraL_nil 60 ?_
  intro M R L N hM hAnd hImp hR hL hN
  cases M
  cbv
  repeat' first | (refine hAnd _ _ ?_ ?_) | (refine hImp _ _ (fun h => ?_)) | (refine hR _ ?_) | (refine hL _ _ (Hd.out ?_); generalize hks : (List.cons _ _ : List K) = ks) | (refine hN _ _ ?_; cbv)
  all_goals (clear hAnd hImp hR hL hN)
  all_goals (cases hM; try dsimp only)
  all_goals (try simp only [Bool.not_eq_true', Bool.not_eq_false', decide_eq_true_eq, decide_eq_false_iff_not, Int.not_le, Int.not_lt, beq_iff_eq, beq_eq_false_iff_ne, ne_eq, Int.ofNat_eq_natCast, Int.toNat_natCast, List.length_replicate, ncast, Nat.sub_zero, List.drop_zero, Cue.eta, Tie.eta, Edge.eta, Link.eta, Node.eta] at *)
  · simp only [er_B]; rw [decide_eq_false (by omega)]; rfl
  have hab : a.length = b.length := by omega
  rw [decide_eq_true hab, Bool.true_and]
  obtain ⟨m, hm⟩ : ∃ m, m = a.length := ⟨_, rfl⟩
  refine ⟨SEx.same (SEx.idx m (fun i => ⟨26, [(0, bL (.i a)), (1, bL (.i b)), (12, bI m), (13, bI i)], []⟩) (fun i => rB (allF (fun i x => x == b.getD i 0) (a.drop i) i)) ?_) (by rw [hm]; rfl) rfl⟩
  intro i hi ih
  rw [← hks]
  refine SEx.go (X := X83) X83_ok (fun n => look [] [(4, [0, 1, 12, 13])] n) (fun _ => none) oraL_nil 60 ?_
  intro M R L N hM hAnd hImp hR hL hN
  cases M
  cbv
  repeat' first | (refine hAnd _ _ ?_ ?_) | (refine hImp _ _ (fun h => ?_)) | (refine hR _ ?_) | (refine hL _ _ (Hd.out ?_); try first | rw [hks] | rw [hk2] | rw [hk3]) | (refine hN _ _ ?_; cbv)
  all_goals (clear hAnd hImp hR hL hN; try clear hks; try clear hk2; try clear hk3)
  all_goals (cases hM; try dsimp only)
  all_goals (try simp only [Bool.not_eq_true', Bool.not_eq_false', decide_eq_true_eq, decide_eq_false_iff_not, Int.not_le, Int.not_lt, beq_iff_eq, beq_eq_false_iff_ne, ne_eq, Int.ofNat_eq_natCast, Int.toNat_natCast, List.length_replicate, ncast, Nat.sub_zero, List.drop_zero, Cue.eta, Tie.eta, Edge.eta, Link.eta, Node.eta] at *)
  all_goals first
    | omega
    | (rw [allF_no (p := fun i x => x == b.getD i 0) (l := a) (i := i) (0 : Int) (by omega) (beq_eq_false_iff_ne.2 (by assumption))]; rfl)
    | (simp only [wrap_succ (show i < 9223372036854775807 by omega)]; exact ⟨(ih (by omega)).same rfl (by rw [allF_yes (p := fun i x => x == b.getD i 0) (l := a) (i := i) (0 : Int) (by omega) (beq_iff_eq.2 (by assumption))])⟩)
    | (rw [List.drop_eq_nil_of_le (by omega)]; rfl)
    | trace_state
theorem sameL_aux : ∀ (a c : List Int) (b : List Int) (k : Nat), c = b.drop k → a.length = c.length → (allF (fun i x => x == b.getD i 0) a k = decide (a = c))
  | [], [], _, _, _, _ => rfl
  | [], _ :: _, _, _, _, h => by simp at h
  | _ :: _, [], _, _, _, h => by simp at h
  | x :: r, y :: s, b, k, hc, hl => by
    have hk : k < b.length := by
      apply Decidable.byContradiction; intro h
      rw [List.drop_eq_nil_of_le (by omega)] at hc; cases hc
    rw [List.drop_eq_getElem_cons hk] at hc
    injection hc with h1 h2
    unfold allF
    rw [sameL_aux r s b (k + 1) h2 (by simpa using hl), List.getD_eq_getElem?_getD, List.getElem?_eq_getElem hk, Option.getD_some, ← h1]
    rw [Bool.eq_iff_iff]; simp
theorem sameL_eq (a b : List Int) : sameL a b = decide (a = b) := by
  unfold sameL
  by_cases h : a.length = b.length
  · rw [decide_eq_true h, Bool.true_and, sameL_aux a b b 0 rfl h]
  · rw [decide_eq_false h, Bool.false_and, decide_eq_false (fun e => h (by rw [e]))]
def wSameL (f : List Int → List Int → Bool) : Wr := w2 dcIs dcIs (fun a b => rB (f a b)) (fun a b => [LLe a maxLen, LLe b maxLen])
theorem wSameS_ok : WrOK Try.prog 79 (wSameL sameL) := w2_ok fun a b h => l08Same_ok a b (h _ (.head _)).out (h _ (.tail _ (.head _))).out
theorem wSameI_ok : WrOK Try.prog 83 (wSameL sameL) := w2_ok fun a b h => equalI_ok a b (h _ (.head _)).out (h _ (.tail _ (.head _))).out
structure NdOk (q : Node) : Prop where
  name : q.name.size ≤ maxLen
  len : q.label.length ≤ maxLen
  all : ∀ n ∈ q.label, inI n
def wNodeOk (f : Node → Bool) : Wr := w1 dcNode (fun q => rB (f q)) (fun q => [NdOk q])
theorem wNodeOkS_ok : WrOK Try.prog 75 (wNodeOk nodeB) := w1_ok fun q h => specNodeOk_ok q (h _ (.head _)).name (h _ (.head _)).len (h _ (.head _)).all
theorem wNodeOkI_ok : WrOK Try.prog 80 (wNodeOk nodeB) := w1_ok fun q h => implNodeOk_ok q (h _ (.head _)).name (h _ (.head _)).len (h _ (.head _)).all
end Go.Proofs.Ytececadpjelanaa.Ai
