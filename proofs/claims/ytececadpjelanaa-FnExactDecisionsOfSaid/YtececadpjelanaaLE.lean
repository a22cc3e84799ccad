/- Who watches a proposition. -/
import Derived.Test.YtececadpjelanaaTy
import Derived.Test.YtececadpjelanaaLD
namespace Go.Proofs.Ytececadpjelanaa.Ai
open Go
set_option maxRecDepth 100000
set_option linter.unusedVariables false
set_option linter.unusedSimpArgs false
structure IPos0 (p : Int) : Prop where out : 0 < p
def watI (l : List Node) (p : Int) : Int := idxF (fun q => q.watch == p) l 0
theorem specWatcher_ok (t : Show) (p : Int) (h1 : t.nodes.length ≤ maxLen) : SCall Try.prog 45 [aShow t, aI p] (rI (watI t.nodes p)) := by
  refine SCall.of X45_ok (fn := Try.f45) (c := Try.f45.body.getD .skip) (dr := fun n => look 0 [] n) Try.func45 rfl (by kernel_rfl) (by kernel_rfl) (by kernel_rfl) ?_
  obtain ⟨cs, ps, hr⟩ := t
  have h1 : cs.length ≤ maxLen := h1
  unfold maxLen at h1
  show SEx _ _ _ _ _ _ (rI (idxF _ cs 0))
  refine SEx.go (X := X45) X45_ok (fun n => look [] [(2, [1, 8, 9, 10])] n) (fun _ => none) oraL_nil 60 ?_
  intro M R L N hM hAnd hImp hR hL hN
  cases M
  cbv
  repeat' first | (refine hAnd _ _ ?_ ?_) | (refine hImp _ _ (fun h => ?_)) | (refine hR _ ?_) | (refine hL _ _ (Hd.out ?_); generalize hks : (List.cons _ _ : List K) = ks) | (refine hN _ _ ?_; cbv)
  all_goals (clear hAnd hImp hR hL hN)
  all_goals (cases hM; try dsimp only)
  all_goals (try simp only [Bool.not_eq_true', Bool.not_eq_false', decide_eq_true_eq, decide_eq_false_iff_not, Int.not_le, Int.not_lt, beq_iff_eq, beq_eq_false_iff_ne, ne_eq, Int.ofNat_eq_natCast, Int.toNat_natCast, List.length_replicate, ncast, Nat.sub_zero, List.drop_zero, Cue.eta, Tie.eta, Edge.eta, Link.eta, Node.eta] at *)
  obtain ⟨n, hn⟩ : ∃ n, n = cs.length := ⟨_, rfl⟩
  refine ⟨SEx.same (SEx.idx n (fun i => ⟨21, [(1, bI p), (8, bL (.node false none cs)), (9, bI n), (10, bI i)], []⟩) (fun i => rI (idxF (fun q => q.watch == p) (cs.drop i) i)) ?_) (by rw [hn]; rfl) rfl⟩
  intro i hi ih
  rw [← hks]
  refine SEx.go (X := X45) X45_ok (fun n => look [] [(2, [1, 8, 9, 10])] n) (fun _ => none) oraL_nil 60 ?_
  intro M R L N hM hAnd hImp hR hL hN
  cases M
  cbv
  repeat' first | (refine hAnd _ _ ?_ ?_) | (refine hImp _ _ (fun h => ?_)) | (refine hR _ ?_) | (refine hL _ _ (Hd.out ?_); try first | rw [hks] | rw [hk2] | rw [hk3]) | (refine hN _ _ ?_; cbv)
  all_goals (clear hAnd hImp hR hL hN; try clear hks; try clear hk2; try clear hk3)
  all_goals (cases hM; try dsimp only)
  all_goals (try simp only [Bool.not_eq_true', Bool.not_eq_false', decide_eq_true_eq, decide_eq_false_iff_not, Int.not_le, Int.not_lt, beq_iff_eq, beq_eq_false_iff_ne, ne_eq, Int.ofNat_eq_natCast, Int.toNat_natCast, List.length_replicate, ncast, Nat.sub_zero, List.drop_zero, Cue.eta, Tie.eta, Edge.eta, Link.eta, Node.eta] at *)
  all_goals first
    | omega
    | exact ⟨rfl, by cases caps <;> rfl⟩
    | exact ⟨rfl, rfl⟩
    | exact mem_getD (z := Node.z) (by omega)
    | (rw [idxF_yes (p := fun q => q.watch == p) (l := cs) (i := i) Node.z (by omega) (by first | assumption | exact beq_iff_eq.2 (by assumption))]; rfl)
    | (rw [idxF_end (by omega)]; rfl)
    | (simp only [wrap_succ (show i < 9223372036854775807 by omega)]; exact ⟨(ih (by omega)).same rfl (by rw [idxF_no (p := fun q => q.watch == p) (l := cs) (i := i) Node.z (by omega) (by first | assumption | exact beq_eq_false_iff_ne.2 (by assumption) | (simp_all; done))])⟩)
  all_goals trace_state
def dcFI (k : Nat) : Dc Int := ⟨fun s => aF k [.ptr [.int .i64 s]], fun | (false, [.fn f [.ptr [.int .i64 s]]]) => (match nq f k with | true => some s | false => none) | _ => none, by
  intro x a h
  split at h
  · split at h
    · rename_i hk
      obtain rfl := nq_iff.1 hk
      simp only [Option.some.injEq] at h; subst h; rfl
    · cases h
  · cases h⟩
theorem implWatcher1_ok (q : Node) (p : Int) (hp : 0 < p) : SCall Try.prog 91 [aNode q, (false, [.ptr [.int .i64 p]])] (rB (q.watch == p)) := by
  refine SCall.of X91_ok (fn := Try.f91) (c := Try.f91.body.getD .skip) (dr := fun n => look 0 [] n) Try.func91 rfl (by kernel_rfl) (by kernel_rfl) (by kernel_rfl) ?_
  obtain ⟨x1, x2, x3⟩ := q
  refine SEx.go (X := X91) X91_ok (fun n => look [] [] n) (fun _ => none) oraL_nil 60 ?_
  intro M R L N hM hAnd hImp hR hL hN
  cases M
  cbv
  repeat' first | (refine hAnd _ _ ?_ ?_) | (refine hImp _ _ (fun h => ?_)) | (refine hR _ ?_) | (refine hL _ _ (Hd.out ?_); try first | rw [hks] | rw [hk2] | rw [hk3]) | (refine hN _ _ ?_; cbv)
  all_goals (clear hAnd hImp hR hL hN; try clear hks; try clear hk2; try clear hk3)
  all_goals (cases hM; try dsimp only)
  all_goals (try simp only [Bool.not_eq_true', Bool.not_eq_false', decide_eq_true_eq, decide_eq_false_iff_not, Int.not_le, Int.not_lt, beq_iff_eq, beq_eq_false_iff_ne, ne_eq, Int.ofNat_eq_natCast, Int.toNat_natCast, List.length_replicate, ncast, Nat.sub_zero, List.drop_zero, Cue.eta, Tie.eta, Edge.eta, Link.eta, Node.eta] at *)
  all_goals first
    | rfl
    | (exfalso; omega)
    | trace_state
theorem implWatcher_ok (t : Show) (p : Int) (h1 : t.nodes.length ≤ maxLen) (hp : 0 < p) : SCall Try.prog 71 [aShow t, aI p] (rI (watI t.nodes p)) := by
  refine SCall.of X71_ok (fn := Try.f71) (c := Try.f71.body.getD .skip) (dr := fun n => look 0 [] n) Try.func71 rfl (by kernel_rfl) (by kernel_rfl) (by kernel_rfl) ?_
  obtain ⟨f, hf⟩ : ∃ f, f = watI := ⟨_, rfl⟩
  have hO : SOraOK Try.prog (oraL [(90, w2 dcNodes (dcFI 91) (fun l s => rI (f l s)) (fun l s => [LLe l maxLen, IPos0 s]))]) := by
    subst hf
    exact oraL_cons (w2_ok fun l s h => idxFuncNode_ok l _ _ _ (fun q _ => implWatcher1_ok q s (h _ (.tail _ (.head _))).out) (h _ (.head _)).out) oraL_nil
  obtain ⟨cs, ps, hr⟩ := t
  have h1 : cs.length ≤ maxLen := h1
  refine SEx.go (X := X71) X71_ok (fun n => look [] [] n) (fun _ => none) hO 60 ?_
  intro M R L N hM hAnd hImp hR hL hN
  cases M
  cbv
  repeat' first | (refine hAnd _ _ ?_ ?_) | (refine hImp _ _ (fun h => ?_)) | (refine hR _ ?_) | (refine hL _ _ (Hd.out ?_); try first | rw [hks] | rw [hk2] | rw [hk3]) | (refine hN _ _ ?_; cbv)
  all_goals (clear hAnd hImp hR hL hN; try clear hks; try clear hk2; try clear hk3)
  all_goals (cases hM; try dsimp only)
  all_goals (try simp only [Bool.not_eq_true', Bool.not_eq_false', decide_eq_true_eq, decide_eq_false_iff_not, Int.not_le, Int.not_lt, beq_iff_eq, beq_eq_false_iff_ne, ne_eq, Int.ofNat_eq_natCast, Int.toNat_natCast, List.length_replicate, ncast, Nat.sub_zero, List.drop_zero, Cue.eta, Tie.eta, Edge.eta, Link.eta, Node.eta] at *)
  all_goals first
    | exact ⟨h1⟩
    | exact ⟨hp⟩
    | (subst hf; rfl)
    | trace_state
def wWatcher (f : List Node → Int → Int) : Wr := w2 dcShow dcI (fun t p => rI (f t.nodes p)) (fun t p => [LLe t.nodes maxLen, IPos0 p])
theorem wWatcherI_ok : WrOK Try.prog 71 (wWatcher watI) := w2_ok fun t p h => implWatcher_ok t p (h _ (.head _)).out (h _ (.tail _ (.head _))).out
end Go.Proofs.Ytececadpjelanaa.Ai
