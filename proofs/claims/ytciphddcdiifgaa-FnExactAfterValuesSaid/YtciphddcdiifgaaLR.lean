/- Observed values. -/
import Derived.Test.YtciphddcdiifgaaTy
import Derived.Test.YtciphddcdiifgaaU
import Derived.Test.YtciphddcdiifgaaLQ
namespace Go.Proofs.Ytciphddcdiifgaa.Ai
open Go
set_option maxRecDepth 100000
set_option linter.unusedVariables false
set_option linter.unusedSimpArgs false
def obsL (v ps vs : List Int) : Nat → List Int
  | 0 => v
  | i + 1 => (obsL v ps vs i).set (ps.getD i 0 - 1).toNat (vs.getD i 0)
theorem obsL_len (v ps vs : List Int) : ∀ i, (obsL v ps vs i).length = v.length
  | 0 => rfl
  | i + 1 => by simp only [obsL, List.length_set, obsL_len v ps vs i]
theorem obsL_in {v ps vs : List Int} (hv : ∀ x ∈ v, inI x) (hs : ∀ x ∈ vs, inI x) : ∀ i, i ≤ vs.length → ∀ x ∈ obsL v ps vs i, inI x
  | 0, _, x, h => hv x h
  | i + 1, hi, x, h => by
    simp only [obsL] at h
    rcases List.mem_or_eq_of_mem_set h with h | rfl
    · exact obsL_in hv hs i (by omega) x h
    · exact hs _ (mem_getD (z := (0 : Int)) (by omega)).out
structure PrT (ps : List Int) : Prop where out : ∀ p ∈ ps, 1 ≤ p ∧ p ≤ 3
def obsS (x : State) (ps vs : List Int) : State := ⟨IntKind.i64.wrap (x.now + 1), x.times, obsL x.vals ps vs ps.length⟩
theorem specValues_ok (x : State) (ps vs : List Int) (hz : StSz x) (h3 : x.vals.length = 3) (hl : vs.length = ps.length) (h1 : ps.length ≤ 1048576) (hp : ∀ p ∈ ps, 1 ≤ p ∧ p ≤ 3) : SCall Try.prog 63 [aState x, aIs ps, aIs vs] (rState (obsS x ps vs)) := by
  refine SCall.of X63_ok (fn := Try.f63) (c := Try.f63.body.getD .skip) (dr := fun n => look 0 [(5, 8)] n) Try.func63 rfl (by kernel_rfl) (by kernel_rfl) (by kernel_rfl) ?_
  have hO : SOraOK Try.prog (oraL [(42, wSpecCopy)]) := oraL_cons wSpecCopy_ok oraL_nil
  obtain ⟨now, times, vals⟩ := x
  dsimp only at h3
  refine SEx.go (X := X63) X63_ok (fun n => look [] [(3, [2, 6, 7, 12, 13, 14])] n) (fun _ => none) hO 60 ?_
  intro M R L N hM hAnd hImp hR hL hN
  cases M
  cbv
  repeat' first | (refine hAnd _ _ ?_ ?_) | (refine hImp _ _ (fun h => ?_)) | (refine hR _ ?_) | (refine hL _ _ (Hd.out ?_); generalize hks : (List.cons _ _ : List K) = ks) | (refine hN _ _ ?_; cbv)
  all_goals (clear hAnd hImp hR hL hN)
  all_goals (cases hM; try dsimp only)
  all_goals (try simp only [Bool.not_eq_true', Bool.not_eq_false', decide_eq_true_eq, decide_eq_false_iff_not, Int.not_le, Int.not_lt, beq_iff_eq, beq_eq_false_iff_ne, ne_eq, Int.ofNat_eq_natCast, Int.toNat_natCast, List.length_replicate, ncast, Nat.sub_zero, List.drop_zero, Cue.eta, Tie.eta, Edge.eta, Link.eta, Node.eta] at *)
  all_goals first
    | exact hz
    | skip
  obtain ⟨m, hm⟩ : ∃ m, m = ps.length := ⟨_, rfl⟩
  refine ⟨SEx.same (SEx.idx m (fun i => ⟨34, [(2, bL (.i vs)), (6, bP 24576), (7, bP 28672), (12, bL (.i ps)), (13, bI m), (14, bI i)], [(24576, .obx [.fz (.int .i64 0), .onil, .onil]), (28672, .obx [.fz (.int .i64 now), .osl (.i times), .osl (.i (obsL vals ps vs i))])]⟩) (fun _ => rState (obsS ⟨now, times, vals⟩ ps vs)) ?_) (by rw [hm]; rfl) rfl⟩
  intro i hi ih
  rw [← hks]
  obtain ⟨c, hc⟩ : ∃ c, c = obsL vals ps vs i := ⟨_, rfl⟩
  have hcl : c.length = 3 := by rw [hc, obsL_len, h3]
  have hpi : i < m → 1 ≤ ps.getD i 0 ∧ ps.getD i 0 ≤ 3 := fun h => hp _ (mem_getD (z := (0 : Int)) (by omega)).out
  have hw : i < m → IntKind.i64.wrap (ps.getD i 0 - 1) = ps.getD i 0 - 1 := fun h => by have := hpi h; exact wrap_i64 (by omega) (by omega)
  rw [← hc]
  refine SEx.go (X := X63) X63_ok (fun n => look [] [(3, [2, 6, 7, 12, 13, 14])] n) (fun _ => none) hO 60 ?_
  intro M R L N hM hAnd hImp hR hL hN
  cases M
  cbv
  repeat' first | (refine hAnd _ _ ?_ ?_) | (refine hImp _ _ (fun h => ?_)) | (refine hR _ ?_) | (refine hL _ _ (Hd.out ?_); try first | rw [hks] | rw [hk2] | rw [hk3]) | (refine hN _ _ ?_; cbv)
  all_goals (clear hAnd hImp hR hL hN; try clear hks; try clear hk2; try clear hk3)
  all_goals (cases hM; try dsimp only)
  all_goals (try simp only [Bool.not_eq_true', Bool.not_eq_false', decide_eq_true_eq, decide_eq_false_iff_not, Int.not_le, Int.not_lt, beq_iff_eq, beq_eq_false_iff_ne, ne_eq, Int.ofNat_eq_natCast, Int.toNat_natCast, List.length_replicate, ncast, Nat.sub_zero, List.drop_zero, Cue.eta, Tie.eta, Edge.eta, Link.eta, Node.eta] at *)
  all_goals (try (have h8 := hpi (by omega)))
  all_goals (try rw [hw (by omega)] at *)
  all_goals (try simp only [wrap_succ (show i < 9223372036854775807 by omega)])
  all_goals first
    | omega
    | (refine ⟨(ih (by omega)).same ?_ rfl⟩; show _ = _; rw [show obsL vals ps vs (i + 1) = c.set (ps.getD i 0 - 1).toNat (vs.getD i 0) by rw [hc]; rfl]; rfl)
    | (obtain rfl : i = m := by omega
       unfold obsS
       rw [← hm, hc]; rfl)
    | skip
theorem cloneI_ok (l : List Int) (h1 : l.length ≤ 1048576) : SCall Try.prog 116 [aIs l] (rIs l) := by
  refine SCall.of X116_ok (fn := Try.f116) (c := Try.f116.body.getD .skip) (dr := fun n => look 0 [] n) Try.func116 rfl (by kernel_rfl) (by kernel_rfl) (by kernel_rfl) ?_
  refine SEx.go (X := X116) X116_ok (fun n => look [] [] n) (fun _ => none) oraL_nil 60 ?_
  intro M R L N hM hAnd hImp hR hL hN
  cases M
  cbv
  repeat' first | (refine hAnd _ _ ?_ ?_) | (refine hImp _ _ (fun h => ?_)) | (refine hR _ ?_) | (refine hL _ _ (Hd.out ?_); try first | rw [hks] | rw [hk2] | rw [hk3]) | (refine hN _ _ ?_; cbv)
  all_goals (clear hAnd hImp hR hL hN; try clear hks; try clear hk2; try clear hk3)
  all_goals (cases hM; try dsimp only)
  all_goals (try simp only [Bool.not_eq_true', Bool.not_eq_false', decide_eq_true_eq, decide_eq_false_iff_not, Int.not_le, Int.not_lt, beq_iff_eq, beq_eq_false_iff_ne, ne_eq, Int.ofNat_eq_natCast, Int.toNat_natCast, List.length_replicate, ncast, Nat.sub_zero, List.drop_zero, Cue.eta, Tie.eta, Edge.eta, Link.eta, Node.eta] at *)
  all_goals first
    | (have := lim_ge; omega)
    | (have hl : l = [] := List.eq_nil_of_length_eq_zero (by omega)
       subst hl; rfl)
    | rfl
end Go.Proofs.Ytciphddcdiifgaa.Ai
