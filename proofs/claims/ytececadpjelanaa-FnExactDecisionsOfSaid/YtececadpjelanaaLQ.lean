/- Moments. -/
import Derived.Test.YtececadpjelanaaTy
import Derived.Test.YtececadpjelanaaLP
namespace Go.Proofs.Ytececadpjelanaa.Ai
open Go
set_option maxRecDepth 100000
set_option linter.unusedVariables false
set_option linter.unusedSimpArgs false
theorem specCopy_ok (x : State) (h1 : x.times.length ≤ 1048576) (h2 : x.vals.length ≤ 1048576) : SCall Try.prog 59 [aState x] (rState x) := by
  refine SCall.of X59_ok (fn := Try.f59) (c := Try.f59.body.getD .skip) (dr := fun n => look 0 [(1, 10)] n) Try.func59 rfl (by kernel_rfl) (by kernel_rfl) (by kernel_rfl) ?_
  obtain ⟨now, times, vals⟩ := x
  dsimp only at h1 h2
  refine SEx.go (X := X59) X59_ok (fun n => look [] [] n) (fun _ => none) oraL_nil 60 ?_
  intro M R L N hM hAnd hImp hR hL hN
  cases M
  cbv
  repeat' first | (refine hAnd _ _ ?_ ?_) | (refine hImp _ _ (fun h => ?_)) | (refine hR _ ?_) | (refine hL _ _ (Hd.out ?_); try first | rw [hks] | rw [hk2] | rw [hk3]) | (refine hN _ _ ?_; cbv)
  all_goals (clear hAnd hImp hR hL hN; try clear hks; try clear hk2; try clear hk3)
  all_goals (cases hM; try dsimp only)
  all_goals (try simp only [Bool.not_eq_true', Bool.not_eq_false', decide_eq_true_eq, decide_eq_false_iff_not, Int.not_le, Int.not_lt, beq_iff_eq, beq_eq_false_iff_ne, ne_eq, Int.ofNat_eq_natCast, Int.toNat_natCast, List.length_replicate, ncast, Nat.sub_zero, List.drop_zero, Cue.eta, Tie.eta, Edge.eta, Link.eta, Node.eta] at *)
  all_goals first
    | (have := lim_ge; omega)
    | rfl
structure StSz (x : State) : Prop where
  tlen : x.times.length ≤ 1048576
  vlen : x.vals.length ≤ 1048576
def wSpecCopy : Wr := w1 dcState rState (fun x => [StSz x])
theorem wSpecCopy_ok : WrOK Try.prog 59 wSpecCopy := w1_ok fun x h => specCopy_ok x (h _ (.head _)).tlen (h _ (.head _)).vlen
def clampI (n : Int) : Int := max (-1000000) (min n 1000000)
theorem clamp_ok (n : Int) : SCall Try.prog 60 [aI n] (rI (clampI n)) := by
  refine SCall.of X60_ok (fn := Try.f60) (c := Try.f60.body.getD .skip) (dr := fun n => look 0 [] n) Try.func60 rfl (by kernel_rfl) (by kernel_rfl) (by kernel_rfl) ?_
  refine SEx.go (X := X60) X60_ok (fun n => look [] [] n) (fun _ => none) oraL_nil 60 ?_
  intro M R L N hM hAnd hImp hR hL hN
  cases M
  cbv
  repeat' first | (refine hAnd _ _ ?_ ?_) | (refine hImp _ _ (fun h => ?_)) | (refine hR _ ?_) | (refine hL _ _ (Hd.out ?_); try first | rw [hks] | rw [hk2] | rw [hk3]) | (refine hN _ _ ?_; cbv)
  all_goals (clear hAnd hImp hR hL hN; try clear hks; try clear hk2; try clear hk3)
  all_goals (cases hM; try dsimp only)
  all_goals (try simp only [Bool.not_eq_true', Bool.not_eq_false', decide_eq_true_eq, decide_eq_false_iff_not, Int.not_le, Int.not_lt, beq_iff_eq, beq_eq_false_iff_ne, ne_eq, Int.ofNat_eq_natCast, Int.toNat_natCast, List.length_replicate, ncast, Nat.sub_zero, List.drop_zero, Cue.eta, Tie.eta, Edge.eta, Link.eta, Node.eta] at *)
  all_goals simp only [er_I, clampI]
  all_goals (try rw [Int.max_def, Int.min_def])
  all_goals (repeat' split)
  all_goals omega
def wClamp (f : Int → Int) : Wr := w1 dcI (fun n => rI (f n)) (fun _ => [])
theorem wClamp_ok : WrOK Try.prog 60 (wClamp clampI) := w1_ok fun n _ => clamp_ok n
def momB (t : Show) (x : State) : Bool := showB t && (decide (0 ≤ x.now) && (decide (x.now ≤ t.hor) && stateB t ⟨x.now + 1, x.times, x.vals⟩))
theorem specMoment_ok (t : Show) (x : State) (hs : StLe t x) (hz : StSz x) : SCall Try.prog 37 [aShow t, aState x] (rB (momB t x)) := by
  refine SCall.of X37_ok (fn := Try.f37) (c := Try.f37.body.getD .skip) (dr := fun n => look 0 [] n) Try.func37 rfl (by kernel_rfl) (by kernel_rfl) (by kernel_rfl) ?_
  obtain ⟨f, hf⟩ : ∃ f, f = showB := ⟨_, rfl⟩
  obtain ⟨g, hg⟩ : ∃ f, f = stOkB := ⟨_, rfl⟩
  obtain ⟨k, hk⟩ : ∃ f, f = l01InB := ⟨_, rfl⟩
  have hO : SOraOK Try.prog (oraL [(43, wL01 k), (42, wShowOk f), (59, wSpecCopy), (26, wStateOk g)]) := by subst hf hg hk; exact oraL_cons wL01_ok (oraL_cons wShowOkS_ok (oraL_cons wSpecCopy_ok (oraL_cons wStateOkS_ok oraL_nil)))
  have h1 := hs.sh
  have h2 := hs.st
  have h4 := h2.now
  rw [inI_iff] at h4
  obtain ⟨r, hr⟩ : ∃ r, r = momB t x := ⟨_, rfl⟩
  rw [← hr]
  have hsh : f t = true → 1 ≤ t.hor ∧ t.hor ≤ 10 := fun h => by rw [hf] at h; exact showB_hor h
  have hk0 : k x.now 0 10 = (decide (0 ≤ x.now) && decide (x.now ≤ 10)) := by rw [hk]; rfl
  have hr1 : f t = true → ¬ (0 ≤ x.now ∧ x.now ≤ t.hor) → r = false := fun h h' => by
    rw [hr]; unfold momB
    by_cases h0 : 0 ≤ x.now
    · rw [decide_eq_false (show ¬ x.now ≤ t.hor by omega)]; simp
    · rw [decide_eq_false h0]; simp
  have hr2 : f t = false → r = false := fun h => by rw [hr]; unfold momB; rw [← hf, h]; rfl
  have hr0 : ¬ (0 ≤ x.now ∧ x.now ≤ 10) → r = false := fun h => by
    cases h5 : f t with
    | true => have := hsh h5; exact hr1 h5 (by omega)
    | false => exact hr2 h5
  have hr3 : f t = true → 0 ≤ x.now → x.now ≤ t.hor → r = g t ⟨x.now + 1, x.times, x.vals⟩ := fun h h5 h6 => by
    rw [hr]; unfold momB; rw [hg, decide_eq_true h5, decide_eq_true h6]; unfold stOkB; rw [← hf, h]; rfl
  clear hr hf hg hk hs
  obtain ⟨ns, ts, hr⟩ := t
  obtain ⟨now, times, vals⟩ := x
  dsimp only at hr1 hr3 hr0 hk0 hsh h4
  refine SEx.go (X := X37) X37_ok (fun n => look [] [] n) (fun _ => none) hO 60 ?_
  intro M R L N hM hAnd hImp hR hL hN
  cases M
  cbv
  repeat' first | (refine hAnd _ _ ?_ ?_) | (refine hImp _ _ (fun h => ?_)) | (refine hR _ ?_) | (refine hL _ _ (Hd.out ?_); try first | rw [hks] | rw [hk2] | rw [hk3]) | (refine hN _ _ ?_; cbv)
  all_goals (clear hAnd hImp hR hL hN; try clear hks; try clear hk2; try clear hk3)
  all_goals (cases hM; try dsimp only)
  all_goals (try simp only [Bool.not_eq_true', Bool.not_eq_false', decide_eq_true_eq, decide_eq_false_iff_not, Int.not_le, Int.not_lt, beq_iff_eq, beq_eq_false_iff_ne, ne_eq, Int.ofNat_eq_natCast, Int.toNat_natCast, List.length_replicate, ncast, Nat.sub_zero, List.drop_zero, Cue.eta, Tie.eta, Edge.eta, Link.eta, Node.eta] at *)
  all_goals (try rw [hk0] at *)
  all_goals (try simp only [Bool.and_eq_true, Bool.and_eq_false_iff, decide_eq_true_eq, decide_eq_false_iff_not] at *)
  all_goals first
    | exact h1
    | exact hz
    | (rw [wrap_i64 (by omega) (by omega)]; exact ⟨by rw [inI_iff]; dsimp only; omega, h2.tlen, h2.vlen⟩)
    | (refine er_via ?_ _; rw [hr0 (by omega)]; done)
    | (refine er_via ?_ _; rw [hr2 (by assumption)]; done)
    | (refine er_via ?_ _; rw [hr1 (by assumption) (by omega)]; done)
    | (rw [wrap_i64 (by omega) (by omega)]; refine er_via ?_ _; rw [hr3 (by assumption) (by omega) (by assumption)]; done)
    | skip
theorem implMoment_ok (t : Show) (x : State) (hs : StLe t x) : SCall Try.prog 39 [aShow t, aState x] (rB (momB t x)) := by
  refine SCall.of X39_ok (fn := Try.f39) (c := Try.f39.body.getD .skip) (dr := fun n => look 0 [] n) Try.func39 rfl (by kernel_rfl) (by kernel_rfl) (by kernel_rfl) ?_
  obtain ⟨f, hf⟩ : ∃ f, f = showB := ⟨_, rfl⟩
  obtain ⟨g, hg⟩ : ∃ f, f = stateB := ⟨_, rfl⟩
  obtain ⟨k, hk⟩ : ∃ f, f = clampI := ⟨_, rfl⟩
  have hO : SOraOK Try.prog (oraL [(60, wClamp k), (50, wShowOk f), (51, wIsState g)]) := by subst hf hg hk; exact oraL_cons wClamp_ok (oraL_cons wShowOkI_ok (oraL_cons wIsState_ok oraL_nil))
  have h1 := hs.sh
  have h2 := hs.st
  have h4 := h2.now
  rw [inI_iff] at h4
  obtain ⟨r, hr⟩ : ∃ r, r = momB t x := ⟨_, rfl⟩
  rw [← hr]
  have hsh : f t = true → showB t = true ∧ 1 ≤ t.hor ∧ t.hor ≤ 10 := fun h => by rw [hf] at h; exact ⟨h, showB_hor h⟩
  have hc : f t = true → 0 ≤ x.now → x.now ≤ t.hor → IntKind.i64.wrap (k x.now + 1) = x.now + 1 := fun h h5 h6 => by
    have := hsh h
    rw [hk, show clampI x.now = x.now by unfold clampI; omega]
    exact wrap_i64 (by omega) (by omega)
  have hr0 : f t = false → r = false := fun h => by rw [hr]; unfold momB; rw [← hf, h]; rfl
  have hr1 : x.now < 0 → r = false := fun h => by rw [hr]; unfold momB; rw [decide_eq_false (show ¬ 0 ≤ x.now by omega)]; simp
  have hr2 : t.hor < x.now → r = false := fun h => by rw [hr]; unfold momB; rw [decide_eq_false (show ¬ x.now ≤ t.hor by omega)]; simp
  have hr3 : f t = true → 0 ≤ x.now → x.now ≤ t.hor → r = g t ⟨IntKind.i64.wrap (k x.now + 1), x.times, x.vals⟩ := fun h h5 h6 => by
    rw [hc h h5 h6, hr]; unfold momB; rw [hg, decide_eq_true h5, decide_eq_true h6, ← hf, h]; rfl
  have hle : f t = true → 0 ≤ x.now → x.now ≤ t.hor → StateLe ⟨IntKind.i64.wrap (k x.now + 1), x.times, x.vals⟩ := fun h h5 h6 => by
    have := hsh h
    rw [hc h h5 h6]
    exact ⟨by rw [inI_iff]; dsimp only; omega, h2.tlen, h2.vlen⟩
  clear hr hf hg hk hs hc
  obtain ⟨ns, ts, hr⟩ := t
  obtain ⟨now, times, vals⟩ := x
  dsimp only at hr1 hr2 hr3 hle hsh h4
  refine SEx.go (X := X39) X39_ok (fun n => look [] [] n) (fun _ => none) hO 60 ?_
  intro M R L N hM hAnd hImp hR hL hN
  cases M
  cbv
  repeat' first | (refine hAnd _ _ ?_ ?_) | (refine hImp _ _ (fun h => ?_)) | (refine hR _ ?_) | (refine hL _ _ (Hd.out ?_); try first | rw [hks] | rw [hk2] | rw [hk3]) | (refine hN _ _ ?_; cbv)
  all_goals (clear hAnd hImp hR hL hN; try clear hks; try clear hk2; try clear hk3)
  all_goals (cases hM; try dsimp only)
  all_goals (try simp only [Bool.not_eq_true', Bool.not_eq_false', decide_eq_true_eq, decide_eq_false_iff_not, Int.not_le, Int.not_lt, beq_iff_eq, beq_eq_false_iff_ne, ne_eq, Int.ofNat_eq_natCast, Int.toNat_natCast, List.length_replicate, ncast, Nat.sub_zero, List.drop_zero, Cue.eta, Tie.eta, Edge.eta, Link.eta, Node.eta] at *)
  all_goals first
    | exact h1
    | exact ⟨(hsh (by assumption)).1⟩
    | exact hle (by assumption) (by assumption) (by assumption)
    | (refine er_via ?_ _; rw [hr0 (by assumption)]; done)
    | (refine er_via ?_ _; rw [hr1 (by assumption)]; done)
    | (refine er_via ?_ _; rw [hr2 (by assumption)]; done)
    | (refine er_via ?_ _; rw [hr3 (by assumption) (by assumption) (by assumption)]; done)
    | skip
def wMomS (f : Show → State → Bool) : Wr := w2 dcShow dcState (fun t x => rB (f t x)) (fun t x => [StLe t x, StSz x])
theorem wMomS_ok : WrOK Try.prog 37 (wMomS momB) := w2_ok fun t x h => specMoment_ok t x (h _ (.head _)) (h _ (.tail _ (.head _)))
def wMomI (f : Show → State → Bool) : Wr := w2 dcShow dcState (fun t x => rB (f t x)) (fun t x => [StLe t x])
theorem wMomI_ok : WrOK Try.prog 39 (wMomI momB) := w2_ok fun t x h => implMoment_ok t x (h _ (.head _))
end Go.Proofs.Ytececadpjelanaa.Ai
