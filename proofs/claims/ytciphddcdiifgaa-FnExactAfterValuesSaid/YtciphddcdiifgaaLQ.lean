/- Moments. -/
import Derived.Test.YtciphddcdiifgaaTy
import Derived.Test.YtciphddcdiifgaaU
import Derived.Test.YtciphddcdiifgaaOB
import Derived.Test.YtciphddcdiifgaaTB
import Derived.Test.YtciphddcdiifgaaTC
import Derived.Test.YtciphddcdiifgaaLI
import Derived.Test.YtciphddcdiifgaaLJ
import Derived.Test.YtciphddcdiifgaaLK
import Derived.Test.YtciphddcdiifgaaLM
import Derived.Test.YtciphddcdiifgaaLP
namespace Go.Proofs.Ytciphddcdiifgaa.Ai
open Go
set_option maxRecDepth 100000
set_option linter.unusedVariables false
set_option linter.unusedSimpArgs false
theorem specCopy_ok (x : State) (h1 : x.times.length ≤ 1048576) (h2 : x.vals.length ≤ 1048576) : SCall Try.prog 42 [aState x] (rState x) := by
  refine SCall.of X42_ok (fn := Try.f42) (c := Try.f42.body.getD .skip) (dr := fun n => look 0 [(1, 10)] n) Try.func42 rfl (by kernel_rfl) (by kernel_rfl) (by kernel_rfl) ?_
  obtain ⟨now, times, vals⟩ := x
  dsimp only at h1 h2
  refine SEx.go (X := X42) X42_ok (fun n => look [] [] n) (fun _ => none) oraL_nil 60 ?_
  intro M R L N hM hAnd hImp hR hL hN
  cases M
  cbv
  repeat' first | (refine hAnd _ _ ?_ ?_) | (refine hImp _ _ (fun h => ?_)) | (refine hR _ ?_) | (refine hL _ _ (Hd.out ?_); try first | rw [hks] | rw [hk2] | rw [hk3]) | (refine hN _ _ ?_; cbv)
  all_goals (clear hAnd hImp hR hL hN; try clear hks; try clear hk2; try clear hk3)
  all_goals (cases hM; try dsimp only)
  all_goals (try simp only [Bool.not_eq_true', Bool.not_eq_false', decide_eq_true_eq, decide_eq_false_iff_not, Int.not_le, Int.not_lt, beq_iff_eq, beq_eq_false_iff_ne, ne_eq, Int.ofNat_eq_natCast, Int.toNat_natCast, List.length_replicate, ncast, Nat.sub_zero, List.drop_zero, Cue.eta, Tie.eta, Edge.eta, Link.eta, Node.eta] at *)
  all_goals first
    | (have := lim_ge; omega)
    | rfl
structure StSz (x : State) : Prop where
  tlen : x.times.length ≤ 1048576
  vlen : x.vals.length ≤ 1048576
def wSpecCopy : Wr := w1 dcState rState (fun x => [StSz x])
theorem wSpecCopy_ok : WrOK Try.prog 42 wSpecCopy := w1_ok fun x h => specCopy_ok x (h _ (.head _)).tlen (h _ (.head _)).vlen
def clampI (n : Int) : Int := max (-1000000) (min n 1000000)
theorem clamp_ok (n : Int) : SCall Try.prog 46 [aI n] (rI (clampI n)) := by
  refine SCall.of X46_ok (fn := Try.f46) (c := Try.f46.body.getD .skip) (dr := fun n => look 0 [] n) Try.func46 rfl (by kernel_rfl) (by kernel_rfl) (by kernel_rfl) ?_
  refine SEx.go (X := X46) X46_ok (fun n => look [] [] n) (fun _ => none) oraL_nil 60 ?_
  intro M R L N hM hAnd hImp hR hL hN
  cases M
  cbv
  repeat' first | (refine hAnd _ _ ?_ ?_) | (refine hImp _ _ (fun h => ?_)) | (refine hR _ ?_) | (refine hL _ _ (Hd.out ?_); try first | rw [hks] | rw [hk2] | rw [hk3]) | (refine hN _ _ ?_; cbv)
  all_goals (clear hAnd hImp hR hL hN; try clear hks; try clear hk2; try clear hk3)
  all_goals (cases hM; try dsimp only)
  all_goals (try simp only [Bool.not_eq_true', Bool.not_eq_false', decide_eq_true_eq, decide_eq_false_iff_not, Int.not_le, Int.not_lt, beq_iff_eq, beq_eq_false_iff_ne, ne_eq, Int.ofNat_eq_natCast, Int.toNat_natCast, List.length_replicate, ncast, Nat.sub_zero, List.drop_zero, Cue.eta, Tie.eta, Edge.eta, Link.eta, Node.eta] at *)
  all_goals simp only [er_I, clampI]
  all_goals (try rw [Int.max_def, Int.min_def])
  all_goals (repeat' split)
  all_goals omega
def wClamp (f : Int → Int) : Wr := w1 dcI (fun n => rI (f n)) (fun _ => [])
theorem wClamp_ok : WrOK Try.prog 46 (wClamp clampI) := w1_ok fun n _ => clamp_ok n
def momB (t : Show) (x : State) : Bool := showB t && (decide (0 ≤ x.now) && (decide (x.now ≤ t.hor) && stateB t ⟨x.now + 1, x.times, x.vals⟩))
theorem specMoment_ok (t : Show) (x : State) (hs : StLe t x) (hz : StSz x) : SCall Try.prog 11 [aShow t, aState x] (rB (momB t x)) := by
  refine SCall.of X11_ok (fn := Try.f11) (c := Try.f11.body.getD .skip) (dr := fun n => look 0 [] n) Try.func11 rfl (by kernel_rfl) (by kernel_rfl) (by kernel_rfl) ?_
  obtain ⟨f, hf⟩ : ∃ f, f = showB := ⟨_, rfl⟩
  obtain ⟨g, hg⟩ : ∃ f, f = stOkB := ⟨_, rfl⟩
  obtain ⟨k, hk⟩ : ∃ f, f = l01InB := ⟨_, rfl⟩
  have hO : SOraOK Try.prog (oraL [(40, wL01 k), (41, wShowOk f), (42, wSpecCopy), (43, wStateOk g)]) := by subst hf hg hk; exact oraL_cons wL01_ok (oraL_cons wShowOkS_ok (oraL_cons wSpecCopy_ok (oraL_cons wStateOkS_ok oraL_nil)))
  have h1 := hs.sh
  have h2 := hs.st
  have h4 := h2.now
  rw [inI_iff] at h4
  obtain ⟨r, hr⟩ : ∃ r, r = momB t x := ⟨_, rfl⟩
  rw [← hr]
  have hsh : f t = true → 1 ≤ t.hor ∧ t.hor ≤ 10 := fun h => by rw [hf] at h; exact showB_hor h
  have hk0 : k x.now 0 10 = (decide (0 ≤ x.now) && decide (x.now ≤ 10)) := by rw [hk]; rfl
  have hr1 : f t = true → ¬ (0 ≤ x.now ∧ x.now ≤ t.hor) → r = false := fun h h' => by
    rw [hr]; unfold momB
    by_cases h0 : 0 ≤ x.now
    · rw [decide_eq_false (show ¬ x.now ≤ t.hor by omega)]; simp
    · rw [decide_eq_false h0]; simp
  have hr2 : f t = false → r = false := fun h => by rw [hr]; unfold momB; rw [← hf, h]; rfl
  have hr0 : ¬ (0 ≤ x.now ∧ x.now ≤ 10) → r = false := fun h => by
    cases h5 : f t with
    | true => have := hsh h5; exact hr1 h5 (by omega)
    | false => exact hr2 h5
  have hr3 : f t = true → 0 ≤ x.now → x.now ≤ t.hor → r = g t ⟨x.now + 1, x.times, x.vals⟩ := fun h h5 h6 => by
    rw [hr]; unfold momB; rw [hg, decide_eq_true h5, decide_eq_true h6]; unfold stOkB; rw [← hf, h]; rfl
  clear hr hf hg hk hs
  obtain ⟨ns, ts, hr⟩ := t
  obtain ⟨now, times, vals⟩ := x
  dsimp only at hr1 hr3 hr0 hk0 hsh h4
  refine SEx.go (X := X11) X11_ok (fun n => look [] [] n) (fun _ => none) hO 60 ?_
  intro M R L N hM hAnd hImp hR hL hN
  cases M
  cbv
  repeat' first | (refine hAnd _ _ ?_ ?_) | (refine hImp _ _ (fun h => ?_)) | (refine hR _ ?_) | (refine hL _ _ (Hd.out ?_); try first | rw [hks] | rw [hk2] | rw [hk3]) | (refine hN _ _ ?_; cbv)
  all_goals (clear hAnd hImp hR hL hN; try clear hks; try clear hk2; try clear hk3)
  all_goals (cases hM; try dsimp only)
  all_goals (try simp only [Bool.not_eq_true', Bool.not_eq_false', decide_eq_true_eq, decide_eq_false_iff_not, Int.not_le, Int.not_lt, beq_iff_eq, beq_eq_false_iff_ne, ne_eq, Int.ofNat_eq_natCast, Int.toNat_natCast, List.length_replicate, ncast, Nat.sub_zero, List.drop_zero, Cue.eta, Tie.eta, Edge.eta, Link.eta, Node.eta] at *)
  all_goals (try rw [hk0] at *)
  all_goals (try simp only [Bool.and_eq_true, Bool.and_eq_false_iff, decide_eq_true_eq, decide_eq_false_iff_not] at *)
  all_goals first
    | exact h1
    | exact hz
    | (rw [wrap_i64 (by omega) (by omega)]; exact ⟨by rw [inI_iff]; dsimp only; omega, h2.tlen, h2.vlen⟩)
    | (refine er_via ?_ _; rw [hr0 (by omega)]; done)
    | (refine er_via ?_ _; rw [hr2 (by assumption)]; done)
    | (refine er_via ?_ _; rw [hr1 (by assumption) (by omega)]; done)
    | (rw [wrap_i64 (by omega) (by omega)]; refine er_via ?_ _; rw [hr3 (by assumption) (by omega) (by assumption)]; done)
    | skip
theorem clampI_in (n : Int) : -1000000 ≤ clampI n ∧ clampI n ≤ 1000000 := by unfold clampI; omega
theorem implMoment_ok (t : Show) (x : State) (hs : StLe t x) : SCall Try.prog 14 [aShow t, aState x] (rB (momB t x)) := by
  refine SCall.of X14_ok (fn := Try.f14) (c := Try.f14.body.getD .skip) (dr := fun n => look 0 [] n) Try.func14 rfl (by kernel_rfl) (by kernel_rfl) (by kernel_rfl) ?_
  obtain ⟨f, hf⟩ : ∃ f, f = showB := ⟨_, rfl⟩
  obtain ⟨g, hg⟩ : ∃ f, f = stateB := ⟨_, rfl⟩
  obtain ⟨k, hk⟩ : ∃ f, f = clampI := ⟨_, rfl⟩
  have hO : SOraOK Try.prog (oraL [(46, wClamp k), (47, wShowOk f), (48, wIsState g)]) := by subst hf hg hk; exact oraL_cons wClamp_ok (oraL_cons wShowOkI_ok (oraL_cons wIsState_ok oraL_nil))
  have h1 := hs.sh
  have h2 := hs.st
  have h4 := h2.now
  rw [inI_iff] at h4
  obtain ⟨r, hr⟩ : ∃ r, r = momB t x := ⟨_, rfl⟩
  rw [← hr]
  have hsh : f t = true → showB t = true ∧ 1 ≤ t.hor ∧ t.hor ≤ 10 := fun h => by rw [hf] at h; exact ⟨h, showB_hor h⟩
  have hc : f t = true → 0 ≤ x.now → x.now ≤ t.hor → IntKind.i64.wrap (k x.now + 1) = x.now + 1 := fun h h5 h6 => by
    have := hsh h
    rw [hk, show clampI x.now = x.now by unfold clampI; omega]
    exact wrap_i64 (by omega) (by omega)
  have hr0 : f t = false → r = false := fun h => by rw [hr]; unfold momB; rw [← hf, h]; rfl
  have hr1 : x.now < 0 → r = false := fun h => by rw [hr]; unfold momB; rw [decide_eq_false (show ¬ 0 ≤ x.now by omega)]; simp
  have hr2 : t.hor < x.now → r = false := fun h => by rw [hr]; unfold momB; rw [decide_eq_false (show ¬ x.now ≤ t.hor by omega)]; simp
  have hr3 : f t = true → 0 ≤ x.now → x.now ≤ t.hor → r = g t ⟨IntKind.i64.wrap (k x.now + 1), x.times, x.vals⟩ := fun h h5 h6 => by
    rw [hc h h5 h6, hr]; unfold momB; rw [hg, decide_eq_true h5, decide_eq_true h6, ← hf, h]; rfl
  have hle : f t = true → 0 ≤ x.now → x.now ≤ t.hor → StateLe ⟨IntKind.i64.wrap (k x.now + 1), x.times, x.vals⟩ := fun h h5 h6 => by
    have := hsh h
    rw [hc h h5 h6]
    exact ⟨by rw [inI_iff]; dsimp only; omega, h2.tlen, h2.vlen⟩
  clear hr hf hg hk hs hc
  obtain ⟨ns, ts, hr⟩ := t
  obtain ⟨now, times, vals⟩ := x
  dsimp only at hr1 hr2 hr3 hle hsh h4
  refine SEx.go (X := X14) X14_ok (fun n => look [] [] n) (fun _ => none) hO 60 ?_
  intro M R L N hM hAnd hImp hR hL hN
  cases M
  cbv
  repeat' first | (refine hAnd _ _ ?_ ?_) | (refine hImp _ _ (fun h => ?_)) | (refine hR _ ?_) | (refine hL _ _ (Hd.out ?_); try first | rw [hks] | rw [hk2] | rw [hk3]) | (refine hN _ _ ?_; cbv)
  all_goals (clear hAnd hImp hR hL hN; try clear hks; try clear hk2; try clear hk3)
  all_goals (cases hM; try dsimp only)
  all_goals (try simp only [Bool.not_eq_true', Bool.not_eq_false', decide_eq_true_eq, decide_eq_false_iff_not, Int.not_le, Int.not_lt, beq_iff_eq, beq_eq_false_iff_ne, ne_eq, Int.ofNat_eq_natCast, Int.toNat_natCast, List.length_replicate, ncast, Nat.sub_zero, List.drop_zero, Cue.eta, Tie.eta, Edge.eta, Link.eta, Node.eta] at *)
  all_goals first
    | exact h1
    | exact ⟨(hsh (by assumption)).1⟩
    | exact hle (by assumption) (by assumption) (by assumption)
    | (refine er_via ?_ _; rw [hr0 (by assumption)]; done)
    | (refine er_via ?_ _; rw [hr1 (by assumption)]; done)
    | (refine er_via ?_ _; rw [hr2 (by assumption)]; done)
    | (refine er_via ?_ _; rw [hr3 (by assumption) (by assumption) (by assumption)]; done)
    | skip
def wMomS (f : Show → State → Bool) : Wr := w2 dcShow dcState (fun t x => rB (f t x)) (fun t x => [StLe t x, StSz x])
theorem wMomS_ok : WrOK Try.prog 11 (wMomS momB) := w2_ok fun t x h => specMoment_ok t x (h _ (.head _)) (h _ (.tail _ (.head _)))
def wMomI (f : Show → State → Bool) : Wr := w2 dcShow dcState (fun t x => rB (f t x)) (fun t x => [StLe t x])
theorem wMomI_ok : WrOK Try.prog 14 (wMomI momB) := w2_ok fun t x h => implMoment_ok t x (h _ (.head _))
theorem lawIsMoment_ok (t : Show) (x : State) (ht : ShowIn t) (hx : StateIn x) : SCall Try.prog 3 [aShow t, aState x] (rB true) := by
  refine SCall.of X3_ok (fn := Try.f3) (c := Try.f3.body.getD .skip) (dr := fun n => look 0 [(8, 3), (14, 3), (16, 3)] n) Try.func3 rfl (by kernel_rfl) (by kernel_rfl) (by kernel_rfl) ?_
  obtain ⟨f, hf⟩ : ∃ f, f = momB := ⟨_, rfl⟩
  obtain ⟨g, hg⟩ : ∃ g, g = szShowI := ⟨_, rfl⟩
  obtain ⟨k, hk⟩ : ∃ g, g = szStateI := ⟨_, rfl⟩
  have hO : SOraOK Try.prog (oraL [(9, wSzShow g), (10, wSzState k), (12, wToShow), (13, wToState), (11, wMomS f), (14, wMomI f), (15, wEqShow), (16, wEqState)]) := by
    subst hf hg hk
    exact oraL_cons wSzShow_ok (oraL_cons wSzState_ok (oraL_cons wToShow_ok (oraL_cons wToState_ok (oraL_cons wMomS_ok (oraL_cons wMomI_ok (oraL_cons wEqShow_ok (oraL_cons wEqState_ok oraL_nil)))))))
  have hA : 0 ≤ g t 1048576 → ShowSz t (g t 1048576) := fun h => by rw [hg] at h ⊢; exact showSz h
  have hB : 0 ≤ g t 1048576 → 0 ≤ k x (g t 1048576) → StateSz x := fun h h2 => by rw [hk] at h2; exact stateSz h (hA h).le h2
  have h1 := ht.le
  have h2 := hx.le
  have hn : ∀ q ∈ t.nodes, NodeLe q maxLen := fun q hq => ⟨(ht.nodes q hq).name, (ht.nodes q hq).len⟩
  clear ht hx hf hg hk
  obtain ⟨ns, ts, hr⟩ := t
  obtain ⟨now, times, vals⟩ := x
  refine SEx.go (X := X3) X3_ok (fun n => look [] [] n) (fun _ => none) hO 60 ?_
  intro M R L N hM hAnd hImp hR hL hN
  cases M
  cbv
  repeat' first | (refine hAnd _ _ ?_ ?_) | (refine hImp _ _ (fun h => ?_)) | (refine hR _ ?_) | (refine hL _ _ (Hd.out ?_); try first | rw [hks] | rw [hk2] | rw [hk3]) | (refine hN _ _ ?_; cbv)
  all_goals (clear hAnd hImp hR hL hN; try clear hks; try clear hk2; try clear hk3)
  all_goals (cases hM; try dsimp only)
  all_goals (try simp only [Bool.not_eq_true', Bool.not_eq_false', decide_eq_true_eq, decide_eq_false_iff_not, Int.not_le, Int.not_lt, beq_iff_eq, beq_eq_false_iff_ne, ne_eq, Int.ofNat_eq_natCast, Int.toNat_natCast, List.length_replicate, ncast, Nat.sub_zero, List.drop_zero, Cue.eta, Tie.eta, Edge.eta, Link.eta, Node.eta] at *)
  all_goals (clear hO)
  all_goals first
    | rfl
    | contradiction
    | exact ⟨h1.len⟩
    | exact ⟨h1.tlen⟩
    | exact ⟨hn⟩
    | exact ⟨⟨by decide, by decide⟩⟩
    | exact ⟨h2.tlen⟩
    | exact ⟨h2.vlen⟩
    | exact ⟨⟨by assumption, by have := (hA (by assumption)).le; omega⟩⟩
    | exact ⟨(hA (by assumption)).len⟩
    | exact ⟨(hA (by assumption)).tlen⟩
    | exact ⟨(hA (by assumption)).labs⟩
    | exact ⟨(hB (by assumption) (by assumption)).tlen⟩
    | exact ⟨(hB (by assumption) (by assumption)).vlen⟩
    | exact ⟨h1, h2⟩
    | exact ⟨(hB (by assumption) (by assumption)).tlen, (hB (by assumption) (by assumption)).vlen⟩
    | exact ⟨rfl⟩
    | exact ⟨fun q hq => (h1.nodes q hq).len⟩
    | exact absurd trivial (by assumption)
    | skip
end Go.Proofs.Ytciphddcdiifgaa.Ai
