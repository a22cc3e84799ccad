/- Enabled nodes: both sides, and the law. -/
import Derived.Test.YtececadpjelanaaTy
import Derived.Test.YtececadpjelanaaPA
namespace Go.Proofs.Ytececadpjelanaa.Ai
open Go
set_option maxRecDepth 100000
set_option linter.unusedVariables false
set_option linter.unusedSimpArgs false
def enF (t : Show) (x : State) : List Int := match stOkB t x with | true => enL t x | false => []
theorem rEn_ne {l : List Int} (h : l ≠ []) : rEn l = rUs l := by cases l with | nil => exact absurd rfl h | cons a l => rfl
theorem stOk_v {t : Show} {x : State} (h : stOkB t x = true) : StV t x ∧ x.times.length = t.nodes.length ∧ StT t x := by
  unfold stOkB at h
  rw [Bool.and_eq_true] at h
  have h2 : StT t x := ⟨h.1, h.2⟩
  exact ⟨h2.v, h2.now.2.2, h2⟩
structure EnT (t : Show) (x : State) : Prop where
  le : StLe t x
  v : StV t x
  tl : x.times.length = t.nodes.length
structure EnNe (t : Show) (x : State) : Prop where
  e : EnT t x
  ne : enL t x ≠ []
structure EnNo (t : Show) (x : State) : Prop where
  e : EnT t x
  no : enL t x = []
def wEnP (f : Show → State → List Int) : Wr := w2 dcShow dcState (fun t x => rUs (f t x)) (fun t x => [EnNe t x])
theorem wEnP_ok : WrOK Try.prog 32 (wEnP enL) := w2_ok fun t x h => by
  have h := h _ (.head _)
  rw [← rEn_ne h.ne]
  exact enabled_ok t x h.e.le h.e.v h.e.tl
def wEn0 : Wr := w2 dcShow dcState (fun t x => rE) (fun t x => [EnNo t x])
theorem wEn0_ok : WrOK Try.prog 32 wEn0 := w2_ok fun t x h => by
  have h := h _ (.head _)
  have := enabled_ok t x h.e.le h.e.v h.e.tl
  rw [h.no] at this
  exact this
def wEnS (f : Show → State → List Int) : Wr := w2 dcShow dcState (fun t x => rUs (f t x)) (fun t x => [EnT t x])
theorem wEnS_ok : WrOK Try.prog 27 (wEnS enL) := w2_ok fun t x h => by
  have h := h _ (.head _)
  exact specEnabled_ok t x h.le h.v h.tl
theorem specEn_ok (t : Show) (x : State) (ht : ShowLe t) (hx : StateLe x) : SCall Try.prog 7 [aShow t, aState x] (rUs (enF t x)) := by
  refine SCall.of X7_ok (fn := Try.f7) (c := Try.f7.body.getD .skip) (dr := fun n => look 0 [] n) Try.func7 rfl (by kernel_rfl) (by kernel_rfl) (by kernel_rfl) ?_
  obtain ⟨f1, hf1⟩ : ∃ f, f = stOkB := ⟨_, rfl⟩
  obtain ⟨f2, hf2⟩ : ∃ f, f = enL := ⟨_, rfl⟩
  have hO : SOraOK Try.prog (oraL [(26, wStateOk f1), (27, wEnS f2)]) := by
    subst hf1 hf2
    exact oraL_cons wStateOkS_ok (oraL_cons wEnS_ok oraL_nil)
  have hv : f1 t x = true → EnT t x := fun h => by rw [hf1] at h; have := stOk_v h; exact ⟨⟨ht, hx⟩, this.1, this.2.1⟩
  have hE : enF t x = match f1 t x with | true => f2 t x | false => [] := by rw [hf1, hf2]; rfl
  obtain ⟨r, hr⟩ : ∃ r, r = enF t x := ⟨_, rfl⟩
  rw [← hr] at hE ⊢
  obtain ⟨ns, ts, hr⟩ := t
  obtain ⟨now, times, vals⟩ := x
  refine SEx.go (X := X7) X7_ok (fun n => look [] [] n) (fun _ => none) hO 60 ?_
  intro M R L N hM hAnd hImp hR hL hN
  cases M
  cbv
  repeat' first | (refine hAnd _ _ ?_ ?_) | (refine hImp _ _ (fun h => ?_)) | (refine hR _ ?_) | (refine hL _ _ (Hd.out ?_); try first | rw [hks] | rw [hk2] | rw [hk3]) | (refine hN _ _ ?_; cbv)
  all_goals (clear hAnd hImp hR hL hN; try clear hks; try clear hk2; try clear hk3)
  all_goals (cases hM; try dsimp only)
  all_goals (try simp only [Bool.not_eq_true', Bool.not_eq_false', decide_eq_true_eq, decide_eq_false_iff_not, Int.not_le, Int.not_lt, beq_iff_eq, beq_eq_false_iff_ne, ne_eq, Int.ofNat_eq_natCast, Int.toNat_natCast, List.length_replicate, ncast, Nat.sub_zero, List.drop_zero, Cue.eta, Tie.eta, Edge.eta, Link.eta, Node.eta] at *)
  all_goals first
    | exact ht
    | exact hx
    | exact hv (by assumption)
    | (rw [hE, show f1 _ _ = false by assumption]; rfl)
    | (rw [hE, show f1 _ _ = true by assumption]; rfl)
    | skip
theorem implEn_ok (t : Show) (x : State) (ht : ShowLe t) (hx : StateLe x) (hne : stOkB t x = true → enL t x ≠ []) : SCall Try.prog 10 [aShow t, aState x] (rUs (enF t x)) := by
  refine SCall.of X10_ok (fn := Try.f10) (c := Try.f10.body.getD .skip) (dr := fun n => look 0 [] n) Try.func10 rfl (by kernel_rfl) (by kernel_rfl) (by kernel_rfl) ?_
  obtain ⟨f1, hf1⟩ : ∃ f, f = stOkB := ⟨_, rfl⟩
  obtain ⟨f2, hf2⟩ : ∃ f, f = enL := ⟨_, rfl⟩
  have hO : SOraOK Try.prog (oraL [(31, wStateOk f1), (32, wEnP f2)]) := by
    subst hf1 hf2
    exact oraL_cons wStateOkI_ok (oraL_cons wEnP_ok oraL_nil)
  have hv : f1 t x = true → EnNe t x := fun h => by rw [hf1] at h; have := stOk_v h; exact ⟨⟨⟨ht, hx⟩, this.1, this.2.1⟩, hne h⟩
  have hE : enF t x = match f1 t x with | true => f2 t x | false => [] := by rw [hf1, hf2]; rfl
  obtain ⟨r, hr⟩ : ∃ r, r = enF t x := ⟨_, rfl⟩
  rw [← hr] at hE ⊢
  obtain ⟨ns, ts, hr⟩ := t
  obtain ⟨now, times, vals⟩ := x
  refine SEx.go (X := X10) X10_ok (fun n => look [] [] n) (fun _ => none) hO 60 ?_
  intro M R L N hM hAnd hImp hR hL hN
  cases M
  cbv
  repeat' first | (refine hAnd _ _ ?_ ?_) | (refine hImp _ _ (fun h => ?_)) | (refine hR _ ?_) | (refine hL _ _ (Hd.out ?_); try first | rw [hks] | rw [hk2] | rw [hk3]) | (refine hN _ _ ?_; cbv)
  all_goals (clear hAnd hImp hR hL hN; try clear hks; try clear hk2; try clear hk3)
  all_goals (cases hM; try dsimp only)
  all_goals (try simp only [Bool.not_eq_true', Bool.not_eq_false', decide_eq_true_eq, decide_eq_false_iff_not, Int.not_le, Int.not_lt, beq_iff_eq, beq_eq_false_iff_ne, ne_eq, Int.ofNat_eq_natCast, Int.toNat_natCast, List.length_replicate, ncast, Nat.sub_zero, List.drop_zero, Cue.eta, Tie.eta, Edge.eta, Link.eta, Node.eta] at *)
  all_goals first
    | exact ht
    | exact hx
    | exact hv (by assumption)
    | (rw [hE, show f1 _ _ = false by assumption]; rfl)
    | (rw [hE, show f1 _ _ = true by assumption]; rfl)
    | skip
theorem implEn0_ok (t : Show) (x : State) (ht : ShowLe t) (hx : StateLe x) (h1 : stOkB t x = true) (h2 : enL t x = []) : SCall Try.prog 10 [aShow t, aState x] rE := by
  refine SCall.of X10_ok (fn := Try.f10) (c := Try.f10.body.getD .skip) (dr := fun n => look 0 [] n) Try.func10 rfl (by kernel_rfl) (by kernel_rfl) (by kernel_rfl) ?_
  obtain ⟨f1, hf1⟩ : ∃ f, f = stOkB := ⟨_, rfl⟩
  have hO : SOraOK Try.prog (oraL [(31, wStateOk f1), (32, wEn0)]) := by
    subst hf1
    exact oraL_cons wStateOkI_ok (oraL_cons wEn0_ok oraL_nil)
  have hv := stOk_v h1
  have hv : EnNo t x := ⟨⟨⟨ht, hx⟩, hv.1, hv.2.1⟩, h2⟩
  rw [← hf1] at h1
  obtain ⟨ns, ts, hr⟩ := t
  obtain ⟨now, times, vals⟩ := x
  refine SEx.go (X := X10) X10_ok (fun n => look [] [] n) (fun _ => none) hO 60 ?_
  intro M R L N hM hAnd hImp hR hL hN
  cases M
  cbv
  repeat' first | (refine hAnd _ _ ?_ ?_) | (refine hImp _ _ (fun h => ?_)) | (refine hR _ ?_) | (refine hL _ _ (Hd.out ?_); try first | rw [hks] | rw [hk2] | rw [hk3]) | (refine hN _ _ ?_; cbv)
  all_goals (clear hAnd hImp hR hL hN; try clear hks; try clear hk2; try clear hk3)
  all_goals (cases hM; try dsimp only)
  all_goals (try simp only [Bool.not_eq_true', Bool.not_eq_false', decide_eq_true_eq, decide_eq_false_iff_not, Int.not_le, Int.not_lt, beq_iff_eq, beq_eq_false_iff_ne, ne_eq, Int.ofNat_eq_natCast, Int.toNat_natCast, List.length_replicate, ncast, Nat.sub_zero, List.drop_zero, Cue.eta, Tie.eta, Edge.eta, Link.eta, Node.eta] at *)
  all_goals first
    | exact ht
    | exact hx
    | exact hv
    | (exfalso; simp_all; done)
    | rfl
    | skip
end Go.Proofs.Ytececadpjelanaa.Ai
