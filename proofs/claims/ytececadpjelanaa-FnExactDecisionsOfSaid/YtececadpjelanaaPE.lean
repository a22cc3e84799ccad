/- Decisions of a moment: both sides. -/
import Derived.Test.YtececadpjelanaaTy
import Derived.Test.YtececadpjelanaaPD
namespace Go.Proofs.Ytececadpjelanaa.Ai
open Go
set_option maxRecDepth 100000
set_option linter.unusedVariables false
set_option linter.unusedSimpArgs false
def decF (t : Show) (x : State) : List (List Int) := match momB t x with | true => decL (enL t x) | false => []
theorem mom_en {t : Show} {x : State} (h : momB t x = true) : StV t x ∧ x.times.length = t.nodes.length := by
  unfold momB at h
  simp only [Bool.and_eq_true] at h
  obtain ⟨h1, _, _, h2⟩ := h
  have h3 : StT t ⟨x.now + 1, x.times, x.vals⟩ := ⟨h1, h2⟩
  exact ⟨⟨h1, h3.vals⟩, h3.now.2.2⟩
def wDecs (f : Show → State → List (List Int)) : Wr := w2 dcShow dcState (fun t x => rIss (f t x)) (fun t x => [EnT t x])
def decE (t : Show) (x : State) : List (List Int) := decL (enL t x)
theorem wDecs_ok : WrOK Try.prog 40 (wDecs decE) := w2_ok fun t x h => decisions_ok t x (h _ (.head _))
theorem implDec_ok (t : Show) (x : State) (hs : StLe t x) : SCall Try.prog 19 [aShow t, aState x] (rIss (decF t x)) := by
  refine SCall.of X19_ok (fn := Try.f19) (c := Try.f19.body.getD .skip) (dr := fun n => look 0 [] n) Try.func19 rfl (by kernel_rfl) (by kernel_rfl) (by kernel_rfl) ?_
  obtain ⟨f1, hf1⟩ : ∃ f, f = momB := ⟨_, rfl⟩
  obtain ⟨f2, hf2⟩ : ∃ f, f = decE := ⟨_, rfl⟩
  have hO : SOraOK Try.prog (oraL [(39, wMomI f1), (40, wDecs f2)]) := by
    subst hf1 hf2
    exact oraL_cons wMomI_ok (oraL_cons wDecs_ok oraL_nil)
  have hv : f1 t x = true → EnT t x := fun h => by rw [hf1] at h; have := mom_en h; exact ⟨hs, this.1, this.2⟩
  have hE : decF t x = match f1 t x with | true => f2 t x | false => [] := by rw [hf1, hf2]; rfl
  obtain ⟨r, hr⟩ : ∃ r, r = decF t x := ⟨_, rfl⟩
  rw [← hr] at hE ⊢
  obtain ⟨ns, ts, hr⟩ := t
  obtain ⟨now, times, vals⟩ := x
  refine SEx.go (X := X19) X19_ok (fun n => look [] [] n) (fun _ => none) hO 60 ?_
  intro M R L N hM hAnd hImp hR hL hN
  cases M
  cbv
  repeat' first | (refine hAnd _ _ ?_ ?_) | (refine hImp _ _ (fun h => ?_)) | (refine hR _ ?_) | (refine hL _ _ (Hd.out ?_); try first | rw [hks] | rw [hk2] | rw [hk3]) | (refine hN _ _ ?_; cbv)
  all_goals (clear hAnd hImp hR hL hN; try clear hks; try clear hk2; try clear hk3)
  all_goals (cases hM; try dsimp only)
  all_goals (try simp only [Bool.not_eq_true', Bool.not_eq_false', decide_eq_true_eq, decide_eq_false_iff_not, Int.not_le, Int.not_lt, beq_iff_eq, beq_eq_false_iff_ne, ne_eq, Int.ofNat_eq_natCast, Int.toNat_natCast, List.length_replicate, ncast, Nat.sub_zero, List.drop_zero, Cue.eta, Tie.eta, Edge.eta, Link.eta, Node.eta] at *)
  all_goals first
    | exact hs
    | exact hv (by assumption)
    | (rw [hE, show f1 _ _ = false by assumption]; rfl)
    | (rw [hE, show f1 _ _ = true by assumption]; rfl)
    | skip
theorem specDec_ok (t : Show) (x : State) (hs : StLe t x) (hz : StSz x) : SCall Try.prog 18 [aShow t, aState x] (rIss (decF t x)) := by
  refine SCall.of X18_ok (fn := Try.f18) (c := Try.f18.body.getD .skip) (dr := fun n => look 0 [] n) Try.func18 rfl (by kernel_rfl) (by kernel_rfl) (by kernel_rfl) ?_
  obtain ⟨f0, hf0⟩ : ∃ f, f = momB := ⟨_, rfl⟩
  obtain ⟨f1, hf1⟩ : ∃ f, f = enL := ⟨_, rfl⟩
  obtain ⟨f2, hf2⟩ : ∃ f, f = memL := ⟨_, rfl⟩
  have hO : SOraOK Try.prog (oraL [(37, wMomS f0), (27, wEnS f1), (38, wMem f2)]) := by
    subst hf0 hf1 hf2
    exact oraL_cons wMomS_ok (oraL_cons wEnS_ok (oraL_cons wMemS_ok oraL_nil))
  have hv : f0 t x = true → EnT t x := fun h => by rw [hf0] at h; have := mom_en h; exact ⟨hs, this.1, this.2⟩
  obtain ⟨l, hl⟩ : ∃ l, l = f1 t x := ⟨_, rfl⟩
  have hl7 : f0 t x = true → l.length ≤ 7 := fun h => by rw [hl, hf1]; exact enL_len (hv h).v
  obtain ⟨NN, hN⟩ : ∃ n, n = 2 ^ l.length := ⟨_, rfl⟩
  have hE : decF t x = match f0 t x with | true => decP l NN NN | false => [] := by rw [hN, hl, hf1, hf0]; rfl
  obtain ⟨r, hr⟩ : ∃ r, r = decF t x := ⟨_, rfl⟩
  rw [← hr] at hE ⊢
  obtain ⟨ns, ts, hr⟩ := t
  obtain ⟨now, times, vals⟩ := x
  refine SEx.go (X := X18) X18_ok (fun n => look [] [(6, [5, 6, 7])] n) (fun _ => none) hO 60 ?_
  intro M R L N hM hAnd hImp hR hL hN
  cases M
  cbv
  repeat' first | (refine hAnd _ _ ?_ ?_) | (refine hImp _ _ (fun h => ?_)) | (refine hR _ ?_) | (refine hL _ _ (Hd.out ?_); generalize hks : (List.cons _ _ : List K) = ks) | (refine hN _ _ ?_; cbv)
  all_goals (clear hAnd hImp hR hL hN)
  all_goals (cases hM; try dsimp only)
  all_goals (try simp only [Bool.not_eq_true', Bool.not_eq_false', decide_eq_true_eq, decide_eq_false_iff_not, Int.not_le, Int.not_lt, beq_iff_eq, beq_eq_false_iff_ne, ne_eq, Int.ofNat_eq_natCast, Int.toNat_natCast, List.length_replicate, ncast, Nat.sub_zero, List.drop_zero, Cue.eta, Tie.eta, Edge.eta, Link.eta, Node.eta] at *)
  all_goals first
    | exact hs
    | exact hz
    | exact hv (by assumption)
    | (rw [hE, show f0 _ _ = false by assumption]; rfl)
    | omega
    | skip
  · have := hl7 (by assumption)
    rw [← hl, wrap_u64 (by omega)]
    omega
  have hl7 := hl7 (by assumption)
  have hNb := pow_seven hl7
  have hs := sh_seven hl7
  rw [← hN] at hNb hs
  have hs1 : IntKind.i64.wrap ((NN : Int) - 1) = (NN : Int) - 1 := wrap_i64 (by omega) (by omega)
  have hE : r = decP l NN NN := by rw [hE, show f0 _ _ = true by assumption]
  rw [← hl, wrap_u64 (by omega), Int.toNat_natCast, hs, hs1]
  obtain ⟨n, hn⟩ : ∃ n, n = l.length := ⟨_, rfl⟩
  refine ⟨SEx.same (SEx.idx NN (fun k => ⟨32, [(5, bR 20480 n), (6, bR 24576 k), (7, bI ((NN : Int) - 1 - (k : Nat)))], [(20480, .osl (.i l)), (24576, .osl (.ii true none (decP l NN k)))]⟩) (fun _ => rIss r) ?_) (by rw [hn, show (NN : Int) - 1 - ((0 : Nat) : Int) = (NN : Int) - 1 by omega]; rfl) rfl⟩
  intro k hk ih
  rw [← hks]
  obtain ⟨o, ho⟩ : ∃ o, o = decP l NN k := ⟨_, rfl⟩
  have hol : o.length = k := by rw [ho, decP_len]
  obtain ⟨q, hq⟩ : ∃ q : Int, q = (NN : Int) - 1 - (k : Nat) := ⟨_, rfl⟩
  rw [← ho, ← hq]
  clear hN hl hs
  refine SEx.go (X := X18) X18_ok (fun n => look [] [(6, [5, 6, 7])] n) (fun _ => none) hO 60 ?_
  intro M R L N hM hAnd hImp hR hL hN
  cases M
  cbv
  repeat' first | (refine hAnd _ _ ?_ ?_) | (refine hImp _ _ (fun h => ?_)) | (refine hR _ ?_) | (refine hL _ _ (Hd.out ?_); try first | rw [hks] | rw [hk2] | rw [hk3]) | (refine hN _ _ ?_; cbv)
  all_goals (clear hAnd hImp hR hL hN; try clear hks; try clear hk2; try clear hk3)
  all_goals (cases hM; try dsimp only)
  all_goals (try simp only [Bool.not_eq_true', Bool.not_eq_false', decide_eq_true_eq, decide_eq_false_iff_not, Int.not_le, Int.not_lt, beq_iff_eq, beq_eq_false_iff_ne, ne_eq, Int.ofNat_eq_natCast, Int.toNat_natCast, List.length_replicate, ncast, Nat.sub_zero, List.drop_zero, Cue.eta, Tie.eta, Edge.eta, Link.eta, Node.eta] at *)
  all_goals (try rw [wrap_i64 (n := q - 1) (by omega) (by omega)])
  all_goals first
    | omega
    | rfl
    | exact ⟨by omega⟩
    | (have := lim_ge; simp only [List.length_cons, List.length_nil]; omega)
    | (have ih' := ih (by omega)
       rw [decP_succ, ← ho, ← hq, show (NN : Int) - 1 - ((k + 1 : Nat) : Int) = q - 1 by omega] at ih'
       simp only [List.length_append, List.length_cons, List.length_nil, hol, hf2]
       exact ⟨ih'.same rfl rfl⟩)
    | (have e : k = NN := by omega
       subst e
       rw [hE, ho]; rfl)
    | skip
end Go.Proofs.Ytececadpjelanaa.Ai
