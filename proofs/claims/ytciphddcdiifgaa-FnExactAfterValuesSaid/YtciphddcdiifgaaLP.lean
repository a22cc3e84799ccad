/- Defeats and states that are done. -/
import Derived.Test.YtciphddcdiifgaaTy
import Derived.Test.YtciphddcdiifgaaU
import Derived.Test.YtciphddcdiifgaaTB
import Derived.Test.YtciphddcdiifgaaTC
import Derived.Test.YtciphddcdiifgaaLI
import Derived.Test.YtciphddcdiifgaaLK
import Derived.Test.YtciphddcdiifgaaLM
import Derived.Test.YtciphddcdiifgaaLN
import Derived.Test.YtciphddcdiifgaaLO
namespace Go.Proofs.Ytciphddcdiifgaa.Ai
open Go
set_option maxRecDepth 100000
set_option linter.unusedVariables false
set_option linter.unusedSimpArgs false
def isBrB (t : Show) (x : State) : Bool := stOkB t x && brokenB t x
def isDoneB (t : Show) (x : State) : Bool := stOkB t x && (!brokenB t x && overB t x)
def wIsBr (f : Show → State → Bool) : Wr := w2 dcShow dcState (fun t x => rB (f t x)) (fun t x => [StLe t x])
theorem wIsBrS_ok : WrOK Try.prog 51 (wIsBr isBrB) := w2_ok fun t x h => specIsBroken_ok t x (h _ (.head _))
theorem wIsBrI_ok : WrOK Try.prog 52 (wIsBr isBrB) := w2_ok fun t x h => implIsBroken_ok t x (h _ (.head _))
theorem specIsDefeat_ok (t : Show) (x : State) (hs : StLe t x) : SCall Try.prog 17 [aShow t, aState x] (rB (isBrB t x)) := by
  refine SCall.of X17_ok (fn := Try.f17) (c := Try.f17.body.getD .skip) (dr := fun n => look 0 [] n) Try.func17 rfl (by kernel_rfl) (by kernel_rfl) (by kernel_rfl) ?_
  obtain ⟨f, hf⟩ : ∃ f, f = isBrB := ⟨_, rfl⟩
  have hO : SOraOK Try.prog (oraL [(51, wIsBr f)]) := by subst hf; exact oraL_cons wIsBrS_ok oraL_nil
  rw [← hf]
  obtain ⟨ns, ts, hr⟩ := t
  obtain ⟨now, times, vals⟩ := x
  refine SEx.go (X := X17) X17_ok (fun n => look [] [] n) (fun _ => none) hO 60 ?_
  intro M R L N hM hAnd hImp hR hL hN
  cases M
  cbv
  repeat' first | (refine hAnd _ _ ?_ ?_) | (refine hImp _ _ (fun h => ?_)) | (refine hR _ ?_) | (refine hL _ _ (Hd.out ?_); try first | rw [hks] | rw [hk2] | rw [hk3]) | (refine hN _ _ ?_; cbv)
  all_goals (clear hAnd hImp hR hL hN; try clear hks; try clear hk2; try clear hk3)
  all_goals (cases hM; try dsimp only)
  all_goals (try simp only [Bool.not_eq_true', Bool.not_eq_false', decide_eq_true_eq, decide_eq_false_iff_not, Int.not_le, Int.not_lt, beq_iff_eq, beq_eq_false_iff_ne, ne_eq, Int.ofNat_eq_natCast, Int.toNat_natCast, List.length_replicate, ncast, Nat.sub_zero, List.drop_zero, Cue.eta, Tie.eta, Edge.eta, Link.eta, Node.eta] at *)
  all_goals first
    | exact hs
    | rfl
theorem implIsDefeat_ok (t : Show) (x : State) (hs : StLe t x) : SCall Try.prog 18 [aShow t, aState x] (rB (isBrB t x)) := by
  refine SCall.of X18_ok (fn := Try.f18) (c := Try.f18.body.getD .skip) (dr := fun n => look 0 [] n) Try.func18 rfl (by kernel_rfl) (by kernel_rfl) (by kernel_rfl) ?_
  obtain ⟨f, hf⟩ : ∃ f, f = isBrB := ⟨_, rfl⟩
  have hO : SOraOK Try.prog (oraL [(52, wIsBr f)]) := by subst hf; exact oraL_cons wIsBrI_ok oraL_nil
  rw [← hf]
  obtain ⟨ns, ts, hr⟩ := t
  obtain ⟨now, times, vals⟩ := x
  refine SEx.go (X := X18) X18_ok (fun n => look [] [] n) (fun _ => none) hO 60 ?_
  intro M R L N hM hAnd hImp hR hL hN
  cases M
  cbv
  repeat' first | (refine hAnd _ _ ?_ ?_) | (refine hImp _ _ (fun h => ?_)) | (refine hR _ ?_) | (refine hL _ _ (Hd.out ?_); try first | rw [hks] | rw [hk2] | rw [hk3]) | (refine hN _ _ ?_; cbv)
  all_goals (clear hAnd hImp hR hL hN; try clear hks; try clear hk2; try clear hk3)
  all_goals (cases hM; try dsimp only)
  all_goals (try simp only [Bool.not_eq_true', Bool.not_eq_false', decide_eq_true_eq, decide_eq_false_iff_not, Int.not_le, Int.not_lt, beq_iff_eq, beq_eq_false_iff_ne, ne_eq, Int.ofNat_eq_natCast, Int.toNat_natCast, List.length_replicate, ncast, Nat.sub_zero, List.drop_zero, Cue.eta, Tie.eta, Edge.eta, Link.eta, Node.eta] at *)
  all_goals first
    | exact hs
    | rfl
theorem wIsDefS_ok : WrOK Try.prog 17 (wIsBr isBrB) := w2_ok fun t x h => specIsDefeat_ok t x (h _ (.head _))
theorem wIsDefI_ok : WrOK Try.prog 18 (wIsBr isBrB) := w2_ok fun t x h => implIsDefeat_ok t x (h _ (.head _))
theorem specIsDone_ok (t : Show) (x : State) (hs : StLe t x) : SCall Try.prog 19 [aShow t, aState x] (rB (isDoneB t x)) := by
  refine SCall.of X19_ok (fn := Try.f19) (c := Try.f19.body.getD .skip) (dr := fun n => look 0 [] n) Try.func19 rfl (by kernel_rfl) (by kernel_rfl) (by kernel_rfl) ?_
  obtain ⟨f, hf⟩ : ∃ f, f = stOkB := ⟨_, rfl⟩
  obtain ⟨g, hg⟩ : ∃ f, f = brokenB := ⟨_, rfl⟩
  obtain ⟨k, hk⟩ : ∃ f, f = overB := ⟨_, rfl⟩
  have hO : SOraOK Try.prog (oraL [(43, wStateOk f), (53, wAreOver g), (54, wAreOver k)]) := by subst hf hg hk; exact oraL_cons wStateOkS_ok (oraL_cons wBrokenS_ok (oraL_cons wDone_ok oraL_nil))
  unfold isDoneB
  rw [← hf, ← hg, ← hk]
  have hT : f t x = true → StT t x := fun h => by rw [hf] at h; unfold stOkB at h; rw [Bool.and_eq_true] at h; exact ⟨h.1, h.2⟩
  clear hf hg hk
  obtain ⟨ns, ts, hr⟩ := t
  obtain ⟨now, times, vals⟩ := x
  refine SEx.go (X := X19) X19_ok (fun n => look [] [] n) (fun _ => none) hO 60 ?_
  intro M R L N hM hAnd hImp hR hL hN
  cases M
  cbv
  repeat' first | (refine hAnd _ _ ?_ ?_) | (refine hImp _ _ (fun h => ?_)) | (refine hR _ ?_) | (refine hL _ _ (Hd.out ?_); try first | rw [hks] | rw [hk2] | rw [hk3]) | (refine hN _ _ ?_; cbv)
  all_goals (clear hAnd hImp hR hL hN; try clear hks; try clear hk2; try clear hk3)
  all_goals (cases hM; try dsimp only)
  all_goals (try simp only [Bool.not_eq_true', Bool.not_eq_false', decide_eq_true_eq, decide_eq_false_iff_not, Int.not_le, Int.not_lt, beq_iff_eq, beq_eq_false_iff_ne, ne_eq, Int.ofNat_eq_natCast, Int.toNat_natCast, List.length_replicate, ncast, Nat.sub_zero, List.drop_zero, Cue.eta, Tie.eta, Edge.eta, Link.eta, Node.eta] at *)
  all_goals first
    | exact hs.sh
    | exact hs.st
    | exact hs
    | exact hT (by assumption)
    | (refine er_via ?_ _; clear hs hT; simp_all; done)
    | skip
theorem implIsDone_ok (t : Show) (x : State) (hs : StLe t x) : SCall Try.prog 20 [aShow t, aState x] (rB (isDoneB t x)) := by
  refine SCall.of X20_ok (fn := Try.f20) (c := Try.f20.body.getD .skip) (dr := fun n => look 0 [] n) Try.func20 rfl (by kernel_rfl) (by kernel_rfl) (by kernel_rfl) ?_
  obtain ⟨f, hf⟩ : ∃ f, f = stOkB := ⟨_, rfl⟩
  obtain ⟨g, hg⟩ : ∃ f, f = brokenB := ⟨_, rfl⟩
  obtain ⟨k, hk⟩ : ∃ f, f = overB := ⟨_, rfl⟩
  have hO : SOraOK Try.prog (oraL [(55, wStateOk f), (56, wAreOver g), (57, wAreOver k)]) := by subst hf hg hk; exact oraL_cons wStateOkI_ok (oraL_cons wBrokenI_ok (oraL_cons wAreOver_ok oraL_nil))
  unfold isDoneB
  rw [← hf, ← hg, ← hk]
  have hT : f t x = true → StT t x := fun h => by rw [hf] at h; unfold stOkB at h; rw [Bool.and_eq_true] at h; exact ⟨h.1, h.2⟩
  clear hf hg hk
  obtain ⟨ns, ts, hr⟩ := t
  obtain ⟨now, times, vals⟩ := x
  refine SEx.go (X := X20) X20_ok (fun n => look [] [] n) (fun _ => none) hO 60 ?_
  intro M R L N hM hAnd hImp hR hL hN
  cases M
  cbv
  repeat' first | (refine hAnd _ _ ?_ ?_) | (refine hImp _ _ (fun h => ?_)) | (refine hR _ ?_) | (refine hL _ _ (Hd.out ?_); try first | rw [hks] | rw [hk2] | rw [hk3]) | (refine hN _ _ ?_; cbv)
  all_goals (clear hAnd hImp hR hL hN; try clear hks; try clear hk2; try clear hk3)
  all_goals (cases hM; try dsimp only)
  all_goals (try simp only [Bool.not_eq_true', Bool.not_eq_false', decide_eq_true_eq, decide_eq_false_iff_not, Int.not_le, Int.not_lt, beq_iff_eq, beq_eq_false_iff_ne, ne_eq, Int.ofNat_eq_natCast, Int.toNat_natCast, List.length_replicate, ncast, Nat.sub_zero, List.drop_zero, Cue.eta, Tie.eta, Edge.eta, Link.eta, Node.eta] at *)
  all_goals first
    | exact hs.sh
    | exact hs.st
    | exact hs
    | exact hT (by assumption)
    | (refine er_via ?_ _; clear hs hT; simp_all; done)
    | skip
theorem wIsDoneS_ok : WrOK Try.prog 19 (wIsBr isDoneB) := w2_ok fun t x h => specIsDone_ok t x (h _ (.head _))
theorem wIsDoneI_ok : WrOK Try.prog 20 (wIsBr isDoneB) := w2_ok fun t x h => implIsDone_ok t x (h _ (.head _))
theorem ShowIn.le {t : Show} (h : ShowIn t) : ShowLe t := ⟨h.len, h.tlen, fun q hq => ⟨(h.nodes q hq).name, (h.nodes q hq).len, (h.nodes q hq).label⟩⟩
theorem StateIn.le {x : State} (h : StateIn x) : StateLe x := ⟨h.now, h.len, h.vlen⟩
structure ShowSz (t : Show) (n : Int) : Prop where
  len : t.nodes.length ≤ 1048576
  tlen : t.ties.length ≤ 1048576
  labs : ∀ q ∈ t.nodes, q.label.length ≤ 1048576
  le : n ≤ 1048576
theorem showSz {t : Show} (h : 0 ≤ szShowI t 1048576) : ShowSz t (szShowI t 1048576) := by
  have := szShow_20 (n := 1048576) (by decide) h
  exact ⟨by omega, by omega, fun q hq => by have := (this.2.2.1 q hq).2; omega, this.2.2.2⟩
structure StateSz (x : State) : Prop where
  tlen : x.times.length ≤ 1048576
  vlen : x.vals.length ≤ 1048576
theorem stateSz {x : State} {n : Int} (h0 : 0 ≤ n) (h1 : n ≤ 1048576) (h : 0 ≤ szStateI x n) : StateSz x := by
  have := szState_20 h0 h
  exact ⟨by omega, by omega⟩
theorem lawIsDefeat_ok (t : Show) (x : State) (ht : ShowIn t) (hx : StateIn x) : SCall Try.prog 4 [aShow t, aState x] (rB true) := by
  refine SCall.of X4_ok (fn := Try.f4) (c := Try.f4.body.getD .skip) (dr := fun n => look 0 [(8, 3), (14, 3), (16, 3)] n) Try.func4 rfl (by kernel_rfl) (by kernel_rfl) (by kernel_rfl) ?_
  obtain ⟨f, hf⟩ : ∃ f, f = isBrB := ⟨_, rfl⟩
  obtain ⟨g, hg⟩ : ∃ g, g = szShowI := ⟨_, rfl⟩
  obtain ⟨k, hk⟩ : ∃ g, g = szStateI := ⟨_, rfl⟩
  have hO : SOraOK Try.prog (oraL [(9, wSzShow g), (10, wSzState k), (12, wToShow), (13, wToState), (17, wIsBr f), (18, wIsBr f), (15, wEqShow), (16, wEqState)]) := by
    subst hf hg hk
    exact oraL_cons wSzShow_ok (oraL_cons wSzState_ok (oraL_cons wToShow_ok (oraL_cons wToState_ok (oraL_cons wIsDefS_ok (oraL_cons wIsDefI_ok (oraL_cons wEqShow_ok (oraL_cons wEqState_ok oraL_nil)))))))
  have hA : 0 ≤ g t 1048576 → ShowSz t (g t 1048576) := fun h => by rw [hg] at h ⊢; exact showSz h
  have hB : 0 ≤ g t 1048576 → 0 ≤ k x (g t 1048576) → StateSz x := fun h h2 => by rw [hk] at h2; exact stateSz h (hA h).le h2
  have h1 := ht.le
  have h2 := hx.le
  have hn : ∀ q ∈ t.nodes, NodeLe q maxLen := fun q hq => ⟨(ht.nodes q hq).name, (ht.nodes q hq).len⟩
  clear ht hx hf hg hk
  obtain ⟨ns, ts, hr⟩ := t
  obtain ⟨now, times, vals⟩ := x
  refine SEx.go (X := X4) X4_ok (fun n => look [] [] n) (fun _ => none) hO 60 ?_
  intro M R L N hM hAnd hImp hR hL hN
  cases M
  cbv
  repeat' first | (refine hAnd _ _ ?_ ?_) | (refine hImp _ _ (fun h => ?_)) | (refine hR _ ?_) | (refine hL _ _ (Hd.out ?_); try first | rw [hks] | rw [hk2] | rw [hk3]) | (refine hN _ _ ?_; cbv)
  all_goals (clear hAnd hImp hR hL hN; try clear hks; try clear hk2; try clear hk3)
  all_goals (cases hM; try dsimp only)
  all_goals (try simp only [Bool.not_eq_true', Bool.not_eq_false', decide_eq_true_eq, decide_eq_false_iff_not, Int.not_le, Int.not_lt, beq_iff_eq, beq_eq_false_iff_ne, ne_eq, Int.ofNat_eq_natCast, Int.toNat_natCast, List.length_replicate, ncast, Nat.sub_zero, List.drop_zero, Cue.eta, Tie.eta, Edge.eta, Link.eta, Node.eta] at *)
  all_goals (clear hO)
  all_goals first
    | rfl
    | contradiction
    | exact ⟨h1.len⟩
    | exact ⟨h1.tlen⟩
    | exact ⟨hn⟩
    | exact ⟨⟨by decide, by decide⟩⟩
    | exact ⟨h2.tlen⟩
    | exact ⟨h2.vlen⟩
    | exact ⟨⟨by assumption, by have := (hA (by assumption)).le; omega⟩⟩
    | exact ⟨(hA (by assumption)).len⟩
    | exact ⟨(hA (by assumption)).tlen⟩
    | exact ⟨(hA (by assumption)).labs⟩
    | exact ⟨(hB (by assumption) (by assumption)).tlen⟩
    | exact ⟨(hB (by assumption) (by assumption)).vlen⟩
    | exact ⟨h1, h2⟩
    | exact ⟨rfl⟩
    | exact ⟨fun q hq => (h1.nodes q hq).len⟩
    | exact absurd trivial (by assumption)
    | skip
theorem lawIsDone_ok (t : Show) (x : State) (ht : ShowIn t) (hx : StateIn x) : SCall Try.prog 5 [aShow t, aState x] (rB true) := by
  refine SCall.of X5_ok (fn := Try.f5) (c := Try.f5.body.getD .skip) (dr := fun n => look 0 [(8, 3), (14, 3), (16, 3)] n) Try.func5 rfl (by kernel_rfl) (by kernel_rfl) (by kernel_rfl) ?_
  obtain ⟨f, hf⟩ : ∃ f, f = isDoneB := ⟨_, rfl⟩
  obtain ⟨g, hg⟩ : ∃ g, g = szShowI := ⟨_, rfl⟩
  obtain ⟨k, hk⟩ : ∃ g, g = szStateI := ⟨_, rfl⟩
  have hO : SOraOK Try.prog (oraL [(9, wSzShow g), (10, wSzState k), (12, wToShow), (13, wToState), (19, wIsBr f), (20, wIsBr f), (15, wEqShow), (16, wEqState)]) := by
    subst hf hg hk
    exact oraL_cons wSzShow_ok (oraL_cons wSzState_ok (oraL_cons wToShow_ok (oraL_cons wToState_ok (oraL_cons wIsDoneS_ok (oraL_cons wIsDoneI_ok (oraL_cons wEqShow_ok (oraL_cons wEqState_ok oraL_nil)))))))
  have hA : 0 ≤ g t 1048576 → ShowSz t (g t 1048576) := fun h => by rw [hg] at h ⊢; exact showSz h
  have hB : 0 ≤ g t 1048576 → 0 ≤ k x (g t 1048576) → StateSz x := fun h h2 => by rw [hk] at h2; exact stateSz h (hA h).le h2
  have h1 := ht.le
  have h2 := hx.le
  have hn : ∀ q ∈ t.nodes, NodeLe q maxLen := fun q hq => ⟨(ht.nodes q hq).name, (ht.nodes q hq).len⟩
  clear ht hx hf hg hk
  obtain ⟨ns, ts, hr⟩ := t
  obtain ⟨now, times, vals⟩ := x
  refine SEx.go (X := X5) X5_ok (fun n => look [] [] n) (fun _ => none) hO 60 ?_
  intro M R L N hM hAnd hImp hR hL hN
  cases M
  cbv
  repeat' first | (refine hAnd _ _ ?_ ?_) | (refine hImp _ _ (fun h => ?_)) | (refine hR _ ?_) | (refine hL _ _ (Hd.out ?_); try first | rw [hks] | rw [hk2] | rw [hk3]) | (refine hN _ _ ?_; cbv)
  all_goals (clear hAnd hImp hR hL hN; try clear hks; try clear hk2; try clear hk3)
  all_goals (cases hM; try dsimp only)
  all_goals (try simp only [Bool.not_eq_true', Bool.not_eq_false', decide_eq_true_eq, decide_eq_false_iff_not, Int.not_le, Int.not_lt, beq_iff_eq, beq_eq_false_iff_ne, ne_eq, Int.ofNat_eq_natCast, Int.toNat_natCast, List.length_replicate, ncast, Nat.sub_zero, List.drop_zero, Cue.eta, Tie.eta, Edge.eta, Link.eta, Node.eta] at *)
  all_goals (clear hO)
  all_goals first
    | rfl
    | contradiction
    | exact ⟨h1.len⟩
    | exact ⟨h1.tlen⟩
    | exact ⟨hn⟩
    | exact ⟨⟨by decide, by decide⟩⟩
    | exact ⟨h2.tlen⟩
    | exact ⟨h2.vlen⟩
    | exact ⟨⟨by assumption, by have := (hA (by assumption)).le; omega⟩⟩
    | exact ⟨(hA (by assumption)).len⟩
    | exact ⟨(hA (by assumption)).tlen⟩
    | exact ⟨(hA (by assumption)).labs⟩
    | exact ⟨(hB (by assumption) (by assumption)).tlen⟩
    | exact ⟨(hB (by assumption) (by assumption)).vlen⟩
    | exact ⟨h1, h2⟩
    | exact ⟨rfl⟩
    | exact ⟨fun q hq => (h1.nodes q hq).len⟩
    | exact absurd trivial (by assumption)
    | skip
end Go.Proofs.Ytciphddcdiifgaa.Ai
