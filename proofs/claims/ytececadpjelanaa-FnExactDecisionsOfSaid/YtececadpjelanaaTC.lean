/- Shows and states: conversions, sizes, equality. -/
import Derived.Test.YtececadpjelanaaTy
import Derived.Test.YtececadpjelanaaTB
namespace Go.Proofs.Ytececadpjelanaa.Ai
open Go
set_option maxRecDepth 100000
set_option linter.unusedVariables false
set_option linter.unusedSimpArgs false
def szShowI (t : Show) (n : Int) : Int := if szNodeSI t.nodes n < 0 then -1 else if szL t.ties (szNodeSI t.nodes n) < 0 then -1 else szL t.ties (szNodeSI t.nodes n)
def szStateI (t : State) (n : Int) : Int := if szL t.times n < 0 then -1 else if szL t.vals (szL t.times n) < 0 then -1 else szL t.vals (szL t.times n)
theorem szF_le : ∀ (l : List Node) (n : Int), 0 ≤ n → szF szNodeI l n ≤ n ∧ (0 ≤ szF szNodeI l n → ∀ q ∈ l, (q.name.size : Int) ≤ n ∧ (q.label.length : Int) ≤ n)
  | [], n, h => ⟨Int.le_refl _, fun _ q hq => by cases hq⟩
  | q :: r, n, h => by
    have h0 := szNodeI_le q h
    unfold szF
    by_cases hn : szNodeI q n < 0
    · rw [if_pos hn]; exact ⟨by omega, fun h => by omega⟩
    · rw [if_neg hn]
      have ih := szF_le r (szNodeI q n) (by omega)
      refine ⟨by omega, fun h1 x hx => ?_⟩
      rcases List.mem_cons.1 hx with rfl | hx
      · exact szNodeI_ge (by omega)
      · have := ih.2 h1 x hx; omega
theorem szNodeSI_le {l : List Node} {n : Int} (h : 0 ≤ n) : szNodeSI l n ≤ n ∧ (0 ≤ szNodeSI l n → (l.length : Int) ≤ n ∧ ∀ q ∈ l, (q.name.size : Int) ≤ n ∧ (q.label.length : Int) ≤ n) := by
  unfold szNodeSI
  split
  · exact ⟨by omega, fun h => by omega⟩
  · have := szF_le l (n - l.length) (by omega)
    refine ⟨by omega, fun h1 => ⟨by omega, fun q hq => ?_⟩⟩
    have := this.2 h1 q hq
    omega
theorem szShow_ok (t : Show) (n : Int) (h1 : t.nodes.length ≤ maxLen) (h2 : t.ties.length ≤ maxLen) (h3 : ∀ q ∈ t.nodes, NodeLe q maxLen) (hn : 0 ≤ n ∧ n ≤ 9223372036854775807) : SCall Try.prog 5 [aShow t, aI n] (rI (szShowI t n)) := by
  refine SCall.of X5_ok (fn := Try.f5) (c := Try.f5.body.getD .skip) (dr := fun n => look 0 [] n) Try.func5 rfl (by kernel_rfl) (by kernel_rfl) (by kernel_rfl) ?_
  obtain ⟨f, hf⟩ : ∃ f, f = szNodeSI := ⟨_, rfl⟩
  obtain ⟨g, hg⟩ : ∃ g : List Tie → Int → Int, g = szL := ⟨_, rfl⟩
  have hO : SOraOK Try.prog (oraL [(23, wSzNodeS f), (24, wSzTieS g)]) := by subst hf hg; exact oraL_cons wSzNodeS_ok (oraL_cons wSzTieS_ok oraL_nil)
  obtain ⟨cs, ps, hr⟩ := t
  have h1 : cs.length ≤ maxLen := h1
  have h2 : ps.length ≤ maxLen := h2
  have h3 : ∀ q ∈ cs, NodeLe q maxLen := h3
  have h4 : f cs n ≤ n := by rw [hf]; exact (szNodeSI_le hn.1).1
  refine SEx.go (X := X5) X5_ok (fun n => look [] [] n) (fun _ => none) hO 60 ?_
  intro M R L N hM hAnd hImp hR hL hN
  cases M
  cbv
  repeat' first | (refine hAnd _ _ ?_ ?_) | (refine hImp _ _ (fun h => ?_)) | (refine hR _ ?_) | (refine hL _ _ (Hd.out ?_); try first | rw [hks] | rw [hk2] | rw [hk3]) | (refine hN _ _ ?_; cbv)
  all_goals (clear hAnd hImp hR hL hN; try clear hks; try clear hk2; try clear hk3)
  all_goals (cases hM; try dsimp only)
  all_goals (try simp only [Bool.not_eq_true', Bool.not_eq_false', decide_eq_true_eq, decide_eq_false_iff_not, Int.not_le, Int.not_lt, beq_iff_eq, beq_eq_false_iff_ne, ne_eq, Int.ofNat_eq_natCast, Int.toNat_natCast, List.length_replicate, ncast, Nat.sub_zero, List.drop_zero, Cue.eta, Tie.eta, Edge.eta, Link.eta, Node.eta] at *)
  all_goals first
    | exact ⟨h1⟩
    | exact ⟨h2⟩
    | exact ⟨h3⟩
    | exact ⟨hn⟩
    | exact ⟨⟨by omega, by omega⟩⟩
    | (subst hf hg; simp only [er_I, szShowI]; rw [if_pos (by assumption)]; done)
    | (subst hf hg; simp only [er_I, szShowI]; rw [if_neg (by omega), if_pos (by assumption)]; done)
    | (subst hf hg; simp only [er_I, szShowI]; rw [if_neg (by omega), if_neg (by omega)]; done)
    | trace_state
theorem szState_ok (t : State) (n : Int) (h1 : t.times.length ≤ maxLen) (h2 : t.vals.length ≤ maxLen) (hn : 0 ≤ n ∧ n ≤ 9223372036854775807) : SCall Try.prog 6 [aState t, aI n] (rI (szStateI t n)) := by
  refine SCall.of X6_ok (fn := Try.f6) (c := Try.f6.body.getD .skip) (dr := fun n => look 0 [] n) Try.func6 rfl (by kernel_rfl) (by kernel_rfl) (by kernel_rfl) ?_
  obtain ⟨g, hg⟩ : ∃ g : List Int → Int → Int, g = szL := ⟨_, rfl⟩
  have hO : SOraOK Try.prog (oraL [(25, wSzIntSF g)]) := by subst hg; exact oraL_cons wSzIntSF_ok oraL_nil
  obtain ⟨nw, cs, ps⟩ := t
  have h1 : cs.length ≤ maxLen := h1
  have h2 : ps.length ≤ maxLen := h2
  have h4 : g cs n ≤ n := by rw [hg]; exact szL_le _ hn.1
  refine SEx.go (X := X6) X6_ok (fun n => look [] [] n) (fun _ => none) hO 60 ?_
  intro M R L N hM hAnd hImp hR hL hN
  cases M
  cbv
  repeat' first | (refine hAnd _ _ ?_ ?_) | (refine hImp _ _ (fun h => ?_)) | (refine hR _ ?_) | (refine hL _ _ (Hd.out ?_); try first | rw [hks] | rw [hk2] | rw [hk3]) | (refine hN _ _ ?_; cbv)
  all_goals (clear hAnd hImp hR hL hN; try clear hks; try clear hk2; try clear hk3)
  all_goals (cases hM; try dsimp only)
  all_goals (try simp only [Bool.not_eq_true', Bool.not_eq_false', decide_eq_true_eq, decide_eq_false_iff_not, Int.not_le, Int.not_lt, beq_iff_eq, beq_eq_false_iff_ne, ne_eq, Int.ofNat_eq_natCast, Int.toNat_natCast, List.length_replicate, ncast, Nat.sub_zero, List.drop_zero, Cue.eta, Tie.eta, Edge.eta, Link.eta, Node.eta] at *)
  all_goals first
    | exact ⟨h1⟩
    | exact ⟨h2⟩
    | exact ⟨hn⟩
    | exact ⟨⟨by omega, by omega⟩⟩
    | (subst hg; simp only [er_I, szStateI]; rw [if_pos (by assumption)]; done)
    | (subst hg; simp only [er_I, szStateI]; rw [if_neg (by omega), if_pos (by assumption)]; done)
    | (subst hg; simp only [er_I, szStateI]; rw [if_neg (by omega), if_neg (by omega)]; done)
    | trace_state
theorem toShow_ok (t : Show) (h1 : t.nodes.length ≤ 1048576) (h2 : t.ties.length ≤ 1048576) (h3 : ∀ q ∈ t.nodes, q.label.length ≤ 1048576) : SCall Try.prog 8 [aShow t] (rShow t) := by
  refine SCall.of X8_ok (fn := Try.f8) (c := Try.f8.body.getD .skip) (dr := fun n => look 0 [] n) Try.func8 rfl (by kernel_rfl) (by kernel_rfl) (by kernel_rfl) ?_
  have hO : SOraOK Try.prog (oraL [(28, wToNodeS), (29, wToTieS)]) := oraL_cons wToNodeS_ok (oraL_cons wToTieS_ok oraL_nil)
  obtain ⟨cs, ps, hr⟩ := t
  have h1 : cs.length ≤ 1048576 := h1
  have h2 : ps.length ≤ 1048576 := h2
  have h3 : ∀ q ∈ cs, q.label.length ≤ 1048576 := h3
  refine SEx.go (X := X8) X8_ok (fun n => look [] [] n) (fun n => look none lv8 n) hO 8 ?_
  intro M R L N hM hAnd hImp hR hL hN
  cases M
  cbv
  repeat' first | (refine hAnd _ _ ?_ ?_) | (refine hImp _ _ (fun h => ?_)) | (refine hR _ ?_) | (refine hL _ _ (Hd.out ?_); try first | rw [hks] | rw [hk2] | rw [hk3]) | (refine hN _ _ ?_; cbv)
  all_goals (clear hAnd hImp hR hL hN; try clear hks; try clear hk2; try clear hk3)
  all_goals (cases hM; try dsimp only)
  all_goals (try simp only [Bool.not_eq_true', Bool.not_eq_false', decide_eq_true_eq, decide_eq_false_iff_not, Int.not_le, Int.not_lt, beq_iff_eq, beq_eq_false_iff_ne, ne_eq, Int.ofNat_eq_natCast, Int.toNat_natCast, List.length_replicate, ncast, Nat.sub_zero, List.drop_zero, Cue.eta, Tie.eta, Edge.eta, Link.eta, Node.eta] at *)
  all_goals first
    | exact ⟨h1⟩
    | exact ⟨h2⟩
    | exact ⟨h3⟩
    | rfl
    | trace_state
theorem toState_ok (t : State) (h1 : t.times.length ≤ 1048576) (h2 : t.vals.length ≤ 1048576) : SCall Try.prog 9 [aState t] (rState t) := by
  refine SCall.of X9_ok (fn := Try.f9) (c := Try.f9.body.getD .skip) (dr := fun n => look 0 [] n) Try.func9 rfl (by kernel_rfl) (by kernel_rfl) (by kernel_rfl) ?_
  have hO : SOraOK Try.prog (oraL [(30, wToIntS)]) := oraL_cons wToIntS_ok oraL_nil
  obtain ⟨nw, cs, ps⟩ := t
  have h1 : cs.length ≤ 1048576 := h1
  have h2 : ps.length ≤ 1048576 := h2
  refine SEx.go (X := X9) X9_ok (fun n => look [] [] n) (fun n => look none lv9 n) hO 8 ?_
  intro M R L N hM hAnd hImp hR hL hN
  cases M
  cbv
  repeat' first | (refine hAnd _ _ ?_ ?_) | (refine hImp _ _ (fun h => ?_)) | (refine hR _ ?_) | (refine hL _ _ (Hd.out ?_); try first | rw [hks] | rw [hk2] | rw [hk3]) | (refine hN _ _ ?_; cbv)
  all_goals (clear hAnd hImp hR hL hN; try clear hks; try clear hk2; try clear hk3)
  all_goals (cases hM; try dsimp only)
  all_goals (try simp only [Bool.not_eq_true', Bool.not_eq_false', decide_eq_true_eq, decide_eq_false_iff_not, Int.not_le, Int.not_lt, beq_iff_eq, beq_eq_false_iff_ne, ne_eq, Int.ofNat_eq_natCast, Int.toNat_natCast, List.length_replicate, ncast, Nat.sub_zero, List.drop_zero, Cue.eta, Tie.eta, Edge.eta, Link.eta, Node.eta] at *)
  all_goals first
    | exact ⟨h1⟩
    | exact ⟨h2⟩
    | rfl
    | trace_state
theorem eqShow_ok (t : Show) (h1 : t.nodes.length ≤ maxLen) (h2 : t.ties.length ≤ maxLen) (h3 : ∀ q ∈ t.nodes, q.label.length ≤ maxLen) : SCall Try.prog 12 [aShow t, aShow t] (rB true) := by
  refine SCall.of X12_ok (fn := Try.f12) (c := Try.f12.body.getD .skip) (dr := fun n => look 0 [] n) Try.func12 rfl (by kernel_rfl) (by kernel_rfl) (by kernel_rfl) ?_
  have hO : SOraOK Try.prog (oraL [(33, wEqNodeS), (34, wEqTieS)]) := oraL_cons wEqNodeS_ok (oraL_cons wEqTieS_ok oraL_nil)
  obtain ⟨cs, ps, hr⟩ := t
  have h1 : cs.length ≤ maxLen := h1
  have h2 : ps.length ≤ maxLen := h2
  have h3 : ∀ q ∈ cs, q.label.length ≤ maxLen := h3
  refine SEx.go (X := X12) X12_ok (fun n => look [] [] n) (fun _ => none) hO 60 ?_
  intro M R L N hM hAnd hImp hR hL hN
  cases M
  cbv
  repeat' first | (refine hAnd _ _ ?_ ?_) | (refine hImp _ _ (fun h => ?_)) | (refine hR _ ?_) | (refine hL _ _ (Hd.out ?_); try first | rw [hks] | rw [hk2] | rw [hk3]) | (refine hN _ _ ?_; cbv)
  all_goals (clear hAnd hImp hR hL hN; try clear hks; try clear hk2; try clear hk3)
  all_goals (cases hM; try dsimp only)
  all_goals (try simp only [Bool.not_eq_true', Bool.not_eq_false', decide_eq_true_eq, decide_eq_false_iff_not, Int.not_le, Int.not_lt, beq_iff_eq, beq_eq_false_iff_ne, ne_eq, Int.ofNat_eq_natCast, Int.toNat_natCast, List.length_replicate, ncast, Nat.sub_zero, List.drop_zero, Cue.eta, Tie.eta, Edge.eta, Link.eta, Node.eta] at *)
  all_goals first
    | exact ⟨h1⟩
    | exact ⟨h2⟩
    | exact ⟨h3⟩
    | exact ⟨rfl⟩
    | rfl
    | contradiction
    | exact absurd trivial (by assumption)
    | trace_state
theorem eqState_ok (t : State) (h1 : t.times.length ≤ maxLen) (h2 : t.vals.length ≤ maxLen) : SCall Try.prog 13 [aState t, aState t] (rB true) := by
  refine SCall.of X13_ok (fn := Try.f13) (c := Try.f13.body.getD .skip) (dr := fun n => look 0 [] n) Try.func13 rfl (by kernel_rfl) (by kernel_rfl) (by kernel_rfl) ?_
  have hO : SOraOK Try.prog (oraL [(11, wEqIntS)]) := oraL_cons wEqIntS_ok oraL_nil
  obtain ⟨nw, cs, ps⟩ := t
  have h1 : cs.length ≤ maxLen := h1
  have h2 : ps.length ≤ maxLen := h2
  refine SEx.go (X := X13) X13_ok (fun n => look [] [] n) (fun _ => none) hO 60 ?_
  intro M R L N hM hAnd hImp hR hL hN
  cases M
  cbv
  repeat' first | (refine hAnd _ _ ?_ ?_) | (refine hImp _ _ (fun h => ?_)) | (refine hR _ ?_) | (refine hL _ _ (Hd.out ?_); try first | rw [hks] | rw [hk2] | rw [hk3]) | (refine hN _ _ ?_; cbv)
  all_goals (clear hAnd hImp hR hL hN; try clear hks; try clear hk2; try clear hk3)
  all_goals (cases hM; try dsimp only)
  all_goals (try simp only [Bool.not_eq_true', Bool.not_eq_false', decide_eq_true_eq, decide_eq_false_iff_not, Int.not_le, Int.not_lt, beq_iff_eq, beq_eq_false_iff_ne, ne_eq, Int.ofNat_eq_natCast, Int.toNat_natCast, List.length_replicate, ncast, Nat.sub_zero, List.drop_zero, Cue.eta, Tie.eta, Edge.eta, Link.eta, Node.eta] at *)
  all_goals first
    | exact ⟨h1⟩
    | exact ⟨h2⟩
    | exact ⟨rfl⟩
    | rfl
    | contradiction
    | exact absurd trivial (by assumption)
    | trace_state
def wSzShow (f : Show → Int → Int) : Wr := w2 dcShow dcI (fun t n => rI (f t n)) (fun t n => [LLe t.nodes maxLen, LLe t.ties maxLen, NodesLe t.nodes maxLen, IRng n])
theorem wSzShow_ok : WrOK Try.prog 5 (wSzShow szShowI) := w2_ok fun t n h => szShow_ok t n (h _ (.head _)).out (h _ (.tail _ (.head _))).out (h _ (.tail _ (.tail _ (.head _)))).out (h _ (.tail _ (.tail _ (.tail _ (.head _))))).out
def wSzState (f : State → Int → Int) : Wr := w2 dcState dcI (fun t n => rI (f t n)) (fun t n => [LLe t.times maxLen, LLe t.vals maxLen, IRng n])
theorem wSzState_ok : WrOK Try.prog 6 (wSzState szStateI) := w2_ok fun t n h => szState_ok t n (h _ (.head _)).out (h _ (.tail _ (.head _))).out (h _ (.tail _ (.tail _ (.head _)))).out
def wToShow : Wr := w1 dcShow rShow (fun t => [LLe t.nodes 1048576, LLe t.ties 1048576, LabsLe t.nodes 1048576])
theorem wToShow_ok : WrOK Try.prog 8 wToShow := w1_ok fun t h => toShow_ok t (h _ (.head _)).out (h _ (.tail _ (.head _))).out (h _ (.tail _ (.tail _ (.head _)))).out
def wToState : Wr := w1 dcState rState (fun t => [LLe t.times 1048576, LLe t.vals 1048576])
theorem wToState_ok : WrOK Try.prog 9 wToState := w1_ok fun t h => toState_ok t (h _ (.head _)).out (h _ (.tail _ (.head _))).out
def wEqShow : Wr := w2 dcShow dcShow (fun _ _ => rB true) (fun t u => [Same t u, LLe t.nodes maxLen, LLe t.ties maxLen, LabsLe t.nodes maxLen])
theorem wEqShow_ok : WrOK Try.prog 12 wEqShow := w2_ok fun t u h => by
  obtain rfl := (h _ (.head _)).out
  exact eqShow_ok t (h _ (.tail _ (.head _))).out (h _ (.tail _ (.tail _ (.head _)))).out (h _ (.tail _ (.tail _ (.tail _ (.head _))))).out
def wEqState : Wr := w2 dcState dcState (fun _ _ => rB true) (fun t u => [Same t u, LLe t.times maxLen, LLe t.vals maxLen])
theorem wEqState_ok : WrOK Try.prog 13 wEqState := w2_ok fun t u h => by
  obtain rfl := (h _ (.head _)).out
  exact eqState_ok t (h _ (.tail _ (.head _))).out (h _ (.tail _ (.tail _ (.head _)))).out
theorem szShow_20 {t : Show} {n : Int} (h0 : 0 ≤ n) (h : 0 ≤ szShowI t n) : (t.nodes.length : Int) ≤ n ∧ (t.ties.length : Int) ≤ n ∧ (∀ q ∈ t.nodes, (q.name.size : Int) ≤ n ∧ (q.label.length : Int) ≤ n) ∧ szShowI t n ≤ n := by
  unfold szShowI at h ⊢
  have h1 := szNodeSI_le (l := t.nodes) h0
  split at h
  · omega
  · rename_i ha
    rw [if_neg ha]
    split at h
    · omega
    · rename_i hb
      rw [if_neg hb]
      have h2 := h1.2 (by omega)
      have h3 := szL_le t.ties (n := szNodeSI t.nodes n) (by omega)
      refine ⟨h2.1, ?_, h2.2, by omega⟩
      unfold szL at hb
      split at hb <;> omega
theorem szState_20 {t : State} {n : Int} (h0 : 0 ≤ n) (h : 0 ≤ szStateI t n) : (t.times.length : Int) ≤ n ∧ (t.vals.length : Int) ≤ n := by
  unfold szStateI at h
  split at h
  · omega
  · rename_i ha
    split at h
    · omega
    · rename_i hb
      unfold szL at ha hb
      constructor
      · split at ha <;> omega
      · split at hb
        · omega
        · split at ha <;> split at hb <;> omega
end Go.Proofs.Ytececadpjelanaa.Ai
