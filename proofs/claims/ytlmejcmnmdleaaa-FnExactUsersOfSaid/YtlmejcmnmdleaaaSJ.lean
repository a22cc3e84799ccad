/- Sheets, part 3. -/
import Derived.Test.YtlmejcmnmdleaaaTy
import Derived.Test.YtlmejcmnmdleaaaU
import Derived.Test.YtlmejcmnmdleaaaCU
import Derived.Test.YtlmejcmnmdleaaaSH
import Derived.Test.YtlmejcmnmdleaaaSI
namespace Go.Proofs.Ytlmejcmnmdleaaa.Ai
open Go
set_option maxRecDepth 100000
set_option linter.unusedVariables false
set_option linter.unusedSimpArgs false
theorem toSheet_ok (t : Sheet) (h1 : t.cues.length ≤ 1048576) (h2 : t.prep.length ≤ 1048576) : SCall Try.prog 12 [aSheet t] (rSheet t) := by
  refine SCall.of X12_ok (fn := Try.f12) (c := Try.f12.body.getD .skip) (dr := fun n => look 0 [] n) Try.func12 rfl (by kernel_rfl) (by kernel_rfl) (by kernel_rfl) ?_
  have hO : SOraOK Try.prog (oraL [(40, wToCueS), (30, wToIntS)]) := oraL_cons wToCueS_ok (oraL_cons wToIntS_ok oraL_nil)
  obtain ⟨cs, ps, hr⟩ := t
  have h1 : cs.length ≤ 1048576 := h1
  have h2 : ps.length ≤ 1048576 := h2
  refine SEx.go (X := X12) X12_ok (fun n => look [] [] n) (fun n => look none lv12 n) hO 8 ?_
  intro M R L N hM hAnd hImp hR hL hN
  cases M
  cbv
  repeat' first | (refine hAnd _ _ ?_ ?_) | (refine hImp _ _ (fun h => ?_)) | (refine hR _ ?_) | (refine hL _ _ (Hd.out ?_); try rw [hks]) | (refine hN _ _ ?_; cbv)
  all_goals (clear hAnd hImp hR hL hN; try clear hks)
  all_goals (cases hM; try dsimp only)
  all_goals (try simp only [Bool.not_eq_true', Bool.not_eq_false', decide_eq_true_eq, decide_eq_false_iff_not, Int.not_le, Int.not_lt, beq_iff_eq, beq_eq_false_iff_ne, ne_eq, Int.ofNat_eq_natCast, Int.toNat_natCast, List.length_replicate, ncast, Nat.sub_zero, List.drop_zero, Cue.eta, Tie.eta, Edge.eta, Link.eta, Node.eta] at *)
  all_goals first
    | exact ⟨h1⟩
    | exact ⟨h2⟩
    | rfl
theorem eqSheet_ok (t : Sheet) (h1 : t.cues.length ≤ maxLen) (h2 : t.prep.length ≤ maxLen) : SCall Try.prog 14 [aSheet t, aSheet t] (rB true) := by
  refine SCall.of X14_ok (fn := Try.f14) (c := Try.f14.body.getD .skip) (dr := fun n => look 0 [] n) Try.func14 rfl (by kernel_rfl) (by kernel_rfl) (by kernel_rfl) ?_
  have hO : SOraOK Try.prog (oraL [(46, wEqCueS), (25, wEqIntS)]) := oraL_cons wEqCueS_ok (oraL_cons wEqIntS_ok oraL_nil)
  obtain ⟨cs, ps, hr⟩ := t
  have h1 : cs.length ≤ maxLen := h1
  have h2 : ps.length ≤ maxLen := h2
  refine SEx.go (X := X14) X14_ok (fun n => look [] [] n) (fun _ => none) hO 60 ?_
  intro M R L N hM hAnd hImp hR hL hN
  cases M
  cbv
  repeat' first | (refine hAnd _ _ ?_ ?_) | (refine hImp _ _ (fun h => ?_)) | (refine hR _ ?_) | (refine hL _ _ (Hd.out ?_); try rw [hks]) | (refine hN _ _ ?_; cbv)
  all_goals (clear hAnd hImp hR hL hN; try clear hks)
  all_goals (cases hM; try dsimp only)
  all_goals (try simp only [Bool.not_eq_true', Bool.not_eq_false', decide_eq_true_eq, decide_eq_false_iff_not, Int.not_le, Int.not_lt, beq_iff_eq, beq_eq_false_iff_ne, ne_eq, Int.ofNat_eq_natCast, Int.toNat_natCast, List.length_replicate, ncast, Nat.sub_zero, List.drop_zero, Cue.eta, Tie.eta, Edge.eta, Link.eta, Node.eta] at *)
  all_goals first
    | exact ⟨h1⟩
    | exact ⟨h2⟩
    | exact ⟨rfl⟩
    | rfl
    | contradiction
    | exact absurd trivial (by assumption)
def szSheetI (t : Sheet) (n : Int) : Int := if szCueSI t.cues n < 0 then -1 else if szL t.prep (szCueSI t.cues n) < 0 then -1 else szL t.prep (szCueSI t.cues n)
theorem szCueF_le : ∀ (l : List Cue) (n : Int), 0 ≤ n → szCueF l n ≤ n ∧ (0 ≤ szCueF l n → ∀ q ∈ l, q.name.size ≤ n)
  | [], n, h => ⟨Int.le_refl _, fun _ q hq => by cases hq⟩
  | q :: r, n, h => by
    have h0 := szCueI_le q h
    unfold szCueF
    by_cases hn : szCueI q n < 0
    · rw [if_pos hn]; exact ⟨by omega, fun h => by omega⟩
    · rw [if_neg hn]
      have ih := szCueF_le r (szCueI q n) (by omega)
      refine ⟨by omega, fun h1 x hx => ?_⟩
      rcases List.mem_cons.1 hx with rfl | hx
      · unfold szCueI at hn; split at hn <;> omega
      · have := ih.2 h1 x hx; omega
theorem szCueSI_le {l : List Cue} {n : Int} (h : 0 ≤ n) : szCueSI l n ≤ n ∧ (0 ≤ szCueSI l n → (l.length : Int) ≤ n ∧ ∀ q ∈ l, q.name.size ≤ n) := by
  unfold szCueSI
  split
  · exact ⟨by omega, fun h => by omega⟩
  · have := szCueF_le l (n - l.length) (by omega)
    refine ⟨by omega, fun h1 => ⟨by omega, fun q hq => ?_⟩⟩
    have := this.2 h1 q hq
    omega
theorem szSheet_ok (t : Sheet) (n : Int) (h1 : t.cues.length ≤ maxLen) (h2 : t.prep.length ≤ maxLen) (h3 : ∀ q ∈ t.cues, q.name.size ≤ maxLen) (hn : 0 ≤ n ∧ n ≤ 9223372036854775807) : SCall Try.prog 10 [aSheet t, aI n] (rI (szSheetI t n)) := by
  refine SCall.of X10_ok (fn := Try.f10) (c := Try.f10.body.getD .skip) (dr := fun n => look 0 [] n) Try.func10 rfl (by kernel_rfl) (by kernel_rfl) (by kernel_rfl) ?_
  obtain ⟨f, hf⟩ : ∃ f, f = szCueSI := ⟨_, rfl⟩
  obtain ⟨g, hg⟩ : ∃ g : List Int → Int → Int, g = szL := ⟨_, rfl⟩
  have hO : SOraOK Try.prog (oraL [(35, wSzCueS f), (36, w2 dcIs dcI (fun l n => rI (g l n)) (fun l n => [LLe l maxLen, IRng n]))]) := by subst hf hg; exact oraL_cons wSzCueS_ok (oraL_cons wSzIntS_ok oraL_nil)
  obtain ⟨cs, ps, hr⟩ := t
  have h1 : cs.length ≤ maxLen := h1
  have h2 : ps.length ≤ maxLen := h2
  have h3 : ∀ q ∈ cs, q.name.size ≤ maxLen := h3
  have h4 : f cs n ≤ n := by rw [hf]; exact (szCueSI_le hn.1).1
  refine SEx.go (X := X10) X10_ok (fun n => look [] [] n) (fun _ => none) hO 60 ?_
  intro M R L N hM hAnd hImp hR hL hN
  cases M
  cbv
  repeat' first | (refine hAnd _ _ ?_ ?_) | (refine hImp _ _ (fun h => ?_)) | (refine hR _ ?_) | (refine hL _ _ (Hd.out ?_); try rw [hks]) | (refine hN _ _ ?_; cbv)
  all_goals (clear hAnd hImp hR hL hN; try clear hks)
  all_goals (cases hM; try dsimp only)
  all_goals (try simp only [Bool.not_eq_true', Bool.not_eq_false', decide_eq_true_eq, decide_eq_false_iff_not, Int.not_le, Int.not_lt, beq_iff_eq, beq_eq_false_iff_ne, ne_eq, Int.ofNat_eq_natCast, Int.toNat_natCast, List.length_replicate, ncast, Nat.sub_zero, List.drop_zero, Cue.eta, Tie.eta, Edge.eta, Link.eta, Node.eta] at *)
  all_goals first
    | exact ⟨h1⟩
    | exact ⟨h2⟩
    | exact ⟨h3⟩
    | exact ⟨hn⟩
    | exact ⟨by omega, by omega⟩
    | (clear hO; simp only [er_I, szSheetI]; subst hf hg; simp_all; done)
    | (clear hO; simp only [er_I, szSheetI]; subst hf hg; split <;> (try split) <;> first | rfl | omega)
theorem szSheet_ge {t : Sheet} {n : Int} (hn : 0 ≤ n) (h : 0 ≤ szSheetI t n) : (t.cues.length : Int) ≤ n ∧ (t.prep.length : Int) ≤ n ∧ ∀ q ∈ t.cues, (q.name.size : Int) ≤ n := by
  unfold szSheetI at h
  split at h
  · omega
  · split at h
    · omega
    · rename_i h1 h2
      have h3 := szCueSI_le (l := t.cues) hn
      have h4 := h3.2 (by omega)
      refine ⟨h4.1, ?_, h4.2⟩
      unfold szL at h2
      split at h2 <;> omega
theorem szSheet_20 {t : Sheet} (h : 0 ≤ szSheetI t 1048576) : t.cues.length ≤ 1048576 ∧ t.prep.length ≤ 1048576 ∧ ∀ q ∈ t.cues, q.name.size ≤ 1048576 := by
  obtain ⟨h1, h2, h3⟩ := szSheet_ge (by omega) h
  exact ⟨by omega, by omega, fun q hq => by have := h3 q hq; omega⟩
def wToSheet : Wr := w1 dcSheet rSheet (fun t => [LLe t.cues 1048576, LLe t.prep 1048576])
theorem wToSheet_ok : WrOK Try.prog 12 wToSheet := w1_ok fun t h => toSheet_ok t (h _ (.head _)).out (h _ (.tail _ (.head _))).out
def wEqSheet : Wr := w2 dcSheet dcSheet (fun _ _ => rB true) (fun t u => [Same t u, LLe t.cues maxLen, LLe t.prep maxLen])
theorem wEqSheet_ok : WrOK Try.prog 14 wEqSheet := w2_ok fun t u h => by
  obtain rfl := (h _ (.head _)).out
  exact eqSheet_ok t (h _ (.tail _ (.head _))).out (h _ (.tail _ (.tail _ (.head _)))).out
def wSzSheet (f : Sheet → Int → Int) : Wr := w2 dcSheet dcI (fun t n => rI (f t n)) (fun t n => [LLe t.cues maxLen, LLe t.prep maxLen, NamesOk t.cues, IRng n])
theorem wSzSheet_ok : WrOK Try.prog 10 (wSzSheet szSheetI) := w2_ok fun t n h => szSheet_ok t n (h _ (.head _)).out (h _ (.tail _ (.head _))).out (h _ (.tail _ (.tail _ (.head _)))).out (h _ (.tail _ (.tail _ (.tail _ (.head _))))).out
end Go.Proofs.Ytlmejcmnmdleaaa.Ai
