/- Sheets, part 3. -/
import Derived.Test.YtececadpjelanaaTy
import Derived.Test.YtececadpjelanaaSI
namespace Go.Proofs.Ytececadpjelanaa.Ai
open Go
set_option maxRecDepth 100000
set_option linter.unusedVariables false
set_option linter.unusedSimpArgs false
def szSheetI (t : Sheet) (n : Int) : Int := if szCueSI t.cues n < 0 then -1 else if szL t.prep (szCueSI t.cues n) < 0 then -1 else szL t.prep (szCueSI t.cues n)
theorem szCueF_le : ∀ (l : List Cue) (n : Int), 0 ≤ n → szCueF l n ≤ n ∧ (0 ≤ szCueF l n → ∀ q ∈ l, q.name.size ≤ n)
  | [], n, h => ⟨Int.le_refl _, fun _ q hq => by cases hq⟩
  | q :: r, n, h => by
    have h0 := szCueI_le q h
    unfold szCueF
    by_cases hn : szCueI q n < 0
    · rw [if_pos hn]; exact ⟨by omega, fun h => by omega⟩
    · rw [if_neg hn]
      have ih := szCueF_le r (szCueI q n) (by omega)
      refine ⟨by omega, fun h1 x hx => ?_⟩
      rcases List.mem_cons.1 hx with rfl | hx
      · unfold szCueI at hn; split at hn <;> omega
      · have := ih.2 h1 x hx; omega
theorem szCueSI_le {l : List Cue} {n : Int} (h : 0 ≤ n) : szCueSI l n ≤ n ∧ (0 ≤ szCueSI l n → (l.length : Int) ≤ n ∧ ∀ q ∈ l, q.name.size ≤ n) := by
  unfold szCueSI
  split
  · exact ⟨by omega, fun h => by omega⟩
  · have := szCueF_le l (n - l.length) (by omega)
    refine ⟨by omega, fun h1 => ⟨by omega, fun q hq => ?_⟩⟩
    have := this.2 h1 q hq
    omega
theorem szSheet_ge {t : Sheet} {n : Int} (hn : 0 ≤ n) (h : 0 ≤ szSheetI t n) : (t.cues.length : Int) ≤ n ∧ (t.prep.length : Int) ≤ n ∧ ∀ q ∈ t.cues, (q.name.size : Int) ≤ n := by
  unfold szSheetI at h
  split at h
  · omega
  · split at h
    · omega
    · rename_i h1 h2
      have h3 := szCueSI_le (l := t.cues) hn
      have h4 := h3.2 (by omega)
      refine ⟨h4.1, ?_, h4.2⟩
      unfold szL at h2
      split at h2 <;> omega
theorem szSheet_20 {t : Sheet} (h : 0 ≤ szSheetI t 1048576) : t.cues.length ≤ 1048576 ∧ t.prep.length ≤ 1048576 ∧ ∀ q ∈ t.cues, q.name.size ≤ 1048576 := by
  obtain ⟨h1, h2, h3⟩ := szSheet_ge (by omega) h
  exact ⟨by omega, by omega, fun q hq => by have := h3 q hq; omega⟩
def wToSheet : Wr := w1 dcSheet rSheet (fun t => [LLe t.cues 1048576, LLe t.prep 1048576])
def wEqSheet : Wr := w2 dcSheet dcSheet (fun _ _ => rB true) (fun t u => [Same t u, LLe t.cues maxLen, LLe t.prep maxLen])
def wSzSheet (f : Sheet → Int → Int) : Wr := w2 dcSheet dcI (fun t n => rI (f t n)) (fun t n => [LLe t.cues maxLen, LLe t.prep maxLen, NamesOk t.cues, IRng n])
end Go.Proofs.Ytececadpjelanaa.Ai
