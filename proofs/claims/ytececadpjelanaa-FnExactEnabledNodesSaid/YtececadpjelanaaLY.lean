/- HurryTie and RelaxTie: the laws. -/
import Derived.Test.YtececadpjelanaaTy
import Derived.Test.YtececadpjelanaaLX
namespace Go.Proofs.Ytececadpjelanaa.Ai
open Go
set_option maxRecDepth 100000
set_option linter.unusedVariables false
set_option linter.unusedSimpArgs false
theorem fN_labs {k : Int} {l : List Node} {n : Nat} (h : ∀ q ∈ l, q.label.length ≤ n) : ∀ q ∈ fN k l, q.label.length ≤ n := by
  intro q hq
  obtain ⟨i, hi, rfl⟩ := List.mem_iff_getElem.1 hq
  have h3 : i < l.length := by rw [fN_len] at hi; exact hi
  rw [← getD_get (z := Node.z) hi, fN_getD h3]
  unfold mNd
  dsimp only
  rw [markI_len]
  exact h _ (mem_getD (z := Node.z) h3).out
theorem shT_len (k : Int) (l : List Node) (m : Nat) : (shT k l m).length = m := markTi_len _ _
theorem shG_fN (k : Int) (l : List Node) (m : Nat) : shG k (fN k l) m = shG k l m := by unfold shG; rw [gN_fN]
theorem shT_fN (k : Int) (l : List Node) (m : Nat) : shT k (fN k l) m = shT k l m := by unfold shT; rw [gN_fN]
structure HTi (k : Int) (n : Nat) : Prop where out : n ≤ maxLen ∧ 0 < k ∧ k + 5 * n ≤ 4611686018427387904
def wHeldTi (g : Int → Nat → Int) (f : Int → Nat → List Tie) (ln : List Tie → Nat) : Wr := w2 dcTies dcI (fun l k => rI (g k (ln l))) (fun l k => [Same l (f k (ln l)), HTi k (ln l)])
structure HN (l : List Node) (k b : Int) : Prop where out : l.length ≤ maxLen ∧ (∀ q ∈ l, q.label.length ≤ maxLen) ∧ 0 < k ∧ b ≤ 4611686018427387904
def wHeldN (g : Int → List Node → Int) (f : Int → List Node → List Node) : Wr := w2 dcNodes dcI (fun l k => rI (g k l)) (fun l k => [Same l (f k l), HN l k (g k l)])
structure HSh (t : Show) (k : Int) (n : Nat) (b : Int) : Prop where out : t.nodes = fN k t.nodes ∧ t.ties = shT k t.nodes n ∧ n = t.ties.length ∧ t.nodes.length ≤ maxLen ∧ (∀ q ∈ t.nodes, q.label.length ≤ maxLen) ∧ n ≤ maxLen ∧ 0 < k ∧ b ≤ 4611686018427387904
def wHeldShow (g : Int → List Node → Nat → Int) (ln : List Tie → Nat) : Wr := w2 dcShow dcI (fun t k => rI (g k t.nodes (ln t.ties))) (fun t k => [HSh t k (ln t.ties) (g k t.nodes (ln t.ties))])
theorem shG_of {l : List Node} {m : Nat} (h1 : l.length ≤ 1048576) (h2 : ∀ q ∈ l, q.label.length ≤ 1048576) (h3 : m ≤ 1048576) : 0 < shG 1 l m ∧ shG 1 l m ≤ 4000000000000 := by
  have a := kN_le 1 h2 l.length (Nat.le_refl _)
  have b := kN_mono 1 l 0 l.length
  rw [kN_zero, Nat.zero_add] at b
  unfold shG addT gN
  omega
theorem shx_MkSh (s : Show) (h : ShowMem s) : MkSh (lrt 0, []) (lrt 1, []) s.nodes.length s.nodes.length s.ties.length s.ties.length s.nodes s.ties 1 (shG 1 s.nodes s.ties.length) := by
  have := shG_of h.len h.labs h.tlen
  exact ⟨⟨rfl, rfl, rfl, rfl⟩, rfl, rfl, Nat.le_trans h.len (by decide), Nat.le_trans h.tlen (by decide), fun q hq => Nat.le_trans (h.labs q hq) (by decide), by decide, by omega⟩
theorem shx_HSh (s : Show) (h : ShowMem s) : HSh ⟨fN 1 s.nodes, shT 1 s.nodes s.ties.length, s.hor⟩ 1 s.ties.length (shG 1 s.nodes s.ties.length) := by
  have := shG_of h.len h.labs h.tlen
  exact ⟨(fN_fN _ _).symm, (shT_fN _ _ _).symm, (shT_len _ _ _).symm, by dsimp only; rw [fN_len]; exact Nat.le_trans h.len (by decide), fun q hq => Nat.le_trans (fN_labs h.labs q hq) (by decide), Nat.le_trans h.tlen (by decide), by decide, by omega⟩
theorem tieX_or (fr : Bool) (t : Show) (k y : Int) : tieX fr t k y = wideS t k (sgB fr y) ∨ tieX fr t k y = ⟨[], [], 0⟩ := by
  unfold tieX
  cases tieOk fr t k y
  · exact .inr rfl
  · exact .inl rfl
theorem tieX_mem {fr : Bool} {t : Show} {k y : Int} (h : ShowMem t) : ShowMem (tieX fr t k y) := by
  rcases tieX_or fr t k y with e | e <;> rw [e]
  · exact ⟨h.len, by unfold wideS; rw [modL_length]; exact h.tlen, h.labs⟩
  · exact ⟨Nat.zero_le _, Nat.zero_le _, fun q hq => by cases hq⟩
theorem tieX_le {fr : Bool} {t : Show} {k y : Int} (h : ShowLe t) : ShowLe (tieX fr t k y) := by
  rcases tieX_or fr t k y with e | e <;> rw [e]
  · exact wideS_le h _ _
  · exact ⟨Nat.zero_le _, Nat.zero_le _, fun q hq => by cases hq⟩
theorem ShowSz.mem {t : Show} {n : Int} (h : ShowSz t n) : ShowMem t := ⟨h.len, h.tlen, h.labs⟩
end Go.Proofs.Ytececadpjelanaa.Ai
