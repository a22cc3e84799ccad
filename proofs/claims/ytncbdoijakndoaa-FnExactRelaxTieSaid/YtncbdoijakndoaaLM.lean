/- The state of a label; nodes' states. -/
import Derived.Test.YtncbdoijakndoaaTy
import Derived.Test.YtncbdoijakndoaaU
import Derived.Test.YtncbdoijakndoaaLB
import Derived.Test.YtncbdoijakndoaaLD
import Derived.Test.YtncbdoijakndoaaLH
import Derived.Test.YtncbdoijakndoaaLI
import Derived.Test.YtncbdoijakndoaaLJ
import Derived.Test.YtncbdoijakndoaaLK
namespace Go.Proofs.Ytncbdoijakndoaa.Ai
open Go
set_option maxRecDepth 100000
set_option linter.unusedVariables false
set_option linter.unusedSimpArgs false
def litV (v : List Int) (x : Int) : Int := if x < 0 then -(v.getD (propI x - 1).toNat 0) else v.getD (propI x - 1).toNat 0
def labF (v : List Int) : List Int → Int → Int
  | [], s => s
  | x :: r, s => labF v r (min s (litV v x))
theorem labF_drop {v l : List Int} {i : Nat} {s : Int} (h : i < l.length) : labF v (l.drop i) s = labF v (l.drop (i + 1)) (min s (litV v (l.getD i 0))) := by
  rw [List.drop_eq_getElem_cons h, getD_get h]
  rfl
theorem valuesB_ge {v : List Int} (h : valuesB v = true) (i : Nat) : -1 ≤ v.getD i 0 ∧ v.getD i 0 ≤ 1 := by
  unfold valuesB at h
  rw [Bool.and_eq_true] at h
  by_cases hi : i < v.length
  · obtain ⟨j, hj⟩ := allF_mem h.1 (mem_getD (z := (0 : Int)) hi).out
    simpa [valB] using hj
  · rw [List.getD_eq_getElem?_getD, List.getElem?_eq_none (by omega)]
    exact ⟨by decide, by decide⟩
theorem litV_ge {v : List Int} (h : valuesB v = true) (x : Int) : -1 ≤ litV v x ∧ litV v x ≤ 1 := by
  unfold litV
  have := valuesB_ge h (propI x - 1).toNat
  split <;> omega
theorem labF_ge {v : List Int} (h : valuesB v = true) : ∀ (l : List Int) (s : Int), -1 ≤ s → s ≤ 1 → -1 ≤ labF v l s ∧ labF v l s ≤ 1
  | [], s, h1, h2 => ⟨h1, h2⟩
  | x :: r, s, h1, h2 => labF_ge h r _ (by have := litV_ge h x; omega) (by omega)
structure LabT (l : List Int) : Prop where out : labelB l = true
structure ValT (l : List Int) : Prop where out : valuesB l = true
theorem labT_len {l : List Int} (h : labelB l = true) : l.length ≤ 3 := by
  have key : ∀ n, n ≤ l.length → ∀ j, j < n → (j : Int) + 1 ≤ propI (l.getD j 0) := by
    intro n hn j hj
    induction j with
    | zero =>
      have := (labelB_in h _ (mem_getD (z := (0 : Int)) (show 0 < l.length by omega)).out).2
      omega
    | succ j ih =>
      have h1 := ih (by omega)
      have h2 := (of_decide_eq_true (allR_get h (j + 1) (by omega))).2.2.2 (by omega)
      rw [Nat.add_sub_cancel] at h2
      omega
  apply Decidable.byContradiction
  intro hn
  have h1 := key l.length (Nat.le_refl _) 3 (by omega)
  have h2 := labelB_mem h (mem_getD (z := (0 : Int)) (show 3 < l.length by omega)).out
  have h3 := propI_le h2.2.1 h2.2.2
  omega
theorem if_min (a s : Int) : (if a < s then a else s) = min s a := by rw [Int.min_def]; split <;> split <;> omega
structure LitT (x : Int) : Prop where out : ¬ x = 0 ∧ -3 ≤ x ∧ x ≤ 3
def wHolds (f : List Int → Int → Int) : Wr := w2 dcI dcIs (fun x v => rI (f v x)) (fun x v => [LitT x, ValT v])
def nsI (t : Show) (x : State) (i : Int) : Int := labF x.vals (nd t.nodes i).label 1
structure StT (t : Show) (x : State) : Prop where
  sh : showB t = true
  st : stateB t x = true
theorem StT.vals {t : Show} {x : State} (h : StT t x) : valuesB x.vals = true := by
  have := h.st
  unfold stateB at this
  rw [Bool.and_eq_true, Bool.and_eq_true] at this
  exact this.2.1
theorem StT.now {t : Show} {x : State} (h : StT t x) : 0 ≤ x.now ∧ x.now ≤ t.hor + 1 ∧ x.times.length = t.nodes.length := by
  have := h.st
  unfold stateB at this
  rw [Bool.and_eq_true, decide_eq_true_eq] at this
  exact this.1
theorem allF_getD {α : Type} {p : Nat → α → Bool} : ∀ {l : List α} {n i : Nat} (z : α), allF p l n = true → i < l.length → p (n + i) (l.getD i z) = true
  | a :: r, n, 0, z, h, _ => by
    unfold allF at h
    rw [Bool.and_eq_true] at h
    simpa using h.1
  | a :: r, n, i + 1, z, h, hi => by
    unfold allF at h
    rw [Bool.and_eq_true] at h
    have := allF_getD z h.2 (show i < r.length by simpa using hi)
    rw [List.getD_cons_succ, show n + (i + 1) = n + 1 + i by omega]
    exact this
theorem StT.time {t : Show} {x : State} (h : StT t x) (i : Nat) : -1 ≤ x.times.getD i 0 ∧ x.times.getD i 0 ≤ 10 := by
  have hn := h.now
  have hh := showB_hor h.sh
  have := h.st
  unfold stateB at this
  rw [Bool.and_eq_true, Bool.and_eq_true, Bool.and_eq_true] at this
  by_cases hi : i < x.times.length
  · have h1 := allF_getD (0 : Int) this.2.2.1 hi
    rw [Nat.zero_add, timeP, decide_eq_true_eq] at h1
    by_cases h0 : i = 0
    · have := h1.1 h0; omega
    · have := h1.2 (by omega); omega
  · rw [List.getD_eq_getElem?_getD, List.getElem?_eq_none (by omega)]
    exact ⟨by decide, by decide⟩
structure StLe (t : Show) (x : State) : Prop where
  sh : ShowLe t
  st : StateLe x
end Go.Proofs.Ytncbdoijakndoaa.Ai
