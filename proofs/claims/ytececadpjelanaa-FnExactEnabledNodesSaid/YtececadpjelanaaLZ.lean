/- Sheets compiled: the parts. -/
import Derived.Test.YtececadpjelanaaTy
import Derived.Test.YtececadpjelanaaLY
namespace Go.Proofs.Ytececadpjelanaa.Ai
open Go
set_option maxRecDepth 100000
set_option linter.unusedVariables false
set_option linter.unusedSimpArgs false
def labL (n : Int) : List Int := if n = 0 then [] else [n]
def wLabelOf (f : Int → List Int) : Wr := w1 dcI (fun n => rIs (f n)) (fun _ => [])
def overF (b e : List Int) (c : Nat) : Int := if 0 ≤ e.getD c 0 then e.getD c 0 else b.getD c 0
structure OvH (b e : List Int) (c : Int) : Prop where
  c : 0 ≤ c ∧ c < b.length
  e : e.length = b.length
def wOver (f : List Int → List Int → Nat → Int) : Wr := w3 dcIs dcIs dcI (fun b e c => rI (f b e c.toNat)) (fun b e c => [OvH b e c])
theorem begL_getD {cs : List Cue} {n i : Nat} (h : i < n) : (begL cs n).getD i 0 = nAt cs i := by
  rw [getD_get (by rw [begL_len]; exact h)]; simp [begL]
theorem endL_getD {cs : List Cue} {n i : Nat} (h : i < n) : (endL cs n).getD i 0 = endA cs i := by
  rw [getD_get (by simp [endL]; exact h)]; simp [endL]
theorem overF_eq {cs : List Cue} {n i : Nat} (h : i < n) : overF (begL cs n) (endL cs n) i = endI cs i := by
  unfold overF
  rw [begL_getD h, endL_getD h]
  unfold endA endI
  by_cases hm : (cs.getD i Cue.z).max = 0
  · rw [if_pos hm, if_neg (by omega), if_pos hm]
  · rw [if_neg hm, if_pos (by omega), if_neg hm]
def meetI (a b : Int) : Bool := decide (a = 0) || (decide (b = 0) || !decide (a = -b))
theorem meetI_comm (a b : Int) : meetI a b = meetI b a := by
  unfold meetI
  rw [Bool.eq_iff_iff]
  simp
  omega
structure MtH (t : Sheet) (i k : Int) : Prop where
  i : 0 ≤ i ∧ i < t.cues.length
  k : 0 ≤ k ∧ k < t.cues.length
  len : t.cues.length ≤ 6
  all : ∀ q ∈ t.cues, -3 ≤ q.cond ∧ q.cond ≤ 3
def meetT (t : Sheet) (i k : Nat) : Bool := meetI (t.cues.getD i Cue.z).cond (t.cues.getD k Cue.z).cond
def wMeet (f : Sheet → Nat → Nat → Bool) : Wr := w3 dcSheet dcI dcI (fun t i k => rB (f t i.toNat k.toNat)) (fun t i k => [MtH t i k])
end Go.Proofs.Ytececadpjelanaa.Ai
