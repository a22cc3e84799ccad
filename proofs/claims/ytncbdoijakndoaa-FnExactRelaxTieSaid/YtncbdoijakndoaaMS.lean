/- Slices of slices: equality, marks. -/
import Derived.Test.YtncbdoijakndoaaTy
import Derived.Test.YtncbdoijakndoaaU
import Derived.Test.YtncbdoijakndoaaMK
namespace Go.Proofs.Ytncbdoijakndoaa.Ai
open Go
set_option maxRecDepth 100000
set_option linter.unusedVariables false
set_option linter.unusedSimpArgs false
structure LAll (l : List (List Int)) (n : Nat) : Prop where out : ∀ x ∈ l, x.length ≤ n
def wEqIntSS : Wr := w2 dcIss dcIss (fun _ _ => rB true) (fun l m => [Same l m, LLe l maxLen, LAll l maxLen])
def kkS (k : Int) (l : List (List Int)) (i : Nat) : Int := k + (((l.take i).map List.length).sum : Nat)
theorem kkS_zero (k : Int) (l : List (List Int)) : kkS k l 0 = k := by simp [kkS]
theorem kkS_succ {k : Int} {l : List (List Int)} {i : Nat} (h : i < l.length) : kkS k l (i + 1) = addI (kkS k l i) (l.getD i []).length := by
  unfold kkS addI
  rw [List.take_add_one, List.getElem?_eq_getElem h, getD_get h, Option.toList_some, List.map_append, List.sum_append, List.map_cons, List.map_nil, List.sum_cons, List.sum_nil]
  omega
theorem kkS_mono (k : Int) (l : List (List Int)) (i : Nat) : ∀ d, kkS k l i ≤ kkS k l (i + d)
  | 0 => Int.le_refl _
  | d + 1 => by
    by_cases h : i + d < l.length
    · rw [← Nat.add_assoc, kkS_succ h]
      have := kkS_mono k l i d
      unfold addI
      omega
    · have h1 : kkS k l (i + d + 1) = kkS k l (i + d) := by unfold kkS; rw [List.take_of_length_le (by omega), List.take_of_length_le (by omega)]
      have := kkS_mono k l i d
      rw [← Nat.add_assoc]
      omega
def mE (k : Int) (l : List (List Int)) (j : Nat) : List Int := markI (kkS k l j) (l.getD j []).length
def mSS (k : Int) (l : List (List Int)) (i : Nat) : List (List Int) := (List.range i).map (mE k l)
theorem mSS_len (k : Int) (l : List (List Int)) (i : Nat) : (mSS k l i).length = i := by simp [mSS]
theorem mSS_succ (k : Int) (l : List (List Int)) (i : Nat) : mSS k l (i + 1) = mSS k l i ++ [mE k l i] := by simp [mSS, List.range_succ]
theorem mSS_step {k : Int} {i : Nat} {l : List (List Int)} (hi : i < l.length) : (mSS k l i ++ l.drop i).set i (mE k l i) = mSS k l (i + 1) ++ l.drop (i + 1) := by
  rw [List.set_append_right _ _ (by rw [mSS_len]; omega), mSS_len, Nat.sub_self, mSS_succ, List.append_assoc, List.drop_eq_getElem_cons hi]; rfl
theorem mSS_here {k : Int} {i : Nat} {l : List (List Int)} (hi : i < l.length) : (mSS k l i ++ l.drop i).getD i [] = l.getD i [] := by
  rw [List.getD_eq_getElem?_getD, List.getElem?_append_right (by rw [mSS_len]; omega), mSS_len, Nat.sub_self, List.getElem?_drop, Nat.add_zero, List.getD_eq_getElem?_getD]
structure MkSS (p : SP) (n m : Nat) (l : List (List Int)) (k b : Int) : Prop where out : p = (lrt 0, []) ∧ m = n ∧ l.length = n ∧ n ≤ maxLen ∧ (∀ x ∈ l, x.length ≤ maxLen) ∧ 0 ≤ k ∧ b ≤ 4611686018427387904
def gSS (k : Int) (l : List (List Int)) : Int := kkS k l l.length
def fSS (k : Int) (l : List (List Int)) : List (List Int) := mSS k l l.length
def wMarkSS (f : Int → List (List Int) → List (List Int)) (g : Int → List (List Int) → Int) : WrW
  | [(false, [.rf p true 0 n]), (false, [.fz (.int .i64 k)])], [(.sl m, .osl (.ii true none l))] => some ([MkSS p n m l k (g k l)], (.v (bI1 (g k l)), [(lrt 0, .osl (.ii true none (f k l)))], [.rf (lrt 0, []) true 0 n]))
  | [(false, [.rf p true 0 n]), (false, [.fz (.int .i64 k)])], [(.sl m, .onil)] => some ([MkSS p n m [] k k], (.v (bI1 k), [(lrt 0, .onil)], [.rf (lrt 0, []) true 0 n]))
  | _, _ => none
theorem fSS_len (k : Int) (l : List (List Int)) : (fSS k l).length = l.length := mSS_len _ _ _
theorem fSS_getD {k : Int} {l : List (List Int)} {i : Nat} (h : i < l.length) : (fSS k l).getD i [] = mE k l i := by
  rw [getD_get (by rw [fSS_len]; exact h)]; simp [fSS, mSS]
theorem fSS_lens (k : Int) (l : List (List Int)) : (fSS k l).map List.length = l.map List.length := by
  apply List.ext_getElem
  · simp [fSS_len]
  · intro i h1 h2
    rw [List.getElem_map, List.getElem_map]
    have h3 : i < l.length := by simpa using h2
    have h4 : i < (fSS k l).length := by rw [fSS_len]; exact h3
    rw [← getD_get (z := ([] : List Int)) h4, ← getD_get (z := ([] : List Int)) h3, fSS_getD h3, mE, markI_len]
theorem kkS_lens {k : Int} {l m : List (List Int)} (h : l.map List.length = m.map List.length) (i : Nat) : kkS k l i = kkS k m i := by
  unfold kkS; rw [List.map_take, List.map_take, h]
theorem gSS_fSS (k : Int) (l : List (List Int)) : gSS k (fSS k l) = gSS k l := by
  unfold gSS; rw [fSS_len, kkS_lens (fSS_lens k l)]
theorem fSS_fSS (k : Int) (l : List (List Int)) : fSS k (fSS k l) = fSS k l := by
  apply List.ext_getElem
  · simp [fSS_len]
  · intro i h1 h2
    have h3 : i < l.length := by simpa [fSS_len] using h2
    have h4 : i < (fSS k l).length := by rw [fSS_len]; exact h3
    rw [← getD_get (z := ([] : List Int)) h1, ← getD_get (z := ([] : List Int)) h2, fSS_getD h4, fSS_getD h3, mE, kkS_lens (fSS_lens k l), fSS_getD h3, mE, markI_len]
structure HSS (k b : Int) : Prop where out : 0 ≤ k ∧ b ≤ 4611686018427387904
def wHeldSS (f : Int → List (List Int) → List (List Int)) (g : Int → List (List Int) → Int) : Wr := w2 dcIss dcI (fun l k => rI (g k l)) (fun l k => [Same l (f k l), LLe l maxLen, LAll l maxLen, HSS k (g k l)])
end Go.Proofs.Ytncbdoijakndoaa.Ai
