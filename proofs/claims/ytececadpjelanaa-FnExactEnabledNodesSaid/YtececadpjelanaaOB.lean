/- Observations. -/
import Derived.Test.YtececadpjelanaaTy
import Derived.Test.YtececadpjelanaaMS
namespace Go.Proofs.Ytececadpjelanaa.Ai
open Go
set_option maxRecDepth 100000
set_option linter.unusedVariables false
set_option linter.unusedSimpArgs false
def pI (l : List Int) (i : Nat) : Bool := decide (1 ≤ l.getD i 0 ∧ l.getD i 0 ≤ 3 ∧ (0 < i → l.getD (i - 1) 0 < l.getD i 0))
def okP (l : List Int) : Bool := (List.range l.length).all (pI l)
theorem okP_no {l : List Int} {i : Nat} (hi : i < l.length) (h : pI l i = false) : okP l = false := by
  unfold okP
  rw [List.all_eq_false]
  exact ⟨i, List.mem_range.2 hi, by rw [h]; simp⟩
theorem okP_yes {l : List Int} (h : ∀ j, j < l.length → pI l j = true) : okP l = true := by
  unfold okP
  rw [List.all_eq_true]
  exact fun j hj => h j (List.mem_range.1 hj)
theorem ok_ge {l : List Int} {n : Nat} (h : ∀ j, j < n → pI l j = true) : ∀ j, j < n → (j : Int) + 1 ≤ l.getD j 0
  | 0, hj => by have := of_decide_eq_true (h 0 hj); omega
  | j + 1, hj => by
    have h1 := of_decide_eq_true (h (j + 1) hj)
    have h2 := ok_ge h j (by omega)
    have h3 := h1.2.2 (by omega)
    rw [Nat.add_sub_cancel] at h3
    omega
theorem ok_three {l : List Int} {n : Nat} (h : ∀ j, j < n → pI l j = true) : n ≤ 3 := by
  apply Decidable.byContradiction
  intro hn
  have h1 := ok_ge h 3 (by omega)
  have h2 := of_decide_eq_true (h 3 (by omega))
  omega
theorem ok_low {l : List Int} {i : Nat} (h1 : 1 ≤ l.getD i 0) (h2 : l.getD i 0 ≤ 3) (h3 : 0 < i → l.getD (i - 1) 0 < l.getD i 0) : pI l i = true := decide_eq_true ⟨h1, h2, h3⟩
def l01InB (a b c : Int) : Bool := decide (b ≤ a) && decide (a ≤ c)
theorem in01_ok (a b c : Int) : SCall Try.prog 43 [aI a, aI b, aI c] (rB (l01InB a b c)) := by
  refine SCall.of X43_ok (fn := Try.f43) (c := Try.f43.body.getD .skip) (dr := fun n => look 0 [] n) Try.func43 rfl (by kernel_rfl) (by kernel_rfl) (by kernel_rfl) ?_
  refine SEx.go (X := X43) X43_ok (fun n => look [] [] n) (fun _ => none) oraL_nil 60 ?_
  intro M R L N hM hAnd hImp hR hL hN
  cases M
  cbv
  repeat' first | (refine hAnd _ _ ?_ ?_) | (refine hImp _ _ (fun h => ?_)) | (refine hR _ ?_) | (refine hL _ _ (Hd.out ?_); try first | rw [hks] | rw [hk2] | rw [hk3]) | (refine hN _ _ ?_; cbv)
  all_goals (clear hAnd hImp hR hL hN; try clear hks; try clear hk2; try clear hk3)
  all_goals (cases hM; try dsimp only)
  all_goals (try simp only [Bool.not_eq_true', Bool.not_eq_false', decide_eq_true_eq, decide_eq_false_iff_not, Int.not_le, Int.not_lt, beq_iff_eq, beq_eq_false_iff_ne, ne_eq, Int.ofNat_eq_natCast, Int.toNat_natCast, List.length_replicate, ncast, Nat.sub_zero, List.drop_zero, Cue.eta, Tie.eta, Edge.eta, Link.eta, Node.eta] at *)
  · simp only [er_B, l01InB]
    rw [decide_eq_true (show b ≤ a by assumption), Bool.true_and]
  · simp only [er_B, l01InB]
    rw [decide_eq_false (show ¬ b ≤ a by omega), Bool.false_and]
theorem wrap_u64 {n : Nat} (h : n < 18446744073709551616) : IntKind.u64.wrap (n : Int) = (n : Int) := by
  simp [IntKind.wrap, IntKind.bits, IntKind.signed]; omega
theorem sh_three {m : Nat} (h : m ≤ 3) : IntKind.i64.wrap (1 * 2 ^ min m IntKind.i64.bits) = ((2 ^ m : Nat) : Int) := by
  have : m = 0 ∨ m = 1 ∨ m = 2 ∨ m = 3 := by omega
  rcases this with rfl | rfl | rfl | rfl <;> decide
theorem pow_three {m : Nat} (h : m ≤ 3) : 2 ^ m ≤ 8 := by
  have : m = 0 ∨ m = 1 ∨ m = 2 ∨ m = 3 := by omega
  rcases this with rfl | rfl | rfl | rfl <;> decide
def bitI (n i : Nat) : Int := IntKind.i64.wrap (1 - IntKind.i64.wrap (2 * IntKind.i64.wrap (((BitVec.ofInt IntKind.i64.bits ((n : Int).fdiv (2 ^ min i IntKind.i64.bits)) &&& BitVec.ofInt IntKind.i64.bits 1).toNat : Nat) : Int)))
def rowI (n i : Nat) : List Int := (List.range i).map (bitI n)
def obsI (m n : Nat) : List (List Int) := (List.range n).map fun n => rowI n m
theorem rowI_succ (n i : Nat) : rowI n (i + 1) = rowI n i ++ [bitI n i] := by simp [rowI, List.range_succ]
theorem obsI_succ (m n : Nat) : obsI m (n + 1) = obsI m n ++ [rowI n m] := by simp [obsI, List.range_succ]
theorem rowI_len (n i : Nat) : (rowI n i).length = i := by simp [rowI]
theorem obsI_len (m n : Nat) : (obsI m n).length = n := by simp [obsI]
def obsF (l : List Int) : List (List Int) := if okP l then obsI l.length (2 ^ l.length) else []
def wL01 (f : Int → Int → Int → Bool) : Wr := w3 dcI dcI dcI (fun a b c => rB (f a b c)) (fun _ _ _ => [])
theorem wL01_ok : WrOK Try.prog 43 (wL01 l01InB) := w3_ok fun a b c _ => in01_ok a b c
theorem obsF_small (l : List Int) : (obsF l).length ≤ 8 ∧ ∀ x ∈ obsF l, x.length ≤ 3 := by
  unfold obsF
  split
  · rename_i h
    have h3 : l.length ≤ 3 := by
      unfold okP at h
      rw [List.all_eq_true] at h
      exact ok_three (fun j hj => h j (List.mem_range.2 hj))
    refine ⟨by rw [obsI_len]; exact pow_three h3, fun x hx => ?_⟩
    simp only [obsI, List.mem_map] at hx
    obtain ⟨n, _, rfl⟩ := hx
    rw [rowI_len]; exact h3
  · exact ⟨by simp, fun x hx => by cases hx⟩
def wObs (f : List Int → List (List Int)) : Wr := w1 dcIs (fun l => rIss (f l)) (fun l => [LLe l 1048576])
theorem kkS_le {k : Int} {l : List (List Int)} {c : Nat} (h : ∀ x ∈ l, x.length ≤ c) : ∀ i, kkS k l i ≤ k + c * i
  | 0 => by rw [kkS_zero]; simp
  | i + 1 => by
    have ih := kkS_le (k := k) h i
    rw [show ((c : Int)) * ((i + 1 : Nat) : Int) = c * i + c by rw [Int.natCast_add, Int.mul_add]; simp]
    by_cases hi : i < l.length
    · rw [kkS_succ hi]
      have := h _ (mem_getD (z := ([] : List Int)) hi).out
      unfold addI
      omega
    · have h1 : kkS k l (i + 1) = kkS k l i := by unfold kkS; rw [List.take_of_length_le (by omega), List.take_of_length_le (by omega)]
      omega
theorem fSS_all {k : Int} {l : List (List Int)} {c : Nat} (h : ∀ x ∈ l, x.length ≤ c) : ∀ x ∈ fSS k l, x.length ≤ c := by
  intro x hx
  have h1 : x.length ∈ (fSS k l).map List.length := List.mem_map_of_mem hx
  rw [fSS_lens] at h1
  obtain ⟨y, hy, e⟩ := List.mem_map.1 h1
  rw [← e]
  exact h y hy
end Go.Proofs.Ytececadpjelanaa.Ai
