/- Observations. -/
import Derived.Test.YtececadpjelanaaTy
import Derived.Test.YtececadpjelanaaMS
namespace Go.Proofs.Ytececadpjelanaa.Ai
open Go
set_option maxRecDepth 100000
set_option linter.unusedVariables false
set_option linter.unusedSimpArgs false
def l01InB (a b c : Int) : Bool := decide (b ≤ a) && decide (a ≤ c)
theorem in01_ok (a b c : Int) : SCall Try.prog 43 [aI a, aI b, aI c] (rB (l01InB a b c)) := by
  refine SCall.of X43_ok (fn := Try.f43) (c := Try.f43.body.getD .skip) (dr := fun n => look 0 [] n) Try.func43 rfl (by kernel_rfl) (by kernel_rfl) (by kernel_rfl) ?_
  refine SEx.go (X := X43) X43_ok (fun n => look [] [] n) (fun _ => none) oraL_nil 60 ?_
  intro M R L N hM hAnd hImp hR hL hN
  cases M
  cbv
  repeat' first | (refine hAnd _ _ ?_ ?_) | (refine hImp _ _ (fun h => ?_)) | (refine hR _ ?_) | (refine hL _ _ (Hd.out ?_); try first | rw [hks] | rw [hk2] | rw [hk3]) | (refine hN _ _ ?_; cbv)
  all_goals (clear hAnd hImp hR hL hN; try clear hks; try clear hk2; try clear hk3)
  all_goals (cases hM; try dsimp only)
  all_goals (try simp only [Bool.not_eq_true', Bool.not_eq_false', decide_eq_true_eq, decide_eq_false_iff_not, Int.not_le, Int.not_lt, beq_iff_eq, beq_eq_false_iff_ne, ne_eq, Int.ofNat_eq_natCast, Int.toNat_natCast, List.length_replicate, ncast, Nat.sub_zero, List.drop_zero, Cue.eta, Tie.eta, Edge.eta, Link.eta, Node.eta] at *)
  · simp only [er_B, l01InB]
    rw [decide_eq_true (show b ≤ a by assumption), Bool.true_and]
  · simp only [er_B, l01InB]
    rw [decide_eq_false (show ¬ b ≤ a by omega), Bool.false_and]
theorem wrap_u64 {n : Nat} (h : n < 18446744073709551616) : IntKind.u64.wrap (n : Int) = (n : Int) := by
  simp [IntKind.wrap, IntKind.bits, IntKind.signed]; omega
def wL01 (f : Int → Int → Int → Bool) : Wr := w3 dcI dcI dcI (fun a b c => rB (f a b c)) (fun _ _ _ => [])
theorem wL01_ok : WrOK Try.prog 43 (wL01 l01InB) := w3_ok fun a b c _ => in01_ok a b c
theorem kkS_le {k : Int} {l : List (List Int)} {c : Nat} (h : ∀ x ∈ l, x.length ≤ c) : ∀ i, kkS k l i ≤ k + c * i
  | 0 => by rw [kkS_zero]; simp
  | i + 1 => by
    have ih := kkS_le (k := k) h i
    rw [show ((c : Int)) * ((i + 1 : Nat) : Int) = c * i + c by rw [Int.natCast_add, Int.mul_add]; simp]
    by_cases hi : i < l.length
    · rw [kkS_succ hi]
      have := h _ (mem_getD (z := ([] : List Int)) hi).out
      unfold addI
      omega
    · have h1 : kkS k l (i + 1) = kkS k l i := by unfold kkS; rw [List.take_of_length_le (by omega), List.take_of_length_le (by omega)]
      omega
theorem fSS_all {k : Int} {l : List (List Int)} {c : Nat} (h : ∀ x ∈ l, x.length ≤ c) : ∀ x ∈ fSS k l, x.length ≤ c := by
  intro x hx
  have h1 : x.length ∈ (fSS k l).map List.length := List.mem_map_of_mem hx
  rw [fSS_lens] at h1
  obtain ⟨y, hy, e⟩ := List.mem_map.1 h1
  rw [← e]
  exact h y hy
end Go.Proofs.Ytececadpjelanaa.Ai
