/- Proved: WorseClass of the program returns what the reference returns, for all integers. There are no conditions. -/
import Derived.Test.YtjhkgmnfbacenaaPFnExactWorseClassx1
set_option linter.unusedSimpArgs false
namespace Go.Proofs.Ytjhkgmnfbacenaa.Pure
open Go.RowKit Go.Proofs.Ytjhkgmnfbacenaa.PFnExactWorseClass Go.Proofs.YtjhkgmnfbacenaaW.PrintWords Go.Proofs.YtjhkgmnfbacenaaW.PrintLast

theorem class_out (a : Int) (h : ¬ (1 ≤ a ∧ a ≤ 4)) : ∃ r, impl_ClassName.f a = some r ∧ r.toList = [] ∧ spec_l01In.f a 1 4 = some false := by
  by_cases h1 : a < 1
  · refine ⟨_, by unfold impl_ClassName.f; rw [if_pos h1], by decide +kernel, ?_⟩
    unfold spec_l01In.f
    rw [if_neg (by omega)]
  · refine ⟨_, by unfold impl_ClassName.f; rw [if_neg h1, if_pos (by omega)], by decide +kernel, ?_⟩
    unfold spec_l01In.f
    rw [if_pos (by omega), decide_eq_false (by omega)]

theorem class_in (a : Int) (h : 1 ≤ a ∧ a ≤ 4) : ∃ r, impl_ClassName.f a = some r ∧ r.toList ≠ [] ∧ spec_l01In.f a 1 4 = some true := by
  have : a = 1 ∨ a = 2 ∨ a = 3 ∨ a = 4 := by omega
  rcases this with rfl | rfl | rfl | rfl
  · exact ⟨⟨#[115, 116, 114, 111, 110, 103]⟩, by kernel_rfl, by decide +kernel, by kernel_rfl⟩
  · exact ⟨⟨#[100, 121, 110, 97, 109, 105, 99]⟩, by kernel_rfl, by decide +kernel, by kernel_rfl⟩
  · exact ⟨⟨#[119, 101, 97, 107]⟩, by kernel_rfl, by decide +kernel, by kernel_rfl⟩
  · exact ⟨⟨#[110, 111, 110, 101]⟩, by kernel_rfl, by decide +kernel, by kernel_rfl⟩

theorem FnExactWorseClass : laws_FnExactWorseClass.Pure := by
  intro a0 a1 _ _
  unfold laws_FnExactWorseClass.f spec_WorseClass.f impl_WorseClass.f
  by_cases ha : 1 ≤ a0 ∧ a0 ≤ 4
  · obtain ⟨r, h1, h2, h3⟩ := class_in a0 ha
    by_cases hb : 1 ≤ a1 ∧ a1 ≤ 4
    · obtain ⟨s, g1, g2, g3⟩ := class_in a1 hb
      simp [h1, h2, h3, g1, g2, g3]
    · obtain ⟨s, g1, g2, g3⟩ := class_out a1 hb
      simp [h1, h2, h3, g1, g2, g3]
  · obtain ⟨r, h1, h2, h3⟩ := class_out a0 ha
    simp [h1, h2, h3]

end Go.Proofs.Ytjhkgmnfbacenaa.Pure
