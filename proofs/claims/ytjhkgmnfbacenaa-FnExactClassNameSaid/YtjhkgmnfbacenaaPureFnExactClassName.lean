/- Proved: ClassName of the program returns what the reference returns, for every integer. There are no conditions. -/
import Derived.Test.YtjhkgmnfbacenaaPFnExactClassNamex1
namespace Go.Proofs.Ytjhkgmnfbacenaa.Pure
open Go.RowKit Go.Proofs.Ytjhkgmnfbacenaa.PFnExactClassName Go.Proofs.YtjhkgmnfbacenaaW.PrintWords Go.Proofs.YtjhkgmnfbacenaaW.PrintLast

theorem class_same (a0 : Int) : ∃ r, spec_ClassName.f a0 = some r ∧ impl_ClassName.f a0 = some r := by
  by_cases h1 : a0 < 1
  · refine ⟨_, ?_, by unfold impl_ClassName.f; rw [if_pos h1]⟩
    unfold spec_ClassName.f spec_l01In.f
    rw [if_neg (by omega)]; rfl
  · by_cases h4 : a0 > 4
    · refine ⟨_, ?_, by unfold impl_ClassName.f; rw [if_neg h1, if_pos h4]⟩
      unfold spec_ClassName.f spec_l01In.f
      rw [if_pos (by omega), decide_eq_false (by omega)]; rfl
    · have : a0 = 1 ∨ a0 = 2 ∨ a0 = 3 ∨ a0 = 4 := by omega
      have h : spec_ClassName.f a0 = impl_ClassName.f a0 := by
        rcases this with rfl | rfl | rfl | rfl <;> rfl
      rcases this with rfl | rfl | rfl | rfl
      · exact ⟨⟨#[115, 116, 114, 111, 110, 103]⟩, h.trans (by kernel_rfl), by kernel_rfl⟩
      · exact ⟨⟨#[100, 121, 110, 97, 109, 105, 99]⟩, h.trans (by kernel_rfl), by kernel_rfl⟩
      · exact ⟨⟨#[119, 101, 97, 107]⟩, h.trans (by kernel_rfl), by kernel_rfl⟩
      · exact ⟨⟨#[110, 111, 110, 101]⟩, h.trans (by kernel_rfl), by kernel_rfl⟩

theorem FnExactClassName : laws_FnExactClassName.Pure := by
  intro a0 _
  obtain ⟨r, h1, h2⟩ := class_same a0
  unfold laws_FnExactClassName.f
  rw [h1, h2]
  simp

end Go.Proofs.Ytjhkgmnfbacenaa.Pure
