/- The law FnExactObservationsOf answers true whatever it is given, and its arguments read behind the call as before; no condition. -/
import Derived.Test.YtlmejcmnmdleaaaRows
import Derived.Test.YtlmejcmnmdleaaaOB
import Derived.Test.YtlmejcmnmdleaaaBD
import Derived.ProofKit
import Derived.OpenShut
import Derived.ShutString
import Derived.ChangeOld
import Derived.Below
import Derived.SizedLaws
namespace Go.Proofs.Ytlmejcmnmdleaaa.fnExactObservationsOf
open Go.ChangeShapes Go.WideShapes Go.ChangeAt Go.RowKit Go.Proofs.Ytlmejcmnmdleaaa.Ai
set_option linter.unusedVariables false
theorem own : ownKnob Try.prog.godebug = none := by kernel_rfl
theorem laidOut : laidOutB Try.prog = true := by kernel_rfl
theorem shapes : [23].map (shOf Try.prog 6) = [.sl (.int .i64)].map some := by kernel_rfl
theorem rec_ok : ([23].all fun t => Try.prog.readableRec t && decide (t < Try.prog.types.size)) = true := by kernel_rfl
set_option maxRecDepth 100000 in
theorem lifted (os : Os) (started : os.Started) (H : Type) (enc : TypeId × Value → H) :
    ReturnsInHanded {} Try.checked os 9 .any (Rows.fnExactObservationsOfSpec.pre6 enc Try.prog Try.f9 Rows.fnExactObservationsOfRow.domain false) (Rows.fnExactObservationsOfSpec.post enc Try.prog Try.f9 false true false false) := by
  refine returnsInHanded_of_change_sized (C := Try.checked) own started (by kernel_rfl) Try.func9
    (ChangeSpec.witness6 (enc := enc) (C := Try.checked) false ⟨#[], #[.slice none 0 0], []⟩ 8 (by kernel_rfl) (by kernel_rfl) (by kernel_rfl) (by kernel_rfl)) ?_
  intro W base args ds gs before hval0 hW hcnd hsz0 _
  have hval : ∀ (j : Nat) t v, Try.f9.params[j]? = some t → args[j]? = some v → Value.okWide Try.prog W .any base t v := hval0
  have hW' := hW
  obtain ⟨p, q, hA0, hV, rfl, hfz, hnd⟩ := hW
  have hA : DataW.TrodAll enc Try.prog W 0 (fun _ => true) true Try.f9.params.toList args.toList ds p := hA0
  rw [Try.params9] at hA hval
  obtain ⟨rfl, rfl⟩ := trodVars_none hV
  clear hA0 hval0 hsz0 hcnd
  have hlt : ∀ x ∈ p, x.block < W.heap.size := fun x hx => by simpa using hW'.lt x (List.mem_append.2 (.inl hx))
  have hl2 : args.toList.length = 1 := by
    obtain ⟨v0, vs0, d0, ds0, p0, q0, hargs, rfl, rfl, h0, r0⟩ := trodAll_cons hA
    obtain ⟨rfl, rfl, rfl⟩ := trodAll_nil r0
    rw [hargs]; rfl
  obtain ⟨hlen, xs, hxs, hxl, hrep⟩ := args_know (r := .any) (b0 := base) [23] [.sl (.int .i64)] args.toList ds p shapes (fun j t v h1 h2 => hval j t v (by simpa using h1) (by simpa using h2)) hA
  obtain ⟨y0, zs0, rfl, hy0, hz⟩ := wtArgs_cons hxs
  obtain rfl := wtArgs_nil hz
  obtain ⟨v0, rfl, h0⟩ := wt_intsA hy0
  refine (law_true (args := args) (lawObs_ok v0 h0) hxl hrep).mono fun e W' ⟨he, bel⟩ => ?_
  subst he
  obtain ⟨e0, hds⟩ : ∃ e0, ds = [e0] := by
    obtain ⟨v0, vs0, d0, ds0, p0, q0, hargs, rfl, rfl, h0, r0⟩ := trodAll_cons hA
    obtain ⟨rfl, rfl, rfl⟩ := trodAll_nil r0
    exact ⟨d0, rfl⟩
  subst hds
  exact ⟨_, rfl, _, _, _, [], _, [], hW', trodAll_mk1 (shut_bool Try.underlying4 _), args_same laidOut bel _ _ _ _ rec_ok hA hlt, rfl, bel.frame _, fun h => by cases h⟩
theorem over : Rows.fnExactObservationsOfRow.holds Try.pinned (OpenSpec.ofChange Rows.fnExactObservationsOfSpec) :=
  OpenClaim.holds_of_wide 9 Try.f9 rfl rfl rfl rfl rfl rfl rfl ⟨rfl, rfl, rfl, rfl, rfl⟩ rfl rfl rfl rfl rfl (by kernel_rfl) Try.func9 (by kernel_rfl)
    (of_decide_eq_true (by kernel_rfl)) (by unfold Func.isWrapper; first | (rw [if_pos (by decide +kernel)]; kernel_rfl) | (rw [if_neg (by decide +kernel)]; exact ⟨rfl, rfl⟩))
    (fun os started H enc _ => lifted os started H enc)
theorem proved : Rows.FnExactObservationsOfSaid := over
#print axioms proved
end Go.Proofs.Ytlmejcmnmdleaaa.fnExactObservationsOf
namespace Go.Proofs.Ytlmejcmnmdleaaa
/-- The row, under a short name, for the claim. -/
theorem fnExactObservationsOf_holds : Rows.FnExactObservationsOfSaid := fnExactObservationsOf.proved
end Go.Proofs.Ytlmejcmnmdleaaa
