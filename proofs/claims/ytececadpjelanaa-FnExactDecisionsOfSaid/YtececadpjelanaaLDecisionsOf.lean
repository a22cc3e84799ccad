/- The law FnExactDecisionsOf answers true whatever it is given, and its arguments read behind the call as before; no condition. -/
import Derived.Test.YtececadpjelanaaRows
import Derived.Test.YtececadpjelanaaPF
import Derived.Test.YtececadpjelanaaBD
import Derived.ProofKit
import Derived.OpenShut
import Derived.ShutString
import Derived.ChangeOld
import Derived.Below
import Derived.SizedLaws
namespace Go.Proofs.Ytececadpjelanaa.fnExactDecisionsOf
open Go.ChangeShapes Go.WideShapes Go.ChangeAt Go.RowKit Go.Proofs.Ytececadpjelanaa.Ai
set_option linter.unusedVariables false
theorem own : ownKnob Try.prog.godebug = none := by kernel_rfl
theorem laidOut : laidOutB Try.prog = true := by kernel_rfl
theorem shapes : [25, 28].map (shOf Try.prog 6) = [shShow, shState].map some := by kernel_rfl
theorem rec_ok : ([25, 28].all fun t => Try.prog.readableRec t && decide (t < Try.prog.types.size)) = true := by kernel_rfl
set_option maxRecDepth 100000 in
theorem lifted (os : Os) (started : os.Started) (H : Type) (enc : TypeId × Value → H) :
    ReturnsInHanded {} Try.checked os 4 .any (Rows.fnExactDecisionsOfSpec.pre6 enc Try.prog Try.f4 Rows.fnExactDecisionsOfRow.domain false) (Rows.fnExactDecisionsOfSpec.post enc Try.prog Try.f4 false true false false) := by
  refine returnsInHanded_of_change_sized (C := Try.checked) own started (by kernel_rfl) Try.func4
    (ChangeSpec.witness6 (enc := enc) (C := Try.checked) false ⟨#[], #[.agg #[.slice none 0 0, .slice none 0 0, .int .i64 0], .agg #[.int .i64 0, .slice none 0 0, .slice none 0 0]], []⟩ 8 (by kernel_rfl) (by kernel_rfl) (by kernel_rfl) (by kernel_rfl)) ?_
  intro W base args ds gs before hval0 hW hcnd hsz0 _
  have hval : ∀ (j : Nat) t v, Try.f4.params[j]? = some t → args[j]? = some v → Value.okWide Try.prog W .any base t v := hval0
  have hW' := hW
  obtain ⟨p, q, hA0, hV, rfl, hfz, hnd⟩ := hW
  have hA : DataW.TrodAll enc Try.prog W 0 (fun _ => true) true Try.f4.params.toList args.toList ds p := hA0
  rw [Try.params4] at hA hval
  obtain ⟨rfl, rfl⟩ := trodVars_none hV
  clear hA0 hval0 hsz0 hcnd
  have hlt : ∀ x ∈ p, x.block < W.heap.size := fun x hx => by simpa using hW'.lt x (List.mem_append.2 (.inl hx))
  have hl2 : args.toList.length = 2 := by
    obtain ⟨v0, vs0, d0, ds0, p0, q0, hargs, rfl, rfl, h0, r0⟩ := trodAll_cons hA
    obtain ⟨v1, vs1, d1, ds1, p1, q1, rfl, rfl, rfl, h1, r1⟩ := trodAll_cons r0
    obtain ⟨rfl, rfl, rfl⟩ := trodAll_nil r1
    rw [hargs]; rfl
  obtain ⟨hlen, xs, hxs, hxl, hrep⟩ := args_know (r := .any) (b0 := base) [25, 28] [shShow, shState] args.toList ds p shapes (fun j t v h1 h2 => hval j t v (by simpa using h1) (by simpa using h2)) hA
  obtain ⟨y0, zs0, rfl, hy0, hz⟩ := wtArgs_cons hxs
  obtain ⟨y1, zs1, rfl, hy1, hz⟩ := wtArgs_cons hz
  obtain rfl := wtArgs_nil hz
  obtain ⟨v0, rfl, h0⟩ := wt_show hy0
  obtain ⟨v1, rfl, h1⟩ := wt_state hy1
  refine (law_true (args := args) (lawDecisions_ok v0 v1 h0 h1) hxl hrep).mono fun e W' ⟨he, bel⟩ => ?_
  subst he
  obtain ⟨e0, e1, hds⟩ : ∃ e0 e1, ds = [e0, e1] := by
    obtain ⟨v0, vs0, d0, ds0, p0, q0, hargs, rfl, rfl, h0, r0⟩ := trodAll_cons hA
    obtain ⟨v1, vs1, d1, ds1, p1, q1, rfl, rfl, rfl, h1, r1⟩ := trodAll_cons r0
    obtain ⟨rfl, rfl, rfl⟩ := trodAll_nil r1
    exact ⟨d0, d1, rfl⟩
  subst hds
  exact ⟨_, rfl, _, _, _, [], _, [], hW', trodAll_mk1 (shut_bool Try.underlying4 _), args_same laidOut bel _ _ _ _ rec_ok hA hlt, rfl, bel.frame _, fun h => by cases h⟩
theorem over : Rows.fnExactDecisionsOfRow.holds Try.pinned (OpenSpec.ofChange Rows.fnExactDecisionsOfSpec) :=
  OpenClaim.holds_of_wide 4 Try.f4 rfl rfl rfl rfl rfl rfl rfl ⟨rfl, rfl, rfl, rfl, rfl⟩ rfl rfl rfl rfl rfl (by kernel_rfl) Try.func4 (by kernel_rfl)
    (of_decide_eq_true (by kernel_rfl)) (by unfold Func.isWrapper; first | (rw [if_pos (by decide +kernel)]; kernel_rfl) | (rw [if_neg (by decide +kernel)]; exact ⟨rfl, rfl⟩))
    (fun os started H enc _ => lifted os started H enc)
theorem proved : Rows.FnExactDecisionsOfSaid := over
#print axioms proved
end Go.Proofs.Ytececadpjelanaa.fnExactDecisionsOf
namespace Go.Proofs.Ytececadpjelanaa
/-- The row, under a short name, for the claim. -/
theorem fnExactDecisionsOf_holds : Rows.FnExactDecisionsOfSaid := fnExactDecisionsOf.proved
end Go.Proofs.Ytececadpjelanaa
