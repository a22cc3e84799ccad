/- The law's proof, part 10 of 10: what of its author's texts it needs; no condition. -/
import Derived.Test.YtececadpjelanaaGreatRows
import Derived.ProofKit
import Derived.OpenShut
import Derived.ShutString
import Derived.ChangeOld
import Derived.SizedLaws
import Derived.Test.YtececadpjelanaaGreatZeI
set_option linter.unusedSectionVars false
set_option linter.unusedSimpArgs false
set_option linter.unusedVariables false
namespace Go.Proofs.YtececadpjelanaaGreat.fnExactAfterDecision
open Go.ChangeShapes Go.WideShapes Go.ChangeAt Go.RowKit Go.Proofs.YtececadpjelanaaGreat.Ai
instance memoNone:qh:=⟨none⟩
theorem own:ownKnob Tryz.prog.godebug=none:=by kernel_rfl
theorem qlZ:laidOutB Tryz.prog=true:=by kernel_rfl
theorem qm0:[25,28,26].map (Vv Tryz.prog 6)=[qfl,qa7,.sl (.int .i64)].map some:=by kernel_rfl
theorem qnd:([25,28,26].all fun t=>Tryz.prog.readableRec t&&decide (t<Tryz.prog.types.size))=true:=by kernel_rfl
set_option maxRecDepth 100000 in
theorem qnE (os:Os)(started:os.Started)(H:Type)(enc:TypeId×Value->H) :
 ReturnsInHanded {} Tryz.checked os 5 .any (Rows.fnExactAfterDecisionSpec.pre6 enc Tryz.prog Tryz.f5 Rows.fnExactAfterDecisionRow.domain false) (Rows.fnExactAfterDecisionSpec.post enc Tryz.prog Tryz.f5 false true false false):=by
 refine returnsInHanded_of_change_sized (C:=Tryz.checked) own started (by kernel_rfl) Tryz.func5
  (ChangeSpec.witness6 (enc:=enc) (C:=Tryz.checked) false ⟨#[],#[.agg #[.slice none 0 0,.slice none 0 0,.int .i64 0],.agg #[.int .i64 0,.slice none 0 0,.slice none 0 0],.slice none 0 0],[]⟩ 8 (by kernel_rfl) (by kernel_rfl) (by kernel_rfl) (by kernel_rfl)) ?_
 intro W base args ds gs before hval0 hW hcnd hsz0 _
 have hval:∀ (j:Nat) t v,Tryz.f5.params[j]?=some t->args[j]?=some v->Value.okWide Tryz.prog W .any base t v:=hval0
 have hW':=hW
 obtain ⟨p,q,hA0,hV,rfl,hfz,hnd⟩:=hW
 have hA:DataW.TrodAll enc Tryz.prog W 0 (fun _=>true) true Tryz.f5.params.toList args.toList ds p:=hA0
 rw [Tryz.params5] at hA hval
 obtain ⟨rfl,rfl⟩:=trodVars_none hV
 clear hA0 hval0 hsz0 hcnd
 have hlt:∀ x∈p,x.block<W.heap.size:=fun x hx=>by simpa using hW'.lt x (List.mem_append.2 (.inl hx))
 have hl2:args.toList.length=3:=by
  obtain ⟨v0,vs0,d0,ds0,p0,q0,hargs,rfl,rfl,h0,r0⟩:=trodAll_cons hA
  obtain ⟨v1,vs1,d1,ds1,p1,q1,rfl,rfl,rfl,h1,r1⟩:=trodAll_cons r0
  obtain ⟨v2,vs2,d2,ds2,p2,q2,rfl,rfl,rfl,h2,r2⟩:=trodAll_cons r1
  obtain ⟨rfl,rfl,rfl⟩:=trodAll_nil r2
  rw [hargs];rfl
 obtain ⟨hlen,xs,hxs,hxl,hrep⟩:=qiw (r:=.any) (b0:=base) [25,28,26] [qfl,qa7,.sl (.int .i64)] args.toList ds p qm0 (fun j t v h1 h2=>hval j t v (by simpa using h1) (by simpa using h2)) hA
 obtain ⟨y0,zs0,rfl,hy0,hz⟩:=ZW hxs
 obtain ⟨y1,zs1,rfl,hy1,hz⟩:=ZW hz
 obtain ⟨y2,zs2,rfl,hy2,hz⟩:=ZW hz
 obtain rfl:=qfx hz
 obtain ⟨v0,rfl,h0⟩:=qlt hy0
 obtain ⟨v1,rfl,h1⟩:=qkR hy1
 obtain ⟨v2,rfl,h2⟩:=qj3 hy2
 refine (qji (args:=args) (qaY v0 v1 v2 h0 h1 h2) hxl hrep).mono fun e W' ⟨he,bel⟩=>?_
 subst he
 obtain ⟨e0,e1,e2,hds⟩:∃ e0 e1 e2,ds=[e0,e1,e2]:=by
  obtain ⟨v0,vs0,d0,ds0,p0,q0,hargs,rfl,rfl,h0,r0⟩:=trodAll_cons hA
  obtain ⟨v1,vs1,d1,ds1,p1,q1,rfl,rfl,rfl,h1,r1⟩:=trodAll_cons r0
  obtain ⟨v2,vs2,d2,ds2,p2,q2,rfl,rfl,rfl,h2,r2⟩:=trodAll_cons r1
  obtain ⟨rfl,rfl,rfl⟩:=trodAll_nil r2
  exact ⟨d0,d1,d2,rfl⟩
 subst hds
 exact ⟨_,rfl,_,_,_,[],_,[],hW',trodAll_mk1 (shut_bool Tryz.underlying4 _),qhk qlZ bel _ _ _ _ qnd hA hlt,rfl,bel.frame _,fun h=>by cases h⟩
theorem qoB:Rows.fnExactAfterDecisionRow.holds Tryz.pinned (OpenSpec.ofChange Rows.fnExactAfterDecisionSpec) :=
 OpenClaim.holds_of_wide 5 Tryz.f5 rfl rfl rfl rfl rfl rfl rfl ⟨rfl,rfl,rfl,rfl,rfl⟩ rfl rfl rfl rfl rfl (by kernel_rfl) Tryz.func5 (by kernel_rfl)
  (of_decide_eq_true (by kernel_rfl)) (by unfold Func.isWrapper;first | (rw [if_pos (by decide +kernel)];kernel_rfl) | (rw [if_neg (by decide +kernel)];exact ⟨rfl,rfl⟩))
  (fun os started H enc _=>qnE os started H enc)
theorem proved:Rows.FnExactAfterDecisionSaid:=qoB
#print axioms proved
end Go.Proofs.YtececadpjelanaaGreat.fnExactAfterDecision
namespace Go.Proofs.YtececadpjelanaaGreat
theorem fnExactAfterDecision_holds:Rows.FnExactAfterDecisionSaid:=fnExactAfterDecision.proved
end Go.Proofs.YtececadpjelanaaGreat
