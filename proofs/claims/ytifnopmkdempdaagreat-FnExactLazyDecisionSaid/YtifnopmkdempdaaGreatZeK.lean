/- The law's proof, part 11 of 11: what of its author's texts it needs; no condition. -/
import Derived.Test.YtifnopmkdempdaaGreatRows
import Derived.ProofKit
import Derived.OpenShut
import Derived.ShutString
import Derived.ChangeOld
import Derived.SizedLaws
import Derived.Test.YtifnopmkdempdaaGreatZeJ
set_option linter.unusedSectionVars false
set_option linter.unusedSimpArgs false
set_option linter.unusedVariables false
namespace Go.Proofs.YtifnopmkdempdaaGreat.fnExactLazyDecision
open Go.ChangeShapes Go.WideShapes Go.ChangeAt Go.RowKit Go.Proofs.YtifnopmkdempdaaGreat.Ai
instance memoNone:qg:=⟨none⟩
theorem own:ownKnob Tryz.prog.godebug=none:=by kernel_rfl
theorem qqF:laidOutB Tryz.prog=true:=by kernel_rfl
theorem qsS:[25,28].map (YT Tryz.prog 6)=[qgU,qcr].map some:=by kernel_rfl
theorem qsz:([25,28].all fun t=>Tryz.prog.readableRec t&&decide (t<Tryz.prog.types.size))=true:=by kernel_rfl
set_option maxRecDepth 100000 in
theorem qsZ (os:Os)(started:os.Started)(H:Type)(enc:TypeId×Value->H) :
 ReturnsInHanded {} Tryz.checked os 4 .any (Rows.fnExactLazyDecisionSpec.pre6 enc Tryz.prog Tryz.f4 Rows.fnExactLazyDecisionRow.domain false) (Rows.fnExactLazyDecisionSpec.post enc Tryz.prog Tryz.f4 false true false false):=by
 refine returnsInHanded_of_change_sized (C:=Tryz.checked) own started (by kernel_rfl) Tryz.func4
  (ChangeSpec.witness6 (enc:=enc) (C:=Tryz.checked) false ⟨#[],#[.agg #[.slice none 0 0,.slice none 0 0,.int .i64 0],.agg #[.int .i64 0,.slice none 0 0,.slice none 0 0]],[]⟩ 8 (by kernel_rfl) (by kernel_rfl) (by kernel_rfl) (by kernel_rfl)) ?_
 intro W base args ds gs before hval0 hW hcnd hsz0 _
 have hval:∀ (j:Nat) t v,Tryz.f4.params[j]?=some t->args[j]?=some v->Value.okWide Tryz.prog W .any base t v:=hval0
 have hW':=hW
 obtain ⟨p,q,hA0,hV,rfl,hfz,hnd⟩:=hW
 have hA:DataW.TrodAll enc Tryz.prog W 0 (fun _=>true) true Tryz.f4.params.toList args.toList ds p:=hA0
 rw [Tryz.params4] at hA hval
 obtain ⟨rfl,rfl⟩:=trodVars_none hV
 clear hA0 hval0 hsz0 hcnd
 have hlt:∀ x∈p,x.block<W.heap.size:=fun x hx=>by simpa using hW'.lt x (List.mem_append.2 (.inl hx))
 have hl2:args.toList.length=2:=by
  obtain ⟨v0,vs0,d0,ds0,p0,q0,hargs,rfl,rfl,h0,r0⟩:=trodAll_cons hA
  obtain ⟨v1,vs1,d1,ds1,p1,q1,rfl,rfl,rfl,h1,r1⟩:=trodAll_cons r0
  obtain ⟨rfl,rfl,rfl⟩:=trodAll_nil r1
  rw [hargs];rfl
 obtain ⟨hlen,xs,hxs,hxl,hrep⟩:=qml (r:=.any) (b0:=base) [25,28] [qgU,qcr] args.toList ds p qsS (fun j t v h1 h2=>hval j t v (by simpa using h1) (by simpa using h2)) hA
 obtain ⟨y0,zs0,rfl,hy0,hz⟩:=VE hxs
 obtain ⟨y1,zs1,rfl,hy1,hz⟩:=VE hz
 obtain rfl:=qhy hz
 obtain ⟨v0,rfl,h0⟩:=qqP hy0
 obtain ⟨v1,rfl,h1⟩:=qn1 hy1
 refine (qm8 (args:=args) (qhx v0 v1 h0 h1) hxl hrep).mono fun e W' ⟨he,bel⟩=>?_
 subst he
 obtain ⟨e0,e1,hds⟩:∃ e0 e1,ds=[e0,e1]:=by
  obtain ⟨v0,vs0,d0,ds0,p0,q0,hargs,rfl,rfl,h0,r0⟩:=trodAll_cons hA
  obtain ⟨v1,vs1,d1,ds1,p1,q1,rfl,rfl,rfl,h1,r1⟩:=trodAll_cons r0
  obtain ⟨rfl,rfl,rfl⟩:=trodAll_nil r1
  exact ⟨d0,d1,rfl⟩
 subst hds
 exact ⟨_,rfl,_,_,_,[],_,[],hW',trodAll_mk1 (shut_bool Tryz.underlying4 _),ql1 qqF bel _ _ _ _ qsz hA hlt,rfl,bel.frame _,fun h=>by cases h⟩
theorem qtW:Rows.fnExactLazyDecisionRow.holds Tryz.pinned (OpenSpec.ofChange Rows.fnExactLazyDecisionSpec) :=
 OpenClaim.holds_of_wide 4 Tryz.f4 rfl rfl rfl rfl rfl rfl rfl ⟨rfl,rfl,rfl,rfl,rfl⟩ rfl rfl rfl rfl rfl (by kernel_rfl) Tryz.func4 (by kernel_rfl)
  (of_decide_eq_true (by kernel_rfl)) (by unfold Func.isWrapper;first | (rw [if_pos (by decide +kernel)];kernel_rfl) | (rw [if_neg (by decide +kernel)];exact ⟨rfl,rfl⟩))
  (fun os started H enc _=>qsZ os started H enc)
theorem proved:Rows.FnExactLazyDecisionSaid:=qtW
#print axioms proved
end Go.Proofs.YtifnopmkdempdaaGreat.fnExactLazyDecision
namespace Go.Proofs.YtifnopmkdempdaaGreat
theorem fnExactLazyDecision_holds:Rows.FnExactLazyDecisionSaid:=fnExactLazyDecision.proved
end Go.Proofs.YtifnopmkdempdaaGreat
