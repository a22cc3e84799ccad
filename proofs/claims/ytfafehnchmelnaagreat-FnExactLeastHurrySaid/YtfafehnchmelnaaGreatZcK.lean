/- The law's proof, part 11 of 11: what of its author's texts it needs; no condition. -/
import Derived.Test.YtfafehnchmelnaaGreatRows
import Derived.ProofKit
import Derived.OpenShut
import Derived.ShutString
import Derived.ChangeOld
import Derived.SizedLaws
import Derived.Test.YtfafehnchmelnaaGreatZcJ
set_option linter.unusedSectionVars false
set_option linter.unusedSimpArgs false
set_option linter.unusedVariables false
namespace Go.Proofs.YtfafehnchmelnaaGreat.fnExactLeastHurry
open Go.ChangeShapes Go.WideShapes Go.ChangeAt Go.RowKit Go.Proofs.YtfafehnchmelnaaGreat.Ai
instance memoNone:qf:=⟨none⟩
theorem own:ownKnob Tryz.prog.godebug=none:=by kernel_rfl
theorem qpR:laidOutB Tryz.prog=true:=by kernel_rfl
theorem qqJ:[25].map (yB Tryz.prog 6)=[qhT].map some:=by kernel_rfl
theorem qq4:([25].all fun t=>Tryz.prog.readableRec t&&decide (t<Tryz.prog.types.size))=true:=by kernel_rfl
set_option maxRecDepth 100000 in
theorem qqG (os:Os)(started:os.Started)(H:Type)(enc:TypeId×Value->H) :
 ReturnsInHanded {} Tryz.checked os 5 .any (Rows.fnExactLeastHurrySpec.pre6 enc Tryz.prog Tryz.f5 Rows.fnExactLeastHurryRow.domain false) (Rows.fnExactLeastHurrySpec.post enc Tryz.prog Tryz.f5 false true false false):=by
 refine returnsInHanded_of_change_sized (C:=Tryz.checked) own started (by kernel_rfl) Tryz.func5
  (ChangeSpec.witness6 (enc:=enc) (C:=Tryz.checked) false ⟨#[],#[.agg #[.slice none 0 0,.slice none 0 0,.int .i64 0]],[]⟩ 8 (by kernel_rfl) (by kernel_rfl) (by kernel_rfl) (by kernel_rfl)) ?_
 intro W base args ds gs before hval0 hW hcnd hsz0 _
 have hval:∀ (j:Nat) t v,Tryz.f5.params[j]?=some t->args[j]?=some v->Value.okWide Tryz.prog W .any base t v:=hval0
 have hW':=hW
 obtain ⟨p,q,hA0,hV,rfl,hfz,hnd⟩:=hW
 have hA:DataW.TrodAll enc Tryz.prog W 0 (fun _=>true) true Tryz.f5.params.toList args.toList ds p:=hA0
 rw [Tryz.params5] at hA hval
 obtain ⟨rfl,rfl⟩:=trodVars_none hV
 clear hA0 hval0 hsz0 hcnd
 have hlt:∀ x∈p,x.block<W.heap.size:=fun x hx=>by simpa using hW'.lt x (List.mem_append.2 (.inl hx))
 have hl2:args.toList.length=1:=by
  obtain ⟨v0,vs0,d0,ds0,p0,q0,hargs,rfl,rfl,h0,r0⟩:=trodAll_cons hA
  obtain ⟨rfl,rfl,rfl⟩:=trodAll_nil r0
  rw [hargs];rfl
 obtain ⟨hlen,xs,hxs,hxl,hrep⟩:=qlJ (r:=.any) (b0:=base) [25] [qhT] args.toList ds p qqJ (fun j t v h1 h2=>hval j t v (by simpa using h1) (by simpa using h2)) hA
 obtain ⟨y0,zs0,rfl,hy0,hz⟩:=qdG hxs
 obtain rfl:=qf9 hz
 obtain ⟨v0,rfl,h0⟩:=qpf hy0
 refine (qnf (args:=args) (qnT v0 h0) hxl hrep).mono fun e W' ⟨he,bel⟩=>?_
 subst he
 obtain ⟨e0,hds⟩:∃ e0,ds=[e0]:=by
  obtain ⟨v0,vs0,d0,ds0,p0,q0,hargs,rfl,rfl,h0,r0⟩:=trodAll_cons hA
  obtain ⟨rfl,rfl,rfl⟩:=trodAll_nil r0
  exact ⟨d0,rfl⟩
 subst hds
 exact ⟨_,rfl,_,_,_,[],_,[],hW',trodAll_mk1 (shut_bool Tryz.underlying4 _),qks qpR bel _ _ _ _ qq4 hA hlt,rfl,bel.frame _,fun h=>by cases h⟩
theorem qsC:Rows.fnExactLeastHurryRow.holds Tryz.pinned (OpenSpec.ofChange Rows.fnExactLeastHurrySpec) :=
 OpenClaim.holds_of_wide 5 Tryz.f5 rfl rfl rfl rfl rfl rfl rfl ⟨rfl,rfl,rfl,rfl,rfl⟩ rfl rfl rfl rfl rfl (by kernel_rfl) Tryz.func5 (by kernel_rfl)
  (of_decide_eq_true (by kernel_rfl)) (by unfold Func.isWrapper;first | (rw [if_pos (by decide +kernel)];kernel_rfl) | (rw [if_neg (by decide +kernel)];exact ⟨rfl,rfl⟩))
  (fun os started H enc _=>qqG os started H enc)
theorem proved:Rows.FnExactLeastHurrySaid:=qsC
#print axioms proved
end Go.Proofs.YtfafehnchmelnaaGreat.fnExactLeastHurry
namespace Go.Proofs.YtfafehnchmelnaaGreat
theorem fnExactLeastHurry_holds:Rows.FnExactLeastHurrySaid:=fnExactLeastHurry.proved
end Go.Proofs.YtfafehnchmelnaaGreat
