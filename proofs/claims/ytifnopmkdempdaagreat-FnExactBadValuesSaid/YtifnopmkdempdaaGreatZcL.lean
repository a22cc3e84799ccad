/- The law's proof, part 12 of 12: what of its author's texts it needs; no condition. -/
import Derived.Test.YtifnopmkdempdaaGreatRows
import Derived.ProofKit
import Derived.OpenShut
import Derived.ShutString
import Derived.ChangeOld
import Derived.SizedLaws
import Derived.Test.YtifnopmkdempdaaGreatZcK
set_option linter.unusedSectionVars false
set_option linter.unusedSimpArgs false
set_option linter.unusedVariables false
namespace Go.Proofs.YtifnopmkdempdaaGreat.fnExactBadValues
open Go.ChangeShapes Go.WideShapes Go.ChangeAt Go.RowKit Go.Proofs.YtifnopmkdempdaaGreat.Ai
instance memoNone:qh:=⟨none⟩
theorem own:ownKnob Tryz.prog.godebug=none:=by kernel_rfl
theorem qqw:laidOutB Tryz.prog=true:=by kernel_rfl
theorem qrt:[25,28,26].map (qas Tryz.prog 6)=[qgO,qbZ,.sl (.int .i64)].map some:=by kernel_rfl
theorem qrV:([25,28,26].all fun t=>Tryz.prog.readableRec t&&decide (t<Tryz.prog.types.size))=true:=by kernel_rfl
set_option maxRecDepth 100000 in
theorem qrG (os:Os)(started:os.Started)(H:Type)(enc:TypeId×Value->H) :
 ReturnsInHanded {} Tryz.checked os 7 .any (Rows.fnExactBadValuesSpec.pre6 enc Tryz.prog Tryz.f7 Rows.fnExactBadValuesRow.domain false) (Rows.fnExactBadValuesSpec.post enc Tryz.prog Tryz.f7 false true false false):=by
 refine returnsInHanded_of_change_sized (C:=Tryz.checked) own started (by kernel_rfl) Tryz.func7
  (ChangeSpec.witness6 (enc:=enc) (C:=Tryz.checked) false ⟨#[],#[.agg #[.slice none 0 0,.slice none 0 0,.int .i64 0],.agg #[.int .i64 0,.slice none 0 0,.slice none 0 0],.slice none 0 0],[]⟩ 8 (by kernel_rfl) (by kernel_rfl) (by kernel_rfl) (by kernel_rfl)) ?_
 intro W base args ds gs before hval0 hW hcnd hsz0 _
 have hval:∀ (j:Nat) t v,Tryz.f7.params[j]?=some t->args[j]?=some v->Value.okWide Tryz.prog W .any base t v:=hval0
 have hW':=hW
 obtain ⟨p,q,hA0,hV,rfl,hfz,hnd⟩:=hW
 have hA:DataW.TrodAll enc Tryz.prog W 0 (fun _=>true) true Tryz.f7.params.toList args.toList ds p:=hA0
 rw [Tryz.params7] at hA hval
 obtain ⟨rfl,rfl⟩:=trodVars_none hV
 clear hA0 hval0 hsz0 hcnd
 have hlt:∀ x∈p,x.block<W.heap.size:=fun x hx=>by simpa using hW'.lt x (List.mem_append.2 (.inl hx))
 have hl2:args.toList.length=3:=by
  obtain ⟨v0,vs0,d0,ds0,p0,q0,hargs,rfl,rfl,h0,r0⟩:=trodAll_cons hA
  obtain ⟨v1,vs1,d1,ds1,p1,q1,rfl,rfl,rfl,h1,r1⟩:=trodAll_cons r0
  obtain ⟨v2,vs2,d2,ds2,p2,q2,rfl,rfl,rfl,h2,r2⟩:=trodAll_cons r1
  obtain ⟨rfl,rfl,rfl⟩:=trodAll_nil r2
  rw [hargs];rfl
 obtain ⟨hlen,xs,hxs,hxl,hrep⟩:=qlk (r:=.any) (b0:=base) [25,28,26] [qgO,qbZ,.sl (.int .i64)] args.toList ds p qrt (fun j t v h1 h2=>hval j t v (by simpa using h1) (by simpa using h2)) hA
 obtain ⟨y0,zs0,rfl,hy0,hz⟩:=KG hxs
 obtain ⟨y1,zs1,rfl,hy1,hz⟩:=KG hz
 obtain ⟨y2,zs2,rfl,hy2,hz⟩:=KG hz
 obtain rfl:=qhs hz
 obtain ⟨v0,rfl,h0⟩:=qpH hy0
 obtain ⟨v1,rfl,h1⟩:=qnD hy1
 obtain ⟨v2,rfl,h2⟩:=qm8 hy2
 refine (qmY (args:=args) (qht v0 v1 v2 h0 h1 h2) hxl hrep).mono fun e W' ⟨he,bel⟩=>?_
 subst he
 obtain ⟨e0,e1,e2,hds⟩:∃ e0 e1 e2,ds=[e0,e1,e2]:=by
  obtain ⟨v0,vs0,d0,ds0,p0,q0,hargs,rfl,rfl,h0,r0⟩:=trodAll_cons hA
  obtain ⟨v1,vs1,d1,ds1,p1,q1,rfl,rfl,rfl,h1,r1⟩:=trodAll_cons r0
  obtain ⟨v2,vs2,d2,ds2,p2,q2,rfl,rfl,rfl,h2,r2⟩:=trodAll_cons r1
  obtain ⟨rfl,rfl,rfl⟩:=trodAll_nil r2
  exact ⟨d0,d1,d2,rfl⟩
 subst hds
 exact ⟨_,rfl,_,_,_,[],_,[],hW',trodAll_mk1 (shut_bool Tryz.underlying4 _),qlv qqw bel _ _ _ _ qrV hA hlt,rfl,bel.frame _,fun h=>by cases h⟩
theorem qtc:Rows.fnExactBadValuesRow.holds Tryz.pinned (OpenSpec.ofChange Rows.fnExactBadValuesSpec) :=
 OpenClaim.holds_of_wide 7 Tryz.f7 rfl rfl rfl rfl rfl rfl rfl ⟨rfl,rfl,rfl,rfl,rfl⟩ rfl rfl rfl rfl rfl (by kernel_rfl) Tryz.func7 (by kernel_rfl)
  (of_decide_eq_true (by kernel_rfl)) (by unfold Func.isWrapper;first | (rw [if_pos (by decide +kernel)];kernel_rfl) | (rw [if_neg (by decide +kernel)];exact ⟨rfl,rfl⟩))
  (fun os started H enc _=>qrG os started H enc)
theorem proved:Rows.FnExactBadValuesSaid:=qtc
#print axioms proved
end Go.Proofs.YtifnopmkdempdaaGreat.fnExactBadValues
namespace Go.Proofs.YtifnopmkdempdaaGreat
theorem fnExactBadValues_holds:Rows.FnExactBadValuesSaid:=fnExactBadValues.proved
end Go.Proofs.YtifnopmkdempdaaGreat
