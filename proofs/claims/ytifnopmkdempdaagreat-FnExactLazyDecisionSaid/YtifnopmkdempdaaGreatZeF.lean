/- The law's proof, part 6 of 11: what of its author's texts it needs; no condition. -/
import Derived.Test.YtifnopmkdempdaaGreatZeE
set_option linter.unusedSectionVars false
set_option linter.unusedSimpArgs false
set_option linter.unusedVariables false
namespace Go.Proofs.YtifnopmkdempdaaGreat.Ai
open Go
set_option maxRecDepth 100000
variable [qg]
theorem qaZ (t:qm)(x:qf)(hs:kE t x)(hz:Jq x):qe Tryz.prog 69 [qS t,qI x] (rB (jx t x)):=by
 refine qe.of qc (fn:=Tryz.f69) (c:=Tryz.f69.body.getD .skip) (dr:=fun n=>qa 0 [] n) Tryz.func69 rfl (by kernel_rfl) (by kernel_rfl) (by kernel_rfl) ?_
 obtain ⟨f,hf⟩:∃ f,f=zb:=⟨_,rfl⟩
 obtain ⟨g,hg⟩:∃ f,f=qgF:=⟨_,rfl⟩
 obtain ⟨k,hk⟩:∃ f,f=ka:=⟨_,rfl⟩
 have hO:qp Tryz.prog (qL [(104,Yz k),(106,Wb f),(98,ZY),(93,qgv g)]):=by subst hf hg hk;exact qb Qj (qb Vm (qb QM (qb qcQ qd)))
 have h1:=hs.sh
 have h2:=hs.st
 have h4:=h2.now
 rw [jo] at h4
 obtain ⟨r,hr⟩:∃ r,r=jx t x:=⟨_,rfl⟩
 rw [<-hr]
 have hsh:f t=true->1<=t.hor/\t.hor<=10:=fun h=>by rw [hf] at h;exact zq h
 have hk0:k x.now 0 10=(decide (0<=x.now)&&decide (x.now<=10)):=by rw [hk];rfl
 have hr1:f t=true->¬(0<=x.now/\x.now<=t.hor)->r=false:=fun h h'=>by
  rw [hr];unfold jx
  by_cases h0:0<=x.now
  . rw [decide_eq_false (show ¬x.now<=t.hor by omega)];simp
  . rw [decide_eq_false h0];simp
 have hr2:f t=false->r=false:=fun h=>by rw [hr];unfold jx;rw [<-hf,h];rfl
 have hr0:¬(0<=x.now/\x.now<=10)->r=false:=fun h=>by
  cases h5:f t with
  | true=>have:=hsh h5;exact hr1 h5 (by omega)
  | false=>exact hr2 h5
 have hr3:f t=true->0<=x.now->x.now<=t.hor->r=g t ⟨x.now+1,x.times,x.vals⟩:=fun h h5 h6=>by
  rw [hr];unfold jx;rw [hg,decide_eq_true h5,decide_eq_true h6];unfold qgF;rw [<-hf,h];rfl
 clear hr hf hg hk hs
 obtain ⟨ns,ts,hr⟩:=t
 obtain ⟨now,times,vals⟩:=x
 dsimp only at hr1 hr3 hr0 hk0 hsh h4
 refine SEx.go (X:=XX) qc (fun n=>qa [] [] n) (fun _=>none) hO 60 ?_
 intro M R L N m0 m1 m2 m3 m4 m5
 cases M
 cbv
 repeat' first | refine m1 _ _ ?_ ?_ | refine m2 _ _ fun h=>?_ | refine m3 _ ?_ | (refine m4 _ _ (Hd.out ?_);try first | rw [hks] | rw [hk2] | rw [hk3]) | (refine m5 _ _ ?_;cbv)
 all_goals (clear m1 m2 m3 m4 m5;cases m0;(try clear hks;try clear hk2;try clear hk3);try dsimp only)
 all_goals try simp only [sm] at *
 all_goals (try rw [hk0] at *)
 all_goals (try simp only [Bool.and_eq_true,Bool.and_eq_false_iff,decide_eq_true_eq,decide_eq_false_iff_not] at *)
 all_goals first
  | exact h1
  | exact hz
  | (rw [qr (by omega) (by omega)];exact ⟨by rw [jo];dsimp only;omega,h2.tlen,h2.vlen⟩)
  | (refine qM ?_ _;rw [hr0 (by omega)];done)
  | (refine qM ?_ _;rw [hr2 (by assumption)];done)
  | (refine qM ?_ _;rw [hr1 (by assumption) (by omega)];done)
  | (rw [qr (by omega) (by omega)];refine qM ?_ _;rw [hr3 (by assumption) (by omega) (by assumption)];done)
  | skip
theorem qbc (t:qm)(x:qf)(hs:kE t x):qe Tryz.prog 44 [qS t,qI x] (rB (jx t x)):=by
 refine qe.of qc (fn:=Tryz.f44) (c:=Tryz.f44.body.getD .skip) (dr:=fun n=>qa 0 [] n) Tryz.func44 rfl (by kernel_rfl) (by kernel_rfl) (by kernel_rfl) ?_
 obtain ⟨f,hf⟩:∃ f,f=zb:=⟨_,rfl⟩
 obtain ⟨g,hg⟩:∃ f,f=Qg:=⟨_,rfl⟩
 obtain ⟨k,hk⟩:∃ f,f=Ww:=⟨_,rfl⟩
 have hO:qp Tryz.prog (qL [(84,qph k),(85,Wb f),(86,qeJ g)]):=by subst hf hg hk;exact qb qmp (qb qfl (qb qgG qd))
 have h1:=hs.sh
 have h2:=hs.st
 have h4:=h2.now
 rw [jo] at h4
 obtain ⟨r,hr⟩:∃ r,r=jx t x:=⟨_,rfl⟩
 rw [<-hr]
 have hsh:f t=true->zb t=true/\1<=t.hor/\t.hor<=10:=fun h=>by rw [hf] at h;exact ⟨h,zq h⟩
 have hc:f t=true->0<=x.now->x.now<=t.hor->IntKind.i64.wrap (k x.now+1)=x.now+1:=fun h h5 h6=>by
  have:=hsh h
  rw [hk,show Ww x.now=x.now by unfold Ww;omega]
  exact qr (by omega) (by omega)
 have hr0:f t=false->r=false:=fun h=>by rw [hr];unfold jx;rw [<-hf,h];rfl
 have hr1:x.now<0->r=false:=fun h=>by rw [hr];unfold jx;rw [decide_eq_false (show ¬0<=x.now by omega)];simp
 have hr2:t.hor<x.now->r=false:=fun h=>by rw [hr];unfold jx;rw [decide_eq_false (show ¬x.now<=t.hor by omega)];simp
 have hr3:f t=true->0<=x.now->x.now<=t.hor->r=g t ⟨IntKind.i64.wrap (k x.now+1),x.times,x.vals⟩:=fun h h5 h6=>by
  rw [hc h h5 h6,hr];unfold jx;rw [hg,decide_eq_true h5,decide_eq_true h6,<-hf,h];rfl
 have hle:f t=true->0<=x.now->x.now<=t.hor->Zs ⟨IntKind.i64.wrap (k x.now+1),x.times,x.vals⟩:=fun h h5 h6=>by
  have:=hsh h
  rw [hc h h5 h6]
  exact ⟨by rw [jo];dsimp only;omega,h2.tlen,h2.vlen⟩
 clear hr hf hg hk hs hc
 obtain ⟨ns,ts,hr⟩:=t
 obtain ⟨now,times,vals⟩:=x
 dsimp only at hr1 hr2 hr3 hle hsh h4
 refine SEx.go (X:=XX) qc (fun n=>qa [] [] n) (fun _=>none) hO 60 ?_
 intro M R L N m0 m1 m2 m3 m4 m5
 cases M
 cbv
 repeat' first | refine m1 _ _ ?_ ?_ | refine m2 _ _ fun h=>?_ | refine m3 _ ?_ | (refine m4 _ _ (Hd.out ?_);try first | rw [hks] | rw [hk2] | rw [hk3]) | (refine m5 _ _ ?_;cbv)
 all_goals (clear m1 m2 m3 m4 m5;cases m0;(try clear hks;try clear hk2;try clear hk3);try dsimp only)
 all_goals try simp only [sm] at *
 all_goals first
  | exact h1
  | exact ⟨(hsh (by assumption)).1⟩
  | exact hle (by assumption) (by assumption) (by assumption)
  | (refine qM ?_ _;rw [hr0 (by assumption)];done)
  | (refine qM ?_ _;rw [hr1 (by assumption)];done)
  | (refine qM ?_ _;rw [hr2 (by assumption)];done)
  | (refine qM ?_ _;rw [hr3 (by assumption) (by assumption) (by assumption)];done)
  | skip
def qrI (f:qm->qf->Bool):Wr:=w2 qQ qH (fun t x=>rB (f t x)) (fun t x=>[kE t x,Jq x])
theorem qnq:qy Tryz.prog 69 (qrI jx):=qE fun t x h=>qaZ t x (h _ (.head _)) (h _ (.tail _ (.head _)))
def qnL (f:qm->qf->Bool):Wr:=w2 qQ qH (fun t x=>rB (f t x)) (fun t x=>[kE t x])
theorem qfa:qy Tryz.prog 44 (qnL jx):=qE fun t x h=>qbc t x (h _ (.head _))
end Go.Proofs.YtifnopmkdempdaaGreat.Ai
namespace Go.Proofs.YtifnopmkdempdaaGreat.Ai
open Go
set_option maxRecDepth 100000
variable [qg]
def qst (k:Int):Tie:=⟨k,k+1,k+2,k+3,decide ((k+4).tmod 3=0)⟩
def jq (k:Int)(n:Nat):List Tie:=(List.range n).map fun j=>qst (k+5 * (j:Nat))
theorem Ze (k:Int)(n:Nat):(jq k n).length=n:=by simp [jq]
theorem qga (k:Int)(n:Nat):jq k (n+1)=jq k n++[qst (k+5 * n)]:=by simp [jq,List.range_succ]
theorem qgM {k:Int}{i:Nat}{l:List Tie}(hi:i<l.length):(jq k i++l.drop i).set i (qst (k+5 * i))=jq k (i+1)++l.drop (i+1):=by
 rw [List.set_append_right _ _ (by rw [Ze];omega),Ze,Nat.sub_self,qga,List.append_assoc,List.drop_eq_getElem_cons hi];rfl
theorem qgn (l:List Tie)(k:Int)(hl:l.length<=maxLen)(hk:0<k/\k+5 * l.length<=4611686018427387904) :
 zO Tryz.prog 47 [wR l.length,bI1 k] [(lrt 0,.osl (.tie l))] [.rf (lrt 0,[]) true 0 l.length] (.v (bI1 (k+5 * l.length))) [(lrt 0,.osl (.tie (jq k l.length)))] [.rf (lrt 0,[]) true 0 l.length]:=by
 refine zO.of qc (fn:=Tryz.f47) (c:=Tryz.f47.body.getD .skip) (dr:=fun n=>qa 0 [] n) (r:=(_,_,_)) Tryz.func47 rfl (by kernel_rfl) (by kernel_rfl) (by kernel_rfl) ?_
 generalize hn:l.length=n at *
 refine zT.go (X:=XX) qc (fun n=>qa [] [(2,[0,1,5,4294967296])] n) (fun _=>none) qd 60 1 ?_
 intro M R L N m0 m1 m2 m3 m4 m5
 cases M
 cbv
 repeat' first | refine m1 _ _ ?_ ?_ | refine m2 _ _ fun h=>?_ | refine m3 _ ?_ | (refine m4 _ _ (Hd.out ?_);generalize hks:(List.cons _ _:List K)=ks) | (refine m5 _ _ ?_;cbv)
 all_goals (clear m1 m2 m3 m4 m5;cases m0;try dsimp only)
 all_goals try simp only [sm] at *
 refine ⟨zT.same (zT.idx n (fun i=>⟨50,[(0,bR 41000000 n),(1,bI (k+5 * i)),(5,bI i),(4294967296,bR 41000000 n)],[(41000000,.osl (.tie (jq k i++l.drop i)))]⟩) (fun _=>(.v (bI1 (k+5 * n)),[(lrt 0,.osl (.tie (jq k n)))],[.rf (lrt 0,[]) true 0 n])) ?_) ?_ ⟨rfl,rfl,rfl⟩⟩
 rotate_left
 . rw [show k+5 * ((0:Nat):Int)=k by omega];rfl
 intro i hi ih
 rw [<-hks]
 obtain ⟨c,hc⟩:∃ c,c=jq k i++l.drop i:=⟨_,rfl⟩
 have hcl:c.length=n:=by rw [hc,List.length_append,Ze,List.length_drop];omega
 rw [<-hc]
 obtain ⟨q,hq⟩:∃ q,q=k+5 * (i:Int):=⟨_,rfl⟩
 rw [<-hq]
 unfold maxLen at hl
 refine zT.go (X:=XX) qc (fun n=>qa [] [(2,[0,1,5,4294967296])] n) (fun _=>none) qd 90 1 ?_
 intro M R L N m0 m1 m2 m3 m4 m5
 cases M
 cbv
 repeat' first | refine m1 _ _ ?_ ?_ | refine m2 _ _ fun h=>?_ | refine m3 _ ?_ | (refine m4 _ _ (Hd.out ?_);try rw [hks]) | (refine m5 _ _ ?_;cbv)
 all_goals (clear m1 m2 m3 m4 m5;cases m0;(try clear hks);try dsimp only)
 all_goals try simp only [sm] at *
 all_goals (try simp only [Zp])
 all_goals first
  | omega
  | (have hin:i=n:=by omega
     subst hin
     rw [List.drop_eq_nil_of_le (by omega),List.append_nil] at hc
     subst hc;subst hq
     refine ⟨?_,?_,?_⟩<;>rfl)
  | (have hin:i<n:=by omega
     have e1:IntKind.i64.wrap (q+1)=q+1:=by rw [qr (by omega) (by omega)]
     have e2:IntKind.i64.wrap (q+1+1)=q+2:=by rw [qr (by omega) (by omega)];omega
     have e3:IntKind.i64.wrap (q+2+1)=q+3:=by rw [qr (by omega) (by omega)];omega
     have e4:IntKind.i64.wrap (q+3+1)=q+4:=by rw [qr (by omega) (by omega)];omega
     have e5:IntKind.i64.wrap (q+4+1)=q+5:=by rw [qr (by omega) (by omega)];omega
     simp only [e1,e2,e3,e4,e5,qi (show i<9223372036854775807 by omega),WI]
     refine ⟨(ih hin).same ?_ ⟨rfl,rfl,rfl⟩⟩
     rw [<-qgM (k:=k) (i:=i) (l:=l) (by omega),<-hq,<-hc,show k+5 * ((i+1:Nat):Int)=q+5 by omega]
     rfl)
  | skip
def qtR (q:qh):Nat:=q.label.length+2
def kN (k:Int)(l:List qh)(i:Nat):Int:=k+(((l.take i).map qtR).sum:Nat)
theorem vK (k:Int)(l:List qh):kN k l 0=k:=by simp [kN]
theorem yt {k:Int}{l:List qh}{i:Nat}(h:i<l.length):kN k l (i+1)=kN k l i+(l.getD i qh.z).label.length+2:=by
 unfold kN
 rw [List.take_add_one,List.getElem?_eq_getElem h,zm h,Option.toList_some,List.map_append,List.sum_append,List.map_cons,List.map_nil,List.sum_cons,List.sum_nil]
 unfold qtR
 omega
theorem wZ (k:Int)(l:List qh)(i:Nat):∀ d,kN k l i<=kN k l (i+d)
 | 0=>Int.le_refl _
 | d+1=>by
   have:=wZ k l i d
   by_cases h:i+d<l.length
   . rw [<-Nat.add_assoc,yt h];omega
   . have h1:kN k l (i+d+1)=kN k l (i+d):=by unfold kN;rw [List.take_of_length_le (by omega),List.take_of_length_le (by omega)]
     rw [<-Nat.add_assoc]
     omega
def mNd (k:Int)(n:Nat):qh:=⟨mT k,kB (k+1) n,k+1+n⟩
def mNS (k:Int)(l:List qh)(i:Nat):List qh:=(List.range i).map fun j=>mNd (kN k l j) (l.getD j qh.z).label.length
theorem JT (k:Int)(l:List qh)(i:Nat):(mNS k l i).length=i:=by simp [mNS]
theorem qo6 (k:Int)(l:List qh)(i:Nat):mNS k l (i+1)=mNS k l i++[mNd (kN k l i) (l.getD i qh.z).label.length]:=by simp [mNS,List.range_succ]
theorem qm9 {k:Int}{i:Nat}{l:List qh}(hi:i<l.length):(mNS k l i++l.drop i).set i (mNd (kN k l i) (l.getD i qh.z).label.length)=mNS k l (i+1)++l.drop (i+1):=by
 rw [List.set_append_right _ _ (by rw [JT];omega),JT,Nat.sub_self,qo6,List.append_assoc,List.drop_eq_getElem_cons hi];rfl
theorem qoI {k:Int}{i:Nat}{l:List qh}(hi:i<l.length):(mNS k l i++l.drop i).getD i qh.z=l.getD i qh.z:=by
 rw [List.getD_eq_getElem?_getD,List.getElem?_append_right (by rw [JT];omega),JT,Nat.sub_self,List.getElem?_drop,Nat.add_zero,List.getD_eq_getElem?_getD]
theorem qoo {α:Type}{z:α}{l:List α}{n:Nat}{f:α->α}(h:n<l.length):(wz z l n f).getD n z=f (l.getD n z):=by simp [wz,List.getD_eq_getElem?_getD,h]
theorem qcV (l:List qh)(k:Int)(hl:l.length<=maxLen)(hx:∀ q∈l,q.label.length<=maxLen)(hk:0<k/\kN k l l.length<=4611686018427387904) :
 zO Tryz.prog 46 [wR l.length,bI1 k] [(lrt 0,.osl (.node true none l))] [.rf (lrt 0,[]) true 0 l.length] (.v (bI1 (kN k l l.length))) [(lrt 0,.osl (.node true none (mNS k l l.length)))] [.rf (lrt 0,[]) true 0 l.length]:=by
 refine zO.of qc (fn:=Tryz.f46) (c:=Tryz.f46.body.getD .skip) (dr:=fun n=>qa 0 [] n) (r:=(_,_,_)) Tryz.func46 rfl (by kernel_rfl) (by kernel_rfl) (by kernel_rfl) ?_
 generalize hn:l.length=n at *
 refine zT.go (X:=XX) qc (fun n=>qa [] [(2,[0,1,5,4294967296])] n) (fun _=>none) qd 60 1 ?_
 intro M R L N m0 m1 m2 m3 m4 m5
 cases M
 cbv
 repeat' first | refine m1 _ _ ?_ ?_ | refine m2 _ _ fun h=>?_ | refine m3 _ ?_ | (refine m4 _ _ (Hd.out ?_);generalize hks:(List.cons _ _:List K)=ks) | (refine m5 _ _ ?_;cbv)
 all_goals (clear m1 m2 m3 m4 m5;cases m0;try dsimp only)
 all_goals try simp only [sm] at *
 refine ⟨zT.same (zT.idx n (fun i=>⟨35,[(0,bR 41000000 n),(1,bI (kN k l i)),(5,bI i),(4294967296,bR 41000000 n)],[(41000000,.osl (.node true none (mNS k l i++l.drop i)))]⟩) (fun _=>(.v (bI1 (kN k l n)),[(lrt 0,.osl (.node true none (mNS k l n)))],[.rf (lrt 0,[]) true 0 n])) ?_) ?_ ⟨rfl,rfl,rfl⟩⟩
 rotate_left
 . rw [vK];rfl
 intro i hi ih
 rw [<-hks]
 obtain ⟨c,hc⟩:∃ c,c=mNS k l i++l.drop i:=⟨_,rfl⟩
 have hcl:c.length=n:=by rw [hc,List.length_append,JT,List.length_drop];omega
 rw [<-hc]
 obtain ⟨q,hq⟩:∃ q,q=kN k l i:=⟨_,rfl⟩
 rw [<-hq]
 obtain ⟨f,hf⟩:∃ f,f=mT:=⟨_,rfl⟩
 have hO:qp Tryz.prog (qL [(89,qsi f)]):=by subst hf;exact qb (zB fun q h=>qfX q (h _ (.head _)).out) qd
 obtain ⟨f2,hf2⟩:∃ f,f=kB:=⟨_,rfl⟩
 obtain ⟨g2,hg2⟩:∃ f,f=K6:=⟨_,rfl⟩
 have hW:za Tryz.prog (XX.withW [(22,[(0,0)])] (ke [(22,Jt f2 g2)])):=by
  subst hf2 hg2
  exact SX.withW_ok (zr WY kK)
 unfold maxLen at hl
 refine zT.go (X:=(XX.withW [(22,[(0,0)])] (ke [(22,Jt f2 g2)]))) qc (fun n=>qa [] [(2,[0,1,5,4294967296])] n) (fun _=>none) hO 90 1 ?_ hW
 intro M R L N m0 m1 m2 m3 m4 m5
 cases M
 cbv
 repeat' first | refine m1 _ _ ?_ ?_ | refine m2 _ _ fun h=>?_ | refine m3 _ ?_ | (refine m4 _ _ (Hd.out ?_);try rw [hks]) | (refine m5 _ _ ?_;cbv)
 all_goals (clear m1 m2 m3 m4 m5;cases m0;(try clear hks);try dsimp only)
 all_goals try simp only [sm] at *
 all_goals (clear hW)
 all_goals (try simp only [Zp])
 all_goals (try simp only [qoo (l:=c) (n:=i) (z:=qh.z) (by omega)])
 all_goals (have hb0:=wZ k l 0 i;rw [Nat.zero_add,vK,<-hq] at hb0)
 all_goals first
  | omega
  | (have hin:i=n:=by omega
     subst hin
     rw [List.drop_eq_nil_of_le (by omega),List.append_nil] at hc
     subst hc;subst hq
     refine ⟨?_,?_,?_⟩<;>rfl)
  | skip
 all_goals (have hin:i<n:=by omega)
 all_goals (have h3:=yt (k:=k) (l:=l) (i:=i) (by omega);have h4:=wZ k l (i+1) (n-(i+1));rw [show i+1+(n-(i+1))=n by omega] at h4)
 all_goals (have h6:c.getD i qh.z=l.getD i qh.z:=by rw [hc,qoI (by omega)])
 all_goals (have h7:=hx _ (qo (z:=qh.z) (show i<l.length by omega)).out)
 all_goals (have e1:IntKind.i64.wrap (q+1)=q+1:=by rw [qr (by omega) (by omega)])
 all_goals (simp only [e1,h6] at *)
 all_goals first
  | exact ⟨by omega⟩
  | (subst hf2;exact (zR _ _).symm)
  | exact ⟨rfl,rfl,rfl,h7,by omega,by omega⟩
  | skip
 all_goals (subst hf hf2 hg2)
 all_goals (have e2:K6 (q+1) (l.getD i qh.z).label.length=q+1+(l.getD i qh.z).label.length:=rfl)
 all_goals (have e3:IntKind.i64.wrap (q+1+(l.getD i qh.z).label.length+1)=q+(l.getD i qh.z).label.length+2:=by rw [qr (by omega) (by omega)];omega)
 all_goals (simp only [e2,e3,WI,qi (show i<9223372036854775807 by omega)])
 all_goals (refine ⟨(ih hin).same ?_ ⟨rfl,rfl,rfl⟩⟩)
 all_goals (rw [yt (by omega),<-qm9 (by omega),<-hq,<-hc])
 all_goals rfl
structure MkN (p:SP)(n m:Nat)(l:List qh)(k b:Int):Prop where out:p=(lrt 0,[])/\m=n/\l.length=n/\n<=maxLen/\(∀ q∈l,q.label.length<=maxLen)/\0<k/\b<=4611686018427387904
structure MkT {α:Type}(p:SP)(n m:Nat)(l:List α)(k:Int):Prop where out:p=(lrt 0,[])/\m=n/\l.length=n/\n<=maxLen/\0<k/\k+5 * n<=4611686018427387904
def qmC (k:Int)(n:Nat):Int:=k+5 * n
def gN (k:Int)(l:List qh):Int:=kN k l l.length
def fN (k:Int)(l:List qh):List qh:=mNS k l l.length
def yG (f:Int->Nat->List Tie)(g:Int->Nat->Int):WrW
 | [(false,[.rf p true 0 n]),(false,[.fz (.int .i64 k)])],[(.sl m,.osl (.tie l))]=>some ([MkT p n m l k],(.v (bI1 (g k n)),[(lrt 0,.osl (.tie (f k n)))],[.rf (lrt 0,[]) true 0 n]))
 | _,_=>none
theorem qif:KR Tryz.prog 47 (yG jq qmC):=by
 intro xs ls
 unfold yG
 split
 . refine R.Sim.mk fun hp=>?_
   obtain ⟨rfl,rfl,rfl,h1,h2,h3⟩:=(hp _ (.head _)).out
   exact qgn _ _ h1 ⟨h2,h3⟩
 . exact R.Sim.none'
def qdy (f:Int->List qh->List qh)(g:Int->List qh->Int):WrW
 | [(false,[.rf p true 0 n]),(false,[.fz (.int .i64 k)])],[(.sl m,.osl (.node true none l))]=>some ([MkN p n m l k (g k l)],(.v (bI1 (g k l)),[(lrt 0,.osl (.node true none (f k l)))],[.rf (lrt 0,[]) true 0 n]))
 | _,_=>none
theorem qmw:KR Tryz.prog 46 (qdy fN gN):=by
 intro xs ls
 unfold qdy
 split
 . refine R.Sim.mk fun hp=>?_
   obtain ⟨rfl,rfl,rfl,h1,h2,h3,h4⟩:=(hp _ (.head _)).out
   exact qcV _ _ h1 h2 ⟨h3,h4⟩
 . exact R.Sim.none'
theorem qo9 (k:Int)(l:List qh):(fN k l).length=l.length:=JT _ _ _
theorem qfO (cs:List qh)(ps:List Tie)(hr:Int)(k:Int)(h1:cs.length<=maxLen)(h2:ps.length<=maxLen)(h3:∀ q∈cs,q.label.length<=maxLen)(hk:0<k/\gN k cs+5 * ps.length<=4611686018427387904) :
 zO Tryz.prog 20 [(true,[.rf (lrt 0,[]) true 0 cs.length,.rf (lrt 1,[]) true 0 ps.length,.fz (.int .i64 hr)]),bI1 k] [(lrt 0,.osl (.node true none cs)),(lrt 1,.osl (.tie ps))]
  [.rf (lrt 0,[]) true 0 cs.length,.rf (lrt 1,[]) true 0 ps.length] (.v (bI1 (qmC (gN k cs) ps.length)))
  [(8192,.obx [.osl (.node true none (fN k cs)),.osl (.tie (jq (gN k cs) ps.length)),.fz (.int .i64 hr)])] [.rf (8192,[((true,0),0)]) true 0 cs.length,.rf (8192,[((true,0),1)]) true 0 ps.length]:=by
 refine zO.of qc (fn:=Tryz.f20) (c:=Tryz.f20.body.getD .skip) (dr:=fun n=>qa 0 [] n) (r:=(_,_,_)) Tryz.func20 rfl (by kernel_rfl) (by kernel_rfl) (by kernel_rfl) ?_
 obtain ⟨f1,hf1⟩:∃ f,f=fN:=⟨_,rfl⟩
 obtain ⟨f2,hf2⟩:∃ f,f=jq:=⟨_,rfl⟩
 obtain ⟨g1,hg1⟩:∃ f,f=gN:=⟨_,rfl⟩
 obtain ⟨g2,hg2⟩:∃ f,f=qmC:=⟨_,rfl⟩
 have hpos:0<g1 k cs:=by rw [hg1];have:=wZ k cs 0 cs.length;rw [vK,Nat.zero_add] at this;unfold gN;omega
 rw [<-hg1] at hk
 have hW:za Tryz.prog (XX.withW [(46,[(0,0)]),(47,[(0,0)])] (ke [(46,qdy f1 g1),(47,yG f2 g2)])):=by
  subst hf1 hf2 hg1 hg2
  exact SX.withW_ok (zr qmw (zr qif kK))
 generalize hn:cs.length=n at *
 generalize hm:ps.length=m at *
 refine zT.go (X:=(XX.withW [(46,[(0,0)]),(47,[(0,0)])] (ke [(46,qdy f1 g1),(47,yG f2 g2)]))) qc (fun n=>qa [] [] n) (fun _=>none) qd 90 2 ?_ hW
 intro M R L N m0 m1 m2 m3 m4 m5
 cases M
 cbv
 repeat' first | refine m1 _ _ ?_ ?_ | refine m2 _ _ fun h=>?_ | refine m3 _ ?_ | (refine m4 _ _ (Hd.out ?_);try rw [hks]) | (refine m5 _ _ ?_;cbv)
 all_goals (clear m1 m2 m3 m4 m5;cases m0;(try clear hks);try dsimp only)
 all_goals try simp only [sm] at *
 all_goals (clear hW)
 all_goals (subst hf1 hf2 hg1 hg2 hn hm)
 all_goals first
  | rfl
  | exact (qo9 _ _).symm
  | exact (Ze _ _).symm
  | exact ⟨rfl,rfl,rfl,h1,h3,hk.1,by omega⟩
  | exact ⟨rfl,rfl,rfl,h2,hpos,by omega⟩
  | (refine ⟨?_,?_,?_⟩<;>rfl)
  | skip
structure qt9 (p q:SP)(n n' m m':Nat)(cs:List qh)(ps:List Tie)(k b:Int):Prop where out:(p=(lrt 0,[])/\q=(lrt 1,[])/\n'=n/\m'=m)/\cs.length=n/\ps.length=m/\n<=maxLen/\m<=maxLen/\(∀ q∈cs,q.label.length<=maxLen)/\0<k/\b<=4611686018427387904
def JY (f1:Int->List qh->List qh)(f2:Int->List qh->Nat->List Tie)(g:Int->List qh->Nat->Int):WrW
 | [(true,[.rf p true 0 n,.rf q true 0 m,.fz (.int .i64 hr)]),(false,[.fz (.int .i64 k)])],[(.sl n',.osl (.node true none cs)),(.sl m',.osl (.tie ps))]=>some ([qt9 p q n n' m m' cs ps k (g k cs m)],(.v (bI1 (g k cs m)),[(8192,.obx [.osl (.node true none (f1 k cs)),.osl (.tie (f2 k cs m)),.fz (.int .i64 hr)])],[.rf (8192,[((true,0),0)]) true 0 n,.rf (8192,[((true,0),1)]) true 0 m]))
 | _,_=>none
def shT (k:Int)(cs:List qh)(m:Nat):List Tie:=jq (gN k cs) m
def shG (k:Int)(cs:List qh)(m:Nat):Int:=qmC (gN k cs) m
theorem qcE:KR Tryz.prog 20 (JY fN shT shG):=by
 intro xs ls
 unfold JY
 split
 . refine R.Sim.mk fun hp=>?_
   obtain ⟨⟨rfl,rfl,rfl,rfl⟩,rfl,rfl,h1,h2,h3,h4,h5⟩:=(hp _ (.head _)).out
   exact qfO _ _ _ _ h1 h2 h3 ⟨h4,by unfold shG qmC at h5;omega⟩
 . exact R.Sim.none'
theorem qci (nw:Int)(cs:List Int)(ps:List Int)(k:Int)(h1:cs.length<=maxLen)(h2:ps.length<=maxLen)(hk:0<k/\k+cs.length+ps.length<=4611686018427387904) :
 zO Tryz.prog 21 [(true,[.fz (.int .i64 nw),.rf (lrt 0,[]) true 0 cs.length,.rf (lrt 1,[]) true 0 ps.length]),bI1 k] [(lrt 0,.osl (.i cs)),(lrt 1,.osl (.i ps))]
  [.rf (lrt 0,[]) true 0 cs.length,.rf (lrt 1,[]) true 0 ps.length] (.v (bI1 (K6 (K6 k cs.length) ps.length)))
  [(8192,.obx [.fz (.int .i64 nw),.osl (.i (kB k cs.length)),.osl (.i (kB (K6 k cs.length) ps.length))])] [.rf (8192,[((true,0),1)]) true 0 cs.length,.rf (8192,[((true,0),2)]) true 0 ps.length]:=by
 refine zO.of qc (fn:=Tryz.f21) (c:=Tryz.f21.body.getD .skip) (dr:=fun n=>qa 0 [] n) (r:=(_,_,_)) Tryz.func21 rfl (by kernel_rfl) (by kernel_rfl) (by kernel_rfl) ?_
 generalize hn:cs.length=n at *
 generalize hm:ps.length=m at *
 obtain ⟨f2,hf2⟩:∃ f,f=kB:=⟨_,rfl⟩
 obtain ⟨g2,hg2⟩:∃ f,f=K6:=⟨_,rfl⟩
 have hW:za Tryz.prog (XX.withW [(22,[(0,0)])] (ke [(22,Jt f2 g2)])):=by
  subst hf2 hg2
  exact SX.withW_ok (zr WY kK)
 refine zT.go (X:=(XX.withW [(22,[(0,0)])] (ke [(22,Jt f2 g2)]))) qc (fun n=>qa [] [] n) (fun _=>none) qd 90 2 ?_ hW
 intro M R L N m0 m1 m2 m3 m4 m5
 cases M
 cbv
 repeat' first | refine m1 _ _ ?_ ?_ | refine m2 _ _ fun h=>?_ | refine m3 _ ?_ | (refine m4 _ _ (Hd.out ?_);try rw [hks]) | (refine m5 _ _ ?_;cbv)
 all_goals (clear m1 m2 m3 m4 m5;cases m0;(try clear hks);try dsimp only)
 all_goals try simp only [sm] at *
 all_goals (clear hW)
 all_goals (subst hf2 hg2 hn hm)
 all_goals first
  | rfl
  | exact (zR _ _).symm
  | exact ⟨rfl,rfl,rfl,h1,by omega,by omega⟩
  | exact ⟨rfl,rfl,rfl,h2,by unfold K6;omega,by unfold K6;omega⟩
  | (refine ⟨?_,?_,?_⟩<;>rfl)
  | skip
structure qun (p q:SP)(n n' m m':Nat)(cs ps:List Int)(k:Int):Prop where out:(p=(lrt 0,[])/\q=(lrt 1,[])/\n'=n/\m'=m)/\cs.length=n/\ps.length=m/\n<=maxLen/\m<=maxLen/\0<k/\k+n+m<=4611686018427387904
def Kl (f1:Int->Nat->List Int)(f2:Int->Nat->Nat->List Int)(g:Int->Nat->Nat->Int):WrW
 | [(true,[.fz (.int .i64 nw),.rf p true 0 n,.rf q true 0 m]),(false,[.fz (.int .i64 k)])],[(.sl n',.osl (.i cs)),(.sl m',.osl (.i ps))]=>some ([qun p q n n' m m' cs ps k],(.v (bI1 (g k n m)),[(8192,.obx [.fz (.int .i64 nw),.osl (.i (f1 k n)),.osl (.i (f2 k n m))])],[.rf (8192,[((true,0),1)]) true 0 n,.rf (8192,[((true,0),2)]) true 0 m]))
 | _,_=>none
def stF (k:Int)(n m:Nat):List Int:=kB (K6 k n) m
def stG (k:Int)(n m:Nat):Int:=K6 (K6 k n) m
theorem qbd:KR Tryz.prog 21 (Kl kB stF stG):=by
 intro xs ls
 unfold Kl
 split
 . refine R.Sim.mk fun hp=>?_
   obtain ⟨⟨rfl,rfl,rfl,rfl⟩,rfl,rfl,h1,h2,h3,h4⟩:=(hp _ (.head _)).out
   exact qci _ _ _ _ h1 h2 ⟨h3,h4⟩
 . exact R.Sim.none'
end Go.Proofs.YtifnopmkdempdaaGreat.Ai
namespace Go.Proofs.YtifnopmkdempdaaGreat.Ai
open Go
set_option maxRecDepth 100000
variable [qg]
def wc (v ps vs:List Int):Nat->List Int
 | 0=>v
 | i+1=>(wc v ps vs i).set (ps.getD i 0-1).toNat (vs.getD i 0)
theorem Z1 (v ps vs:List Int):∀ i,(wc v ps vs i).length=v.length
 | 0=>rfl
 | i+1=>by simp only [wc,List.length_set,Z1 v ps vs i]
structure PrT (ps:List Int):Prop where out:∀ p∈ps,1<=p/\p<=3
def qgR (x:qf)(ps vs:List Int):qf:=⟨IntKind.i64.wrap (x.now+1),x.times,wc x.vals ps vs ps.length⟩
theorem qba (x:qf)(ps vs:List Int)(hz:Jq x)(h3:x.vals.length=3)(hl:vs.length=ps.length)(h1:ps.length<=1048576)(hp:∀ p∈ps,1<=p/\p<=3):qe Tryz.prog 65 [qI x,aIs ps,aIs vs] (jd (qgR x ps vs)):=by
 refine qe.of qc (fn:=Tryz.f65) (c:=Tryz.f65.body.getD .skip) (dr:=fun n=>qa 0 [(5,8)] n) Tryz.func65 rfl (by kernel_rfl) (by kernel_rfl) (by kernel_rfl) ?_
 have hO:qp Tryz.prog (qL [(98,ZY)]):=qb QM qd
 obtain ⟨now,times,vals⟩:=x
 dsimp only at h3
 refine SEx.go (X:=XX) qc (fun n=>qa [] [(3,[2,6,7,12,13,14])] n) (fun _=>none) hO 60 ?_
 intro M R L N m0 m1 m2 m3 m4 m5
 cases M
 cbv
 repeat' first | refine m1 _ _ ?_ ?_ | refine m2 _ _ fun h=>?_ | refine m3 _ ?_ | (refine m4 _ _ (Hd.out ?_);generalize hks:(List.cons _ _:List K)=ks) | (refine m5 _ _ ?_;cbv)
 all_goals (clear m1 m2 m3 m4 m5;cases m0;try dsimp only)
 all_goals try simp only [sm] at *
 all_goals first
  | exact hz
  | skip
 obtain ⟨m,hm⟩:∃ m,m=ps.length:=⟨_,rfl⟩
 refine ⟨SEx.same (SEx.idx m (fun i=>⟨34,[(2,bL (.i vs)),(6,bP 24576),(7,bP 28672),(12,bL (.i ps)),(13,bI m),(14,bI i)],[(24576,.obx [.fz (.int .i64 0),.onil,.onil]),(28672,.obx [.fz (.int .i64 now),.osl (.i times),.osl (.i (wc vals ps vs i))])]⟩) (fun _=>jd (qgR ⟨now,times,vals⟩ ps vs)) ?_) (by rw [hm];rfl) rfl⟩
 intro i hi ih
 rw [<-hks]
 obtain ⟨c,hc⟩:∃ c,c=wc vals ps vs i:=⟨_,rfl⟩
 have hcl:c.length=3:=by rw [hc,Z1,h3]
 have hpi:i<m->1<=ps.getD i 0/\ps.getD i 0<=3:=fun h=>hp _ (qo (z:=(0:Int)) (by omega)).out
 have hw:i<m->IntKind.i64.wrap (ps.getD i 0-1)=ps.getD i 0-1:=fun h=>by have:=hpi h;exact qr (by omega) (by omega)
 rw [<-hc]
 refine SEx.go (X:=XX) qc (fun n=>qa [] [(3,[2,6,7,12,13,14])] n) (fun _=>none) hO 60 ?_
 intro M R L N m0 m1 m2 m3 m4 m5
 cases M
 cbv
 repeat' first | refine m1 _ _ ?_ ?_ | refine m2 _ _ fun h=>?_ | refine m3 _ ?_ | (refine m4 _ _ (Hd.out ?_);try first | rw [hks] | rw [hk2] | rw [hk3]) | (refine m5 _ _ ?_;cbv)
 all_goals (clear m1 m2 m3 m4 m5;cases m0;(try clear hks;try clear hk2;try clear hk3);try dsimp only)
 all_goals try simp only [sm] at *
 all_goals (try (have h8:=hpi (by omega)))
 all_goals (try rw [hw (by omega)] at *)
 all_goals (try simp only [qi (show i<9223372036854775807 by omega)])
 all_goals first
  | omega
  | (refine ⟨(ih (by omega)).same ?_ rfl⟩;show _=_;rw [show wc vals ps vs (i+1)=c.set (ps.getD i 0-1).toNat (vs.getD i 0) by rw [hc];rfl];rfl)
  | (obtain rfl:i=m:=by omega
     unfold qgR
     rw [<-hm,hc];rfl)
  | skip
theorem qle (l:List Int)(h1:l.length<=1048576):qe Tryz.prog 50 [aIs l] (rIs l):=by
 refine qe.of qc (fn:=Tryz.f50) (c:=Tryz.f50.body.getD .skip) (dr:=fun n=>qa 0 [] n) Tryz.func50 rfl (by kernel_rfl) (by kernel_rfl) (by kernel_rfl) ?_
 refine SEx.go (X:=XX) qc (fun n=>qa [] [] n) (fun _=>none) qd 60 ?_
 intro M R L N m0 m1 m2 m3 m4 m5
 cases M
 cbv
 repeat' first | refine m1 _ _ ?_ ?_ | refine m2 _ _ fun h=>?_ | refine m3 _ ?_ | (refine m4 _ _ (Hd.out ?_);try first | rw [hks] | rw [hk2] | rw [hk3]) | (refine m5 _ _ ?_;cbv)
 all_goals (clear m1 m2 m3 m4 m5;cases m0;(try clear hks;try clear hk2;try clear hk3);try dsimp only)
 all_goals try simp only [sm] at *
 all_goals first
  | (have:=zG;omega)
  | (have hl:l=[]:=List.eq_nil_of_length_eq_zero (by omega)
     subst hl;rfl)
  | rfl
end Go.Proofs.YtifnopmkdempdaaGreat.Ai
namespace Go.Proofs.YtifnopmkdempdaaGreat.Ai
open Go
set_option maxRecDepth 100000
variable [qg]
def qjk:Wr:=w1 kz rIs (fun l=>[LLe l 1048576])
theorem qhI:qy Tryz.prog 50 qjk:=zB fun l h=>qle l (h _ (.head _)).out
theorem qcZ (x:qf)(hz:Jq x):qe Tryz.prog 112 [qI x] (jd x):=by
 refine qe.of qc (fn:=Tryz.f112) (c:=Tryz.f112.body.getD .skip) (dr:=fun n=>qa 0 [(1,8)] n) Tryz.func112 rfl (by kernel_rfl) (by kernel_rfl) (by kernel_rfl) ?_
 have hO:qp Tryz.prog (qL [(50,qjk)]):=qb qhI qd
 have h1:=hz.tlen
 have h2:=hz.vlen
 clear hz
 obtain ⟨now,times,vals⟩:=x
 dsimp only at h1 h2
 refine SEx.go (X:=XX) qc (fun n=>qa [] [] n) (fun _=>none) hO 60 ?_
 intro M R L N m0 m1 m2 m3 m4 m5
 cases M
 cbv
 repeat' first | refine m1 _ _ ?_ ?_ | refine m2 _ _ fun h=>?_ | refine m3 _ ?_ | (refine m4 _ _ (Hd.out ?_);try first | rw [hks] | rw [hk2] | rw [hk3]) | (refine m5 _ _ ?_;cbv)
 all_goals (clear m1 m2 m3 m4 m5;cases m0;(try clear hks;try clear hk2;try clear hk3);try dsimp only)
 all_goals try simp only [sm] at *
 all_goals first
  | exact ⟨h1⟩
  | exact ⟨h2⟩
  | rfl
def yk:Wr:=w1 qH jd (fun x=>[Jq x])
theorem wL:qy Tryz.prog 112 yk:=zB fun x h=>qcZ x (h _ (.head _))
theorem V5 (x:qf)(ps vs:List Int)(hz:Jq x)(h3:x.vals.length=3)(hl:vs.length=ps.length)(h1:ps.length<=1048576)(hp:∀ p∈ps,1<=p/\p<=3):qe Tryz.prog 81 [qI x,aIs ps,aIs vs] (jd (qgR x ps vs)):=by
 refine qe.of qc (fn:=Tryz.f81) (c:=Tryz.f81.body.getD .skip) (dr:=fun n=>qa 0 [(5,8)] n) Tryz.func81 rfl (by kernel_rfl) (by kernel_rfl) (by kernel_rfl) ?_
 have hO:qp Tryz.prog (qL [(112,yk)]):=qb wL qd
 obtain ⟨now,times,vals⟩:=x
 dsimp only at h3
 refine SEx.go (X:=XX) qc (fun n=>qa [] [(3,[2,6,7,12,13,14])] n) (fun _=>none) hO 60 ?_
 intro M R L N m0 m1 m2 m3 m4 m5
 cases M
 cbv
 repeat' first | refine m1 _ _ ?_ ?_ | refine m2 _ _ fun h=>?_ | refine m3 _ ?_ | (refine m4 _ _ (Hd.out ?_);generalize hks:(List.cons _ _:List K)=ks) | (refine m5 _ _ ?_;cbv)
 all_goals (clear m1 m2 m3 m4 m5;cases m0;try dsimp only)
 all_goals try simp only [sm] at *
 all_goals first
  | exact hz
  | skip
 obtain ⟨m,hm⟩:∃ m,m=ps.length:=⟨_,rfl⟩
 refine ⟨SEx.same (SEx.idx m (fun i=>⟨34,[(2,bL (.i vs)),(6,bP 24576),(7,bP 28672),(12,bL (.i ps)),(13,bI m),(14,bI i)],[(24576,.obx [.fz (.int .i64 0),.onil,.onil]),(28672,.obx [.fz (.int .i64 now),.osl (.i times),.osl (.i (wc vals ps vs i))])]⟩) (fun _=>jd (qgR ⟨now,times,vals⟩ ps vs)) ?_) (by rw [hm];rfl) rfl⟩
 intro i hi ih
 rw [<-hks]
 obtain ⟨c,hc⟩:∃ c,c=wc vals ps vs i:=⟨_,rfl⟩
 have hcl:c.length=3:=by rw [hc,Z1,h3]
 have hpi:i<m->1<=ps.getD i 0/\ps.getD i 0<=3:=fun h=>hp _ (qo (z:=(0:Int)) (by omega)).out
 have hw:i<m->IntKind.i64.wrap (ps.getD i 0-1)=ps.getD i 0-1:=fun h=>by have:=hpi h;exact qr (by omega) (by omega)
 rw [<-hc]
 refine SEx.go (X:=XX) qc (fun n=>qa [] [(3,[2,6,7,12,13,14])] n) (fun _=>none) hO 60 ?_
 intro M R L N m0 m1 m2 m3 m4 m5
 cases M
 cbv
 repeat' first | refine m1 _ _ ?_ ?_ | refine m2 _ _ fun h=>?_ | refine m3 _ ?_ | (refine m4 _ _ (Hd.out ?_);try first | rw [hks] | rw [hk2] | rw [hk3]) | (refine m5 _ _ ?_;cbv)
 all_goals (clear m1 m2 m3 m4 m5;cases m0;(try clear hks;try clear hk2;try clear hk3);try dsimp only)
 all_goals try simp only [sm] at *
 all_goals (try (have h8:=hpi (by omega)))
 all_goals (try rw [hw (by omega)] at *)
 all_goals (try simp only [qi (show i<9223372036854775807 by omega)])
 all_goals first
  | omega
  | (refine ⟨(ih (by omega)).same ?_ rfl⟩;show _=_;rw [show wc vals ps vs (i+1)=c.set (ps.getD i 0-1).toNat (vs.getD i 0) by rw [hc];rfl];rfl)
  | (obtain rfl:i=m:=by omega
     unfold qgR
     rw [<-hm,hc];rfl)
  | skip
def obF (v ps vs:List Int):List Int:=wc v ps vs ps.length
structure V3 (v:List Int):Prop where out:v.length=3
structure SLn (a b:List Int):Prop where out:a.length=b.length
def nxI (n:Int):Int:=IntKind.i64.wrap (n+1)
def qqE (g:Int->Int)(f:List Int->List Int->List Int->List Int):Wr:=w3 qH kz kz (fun x ps vs=>jd ⟨g x.now,x.times,f x.vals ps vs⟩) (fun x ps vs=>[Jq x,V3 x.vals,SLn vs ps,LLe ps 1048576,PrT ps])
theorem qny:qy Tryz.prog 65 (qqE nxI obF):=Qq fun x ps vs h=>qba x ps vs (h _ (.head _)) (h _ (.tail _ (.head _))).out (h _ (.tail _ (.tail _ (.head _)))).out (h _ (.tail _ (.tail _ (.tail _ (.head _))))).out (h _ (.tail _ (.tail _ (.tail _ (.tail _ (.head _)))))).out
theorem qoj:qy Tryz.prog 81 (qqE nxI obF):=Qq fun x ps vs h=>V5 x ps vs (h _ (.head _)) (h _ (.tail _ (.head _))).out (h _ (.tail _ (.tail _ (.head _)))).out (h _ (.tail _ (.tail _ (.tail _ (.head _))))).out (h _ (.tail _ (.tail _ (.tail _ (.tail _ (.head _)))))).out
end Go.Proofs.YtifnopmkdempdaaGreat.Ai
namespace Go.Proofs.YtifnopmkdempdaaGreat.Ai
open Go
set_option maxRecDepth 100000
variable [qg]
theorem qry {l:List qh}(k:Int)(h:∀ q∈l,q.label.length<=1048576):∀ i,i<=l.length->kN k l i<=k+i * 1048578
 | 0,_=>by rw [vK];omega
 | i+1,hi=>by
   have h1:=qry k h i (by omega)
   have h2:=h _ (qo (z:=qh.z) (show i<l.length by omega)).out
   rw [yt (by omega)]
   omega
structure qtt (n:Int)(g:Int):Prop where
 lo:0<g
 hi:g<=4000000000000
theorem qsv {t:qm}{n:Int}(h:qiD t n):qtt n (shG 1 t.nodes t.ties.length)/\gN 1 t.nodes<=4000000000000:=by
 have h1:=qry 1 h.labs t.nodes.length (Nat.le_refl _)
 have h2:=wZ 1 t.nodes 0 t.nodes.length
 rw [vK,Nat.zero_add] at h2
 have h3:=h.len
 have h4:=h.tlen
 unfold shG qmC gN
 exact ⟨⟨by omega,by omega⟩,by omega⟩
theorem qqd (k:Int)(n m:Nat):(stF k n m).length=m:=zR _ _
end Go.Proofs.YtifnopmkdempdaaGreat.Ai
namespace Go.Proofs.YtifnopmkdempdaaGreat.Ai
open Go
set_option maxRecDepth 100000
variable [qg]
def z7 (p:Int->Bool)(l:List Int):List Int:=l.filter fun x=>!p x
def YI (p:Int->Bool)(l:List Int):List Int:=z7 p l++List.replicate (l.length-(z7 p l).length) 0
def qpm (g:FuncId)(caps:List D)(l:List Int)(p:Int->Bool)(L:List (Nat×Wr)):Qz:=fun g' as'=>match as' with
 | (false,[.int .i64 q])::r=>some ([qnP g' g r caps,Mem q l],rB (p q))
 | xs=>qL L g' xs
theorem qoh {P:Program}{g:FuncId}{caps:List D}{l:List Int}{p:Int->Bool}{L:List (Nat×Wr)}(hp:∀ q∈l,qe P g (aI q::Qo caps) (rB (p q)))(hL:qp P (qL L)):qp P (qpm g caps l p L):=by
 intro g' as'
 unfold qpm
 split
 . refine R.Sim.mk fun hq=>?_
   obtain ⟨rfl,rfl⟩:=hq _ (.head _)
   exact hp _ (hq _ (.tail _ (.head _))).out
 . exact hL _ _
theorem Kq {α:Type}(p:α->Bool)(z:α):∀ (l:List α) (n:Nat),(zM p l n=-1/\∀ q∈l,p q=false)\/∃ i,i<l.length/\zM p l n=((n+i:Nat):Int)/\p (l.getD i z)=true/\∀ q∈l.take i,p q=false
 | [],n=>.inl ⟨rfl,fun q h=>by cases h⟩
 | a::r,n=>by
   unfold zM
   cases h:p a with
   | true=>exact .inr ⟨0,by simp,by simp,by simpa using h,fun q h=>by simp at h⟩
   | false =>
     rw [if_neg (by simp)]
     rcases Kq p z r (n+1) with ⟨h1,h2⟩ | ⟨i,h1,h2,h3,h4⟩
     . exact .inl ⟨h1,fun q hq=>(List.mem_cons.1 hq).elim (fun e=>e▸h) (h2 q)⟩
     . refine .inr ⟨i+1,by simpa using h1,by rw [h2];congr 1;omega,by simpa using h3,fun q hq=>?_⟩
       rw [List.take_succ_cons] at hq
       exact (List.mem_cons.1 hq).elim (fun e=>e▸h) (h4 q)
theorem qbI {p:Int->Bool}{l:List Int}(h:∀ q∈l,p q=false):z7 p l=l:=by
 unfold z7
 rw [List.filter_eq_self]
 intro q hq
 rw [h q hq];rfl
theorem qiP {p:Int->Bool}{l:List Int}{j:Nat}(h:j<l.length):z7 p (l.take (j+1))=z7 p (l.take j)++(if p (l.getD j 0)=true then [] else [l.getD j 0]):=by
 unfold z7
 rw [List.take_add_one,List.filter_append,zm h,List.getElem?_eq_getElem h,Option.toList_some,List.filter_cons,List.filter_nil]
 cases p l[j]<;>rfl
theorem qkS {c:List Int}{i n:Nat}(hn:c.length=n)(hi:i<=n):jc c i (n-i) 0=c.take i++List.replicate (n-i) 0:=by
 apply List.ext_getElem?
 intro j
 rw [Qn,List.getElem?_append,List.length_take,hn,Nat.min_eq_left hi,List.getElem?_take,List.getElem?_replicate]
 by_cases h1:j<i
 . rw [if_neg (by omega),if_pos h1,if_pos h1]
 . rw [if_neg h1]
   by_cases h2:j<n
   . rw [if_pos (by omega),if_pos (by omega)]
   . rw [if_neg (by omega),if_neg (by omega),List.getElem?_eq_none (by omega)]
theorem qnG {c:List Int}{i:Nat}(v:Int)(h:i<c.length):(c.set i v).take (i+1)=c.take i++[v]:=by
 rw [List.take_add_one,List.take_set_of_le (Nat.le_refl i),List.getElem?_set_self h];rfl
theorem qet {c l:List Int}{j:Nat}(h:c.drop j=l.drop j):c.drop (j+1)=l.drop (j+1):=by
 have:=congrArg (List.drop 1) h
 rwa [List.drop_drop,List.drop_drop] at this
theorem Vp (l:List Int)(g:FuncId)(a b:List D)(p:Int->Bool)(hp:∀ q∈l,qe Tryz.prog g [aI q,(false,[.ptr a]),(false,[.ptr b])] (rB (p q)))(h1:l.length<=maxLen) :
 zO Tryz.prog 49 [wR l.length,(false,[.clo g [.fz (.ptr a),.fz (.ptr b)]])] [(lrt 0,.osl (.i l))] [.rf (lrt 0,[]) true 0 l.length]
  (.v (false,[.rf (lrt 0,[]) false 0 (z7 p l).length])) [(lrt 0,.osl (.i (YI p l)))] [.rf (lrt 0,[]) true 0 l.length]:=by
 refine zO.of qc (fn:=Tryz.f49) (c:=Tryz.f49.body.getD .skip) (dr:=fun n=>qa 0 [] n) (r:=(_,_,_)) Tryz.func49 rfl (by kernel_rfl) (by kernel_rfl) (by kernel_rfl) ?_
 obtain ⟨f,hf⟩:∃ f:List Int->Int,f=fun l=>zM p l 0:=⟨_,rfl⟩
 have hO:qp Tryz.prog (qpm g [.ptr a,.ptr b] l p [(90,wCl kz g [.ptr a,.ptr b] (fun l=>rI (f l)) (fun m=>[Ve m l]))]):=by
  subst hf
  exact qoh hp (qb (qc4 fun m h=>by obtain rfl:=(h _ (.head _)).out;exact VS m g [.ptr a,.ptr b] p hp h1) qd)
 unfold maxLen at h1
 have hc:=Kq p 0 l 0
 rw [show zM p l 0=f l by rw [hf]] at hc
 have hkl:(z7 p l).length<=l.length:=List.length_filter_le _ _
 have hka:=qbI (p:=p) (l:=l)
 have hks':∀ j,j<l.length->z7 p (l.take (j+1))=z7 p (l.take j)++(if p (l.getD j 0)=true then [] else [l.getD j 0]):=fun j h=>qiP h
 have hkt:z7 p (l.take l.length)=z7 p l:=by rw [List.take_length]
 obtain ⟨kl,hkl0⟩:∃ kl,kl=z7 p l:=⟨_,rfl⟩
 obtain ⟨m,hm⟩:∃ m,m=kl.length:=⟨_,rfl⟩
 obtain ⟨dl,hdl⟩:∃ dl,dl=YI p l:=⟨_,rfl⟩
 rw [<-hkl0,<-hm,<-hdl]
 unfold YI at hdl
 rw [<-hkl0,<-hm] at hdl
 rw [<-hkl0] at hkl hka hkt
 generalize hn:l.length=n at *
 obtain ⟨tt,htt⟩:∃ t:Nat->List Int,t=fun j=>z7 p (l.take j):=⟨_,rfl⟩
 rw [show z7 p (l.take n)=tt n by rw [htt]] at hkt
 have hst:∀ j,j<n->tt (j+1)=tt j++(if p (l.getD j 0)=true then [] else [l.getD j 0]):=fun j h=>by rw [htt];exact hks' j h
 clear hks'
 refine zT.go (X:=(XX.withF [4])) qc (fun n=>qa [] [(5,[0,1,5,6,4294967296])] n) (fun _=>none) hO 60 1 ?_
 intro M R L N m0 m1 m2 m3 m4 m5
 cases M
 cbv
 repeat' first | refine m1 _ _ ?_ ?_ | refine m2 _ _ fun h=>?_ | refine m3 _ ?_ | (refine m4 _ _ (Hd.out ?_);generalize hks:(List.cons _ _:List K)=ks) | (refine m5 _ _ ?_;cbv)
 all_goals (clear m1 m2 m3 m4 m5;cases m0;try dsimp only)
 all_goals try simp only [sm] at *
 all_goals first
  | exact hn.symm
  | exact ⟨rfl⟩
  | exact ⟨rfl,rfl⟩
  | (have e:kl=l:=by
      rcases hc with ⟨_,h2⟩ | ⟨i,_,h2,_⟩
      . exact hka h2
      . omega
     have e2:m=n:=by rw [hm,e,hn]
     subst e2
     rw [Nat.sub_self,List.replicate_zero,List.append_nil,e] at hdl
     subst hdl
     refine ⟨?_,?_,?_⟩<;>rfl)
  | skip
 obtain ⟨i0,hi0,hfi,hpi,hbe⟩:∃ i,i<n/\f l=(i:Int)/\p (l.getD i 0)=true/\∀ q∈l.take i,p q=false:=by
  rcases hc with ⟨h2,_⟩ | ⟨i,h2,h3,h4,h5⟩
  . contradiction
  . exact ⟨i,h2,by rw [h3,Nat.zero_add],h4,h5⟩
 rw [hfi,qi (show i0<9223372036854775807 by omega)]
 have htl:∀ j,(tt j).length<=j:=fun j=>by
  rw [htt]
  show (z7 p (l.take j)).length<=j
  unfold z7
  exact Nat.le_trans (List.length_filter_le _ _) (by rw [List.length_take];omega)
 have ht0:tt (i0+1)=l.take i0:=by
  rw [hst i0 hi0,hpi,if_pos rfl,List.append_nil,htt]
  exact qbI hbe
 have htn:∀ j,j<=n->(tt j).length<=m:=fun j hj=>by
  have key:∀ d,j+d<=n->(tt j).length<=(tt (j+d)).length:=by
   intro d
   induction d with
   | zero=>intro _;exact Nat.le_refl _
   | succ d ih =>
     intro h
     have:=ih (by omega)
     rw [<-Nat.add_assoc,hst (j+d) (by omega),List.length_append]
     omega
  have:=key (n-j) (by omega)
  rw [show j+(n-j)=n by omega,hkt,<-hm] at this
  exact this
 clear hf hka hc hbe hkl0 htt
 refine ⟨zT.same (zT.ind (α:=Nat×List Int×Nat) (fun x=>⟨42,[(0,bR 41000000 n),(1,.v (false,[.clo g [.fz (.ptr a),.fz (.ptr b)]])),(5,bI x.2.2),(6,bI x.1),(4294967296,bR 41000000 n)],[(41000000,.osl (.i x.2.1))]⟩) (fun _=>(.v (false,[.rf (lrt 0,[]) false 0 m]),[(lrt 0,.osl (.i dl))],[.rf (lrt 0,[]) true 0 n])) (fun x=>x.1<=n/\x.2.2<x.1/\x.2.1.length=n/\x.2.1.take x.2.2=tt x.1/\x.2.1.drop x.1=l.drop x.1) (fun x=>n-x.1) (i0+1,l,i0) ⟨by show i0+1<=n;omega,Nat.lt_succ_self i0,hn,ht0.symm,rfl⟩ ?_) rfl ⟨rfl,rfl,rfl⟩⟩
 rintro ⟨j,c,i⟩ ⟨hj,hij,hcl,hct,hcd⟩ ih
 dsimp only at hj hij hcl hct hcd ih ⊢
 rw [<-hks]
 have hcj:j<n->c.getD j 0=l.getD j 0:=fun h=>by
  have:=congrArg (fun x:List Int=>x[0]?) hcd
  simp only [List.getElem?_drop,Nat.add_zero] at this
  rw [List.getD_eq_getElem?_getD,List.getD_eq_getElem?_getD,this]
 have hil:i=(tt j).length:=by rw [<-hct,List.length_take];omega
 refine zT.go (X:=(XX.withF [4])) qc (fun n=>qa [] [(5,[0,1,5,6,4294967296])] n) (fun _=>none) hO 60 1 ?_
 intro M R L N m0 m1 m2 m3 m4 m5
 cases M
 cbv
 repeat' first | refine m1 _ _ ?_ ?_ | refine m2 _ _ fun h=>?_ | refine m3 _ ?_ | (refine m4 _ _ (Hd.out ?_);try rw [hks]) | (refine m5 _ _ ?_;cbv)
 all_goals (clear m1 m2 m3 m4 m5;cases m0;(try clear hks);try dsimp only)
 all_goals try simp only [sm] at *
 all_goals (try simp only [Nat.zero_add] at *)
 all_goals (try simp only [hcj (by omega),qi (show j<9223372036854775807 by omega),qi (show i<9223372036854775807 by omega)] at *)
 all_goals first
  | exact hn.symm
  | omega
  | (rw [jw];omega)
  | exact ⟨rfl,rfl⟩
  | exact qo (z:=(0:Int)) (by omega)
  | (have hpj:p (l.getD j 0)=false:=by assumption
     refine ⟨(ih (j+1,c.set i (l.getD j 0),i+1) ⟨by show j+1<=n;omega,by show i+1<j+1;omega,by show (c.set i (l.getD j 0)).length=n;rw [List.length_set];exact hcl,?_,?_⟩ (by show n-(j+1)<n-j;omega)).same rfl ⟨rfl,rfl,rfl⟩⟩
     . show (c.set i (l.getD j 0)).take (i+1)=tt (j+1)
       rw [qnG _ (by omega),hct,hst j (by omega),hpj];rfl
     . show (c.set i (l.getD j 0)).drop (j+1)=l.drop (j+1)
       rw [List.drop_set_of_lt (by omega),qet hcd])
  | (have hpj:p (l.getD j 0)=true:=by assumption
     refine ⟨(ih (j+1,c,i) ⟨by show j+1<=n;omega,by show i<j+1;omega,hcl,?_,?_⟩ (by show n-(j+1)<n-j;omega)).same rfl ⟨rfl,rfl,rfl⟩⟩
     . show c.take i=tt (j+1)
       rw [hct,hst j (by omega),hpj,if_pos rfl,List.append_nil]
     . show c.drop (j+1)=l.drop (j+1)
       exact qet hcd)
  | (have e:j=n:=by omega
     subst e
     have hmi:m=i:=by rw [hm,<-hkt,<-hil]
     have e2:dl=jc c i (j-i) 0:=by rw [qkS hcl (by omega),hct,hkt,hdl,hmi]
     subst hmi
     rw [e2]
     refine ⟨?_,?_,?_⟩<;>rfl)
  | skip
def kD (q:Nat->Bool)(i:Nat):List Int:=((List.range i).filter q).map fun (j:Nat)=>(j:Int)
theorem vM {q:Nat->Bool}{i:Nat}(h:q i=true):kD q (i+1)=kD q i++[(i:Int)]:=by
 simp only [kD,List.range_succ,List.filter_append,List.map_append,List.filter_cons,List.filter_nil,h,if_true,List.map_cons,List.map_nil]
theorem vQ {q:Nat->Bool}{i:Nat}(h:q i=false):kD q (i+1)=kD q i:=by
 simp only [kD,List.range_succ,List.filter_append,List.map_append,List.filter_cons,List.filter_nil,h,Bool.false_eq_true,if_false,List.map_nil,List.append_nil]
theorem Zi (q:Nat->Bool)(i:Nat):(kD q i).length<=i:=by
 simp only [kD,List.length_map]
 exact Nat.le_trans (List.length_filter_le _ _) (by simp)
theorem vg {q:Nat->Bool}{n:Nat}{x:Int}(h:x∈kD q n):0<=x/\x<n/\q x.toNat=true:=by
 simp only [kD,List.mem_map,List.mem_filter,List.mem_range] at h
 obtain ⟨j,⟨h1,h2⟩,rfl⟩:=h
 exact ⟨by omega,by omega,by simpa using h2⟩
theorem qfN (q:Nat->Bool)(p:Int->Bool)(n:Nat):(kD q n).filter p=kD (fun j=>q j&&p j) n:=by
 simp only [kD,List.filter_map,List.filter_filter]
 congr 1
 congr 1
 funext j
 simp [Function.comp,Bool.and_comm]
def chQ (ts:List Tie)(i:Nat):Bool:=decide (0<i)&&decide (KU ts i<0)
def chL (t:qm):List Int:=kD (chQ t.ties) t.nodes.length
def enP (t:qm)(x:qf)(i:Int):Bool:=decide (x.times.getD i.toNat 0=-1)&&decide (nsI t x i=1)
def enL (t:qm)(x:qf):List Int:=(chL t).filter (enP t x)
theorem qeE (q:Tie)(x:Int):qe Tryz.prog 172 [yV q,(false,[.ptr [.int .i64 x]])] (rB (q.free&&q.dst == x)):=by
 refine qe.of qc (fn:=Tryz.f172) (c:=Tryz.f172.body.getD .skip) (dr:=fun n=>qa 0 [] n) Tryz.func172 rfl (by kernel_rfl) (by kernel_rfl) (by kernel_rfl) ?_
 obtain ⟨x1,x2,x3,x4,x5⟩:=q
 refine SEx.go (X:=XX) qc (fun n=>qa [] [] n) (fun _=>none) qd 60 ?_
 intro M R L N m0 m1 m2 m3 m4 m5
 cases M
 cbv
 repeat' first | refine m1 _ _ ?_ ?_ | refine m2 _ _ fun h=>?_ | refine m3 _ ?_ | (refine m4 _ _ (Hd.out ?_);try first | rw [hks] | rw [hk2] | rw [hk3]) | (refine m5 _ _ ?_;cbv)
 all_goals (clear m1 m2 m3 m4 m5;cases m0;(try clear hks;try clear hk2;try clear hk3);try dsimp only)
 all_goals try simp only [sm] at *
 all_goals (refine qM ?_ _;simp_all;done)
theorem qiI (t:qm)(x:Int)(h1:t.ties.length<=maxLen):qe Tryz.prog 154 [qS t,aI x] (rI (KU t.ties x)):=by
 refine qe.of qc (fn:=Tryz.f154) (c:=Tryz.f154.body.getD .skip) (dr:=fun n=>qa 0 [] n) Tryz.func154 rfl (by kernel_rfl) (by kernel_rfl) (by kernel_rfl) ?_
 obtain ⟨f,hf⟩:∃ f,f=KU:=⟨_,rfl⟩
 have hO:qp Tryz.prog (qL [(148,w2 K7 (qtv 172 false dcI fun _=>rfl) (fun l x=>rI (f l x)) (fun l x=>[LLe l maxLen]))]):=by
  subst hf
  exact qb (qE fun l x h=>wl l 172 [.ptr [.int .i64 x]] (fun q=>q.free&&q.dst == x) (fun q _=>qeE q x) (h _ (.head _)).out) qd
 obtain ⟨ns,ts,hr⟩:=t
 rw [<-hf]
 refine SEx.go (X:=XX) qc (fun n=>qa [] [] n) (fun _=>none) hO 60 ?_
 intro M R L N m0 m1 m2 m3 m4 m5
 cases M
 cbv
 repeat' first | refine m1 _ _ ?_ ?_ | refine m2 _ _ fun h=>?_ | refine m3 _ ?_ | (refine m4 _ _ (Hd.out ?_);try first | rw [hks] | rw [hk2] | rw [hk3]) | (refine m5 _ _ ?_;cbv)
 all_goals (clear m1 m2 m3 m4 m5;cases m0;(try clear hks;try clear hk2;try clear hk3);try dsimp only)
 all_goals try simp only [sm] at *
 all_goals first
  | exact ⟨h1⟩
  | rfl
  | skip
theorem qlk:qy Tryz.prog 154 (qeF KU):=qE fun t x h=>qiI t x (h _ (.head _)).out
theorem qln (t:qm)(h1:t.ties.length<=maxLen)(h2:1<=t.nodes.length/\t.nodes.length<=7):qe Tryz.prog 135 [qS t] (rUs (chL t)):=by
 refine qe.of qc (fn:=Tryz.f135) (c:=Tryz.f135.body.getD .skip) (dr:=fun n=>qa 0 [] n) Tryz.func135 rfl (by kernel_rfl) (by kernel_rfl) (by kernel_rfl) ?_
 obtain ⟨f,hf⟩:∃ f,f=KU:=⟨_,rfl⟩
 have hO:qp Tryz.prog (qL [(154,qeF f)]):=by subst hf;exact qb qlk qd
 obtain ⟨ns,ts,hr⟩:=t
 dsimp only at h1 h2
 obtain ⟨q,hq⟩:∃ q,q=chQ ts:=⟨_,rfl⟩
 obtain ⟨r,hrr⟩:∃ r,r=chL ⟨ns,ts,hr⟩:=⟨_,rfl⟩
 rw [<-hrr]
 have hrr:r=kD q ns.length:=by rw [hrr,hq];rfl
 have hq0:q 0=false:=by rw [hq];rfl
 have hqs:∀ j:Nat,q (j+1)=decide (f ts ((j+1:Nat):Int)<0):=fun j=>by rw [hq,hf];unfold chQ;rw [decide_eq_true (Nat.succ_pos j),Bool.true_and]
 clear hq
 obtain ⟨m,hm⟩:∃ m,m=ns.length:=⟨_,rfl⟩
 rw [<-hm] at h2 hrr
 refine SEx.go (X:=XX) qc (fun n=>qa [] [(3,[1,3,4])] n) (fun _=>none) hO 60 ?_
 intro M R L N m0 m1 m2 m3 m4 m5
 cases M
 cbv
 repeat' first | refine m1 _ _ ?_ ?_ | refine m2 _ _ fun h=>?_ | refine m3 _ ?_ | (refine m4 _ _ (Hd.out ?_);generalize hks:(List.cons _ _:List K)=ks) | (refine m5 _ _ ?_;cbv)
 all_goals (clear m1 m2 m3 m4 m5;cases m0;try dsimp only)
 all_goals try simp only [sm] at *
 refine ⟨SEx.same (SEx.idx (m-1) (fun j=>⟨21,[(1,bP 4096),(3,bR 12288 (kD q (j+1)).length),(4,bI (j+1:Nat))],[(4096,.obx [.fz (.sl (.node false none ns)),.fz (.sl (.tie ts)),.fz (.int .i64 hr)]),(12288,.osl (.i (kD q (j+1))))]⟩) (fun _=>rUs r) ?_) (by rw [vQ hq0];rfl) rfl⟩
 intro j hj ih
 rw [<-hks]
 obtain ⟨u,hu⟩:∃ u,u=kD q (j+1):=⟨_,rfl⟩
 have hul:u.length<=j+1:=by rw [hu];exact Zi _ _
 rw [<-hu]
 obtain ⟨n,hn⟩:∃ n,n=u.length:=⟨_,rfl⟩
 rw [<-hn] at hul ⊢
 obtain ⟨k,hk⟩:∃ k,k=j+1:=⟨_,rfl⟩
 have hqk:q k=decide (f ts (k:Int)<0):=by rw [hk];exact hqs j
 rw [<-hk] at hul hu ih ⊢
 refine SEx.go (X:=XX) qc (fun n=>qa [] [(3,[1,3,4])] n) (fun _=>none) hO 60 ?_
 intro M R L N m0 m1 m2 m3 m4 m5
 cases M
 cbv
 repeat' first | refine m1 _ _ ?_ ?_ | refine m2 _ _ fun h=>?_ | refine m3 _ ?_ | (refine m4 _ _ (Hd.out ?_);try first | rw [hks] | rw [hk2] | rw [hk3]) | (refine m5 _ _ ?_;cbv)
 all_goals (clear m1 m2 m3 m4 m5;cases m0;(try clear hks;try clear hk2;try clear hk3);try dsimp only)
 all_goals try simp only [sm] at *
 all_goals try simp only [List.length_append,List.length_cons,List.length_nil,List.length_set] at *
 all_goals (try omega)
 all_goals (try (have:=zG;omega))
 all_goals (try simp only [qi (show k<9223372036854775807 by omega)])
 all_goals first
  | exact ⟨h1⟩
  | (have ih':=ih (by omega)
     rw [vM (by rw [hqk];exact decide_eq_true (by assumption)),<-hu,List.length_append] at ih'
     exact ⟨ih'.same rfl rfl⟩)
  | (have ih':=ih (by omega)
     rw [vQ (by rw [hqk];exact decide_eq_false (by omega)),<-hu,<-hn] at ih'
     exact ⟨ih'.same rfl rfl⟩)
  | (have e:k=m:=by omega
     rw [hrr,<-e,hu];rfl)
  | skip
structure StV (t:qm)(x:qf):Prop where
 sh:zb t=true
 vals:qT x.vals=true
theorem qaX (t:qm)(x:qf)(i:Int)(hs:kE t x)(h:StV t x)(hi:0<=i/\i<t.nodes.length):qe Tryz.prog 128 [qS t,qI x,aI i] (rI (nsI t x i)):=by
 refine qe.of qc (fn:=Tryz.f128) (c:=Tryz.f128.body.getD .skip) (dr:=fun n=>qa 0 [(1,8)] n) Tryz.func128 rfl (by kernel_rfl) (by kernel_rfl) (by kernel_rfl) ?_
 have h1:=kU h.sh (qo (z:=qh.z) (show i.toNat<t.nodes.length by omega)).out
 have h2:=h.vals
 have h3:=hs.sh.nodes _ (qo (z:=qh.z) (show i.toNat<t.nodes.length by omega)).out
 have h4:=hs.st.vlen
 unfold nsI nd
 obtain ⟨f,hf⟩:∃ f:List Int->List Int->Int,f=fun l v=>if qY l=true/\qT v=true then Ka v l 1 else -1:=⟨_,rfl⟩
 have hO:qp Tryz.prog (qL [(149,w2 kz kz (fun l v=>rI (f l v)) (fun l v=>[Ky l,LLe v maxLen]))]):=by
  subst hf
  exact qb (qE fun l v h=>KI l v (h _ (.head _)) (h _ (.tail _ (.head _))).out) qd
 have he:f (t.nodes.getD i.toNat qh.z).label x.vals=Ka x.vals (t.nodes.getD i.toNat qh.z).label 1:=by rw [hf];exact if_pos ⟨h1,h2⟩
 rw [<-he]
 clear hs h hf he
 obtain ⟨ns,ts,hr⟩:=t
 obtain ⟨now,times,vals⟩:=x
 dsimp only at hi h1 h2 h3 h4
 refine SEx.go (X:=XX) qc (fun n=>qa [] [] n) (fun _=>none) hO 60 ?_
 intro M R L N m0 m1 m2 m3 m4 m5
 cases M
 cbv
 repeat' first | refine m1 _ _ ?_ ?_ | refine m2 _ _ fun h=>?_ | refine m3 _ ?_ | (refine m4 _ _ (Hd.out ?_);try first | rw [hks] | rw [hk2] | rw [hk3]) | (refine m5 _ _ ?_;cbv)
 all_goals (clear m1 m2 m3 m4 m5;cases m0;(try clear hks;try clear hk2;try clear hk3);try dsimp only)
 all_goals try simp only [sm] at *
 all_goals first
  | omega
  | exact ⟨h3.len,h3.all⟩
  | exact ⟨h4⟩
  | rfl
  | skip
def qgl (f:qm->qf->Int->Int):Wr:=w3 qQ qH dcI (fun t x i=>rI (f t x i)) (fun t x i=>[kE t x,StV t x,InX i t.nodes])
theorem qfe:qy Tryz.prog 128 (qgl nsI):=Qq fun t x i h=>qaX t x i (h _ (.head _)) (h _ (.tail _ (.head _))) (h _ (.tail _ (.tail _ (.head _)))).out
theorem qgk (i:Int)(t:qm)(x:qf)(hs:kE t x)(h:StV t x)(hl:x.times.length=t.nodes.length)(hi:0<=i/\i<t.nodes.length):qe Tryz.prog 136 [aI i,(false,[.ptr x.d]),(false,[.ptr t.d])] (rB (!enP t x i)):=by
 refine qe.of qc (fn:=Tryz.f136) (c:=Tryz.f136.body.getD .skip) (dr:=fun n=>qa 0 [] n) Tryz.func136 rfl (by kernel_rfl) (by kernel_rfl) (by kernel_rfl) ?_
 obtain ⟨f,hf⟩:∃ f,f=nsI:=⟨_,rfl⟩
 have hO:qp Tryz.prog (qL [(128,qgl f)]):=by subst hf;exact qb qfe qd
 unfold enP
 rw [<-hf]
 clear hf
 obtain ⟨ns,ts,hr⟩:=t
 obtain ⟨now,times,vals⟩:=x
 dsimp only at hl hi
 refine SEx.go (X:=XX) qc (fun n=>qa [] [] n) (fun _=>none) hO 60 ?_
 intro M R L N m0 m1 m2 m3 m4 m5
 cases M
 cbv
 repeat' first | refine m1 _ _ ?_ ?_ | refine m2 _ _ fun h=>?_ | refine m3 _ ?_ | (refine m4 _ _ (Hd.out ?_);try first | rw [hks] | rw [hk2] | rw [hk3]) | (refine m5 _ _ ?_;cbv)
 all_goals (clear m1 m2 m3 m4 m5;cases m0;(try clear hks;try clear hk2;try clear hk3);try dsimp only)
 all_goals try simp only [sm] at *
 all_goals first
  | omega
  | exact hs
  | exact h
  | exact ⟨hi⟩
  | (refine qM ?_ _;rw [decide_eq_false (by assumption)];rfl)
  | (refine qM ?_ _;rw [decide_eq_true (by assumption),Bool.true_and];generalize f _ _ i=v;by_cases hv:v=1<;>simp [hv];done)
  | skip
structure ChT (t:qm):Prop where
 len:t.ties.length<=maxLen
 nod:1<=t.nodes.length/\t.nodes.length<=7
def qjE (f:qm->List Int):Wr:=w1 qQ (fun t=>rUs (f t)) (fun t=>[ChT t])
theorem qhl:qy Tryz.prog 135 (qjE chL):=zB fun t h=>qln t (h _ (.head _)).len (h _ (.head _)).nod
structure qtD (p:SP)(n m:Nat)(l l0:List Int)(g' g:Nat)(a' a b' b:List D):Prop where out:p=(lrt 0,[])/\m=n/\l.length=n/\l=l0/\g'=g/\a'=a/\b'=b
def qp3 (g:Nat)(a b:List D)(l0:List Int)(k d:List Int->List Int)(ln:List Int->Nat):WrW
 | [(false,[.rf p true 0 n]),(false,[.clo g' [.fz (.ptr a'),.fz (.ptr b')]])],[(.sl m,.osl (.i l))]=>some ([qtD p n m l l0 g' g a' a b' b],(.v (false,[.rf (lrt 0,[]) false 0 (ln (k l))]),[(lrt 0,.osl (.i (d l)))],[.rf (lrt 0,[]) true 0 n]))
 | _,_=>none
theorem qqJ {g:Nat}{a b:List D}{l0:List Int}{p:Int->Bool}(hp:∀ q∈l0,qe Tryz.prog g [aI q,(false,[.ptr a]),(false,[.ptr b])] (rB (p q)))(h1:l0.length<=maxLen) :
 KR Tryz.prog 49 (qp3 g a b l0 (z7 p) (YI p) List.length):=by
 intro xs ls
 unfold qp3
 split
 . refine R.Sim.mk fun hq=>?_
   obtain ⟨rfl,rfl,rfl,rfl,rfl,rfl,rfl⟩:=(hq _ (.head _)).out
   exact Vp _ _ _ _ p hp h1
 . exact R.Sim.none'
theorem qo1 (p:Int->Bool)(l:List Int):(YI p l).length=l.length:=by
 have:(z7 p l).length<=l.length:=List.length_filter_le _ _
 unfold YI
 rw [List.length_append,List.length_replicate]
 omega
theorem qmk (p:Int->Bool)(l:List Int):((YI p l).drop 0).take (z7 p l).length=z7 p l:=by
 rw [List.drop_zero]
 unfold YI
 rw [List.take_left]
theorem qlx (p:Int->Bool)(l:List Int):z7 (fun i=>!p i) l=l.filter p:=by
 unfold z7
 congr 1
 funext x
 simp
theorem Vr {P:Program}{g:FuncId}{args:List (V1 A)}{tb tb':List (Nat×O)}{ph ph':List A}{p:qk}{off:Nat}(h:vR P g args tb ph (.v (false,[.rf p off 0])) tb' ph'):vR P g args tb ph (.v (false,[.fz (.sl [])])) tb' ph':=by
 refine ⟨h.1,fun J w σ vals hfut hold hsz ha hin=>(h.2 J w σ vals hfut hold hsz ha hin).mono ?_⟩
 rintro e w' ⟨v,σ',he,ho⟩
 letI:=J
 refine ⟨v,σ',he,ho.goes,ho.back,?_⟩
 have hr:ql w' σ' (.rf p off 0) v:=ho.res
 show ql w' σ' (.fz (.sl [])) v
 cases hr with
 | rz _ _ b=>exact .fz _ _ (.sl [] 0 b 0 (fun _ _=>undef) (Nat.le_refl _) (by simp) (by simp) (by simp) (by simp))
 | rf _ _ _ g n cap sz hg hl hn=>exact .fz _ _ (.sl [] 0 _ _ (fun _ _=>undef) (Nat.zero_le _) (by simp) (by simp) (by simp) (by simp))
theorem qcJ (l:List Int)(g:FuncId)(a b:List D)(p:Int->Bool)(hp:∀ q∈l,qe Tryz.prog g [aI q,(false,[.ptr a]),(false,[.ptr b])] (rB (p q)))(h1:l.length<=maxLen)(h0:z7 p l=[]) :
 zO Tryz.prog 49 [wR l.length,(false,[.clo g [.fz (.ptr a),.fz (.ptr b)]])] [(lrt 0,.osl (.i l))] [.rf (lrt 0,[]) true 0 l.length]
  (.v (false,[.fz (.sl (.i []))])) [(lrt 0,.osl (.i (YI p l)))] [.rf (lrt 0,[]) true 0 l.length]:=by
 have:=Vp l g a b p hp h1
 rw [h0] at this
 exact Vr this
def qkv (g:Nat)(a b:List D)(l0:List Int)(d:List Int->List Int):WrW
 | [(false,[.rf p true 0 n]),(false,[.clo g' [.fz (.ptr a'),.fz (.ptr b')]])],[(.sl m,.osl (.i l))]=>some ([qtD p n m l l0 g' g a' a b' b],(.v (false,[.fz (.sl (.i []))]),[(lrt 0,.osl (.i (d l)))],[.rf (lrt 0,[]) true 0 n]))
 | _,_=>none
theorem qnI {g:Nat}{a b:List D}{l0:List Int}{p:Int->Bool}(hp:∀ q∈l0,qe Tryz.prog g [aI q,(false,[.ptr a]),(false,[.ptr b])] (rB (p q)))(h1:l0.length<=maxLen)(h0:z7 p l0=[]) :
 KR Tryz.prog 49 (qkv g a b l0 (YI p)):=by
 intro xs ls
 unfold qkv
 split
 . refine R.Sim.mk fun hq=>?_
   obtain ⟨rfl,rfl,rfl,rfl,rfl,rfl,rfl⟩:=(hq _ (.head _)).out
   exact qcJ _ _ _ _ p hp h1 h0
 . exact R.Sim.none'
def rE:TV W:=.v (false,[.fz (.sl (.i []))])
def rEn:List Int->TV W
 | []=>rE
 | a::l=>rUs (a::l)
theorem Yn (t:qm)(x:qf)(hs:kE t x)(h:StV t x)(hl:x.times.length=t.nodes.length):qe Tryz.prog 110 [qS t,qI x] (rEn (enL t x)):=by
 refine qe.of qc (fn:=Tryz.f110) (c:=Tryz.f110.body.getD .skip) (dr:=fun n=>qa 0 [] n) Tryz.func110 rfl (by kernel_rfl) (by kernel_rfl) (by kernel_rfl) ?_
 have hn:=qN h.sh
 have htl:=hs.sh.tlen
 obtain ⟨f0,hf0⟩:∃ f,f=chL:=⟨_,rfl⟩
 have hO:qp Tryz.prog (qL [(135,qjE f0)]):=by subst hf0;exact qb qhl qd
 obtain ⟨l0,hl0⟩:∃ l,l=f0 t:=⟨_,rfl⟩
 have hmem:∀ q∈l0,0<=q/\q<t.nodes.length:=fun q hq=>by
  rw [hl0,hf0] at hq
  have:=vg hq
  exact ⟨this.1,this.2.1⟩
 have hl7:l0.length<=maxLen:=by
  have:l0.length<=t.nodes.length:=by rw [hl0,hf0];exact Zi _ _
  unfold maxLen
  omega
 have he:enL t x=z7 (fun i=>!enP t x i) l0:=by rw [qlx,hl0,hf0];rfl
 have hc:=fun q hq=>qgk q t x hs h hl (hmem q hq)
 obtain ⟨p,hp⟩:∃ p,p=fun i=>!enP t x i:=⟨_,rfl⟩
 rw [<-hp] at he
 have hc:∀ q∈l0,qe Tryz.prog 136 [aI q,(false,[.ptr x.d]),(false,[.ptr t.d])] (rB (p q)):=fun q hq=>by rw [hp];exact hc q hq
 rw [he]
 clear he hp hmem
 have hDl:=qo1 p l0
 have hDt:=qmk p l0
 obtain ⟨ns,ts,hr⟩:=t
 obtain ⟨now,times,vals⟩:=x
 obtain ⟨d,hd⟩:∃ d,d=YI p:=⟨_,rfl⟩
 cases hkp:z7 p l0 with
 | nil =>
   have hW:za Tryz.prog ((XX.withF [2,3,4]).withW [(49,[(0,0)])] (ke [(49,qkv 136 [.int .i64 now,.sl (.i times),.sl (.i vals)] [.sl (.node false none ns),.sl (.tie ts),.int .i64 hr] l0 d)])):=by
    subst hd
    exact SX.withW_ok (zr (qnI hc hl7 hkp) kK)
   rw [<-hd] at hDl
   refine SEx.go (X:=((XX.withF [2,3,4]).withW [(49,[(0,0)])] (ke [(49,qkv 136 [.int .i64 now,.sl (.i times),.sl (.i vals)] [.sl (.node false none ns),.sl (.tie ts),.int .i64 hr] l0 d)]))) qc (fun n=>qa [] [] n) (fun _=>none) hO 60 ?_ hW
   intro M R L N m0 m1 m2 m3 m4 m5
   cases M
   cbv
   repeat' first | refine m1 _ _ ?_ ?_ | refine m2 _ _ fun h=>?_ | refine m3 _ ?_ | (refine m4 _ _ (Hd.out ?_);try first | rw [hks] | rw [hk2] | rw [hk3]) | (refine m5 _ _ ?_;cbv)
   all_goals (clear m1 m2 m3 m4 m5;cases m0;(try clear hks;try clear hk2;try clear hk3);try dsimp only)
   all_goals try simp only [sm] at *
   all_goals (clear hW hO)
   all_goals first
    | exact ⟨htl,hn⟩
    | rfl
    | exact ⟨⟨rfl,rfl,rfl,hl0.symm,rfl,rfl,rfl⟩⟩
    | (rw [<-hl0];exact hDl.symm)
    | skip
 | cons k0 kr =>
   rw [hkp] at hDt
   obtain ⟨k,hk⟩:∃ k,k=z7 p:=⟨_,rfl⟩
   rw [<-hk] at hkp
   obtain ⟨ln,hln⟩:∃ f:List Int->Nat,f=List.length:=⟨_,rfl⟩
   have hlk:ln (k l0)=(k0::kr).length:=by rw [hln,hkp]
   have hkl:(k0::kr).length<=l0.length:=by rw [<-hkp,hk];exact List.length_filter_le _ _
   have hW:za Tryz.prog ((XX.withF [2,3,4]).withW [(49,[(0,0)])] (ke [(49,qp3 136 [.int .i64 now,.sl (.i times),.sl (.i vals)] [.sl (.node false none ns),.sl (.tie ts),.int .i64 hr] l0 k d ln)])):=by
    subst hk hd hln
    exact SX.withW_ok (zr (qqJ hc hl7) kK)
   rw [<-hd] at hDt hDl
   clear hk hln
   refine SEx.go (X:=((XX.withF [2,3,4]).withW [(49,[(0,0)])] (ke [(49,qp3 136 [.int .i64 now,.sl (.i times),.sl (.i vals)] [.sl (.node false none ns),.sl (.tie ts),.int .i64 hr] l0 k d ln)]))) qc (fun n=>qa [] [] n) (fun _=>none) hO 60 ?_ hW
   intro M R L N m0 m1 m2 m3 m4 m5
   cases M
   cbv
   repeat' first | refine m1 _ _ ?_ ?_ | refine m2 _ _ fun h=>?_ | refine m3 _ ?_ | (refine m4 _ _ (Hd.out ?_);try first | rw [hks] | rw [hk2] | rw [hk3]) | (refine m5 _ _ ?_;cbv)
   all_goals (clear m1 m2 m3 m4 m5;cases m0;(try clear hks;try clear hk2;try clear hk3);try dsimp only)
   all_goals try simp only [sm] at *
   all_goals (clear hW hO)
   all_goals (try simp only [<-hl0,hlk,hDl,Nat.zero_add])
   all_goals first
    | exact ⟨htl,hn⟩
    | exact ⟨⟨rfl,rfl,rfl,rfl,rfl,rfl,rfl⟩⟩
    | exact hkl
    | (simp;done)
    | (rw [hDt];done)
    | (rw [hDt];rfl)
    | skip
theorem qaH (t:qm)(x:qf)(hs:kE t x)(h:StV t x)(hl:x.times.length=t.nodes.length):qe Tryz.prog 70 [qS t,qI x] (rUs (enL t x)):=by
 refine qe.of qc (fn:=Tryz.f70) (c:=Tryz.f70.body.getD .skip) (dr:=fun n=>qa 0 [] n) Tryz.func70 rfl (by kernel_rfl) (by kernel_rfl) (by kernel_rfl) ?_
 have hn:=qN h.sh
 have htl:=hs.sh.tlen
 obtain ⟨f1,hf1⟩:∃ f,f=qmB:=⟨_,rfl⟩
 obtain ⟨f2,hf2⟩:∃ f,f=KU:=⟨_,rfl⟩
 have hO:qp Tryz.prog (qL [(108,QY f1),(107,qeF f2)]):=by
  subst hf1 hf2
  exact qb jJ (qb qbu qd)
 have hv:=h.vals
 have hlb:∀ n∈t.nodes,qY n.label=true:=fun n hn=>kU h.sh hn
 have he:enL t x=kD (fun j=>chQ t.ties j&&enP t x j) t.nodes.length:=by unfold enL chL;rw [qfN]
 rw [he]
 obtain ⟨ns,ts,hr⟩:=t
 obtain ⟨now,times,vals⟩:=x
 dsimp only at hl hn htl hv hlb ⊢
 obtain ⟨q,hq⟩:∃ q,q=fun j:Nat=>chQ ts j&&enP ⟨ns,ts,hr⟩ ⟨now,times,vals⟩ j:=⟨_,rfl⟩
 have hqd:∀ j:Nat,q j=(decide (0<j)&&decide (f2 ts (j:Int)<0)&&(decide (times.getD j 0=-1)&&decide (f1 (ns.getD j qh.z).label vals=1))):=fun j=>by rw [hq,hf1,hf2];rfl
 rw [show kD (fun j:Nat=>chQ ts j&&enP ⟨ns,ts,hr⟩ ⟨now,times,vals⟩ j) ns.length=kD q ns.length by rw [hq]]
 clear hq he hs h
 obtain ⟨m,hm⟩:∃ m,m=ns.length:=⟨_,rfl⟩
 rw [<-hm] at hl hn ⊢
 refine SEx.go (X:=XX) qc (fun n=>qa [] [(3,[2,3,5,10,11,12])] n) (fun _=>none) hO 60 ?_
 intro M R L N m0 m1 m2 m3 m4 m5
 cases M
 cbv
 repeat' first | refine m1 _ _ ?_ ?_ | refine m2 _ _ fun h=>?_ | refine m3 _ ?_ | (refine m4 _ _ (Hd.out ?_);generalize hks:(List.cons _ _:List K)=ks) | (refine m5 _ _ ?_;cbv)
 all_goals (clear m1 m2 m3 m4 m5;cases m0;try dsimp only)
 all_goals try simp only [sm] at *
 refine ⟨SEx.same (SEx.idx m (fun i=>⟨47,[(2,bP 8192),(3,bP 12288),(5,bR 20480 (kD q i).length),(10,bL (.node false none ns)),(11,bI m),(12,bI i)],[(8192,.obx [.fz (.sl (.node false none ns)),.fz (.sl (.tie ts)),.fz (.int .i64 hr)]),(12288,.obx [.fz (.int .i64 now),.fz (.sl (.i times)),.fz (.sl (.i vals))]),(20480,.osl (.i (kD q i)))]⟩) (fun _=>rUs (kD q m)) ?_) (by rw [hm];rfl) rfl⟩
 intro i hi ih
 rw [<-hks]
 obtain ⟨u,hu⟩:∃ u,u=kD q i:=⟨_,rfl⟩
 have hul:u.length<=i:=by rw [hu];exact Zi _ _
 rw [<-hu]
 obtain ⟨n,hnn⟩:∃ n,n=u.length:=⟨_,rfl⟩
 rw [<-hnn] at hul ⊢
 have hyes:0<i->f2 ts (i:Int)<0->times.getD i 0=-1->f1 (ns.getD i qh.z).label vals=1->q i=true:=fun a b c d=>by rw [hqd,decide_eq_true a,decide_eq_true b,decide_eq_true c,decide_eq_true d];rfl
 have hno:(¬0<i\/¬f2 ts (i:Int)<0\/¬times.getD i 0=-1\/¬f1 (ns.getD i qh.z).label vals=1)->q i=false:=fun h=>by
  rw [hqd]
  rcases h with h | h | h | h<;>rw [decide_eq_false h]<;>simp
 clear hqd
 refine SEx.go (X:=XX) qc (fun n=>qa [] [(3,[2,3,5,10,11,12])] n) (fun _=>none) hO 60 ?_
 intro M R L N m0 m1 m2 m3 m4 m5
 cases M
 cbv
 repeat' first | refine m1 _ _ ?_ ?_ | refine m2 _ _ fun h=>?_ | refine m3 _ ?_ | (refine m4 _ _ (Hd.out ?_);try first | rw [hks] | rw [hk2] | rw [hk3]) | (refine m5 _ _ ?_;cbv)
 all_goals (clear m1 m2 m3 m4 m5;cases m0;(try clear hks;try clear hk2;try clear hk3);try dsimp only)
 all_goals try simp only [sm] at *
 all_goals try simp only [List.length_append,List.length_cons,List.length_nil,List.length_set] at *
 all_goals (try omega)
 all_goals (try (have:=zG;omega))
 all_goals (try simp only [qi (show i<9223372036854775807 by omega)])
 all_goals first
  | exact ⟨htl⟩
  | exact ⟨hv⟩
  | exact ⟨hlb _ (qo (z:=qh.z) (by omega)).out⟩
  | (have ih':=ih (by omega)
     rw [vM (hyes (by omega) (by assumption) (by assumption) (by assumption)),<-hu,List.length_append] at ih'
     exact ⟨ih'.same rfl rfl⟩)
  | (have ih':=ih (by omega)
     rw [vQ (hno (by first | (left;omega) | (right;left;assumption) | (right;left;omega) | (right;right;left;assumption) | (right;right;right;assumption))),<-hu,<-hnn] at ih'
     exact ⟨ih'.same rfl rfl⟩)
  | (obtain rfl:i=m:=by omega
     rw [hu];rfl)
  | skip
end Go.Proofs.YtifnopmkdempdaaGreat.Ai
namespace Go.Proofs.YtifnopmkdempdaaGreat.Ai
open Go
set_option maxRecDepth 100000
variable [qg]
theorem qsU {l:List Int}(h:l≠[]):rEn l=rUs l:=by cases l with | nil=>exact absurd rfl h | cons a l=>rfl
structure EnT (t:qm)(x:qf):Prop where
 le:kE t x
 v:StV t x
 tl:x.times.length=t.nodes.length
structure qtj (t:qm)(x:qf):Prop where
 e:EnT t x
 ne:enL t x≠[]
structure qtH (t:qm)(x:qf):Prop where
 e:EnT t x
 no:enL t x=[]
def qtO (f:qm->qf->List Int):Wr:=w2 qQ qH (fun t x=>rUs (f t x)) (fun t x=>[qtj t x])
theorem qqr:qy Tryz.prog 110 (qtO enL):=qE fun t x h=>by
 have h:=h _ (.head _)
 rw [<-qsU h.ne]
 exact Yn t x h.e.le h.e.v h.e.tl
def qtT:Wr:=w2 qQ qH (fun t x=>rE) (fun t x=>[qtH t x])
theorem qq9:qy Tryz.prog 110 qtT:=qE fun t x h=>by
 have h:=h _ (.head _)
 have:=Yn t x h.e.le h.e.v h.e.tl
 rw [h.no] at this
 exact this
def qsk (f:qm->qf->List Int):Wr:=w2 qQ qH (fun t x=>rUs (f t x)) (fun t x=>[EnT t x])
theorem qjU:qy Tryz.prog 70 (qsk enL):=qE fun t x h=>by
 have h:=h _ (.head _)
 exact qaH t x h.le h.v h.tl
end Go.Proofs.YtifnopmkdempdaaGreat.Ai
namespace Go.Proofs.YtifnopmkdempdaaGreat.Ai
open Go
set_option maxRecDepth 100000
variable [qg]
def btS (s:Int)(i:Nat):Bool:=decide (IntKind.i64.wrap (((BitVec.ofInt IntKind.i64.bits (s.fdiv (2 ^ min i IntKind.i64.bits)) &&& BitVec.ofInt IntKind.i64.bits 1).toNat:Nat):Int)=1)
def ZZ (l:List Int)(s:Int)(i:Nat):List Int:=((List.range i).filter (btS s)).map fun j=>l.getD j 0
def QI (l:List Int)(s:Int):List Int:=ZZ l s l.length
theorem qeH {l:List Int}{s:Int}{i:Nat}(h:btS s i=true):ZZ l s (i+1)=ZZ l s i++[l.getD i 0]:=by
 simp only [ZZ,List.range_succ,List.filter_append,List.map_append,List.filter_cons,List.filter_nil,h,if_true,List.map_cons,List.map_nil]
theorem qjR {l:List Int}{s:Int}{i:Nat}(h:btS s i=false):ZZ l s (i+1)=ZZ l s i:=by
 simp only [ZZ,List.range_succ,List.filter_append,List.map_append,List.filter_cons,List.filter_nil,h,Bool.false_eq_true,if_false,List.map_nil,List.append_nil]
theorem K3 (l:List Int)(s:Int)(i:Nat):(ZZ l s i).length<=i:=by
 simp only [ZZ,List.length_map]
 exact Nat.le_trans (List.length_filter_le _ _) (by simp)
theorem Jf (l:List Int)(s:Int)(h1:l.length<=1048576):qe Tryz.prog 111 [aIs l,aI s] (rUs (QI l s)):=by
 refine qe.of qc (fn:=Tryz.f111) (c:=Tryz.f111.body.getD .skip) (dr:=fun n=>qa 0 [] n) Tryz.func111 rfl (by kernel_rfl) (by kernel_rfl) (by kernel_rfl) ?_
 refine SEx.go (X:=XX) qc (fun n=>qa [] [(3,[1,5,8,9,10])] n) (fun _=>none) qd 60 ?_
 intro M R L N m0 m1 m2 m3 m4 m5
 cases M
 cbv
 repeat' first | refine m1 _ _ ?_ ?_ | refine m2 _ _ fun h=>?_ | refine m3 _ ?_ | (refine m4 _ _ (Hd.out ?_);generalize hks:(List.cons _ _:List K)=ks) | (refine m5 _ _ ?_;cbv)
 all_goals (clear m1 m2 m3 m4 m5;cases m0;try dsimp only)
 all_goals try simp only [sm] at *
 obtain ⟨m,hm⟩:∃ m,m=l.length:=⟨_,rfl⟩
 refine ⟨SEx.same (SEx.idx m (fun i=>⟨26,[(1,bI s),(5,bR 20480 (ZZ l s i).length),(8,bL (.i l)),(9,bI m),(10,bI i)],[(20480,.osl (.i (ZZ l s i)))]⟩) (fun _=>rUs (ZZ l s m)) ?_) (by rw [hm];rfl) (by rw [hm];rfl)⟩
 intro i hi ih
 rw [<-hks]
 obtain ⟨u,hu⟩:∃ u,u=ZZ l s i:=⟨_,rfl⟩
 have hul:u.length<=i:=by rw [hu];exact K3 _ _ _
 rw [<-hu]
 obtain ⟨n,hn⟩:∃ n,n=u.length:=⟨_,rfl⟩
 rw [<-hn] at hul ⊢
 refine SEx.go (X:=XX) qc (fun n=>qa [] [(3,[1,5,8,9,10])] n) (fun _=>none) qd 60 ?_
 intro M R L N m0 m1 m2 m3 m4 m5
 cases M
 cbv
 repeat' first | refine m1 _ _ ?_ ?_ | refine m2 _ _ fun h=>?_ | refine m3 _ ?_ | (refine m4 _ _ (Hd.out ?_);try first | rw [hks] | rw [hk2] | rw [hk3]) | (refine m5 _ _ ?_;cbv)
 all_goals (clear m1 m2 m3 m4 m5;cases m0;(try clear hks;try clear hk2;try clear hk3);try dsimp only)
 all_goals try simp only [sm] at *
 all_goals try simp only [List.length_append,List.length_cons,List.length_nil,List.length_set] at *
 all_goals (try omega)
 all_goals (try (have:=zG;omega))
 all_goals (try simp only [qi (show i<9223372036854775807 by omega)])
 all_goals first
  | (have ih':=ih (by omega)
     rw [qeH (show btS s i=true by unfold btS;exact decide_eq_true (by assumption)),<-hu,List.length_append] at ih'
     exact ⟨ih'.same rfl rfl⟩)
  | (have ih':=ih (by omega)
     rw [qjR (show btS s i=false by unfold btS;exact decide_eq_false (by assumption)),<-hu,<-hn] at ih'
     exact ⟨ih'.same rfl rfl⟩)
  | (obtain rfl:i=m:=by omega
     rw [hu];rfl)
  | skip
theorem qeG (l:List Int)(s:Int)(h1:l.length<=1048576):qe Tryz.prog 71 [aIs l,aI s] (rUs (QI l s)):=by
 refine qe.of qc (fn:=Tryz.f71) (c:=Tryz.f71.body.getD .skip) (dr:=fun n=>qa 0 [] n) Tryz.func71 rfl (by kernel_rfl) (by kernel_rfl) (by kernel_rfl) ?_
 refine SEx.go (X:=XX) qc (fun n=>qa [] [(3,[1,5,9,10,11])] n) (fun _=>none) qd 60 ?_
 intro M R L N m0 m1 m2 m3 m4 m5
 cases M
 cbv
 repeat' first | refine m1 _ _ ?_ ?_ | refine m2 _ _ fun h=>?_ | refine m3 _ ?_ | (refine m4 _ _ (Hd.out ?_);generalize hks:(List.cons _ _:List K)=ks) | (refine m5 _ _ ?_;cbv)
 all_goals (clear m1 m2 m3 m4 m5;cases m0;try dsimp only)
 all_goals try simp only [sm] at *
 obtain ⟨m,hm⟩:∃ m,m=l.length:=⟨_,rfl⟩
 refine ⟨SEx.same (SEx.idx m (fun i=>⟨28,[(1,bI s),(5,bR 20480 (ZZ l s i).length),(9,bL (.i l)),(10,bI m),(11,bI i)],[(20480,.osl (.i (ZZ l s i)))]⟩) (fun _=>rUs (ZZ l s m)) ?_) (by rw [hm];rfl) (by rw [hm];rfl)⟩
 intro i hi ih
 rw [<-hks]
 obtain ⟨u,hu⟩:∃ u,u=ZZ l s i:=⟨_,rfl⟩
 have hul:u.length<=i:=by rw [hu];exact K3 _ _ _
 rw [<-hu]
 obtain ⟨n,hn⟩:∃ n,n=u.length:=⟨_,rfl⟩
 rw [<-hn] at hul ⊢
 have hwu:IntKind.u64.wrap (i:Int)=(i:Int):=Qm (by omega)
 refine SEx.go (X:=XX) qc (fun n=>qa [] [(3,[1,5,9,10,11])] n) (fun _=>none) qd 60 ?_
 intro M R L N m0 m1 m2 m3 m4 m5
 cases M
 cbv
 repeat' first | refine m1 _ _ ?_ ?_ | refine m2 _ _ fun h=>?_ | refine m3 _ ?_ | (refine m4 _ _ (Hd.out ?_);try first | rw [hks] | rw [hk2] | rw [hk3]) | (refine m5 _ _ ?_;cbv)
 all_goals (clear m1 m2 m3 m4 m5;cases m0;(try clear hks;try clear hk2;try clear hk3);try dsimp only)
 all_goals try simp only [sm] at *
 all_goals (try simp only [hwu,Int.toNat_natCast] at *)
 all_goals try simp only [List.length_append,List.length_cons,List.length_nil,List.length_set] at *
 all_goals (try omega)
 all_goals (try (have:=zG;omega))
 all_goals (try simp only [qi (show i<9223372036854775807 by omega)])
 all_goals first
  | (have ih':=ih (by omega)
     rw [qeH (show btS s i=true by unfold btS;exact decide_eq_true (by assumption)),<-hu,List.length_append] at ih'
     exact ⟨ih'.same rfl rfl⟩)
  | (have ih':=ih (by omega)
     rw [qjR (show btS s i=false by unfold btS;exact decide_eq_false (by assumption)),<-hu,<-hn] at ih'
     exact ⟨ih'.same rfl rfl⟩)
  | (obtain rfl:i=m:=by omega
     rw [hu];rfl)
  | skip
def qgN (f:List Int->Int->List Int):Wr:=w2 kz dcI (fun l s=>rUs (f l s)) (fun l _=>[LLe l 1048576])
theorem qec:qy Tryz.prog 111 (qgN QI):=qE fun l s h=>Jf l s (h _ (.head _)).out
theorem qax:qy Tryz.prog 71 (qgN QI):=qE fun l s h=>qeG l s (h _ (.head _)).out
theorem qam {m:Nat}(h:m<=7):IntKind.i64.wrap (1 * 2 ^ min m IntKind.i64.bits)=((2 ^ m:Nat):Int):=by
 have:m=0\/m=1\/m=2\/m=3\/m=4\/m=5\/m=6\/m=7:=by omega
 rcases this with rfl | rfl | rfl | rfl | rfl | rfl | rfl | rfl<;>decide
theorem QX {m:Nat}(h:m<=7):1<=2 ^ m/\2 ^ m<=128:=by
 have:m=0\/m=1\/m=2\/m=3\/m=4\/m=5\/m=6\/m=7:=by omega
 rcases this with rfl | rfl | rfl | rfl | rfl | rfl | rfl | rfl<;>decide
def ZX (l:List Int)(N k:Nat):List (List Int):=(List.range k).map fun j=>QI l ((N:Int)-1-(j:Nat))
theorem Wq (l:List Int)(N k:Nat):ZX l N (k+1)=ZX l N k++[QI l ((N:Int)-1-k)]:=by simp [ZX,List.range_succ]
theorem ZT (l:List Int)(N k:Nat):(ZX l N k).length=k:=by simp [ZX]
def qf4 (l:List Int):List (List Int):=ZX l (2 ^ l.length) (2 ^ l.length)
theorem Zr {t:qm}{x:qf}(h:StV t x):(enL t x).length<=7:=by
 have h1:=(qN h.sh).2
 have h2:(enL t x).length<=t.nodes.length:=Nat.le_trans (List.length_filter_le _ _) (Zi _ _)
 omega
theorem qc8 (t:qm)(x:qf)(h:EnT t x):qe Tryz.prog 77 [qS t,qI x] (Zc (qf4 (enL t x))):=by
 refine qe.of qc (fn:=Tryz.f77) (c:=Tryz.f77.body.getD .skip) (dr:=fun n=>qa 0 [] n) Tryz.func77 rfl (by kernel_rfl) (by kernel_rfl) (by kernel_rfl) ?_
 obtain ⟨f1,hf1⟩:∃ f,f=enL:=⟨_,rfl⟩
 obtain ⟨f2,hf2⟩:∃ f,f=QI:=⟨_,rfl⟩
 obtain ⟨l,hl⟩:∃ l,l=f1 t x:=⟨_,rfl⟩
 have hl7:l.length<=7:=by rw [hl,hf1];exact Zr h.v
 obtain ⟨NN,hN⟩:∃ NN,NN=2 ^ l.length:=⟨_,rfl⟩
 have hNb:=QX hl7
 have hs:=qam hl7
 rw [<-hN] at hNb hs
 have hs1:IntKind.i64.wrap ((NN:Int)-1)=(NN:Int)-1:=qr (by omega) (by omega)
 rw [show qf4 (enL t x)=ZX l NN NN by rw [hN,hl,hf1];rfl]
 by_cases hne:enL t x=[]
 . have hO:qp Tryz.prog (qL [(110,qtT),(111,qgN f2)]):=by
    subst hf2
    exact qb qq9 (qb qec qd)
   have hl0:l=[]:=by rw [hl,hf1];exact hne
   have hN1:NN=1:=by rw [hN,hl0];rfl
   have h0:qtH t x:=⟨h,hne⟩
   clear hN hl hs hs1
   subst hl0 hN1
   obtain ⟨ns,ts,hr⟩:=t
   obtain ⟨now,times,vals⟩:=x
   refine SEx.go (X:=XX) qc (fun n=>qa [] [(4,[5,6,7])] n) (fun _=>none) hO 60 ?_
   intro M R L N m0 m1 m2 m3 m4 m5
   cases M
   cbv
   repeat' first | refine m1 _ _ ?_ ?_ | refine m2 _ _ fun h=>?_ | refine m3 _ ?_ | (refine m4 _ _ (Hd.out ?_);generalize hks:(List.cons _ _:List K)=ks) | (refine m5 _ _ ?_;cbv)
   all_goals (clear m1 m2 m3 m4 m5;cases m0;try dsimp only)
   all_goals try simp only [sm] at *
   all_goals first
    | exact h0
    | omega
    | skip
   refine ⟨SEx.same (SEx.idx 1 (fun k=>⟨26,[(5,bL (.i [])),(6,bR 24576 k),(7,bI ((1:Nat)-1-(k:Nat)))],[(24576,.osl (.ii true none (ZX [] 1 k)))]⟩) (fun _=>Zc (ZX [] 1 1)) ?_) rfl rfl⟩
   intro k hk ih
   rw [<-hks]
   obtain ⟨o,ho⟩:∃ o,o=ZX [] 1 k:=⟨_,rfl⟩
   have hol:o.length=k:=by rw [ho,ZT]
   obtain ⟨q,hq⟩:∃ q:Int,q=((1:Nat):Int)-1-(k:Nat):=⟨_,rfl⟩
   rw [<-ho,<-hq]
   refine SEx.go (X:=XX) qc (fun n=>qa [] [(4,[5,6,7])] n) (fun _=>none) hO 60 ?_
   intro M R L N m0 m1 m2 m3 m4 m5
   cases M
   cbv
   repeat' first | refine m1 _ _ ?_ ?_ | refine m2 _ _ fun h=>?_ | refine m3 _ ?_ | (refine m4 _ _ (Hd.out ?_);try first | rw [hks] | rw [hk2] | rw [hk3]) | (refine m5 _ _ ?_;cbv)
   all_goals (clear m1 m2 m3 m4 m5;cases m0;(try clear hks;try clear hk2;try clear hk3);try dsimp only)
   all_goals try simp only [sm] at *
   all_goals (try rw [qr (n:=q-1) (by omega) (by omega)])
   all_goals first
    | omega
    | rfl
    | exact ⟨by decide⟩
    | (have:=zG;simp only [List.length_cons,List.length_nil];omega)
    | (have ih':=ih (by omega)
       rw [Wq,<-ho,<-hq,show ((1:Nat):Int)-1-((k+1:Nat):Int)=q-1 by omega] at ih'
       simp only [List.length_append,List.length_cons,List.length_nil,hol,hf2]
       exact ⟨ih'.same rfl rfl⟩)
    | (have e:k=1:=by omega
       subst e
       rw [ho];rfl)
    | skip
 . have hO:qp Tryz.prog (qL [(110,qtO f1),(111,qgN f2)]):=by
    subst hf1 hf2
    exact qb qqr (qb qec qd)
   have h0:qtj t x:=⟨h,hne⟩
   clear hN
   obtain ⟨ns,ts,hr⟩:=t
   obtain ⟨now,times,vals⟩:=x
   refine SEx.go (X:=XX) qc (fun n=>qa [] [(4,[5,6,7])] n) (fun _=>none) hO 60 ?_
   intro M R L N m0 m1 m2 m3 m4 m5
   cases M
   cbv
   repeat' first | refine m1 _ _ ?_ ?_ | refine m2 _ _ fun h=>?_ | refine m3 _ ?_ | (refine m4 _ _ (Hd.out ?_);generalize hks:(List.cons _ _:List K)=ks) | (refine m5 _ _ ?_;cbv)
   all_goals (clear m1 m2 m3 m4 m5;cases m0;try dsimp only)
   all_goals try simp only [sm] at *
   all_goals first
    | exact h0
    | omega
    | skip
   rw [<-hl,hs,hs1]
   obtain ⟨n,hn⟩:∃ n,n=l.length:=⟨_,rfl⟩
   refine ⟨SEx.same (SEx.idx NN (fun k=>⟨26,[(5,bR 20480 n),(6,bR 24576 k),(7,bI ((NN:Int)-1-(k:Nat)))],[(20480,.osl (.i l)),(24576,.osl (.ii true none (ZX l NN k)))]⟩) (fun _=>Zc (ZX l NN NN)) ?_) (by rw [hn,show (NN:Int)-1-((0:Nat):Int)=(NN:Int)-1 by omega];rfl) rfl⟩
   intro k hk ih
   rw [<-hks]
   obtain ⟨o,ho⟩:∃ o,o=ZX l NN k:=⟨_,rfl⟩
   have hol:o.length=k:=by rw [ho,ZT]
   obtain ⟨q,hq⟩:∃ q:Int,q=(NN:Int)-1-(k:Nat):=⟨_,rfl⟩
   rw [<-ho,<-hq]
   refine SEx.go (X:=XX) qc (fun n=>qa [] [(4,[5,6,7])] n) (fun _=>none) hO 60 ?_
   intro M R L N m0 m1 m2 m3 m4 m5
   cases M
   cbv
   repeat' first | refine m1 _ _ ?_ ?_ | refine m2 _ _ fun h=>?_ | refine m3 _ ?_ | (refine m4 _ _ (Hd.out ?_);try first | rw [hks] | rw [hk2] | rw [hk3]) | (refine m5 _ _ ?_;cbv)
   all_goals (clear m1 m2 m3 m4 m5;cases m0;(try clear hks;try clear hk2;try clear hk3);try dsimp only)
   all_goals try simp only [sm] at *
   all_goals (try rw [qr (n:=q-1) (by omega) (by omega)])
   all_goals first
    | omega
    | rfl
    | exact ⟨by omega⟩
    | (have:=zG;simp only [List.length_cons,List.length_nil];omega)
    | (have ih':=ih (by omega)
       rw [Wq,<-ho,<-hq,show (NN:Int)-1-((k+1:Nat):Int)=q-1 by omega] at ih'
       simp only [List.length_append,List.length_cons,List.length_nil,hol,hf2]
       exact ⟨ih'.same rfl rfl⟩)
    | (have e:k=NN:=by omega
       subst e
       rw [ho];rfl)
    | skip
end Go.Proofs.YtifnopmkdempdaaGreat.Ai
namespace Go.Proofs.YtifnopmkdempdaaGreat.Ai
open Go
set_option maxRecDepth 100000
variable [qg]
def V4 (t:qm)(x:qf):List (List Int):=match jx t x with | true=>qf4 (enL t x) | false=>[]
theorem qoz {t:qm}{x:qf}(h:jx t x=true):StV t x/\x.times.length=t.nodes.length:=by
 unfold jx at h
 simp only [Bool.and_eq_true] at h
 obtain ⟨h1,_,_,h2⟩:=h
 have h3:StT t ⟨x.now+1,x.times,x.vals⟩:=⟨h1,h2⟩
 exact ⟨⟨h1,h3.vals⟩,h3.now.2.2⟩
def qoY (f:qm->qf->List (List Int)):Wr:=w2 qQ qH (fun t x=>Zc (f t x)) (fun t x=>[EnT t x])
def K8 (t:qm)(x:qf):List (List Int):=qf4 (enL t x)
theorem qeC:qy Tryz.prog 77 (qoY K8):=qE fun t x h=>qc8 t x (h _ (.head _))
theorem qiw (t:qm)(x:qf)(hs:kE t x)(hz:Jq x):qe Tryz.prog 34 [qS t,qI x] (Zc (V4 t x)):=by
 refine qe.of qc (fn:=Tryz.f34) (c:=Tryz.f34.body.getD .skip) (dr:=fun n=>qa 0 [] n) Tryz.func34 rfl (by kernel_rfl) (by kernel_rfl) (by kernel_rfl) ?_
 obtain ⟨f0,hf0⟩:∃ f,f=jx:=⟨_,rfl⟩
 obtain ⟨f1,hf1⟩:∃ f,f=enL:=⟨_,rfl⟩
 obtain ⟨f2,hf2⟩:∃ f,f=QI:=⟨_,rfl⟩
 have hO:qp Tryz.prog (qL [(69,qrI f0),(70,qsk f1),(71,qgN f2)]):=by
  subst hf0 hf1 hf2
  exact qb qnq (qb qjU (qb qax qd))
 have hv:f0 t x=true->EnT t x:=fun h=>by rw [hf0] at h;have:=qoz h;exact ⟨hs,this.1,this.2⟩
 obtain ⟨l,hl⟩:∃ l,l=f1 t x:=⟨_,rfl⟩
 have hl7:f0 t x=true->l.length<=7:=fun h=>by rw [hl,hf1];exact Zr (hv h).v
 obtain ⟨NN,hN⟩:∃ n,n=2 ^ l.length:=⟨_,rfl⟩
 have hE:V4 t x=match f0 t x with | true=>ZX l NN NN | false=>[]:=by rw [hN,hl,hf1,hf0];rfl
 obtain ⟨r,hr⟩:∃ r,r=V4 t x:=⟨_,rfl⟩
 rw [<-hr] at hE ⊢
 obtain ⟨ns,ts,hr⟩:=t
 obtain ⟨now,times,vals⟩:=x
 refine SEx.go (X:=XX) qc (fun n=>qa [] [(6,[5,6,7])] n) (fun _=>none) hO 60 ?_
 intro M R L N m0 m1 m2 m3 m4 m5
 cases M
 cbv
 repeat' first | refine m1 _ _ ?_ ?_ | refine m2 _ _ fun h=>?_ | refine m3 _ ?_ | (refine m4 _ _ (Hd.out ?_);generalize hks:(List.cons _ _:List K)=ks) | (refine m5 _ _ ?_;cbv)
 all_goals (clear m1 m2 m3 m4 m5;cases m0;try dsimp only)
 all_goals try simp only [sm] at *
 all_goals first
  | exact hs
  | exact hz
  | exact hv (by assumption)
  | (rw [hE,show f0 _ _=false by assumption];rfl)
  | omega
  | skip
 . have:=hl7 (by assumption)
   rw [<-hl,Qm (by omega)]
   omega
 have hl7:=hl7 (by assumption)
 have hNb:=QX hl7
 have hs:=qam hl7
 rw [<-hN] at hNb hs
 have hs1:IntKind.i64.wrap ((NN:Int)-1)=(NN:Int)-1:=qr (by omega) (by omega)
 have hE:r=ZX l NN NN:=by rw [hE,show f0 _ _=true by assumption]
 rw [<-hl,Qm (by omega),Int.toNat_natCast,hs,hs1]
 obtain ⟨n,hn⟩:∃ n,n=l.length:=⟨_,rfl⟩
 refine ⟨SEx.same (SEx.idx NN (fun k=>⟨32,[(5,bR 20480 n),(6,bR 24576 k),(7,bI ((NN:Int)-1-(k:Nat)))],[(20480,.osl (.i l)),(24576,.osl (.ii true none (ZX l NN k)))]⟩) (fun _=>Zc r) ?_) (by rw [hn,show (NN:Int)-1-((0:Nat):Int)=(NN:Int)-1 by omega];rfl) rfl⟩
 intro k hk ih
 rw [<-hks]
 obtain ⟨o,ho⟩:∃ o,o=ZX l NN k:=⟨_,rfl⟩
 have hol:o.length=k:=by rw [ho,ZT]
 obtain ⟨q,hq⟩:∃ q:Int,q=(NN:Int)-1-(k:Nat):=⟨_,rfl⟩
 rw [<-ho,<-hq]
 clear hN hl hs
 refine SEx.go (X:=XX) qc (fun n=>qa [] [(6,[5,6,7])] n) (fun _=>none) hO 60 ?_
 intro M R L N m0 m1 m2 m3 m4 m5
 cases M
 cbv
 repeat' first | refine m1 _ _ ?_ ?_ | refine m2 _ _ fun h=>?_ | refine m3 _ ?_ | (refine m4 _ _ (Hd.out ?_);try first | rw [hks] | rw [hk2] | rw [hk3]) | (refine m5 _ _ ?_;cbv)
 all_goals (clear m1 m2 m3 m4 m5;cases m0;(try clear hks;try clear hk2;try clear hk3);try dsimp only)
 all_goals try simp only [sm] at *
 all_goals (try rw [qr (n:=q-1) (by omega) (by omega)])
 all_goals first
  | omega
  | rfl
  | exact ⟨by omega⟩
  | (have:=zG;simp only [List.length_cons,List.length_nil];omega)
  | (have ih':=ih (by omega)
     rw [Wq,<-ho,<-hq,show (NN:Int)-1-((k+1:Nat):Int)=q-1 by omega] at ih'
     simp only [List.length_append,List.length_cons,List.length_nil,hol,hf2]
     exact ⟨ih'.same rfl rfl⟩)
  | (have e:k=NN:=by omega
     subst e
     rw [hE,ho];rfl)
  | skip
end Go.Proofs.YtifnopmkdempdaaGreat.Ai
namespace Go.Proofs.YtifnopmkdempdaaGreat.Ai
open Go
set_option maxRecDepth 100000
variable [qg]
theorem qad (t:qm)(x:qf):(V4 t x).length<=128/\∀ y∈V4 t x,y.length<=7:=by
 unfold V4
 cases h:jx t x with
 | false=>exact ⟨Nat.zero_le _,fun y hy=>by cases hy⟩
 | true =>
   have h7:=Zr (qoz h).1
   refine ⟨by show (ZX _ _ _).length<=128;rw [ZT];exact (QX h7).2,fun y hy=>?_⟩
   obtain ⟨j,_,rfl⟩:=List.mem_map.1 hy
   exact Nat.le_trans (K3 _ _ _) h7
def qpr (f:qm->qf->List (List Int)):Wr:=w2 qQ qH (fun t x=>Zc (f t x)) (fun t x=>[kE t x,Jq x])
theorem qmb:qy Tryz.prog 34 (qpr V4):=qE fun t x h=>qiw t x (h _ (.head _)) (h _ (.tail _ (.head _)))
end Go.Proofs.YtifnopmkdempdaaGreat.Ai
