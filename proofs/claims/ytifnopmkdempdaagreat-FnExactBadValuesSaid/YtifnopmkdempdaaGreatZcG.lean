/- The law's proof, part 7 of 12: what of its author's texts it needs; no condition. -/
import Derived.Test.YtifnopmkdempdaaGreatZcF
set_option linter.unusedSectionVars false
set_option linter.unusedSimpArgs false
set_option linter.unusedVariables false
namespace Go.Proofs.YtifnopmkdempdaaGreat.Ai
open Go
set_option maxRecDepth 100000
variable [qh]
theorem qaP (t:ql)(x:qf)(hs:kd t x)(hz:Kr x):qe Tryz.prog 69 [qQ t,qH x] (rB (Qi t x)):=by
 refine qe.of qc (fn:=Tryz.f69) (c:=Tryz.f69.body.getD .skip) (dr:=fun n=>qa 0 [] n) Tryz.func69 rfl (by kernel_rfl) (by kernel_rfl) (by kernel_rfl) ?_
 obtain ⟨f,hf⟩:∃ f,f=za:=⟨_,rfl⟩
 obtain ⟨g,hg⟩:∃ f,f=qdX:=⟨_,rfl⟩
 obtain ⟨k,hk⟩:∃ f,f=kb:=⟨_,rfl⟩
 have hO:qp Tryz.prog (qJ [(104,Ys k),(106,vc f),(98,ZZ),(93,qfw g)]):=by subst hf hg hk;exact qb Qf (qb Vm (qb QI (qb qcE qd)))
 have h1:=hs.sh
 have h2:=hs.st
 have h4:=h2.now
 rw [jf] at h4
 obtain ⟨r,hr⟩:∃ r,r=Qi t x:=⟨_,rfl⟩
 rw [<-hr]
 have hsh:f t=true->1<=t.hor/\t.hor<=10:=fun h=>by rw [hf] at h;exact zp h
 have hk0:k x.now 0 10=(decide (0<=x.now)&&decide (x.now<=10)):=by rw [hk];rfl
 have hr1:f t=true->¬(0<=x.now/\x.now<=t.hor)->r=false:=fun h h'=>by
  rw [hr];unfold Qi
  by_cases h0:0<=x.now
  . rw [decide_eq_false (show ¬x.now<=t.hor by omega)];simp
  . rw [decide_eq_false h0];simp
 have hr2:f t=false->r=false:=fun h=>by rw [hr];unfold Qi;rw [<-hf,h];rfl
 have hr0:¬(0<=x.now/\x.now<=10)->r=false:=fun h=>by
  cases h5:f t with
  | true=>have:=hsh h5;exact hr1 h5 (by omega)
  | false=>exact hr2 h5
 have hr3:f t=true->0<=x.now->x.now<=t.hor->r=g t ⟨x.now+1,x.times,x.vals⟩:=fun h h5 h6=>by
  rw [hr];unfold Qi;rw [hg,decide_eq_true h5,decide_eq_true h6];unfold qdX;rw [<-hf,h];rfl
 clear hr hf hg hk hs
 obtain ⟨ns,ts,hr⟩:=t
 obtain ⟨now,times,vals⟩:=x
 dsimp only at hr1 hr3 hr0 hk0 hsh h4
 refine SEx.go (X:=XX) qc (fun n=>qa [] [] n) (fun _=>none) hO 60 ?_
 intro M R L N m0 m1 m2 m3 m4 m5
 cases M
 cbv
 repeat' first | refine m1 _ _ ?_ ?_ | refine m2 _ _ fun h=>?_ | refine m3 _ ?_ | (refine m4 _ _ (Hd.out ?_);try first | rw [hks] | rw [hk2] | rw [hk3]) | (refine m5 _ _ ?_;cbv)
 all_goals (clear m1 m2 m3 m4 m5;cases m0;(try clear hks;try clear hk2;try clear hk3);try dsimp only)
 all_goals try simp only [sm] at *
 all_goals (try rw [hk0] at *)
 all_goals (try simp only [Bool.and_eq_true,Bool.and_eq_false_iff,decide_eq_true_eq,decide_eq_false_iff_not] at *)
 all_goals first
  | exact h1
  | exact hz
  | (rw [qr (by omega) (by omega)];exact ⟨by rw [jf];dsimp only;omega,h2.tlen,h2.vlen⟩)
  | (refine qM ?_ _;rw [hr0 (by omega)];done)
  | (refine qM ?_ _;rw [hr2 (by assumption)];done)
  | (refine qM ?_ _;rw [hr1 (by assumption) (by omega)];done)
  | (rw [qr (by omega) (by omega)];refine qM ?_ _;rw [hr3 (by assumption) (by omega) (by assumption)];done)
  | skip
theorem qaM (t:ql)(x:qf)(hs:kd t x):qe Tryz.prog 44 [qQ t,qH x] (rB (Qi t x)):=by
 refine qe.of qc (fn:=Tryz.f44) (c:=Tryz.f44.body.getD .skip) (dr:=fun n=>qa 0 [] n) Tryz.func44 rfl (by kernel_rfl) (by kernel_rfl) (by kernel_rfl) ?_
 obtain ⟨f,hf⟩:∃ f,f=za:=⟨_,rfl⟩
 obtain ⟨g,hg⟩:∃ f,f=Qd:=⟨_,rfl⟩
 obtain ⟨k,hk⟩:∃ f,f=Wu:=⟨_,rfl⟩
 have hO:qp Tryz.prog (qJ [(84,qoD k),(85,vc f),(86,qdR g)]):=by subst hf hg hk;exact qb qkr (qb qfg (qb qgb qd))
 have h1:=hs.sh
 have h2:=hs.st
 have h4:=h2.now
 rw [jf] at h4
 obtain ⟨r,hr⟩:∃ r,r=Qi t x:=⟨_,rfl⟩
 rw [<-hr]
 have hsh:f t=true->za t=true/\1<=t.hor/\t.hor<=10:=fun h=>by rw [hf] at h;exact ⟨h,zp h⟩
 have hc:f t=true->0<=x.now->x.now<=t.hor->IntKind.i64.wrap (k x.now+1)=x.now+1:=fun h h5 h6=>by
  have:=hsh h
  rw [hk,show Wu x.now=x.now by unfold Wu;omega]
  exact qr (by omega) (by omega)
 have hr0:f t=false->r=false:=fun h=>by rw [hr];unfold Qi;rw [<-hf,h];rfl
 have hr1:x.now<0->r=false:=fun h=>by rw [hr];unfold Qi;rw [decide_eq_false (show ¬0<=x.now by omega)];simp
 have hr2:t.hor<x.now->r=false:=fun h=>by rw [hr];unfold Qi;rw [decide_eq_false (show ¬x.now<=t.hor by omega)];simp
 have hr3:f t=true->0<=x.now->x.now<=t.hor->r=g t ⟨IntKind.i64.wrap (k x.now+1),x.times,x.vals⟩:=fun h h5 h6=>by
  rw [hc h h5 h6,hr];unfold Qi;rw [hg,decide_eq_true h5,decide_eq_true h6,<-hf,h];rfl
 have hle:f t=true->0<=x.now->x.now<=t.hor->Zd ⟨IntKind.i64.wrap (k x.now+1),x.times,x.vals⟩:=fun h h5 h6=>by
  have:=hsh h
  rw [hc h h5 h6]
  exact ⟨by rw [jf];dsimp only;omega,h2.tlen,h2.vlen⟩
 clear hr hf hg hk hs hc
 obtain ⟨ns,ts,hr⟩:=t
 obtain ⟨now,times,vals⟩:=x
 dsimp only at hr1 hr2 hr3 hle hsh h4
 refine SEx.go (X:=XX) qc (fun n=>qa [] [] n) (fun _=>none) hO 60 ?_
 intro M R L N m0 m1 m2 m3 m4 m5
 cases M
 cbv
 repeat' first | refine m1 _ _ ?_ ?_ | refine m2 _ _ fun h=>?_ | refine m3 _ ?_ | (refine m4 _ _ (Hd.out ?_);try first | rw [hks] | rw [hk2] | rw [hk3]) | (refine m5 _ _ ?_;cbv)
 all_goals (clear m1 m2 m3 m4 m5;cases m0;(try clear hks;try clear hk2;try clear hk3);try dsimp only)
 all_goals try simp only [sm] at *
 all_goals first
  | exact h1
  | exact ⟨(hsh (by assumption)).1⟩
  | exact hle (by assumption) (by assumption) (by assumption)
  | (refine qM ?_ _;rw [hr0 (by assumption)];done)
  | (refine qM ?_ _;rw [hr1 (by assumption)];done)
  | (refine qM ?_ _;rw [hr2 (by assumption)];done)
  | (refine qM ?_ _;rw [hr3 (by assumption) (by assumption) (by assumption)];done)
  | skip
def qqX (f:ql->qf->Bool):Wr:=w2 qN qF (fun t x=>rB (f t x)) (fun t x=>[kd t x,Kr x])
theorem qoM:qy Tryz.prog 69 (qqX Qi):=qE fun t x h=>qaP t x (h _ (.head _)) (h _ (.tail _ (.head _)))
def qqL (f:ql->qf->Bool):Wr:=w2 qN qF (fun t x=>rB (f t x)) (fun t x=>[kd t x])
theorem qnF:qy Tryz.prog 44 (qqL Qi):=qE fun t x h=>qaM t x (h _ (.head _))
end Go.Proofs.YtifnopmkdempdaaGreat.Ai
namespace Go.Proofs.YtifnopmkdempdaaGreat.Ai
open Go
set_option maxRecDepth 100000
variable [qh]
def qrJ (k:Int):Tie:=⟨k,k+1,k+2,k+3,decide ((k+4).tmod 3=0)⟩
def jk (k:Int)(n:Nat):List Tie:=(List.range n).map fun j=>qrJ (k+5 * (j:Nat))
theorem Q4 (k:Int)(n:Nat):(jk k n).length=n:=by simp [jk]
theorem qf4 (k:Int)(n:Nat):jk k (n+1)=jk k n++[qrJ (k+5 * n)]:=by simp [jk,List.range_succ]
theorem qdF {k:Int}{i:Nat}{l:List Tie}(hi:i<l.length):(jk k i++l.drop i).set i (qrJ (k+5 * i))=jk k (i+1)++l.drop (i+1):=by
 rw [List.set_append_right _ _ (by rw [Q4];omega),Q4,Nat.sub_self,qf4,List.append_assoc,List.drop_eq_getElem_cons hi];rfl
theorem qdV (l:List Tie)(k:Int)(hl:l.length<=maxLen)(hk:0<k/\k+5 * l.length<=4611686018427387904) :
 zY Tryz.prog 47 [wR l.length,bI1 k] [(lrt 0,.osl (.tie l))] [.rf (lrt 0,[]) true 0 l.length] (.v (bI1 (k+5 * l.length))) [(lrt 0,.osl (.tie (jk k l.length)))] [.rf (lrt 0,[]) true 0 l.length]:=by
 refine zY.of qc (fn:=Tryz.f47) (c:=Tryz.f47.body.getD .skip) (dr:=fun n=>qa 0 [] n) (r:=(_,_,_)) Tryz.func47 rfl (by kernel_rfl) (by kernel_rfl) (by kernel_rfl) ?_
 generalize hn:l.length=n at *
 refine zP.go (X:=XX) qc (fun n=>qa [] [(2,[0,1,5,4294967296])] n) (fun _=>none) qd 60 1 ?_
 intro M R L N m0 m1 m2 m3 m4 m5
 cases M
 cbv
 repeat' first | refine m1 _ _ ?_ ?_ | refine m2 _ _ fun h=>?_ | refine m3 _ ?_ | (refine m4 _ _ (Hd.out ?_);generalize hks:(List.cons _ _:List K)=ks) | (refine m5 _ _ ?_;cbv)
 all_goals (clear m1 m2 m3 m4 m5;cases m0;try dsimp only)
 all_goals try simp only [sm] at *
 refine ⟨zP.same (zP.idx n (fun i=>⟨50,[(0,bR 41000000 n),(1,bI (k+5 * i)),(5,bI i),(4294967296,bR 41000000 n)],[(41000000,.osl (.tie (jk k i++l.drop i)))]⟩) (fun _=>(.v (bI1 (k+5 * n)),[(lrt 0,.osl (.tie (jk k n)))],[.rf (lrt 0,[]) true 0 n])) ?_) ?_ ⟨rfl,rfl,rfl⟩⟩
 rotate_left
 . rw [show k+5 * ((0:Nat):Int)=k by omega];rfl
 intro i hi ih
 rw [<-hks]
 obtain ⟨c,hc⟩:∃ c,c=jk k i++l.drop i:=⟨_,rfl⟩
 have hcl:c.length=n:=by rw [hc,List.length_append,Q4,List.length_drop];omega
 rw [<-hc]
 obtain ⟨q,hq⟩:∃ q,q=k+5 * (i:Int):=⟨_,rfl⟩
 rw [<-hq]
 unfold maxLen at hl
 refine zP.go (X:=XX) qc (fun n=>qa [] [(2,[0,1,5,4294967296])] n) (fun _=>none) qd 90 1 ?_
 intro M R L N m0 m1 m2 m3 m4 m5
 cases M
 cbv
 repeat' first | refine m1 _ _ ?_ ?_ | refine m2 _ _ fun h=>?_ | refine m3 _ ?_ | (refine m4 _ _ (Hd.out ?_);try rw [hks]) | (refine m5 _ _ ?_;cbv)
 all_goals (clear m1 m2 m3 m4 m5;cases m0;(try clear hks);try dsimp only)
 all_goals try simp only [sm] at *
 all_goals (try simp only [Zl])
 all_goals first
  | omega
  | (have hin:i=n:=by omega
     subst hin
     rw [List.drop_eq_nil_of_le (by omega),List.append_nil] at hc
     subst hc;subst hq
     refine ⟨?_,?_,?_⟩<;>rfl)
  | (have hin:i<n:=by omega
     have e1:IntKind.i64.wrap (q+1)=q+1:=by rw [qr (by omega) (by omega)]
     have e2:IntKind.i64.wrap (q+1+1)=q+2:=by rw [qr (by omega) (by omega)];omega
     have e3:IntKind.i64.wrap (q+2+1)=q+3:=by rw [qr (by omega) (by omega)];omega
     have e4:IntKind.i64.wrap (q+3+1)=q+4:=by rw [qr (by omega) (by omega)];omega
     have e5:IntKind.i64.wrap (q+4+1)=q+5:=by rw [qr (by omega) (by omega)];omega
     simp only [e1,e2,e3,e4,e5,qg (show i<9223372036854775807 by omega),W2]
     refine ⟨(ih hin).same ?_ ⟨rfl,rfl,rfl⟩⟩
     rw [<-qdF (k:=k) (i:=i) (l:=l) (by omega),<-hq,<-hc,show k+5 * ((i+1:Nat):Int)=q+5 by omega]
     rfl)
  | skip
def qsy (q:qi):Nat:=q.label.length+2
def kN (k:Int)(l:List qi)(i:Nat):Int:=k+(((l.take i).map qsy).sum:Nat)
theorem vI (k:Int)(l:List qi):kN k l 0=k:=by simp [kN]
theorem V8 {k:Int}{l:List qi}{i:Nat}(h:i<l.length):kN k l (i+1)=kN k l i+(l.getD i qi.z).label.length+2:=by
 unfold kN
 rw [List.take_add_one,List.getElem?_eq_getElem h,zn h,Option.toList_some,List.map_append,List.sum_append,List.map_cons,List.map_nil,List.sum_cons,List.sum_nil]
 unfold qsy
 omega
theorem vW (k:Int)(l:List qi)(i:Nat):∀ d,kN k l i<=kN k l (i+d)
 | 0=>Int.le_refl _
 | d+1=>by
   have:=vW k l i d
   by_cases h:i+d<l.length
   . rw [<-Nat.add_assoc,V8 h];omega
   . have h1:kN k l (i+d+1)=kN k l (i+d):=by unfold kN;rw [List.take_of_length_le (by omega),List.take_of_length_le (by omega)]
     rw [<-Nat.add_assoc]
     omega
def mNd (k:Int)(n:Nat):qi:=⟨mT k,kx (k+1) n,k+1+n⟩
def mNS (k:Int)(l:List qi)(i:Nat):List qi:=(List.range i).map fun j=>mNd (kN k l j) (l.getD j qi.z).label.length
theorem JG (k:Int)(l:List qi)(i:Nat):(mNS k l i).length=i:=by simp [mNS]
theorem qnY (k:Int)(l:List qi)(i:Nat):mNS k l (i+1)=mNS k l i++[mNd (kN k l i) (l.getD i qi.z).label.length]:=by simp [mNS,List.range_succ]
theorem qnP {k:Int}{i:Nat}{l:List qi}(hi:i<l.length):(mNS k l i++l.drop i).set i (mNd (kN k l i) (l.getD i qi.z).label.length)=mNS k l (i+1)++l.drop (i+1):=by
 rw [List.set_append_right _ _ (by rw [JG];omega),JG,Nat.sub_self,qnY,List.append_assoc,List.drop_eq_getElem_cons hi];rfl
theorem qnj {k:Int}{i:Nat}{l:List qi}(hi:i<l.length):(mNS k l i++l.drop i).getD i qi.z=l.getD i qi.z:=by
 rw [List.getD_eq_getElem?_getD,List.getElem?_append_right (by rw [JG];omega),JG,Nat.sub_self,List.getElem?_drop,Nat.add_zero,List.getD_eq_getElem?_getD]
theorem qn7 {α:Type}{z:α}{l:List α}{n:Nat}{f:α->α}(h:n<l.length):(wz z l n f).getD n z=f (l.getD n z):=by simp [wz,List.getD_eq_getElem?_getD,h]
theorem qdg (l:List qi)(k:Int)(hl:l.length<=maxLen)(hx:∀ q∈l,q.label.length<=maxLen)(hk:0<k/\kN k l l.length<=4611686018427387904) :
 zY Tryz.prog 46 [wR l.length,bI1 k] [(lrt 0,.osl (.node true none l))] [.rf (lrt 0,[]) true 0 l.length] (.v (bI1 (kN k l l.length))) [(lrt 0,.osl (.node true none (mNS k l l.length)))] [.rf (lrt 0,[]) true 0 l.length]:=by
 refine zY.of qc (fn:=Tryz.f46) (c:=Tryz.f46.body.getD .skip) (dr:=fun n=>qa 0 [] n) (r:=(_,_,_)) Tryz.func46 rfl (by kernel_rfl) (by kernel_rfl) (by kernel_rfl) ?_
 generalize hn:l.length=n at *
 refine zP.go (X:=XX) qc (fun n=>qa [] [(2,[0,1,5,4294967296])] n) (fun _=>none) qd 60 1 ?_
 intro M R L N m0 m1 m2 m3 m4 m5
 cases M
 cbv
 repeat' first | refine m1 _ _ ?_ ?_ | refine m2 _ _ fun h=>?_ | refine m3 _ ?_ | (refine m4 _ _ (Hd.out ?_);generalize hks:(List.cons _ _:List K)=ks) | (refine m5 _ _ ?_;cbv)
 all_goals (clear m1 m2 m3 m4 m5;cases m0;try dsimp only)
 all_goals try simp only [sm] at *
 refine ⟨zP.same (zP.idx n (fun i=>⟨35,[(0,bR 41000000 n),(1,bI (kN k l i)),(5,bI i),(4294967296,bR 41000000 n)],[(41000000,.osl (.node true none (mNS k l i++l.drop i)))]⟩) (fun _=>(.v (bI1 (kN k l n)),[(lrt 0,.osl (.node true none (mNS k l n)))],[.rf (lrt 0,[]) true 0 n])) ?_) ?_ ⟨rfl,rfl,rfl⟩⟩
 rotate_left
 . rw [vI];rfl
 intro i hi ih
 rw [<-hks]
 obtain ⟨c,hc⟩:∃ c,c=mNS k l i++l.drop i:=⟨_,rfl⟩
 have hcl:c.length=n:=by rw [hc,List.length_append,JG,List.length_drop];omega
 rw [<-hc]
 obtain ⟨q,hq⟩:∃ q,q=kN k l i:=⟨_,rfl⟩
 rw [<-hq]
 obtain ⟨f,hf⟩:∃ f,f=mT:=⟨_,rfl⟩
 have hO:qp Tryz.prog (qJ [(89,qr4 f)]):=by subst hf;exact qb (zx fun q h=>qdO q (h _ (.head _)).out) qd
 obtain ⟨f2,hf2⟩:∃ f,f=kx:=⟨_,rfl⟩
 obtain ⟨g2,hg2⟩:∃ f,f=KI:=⟨_,rfl⟩
 have hW:q8 Tryz.prog (XX.withW [(22,[(0,0)])] (kH [(22,KK f2 g2)])):=by
  subst hf2 hg2
  exact SX.withW_ok (zT Wy jm)
 unfold maxLen at hl
 refine zP.go (X:=(XX.withW [(22,[(0,0)])] (kH [(22,KK f2 g2)]))) qc (fun n=>qa [] [(2,[0,1,5,4294967296])] n) (fun _=>none) hO 90 1 ?_ hW
 intro M R L N m0 m1 m2 m3 m4 m5
 cases M
 cbv
 repeat' first | refine m1 _ _ ?_ ?_ | refine m2 _ _ fun h=>?_ | refine m3 _ ?_ | (refine m4 _ _ (Hd.out ?_);try rw [hks]) | (refine m5 _ _ ?_;cbv)
 all_goals (clear m1 m2 m3 m4 m5;cases m0;(try clear hks);try dsimp only)
 all_goals try simp only [sm] at *
 all_goals (clear hW)
 all_goals (try simp only [Zl])
 all_goals (try simp only [qn7 (l:=c) (n:=i) (z:=qi.z) (by omega)])
 all_goals (have hb0:=vW k l 0 i;rw [Nat.zero_add,vI,<-hq] at hb0)
 all_goals first
  | omega
  | (have hin:i=n:=by omega
     subst hin
     rw [List.drop_eq_nil_of_le (by omega),List.append_nil] at hc
     subst hc;subst hq
     refine ⟨?_,?_,?_⟩<;>rfl)
  | skip
 all_goals (have hin:i<n:=by omega)
 all_goals (have h3:=V8 (k:=k) (l:=l) (i:=i) (by omega);have h4:=vW k l (i+1) (n-(i+1));rw [show i+1+(n-(i+1))=n by omega] at h4)
 all_goals (have h6:c.getD i qi.z=l.getD i qi.z:=by rw [hc,qnj (by omega)])
 all_goals (have h7:=hx _ (qn (z:=qi.z) (show i<l.length by omega)).out)
 all_goals (have e1:IntKind.i64.wrap (q+1)=q+1:=by rw [qr (by omega) (by omega)])
 all_goals (simp only [e1,h6] at *)
 all_goals first
  | exact ⟨by omega⟩
  | (subst hf2;exact (zO _ _).symm)
  | exact ⟨rfl,rfl,rfl,h7,by omega,by omega⟩
  | skip
 all_goals (subst hf hf2 hg2)
 all_goals (have e2:KI (q+1) (l.getD i qi.z).label.length=q+1+(l.getD i qi.z).label.length:=rfl)
 all_goals (have e3:IntKind.i64.wrap (q+1+(l.getD i qi.z).label.length+1)=q+(l.getD i qi.z).label.length+2:=by rw [qr (by omega) (by omega)];omega)
 all_goals (simp only [e2,e3,W2,qg (show i<9223372036854775807 by omega)])
 all_goals (refine ⟨(ih hin).same ?_ ⟨rfl,rfl,rfl⟩⟩)
 all_goals (rw [V8 (by omega),<-qnP (by omega),<-hq,<-hc])
 all_goals rfl
structure MkN (p:SP)(n m:Nat)(l:List qi)(k b:Int):Prop where out:p=(lrt 0,[])/\m=n/\l.length=n/\n<=maxLen/\(∀ q∈l,q.label.length<=maxLen)/\0<k/\b<=4611686018427387904
structure MkT {α:Type}(p:SP)(n m:Nat)(l:List α)(k:Int):Prop where out:p=(lrt 0,[])/\m=n/\l.length=n/\n<=maxLen/\0<k/\k+5 * n<=4611686018427387904
def qlV (k:Int)(n:Nat):Int:=k+5 * n
def gN (k:Int)(l:List qi):Int:=kN k l l.length
def fN (k:Int)(l:List qi):List qi:=mNS k l l.length
def yi (f:Int->Nat->List Tie)(g:Int->Nat->Int):WrW
 | [(false,[.rf p true 0 n]),(false,[.fz (.int .i64 k)])],[(.sl m,.osl (.tie l))]=>some ([MkT p n m l k],(.v (bI1 (g k n)),[(lrt 0,.osl (.tie (f k n)))],[.rf (lrt 0,[]) true 0 n]))
 | _,_=>none
theorem qgB:vF Tryz.prog 47 (yi jk qlV):=by
 intro xs ls
 unfold yi
 split
 . refine R.Sim.mk fun hp=>?_
   obtain ⟨rfl,rfl,rfl,h1,h2,h3⟩:=(hp _ (.head _)).out
   exact qdV _ _ h1 ⟨h2,h3⟩
 . exact R.Sim.none'
def qb4 (f:Int->List qi->List qi)(g:Int->List qi->Int):WrW
 | [(false,[.rf p true 0 n]),(false,[.fz (.int .i64 k)])],[(.sl m,.osl (.node true none l))]=>some ([MkN p n m l k (g k l)],(.v (bI1 (g k l)),[(lrt 0,.osl (.node true none (f k l)))],[.rf (lrt 0,[]) true 0 n]))
 | _,_=>none
theorem qlr:vF Tryz.prog 46 (qb4 fN gN):=by
 intro xs ls
 unfold qb4
 split
 . refine R.Sim.mk fun hp=>?_
   obtain ⟨rfl,rfl,rfl,h1,h2,h3,h4⟩:=(hp _ (.head _)).out
   exact qdg _ _ h1 h2 ⟨h3,h4⟩
 . exact R.Sim.none'
theorem qoP (k:Int)(l:List qi):(fN k l).length=l.length:=JG _ _ _
theorem qeH (cs:List qi)(ps:List Tie)(hr:Int)(k:Int)(h1:cs.length<=maxLen)(h2:ps.length<=maxLen)(h3:∀ q∈cs,q.label.length<=maxLen)(hk:0<k/\gN k cs+5 * ps.length<=4611686018427387904) :
 zY Tryz.prog 20 [(true,[.rf (lrt 0,[]) true 0 cs.length,.rf (lrt 1,[]) true 0 ps.length,.fz (.int .i64 hr)]),bI1 k] [(lrt 0,.osl (.node true none cs)),(lrt 1,.osl (.tie ps))]
  [.rf (lrt 0,[]) true 0 cs.length,.rf (lrt 1,[]) true 0 ps.length] (.v (bI1 (qlV (gN k cs) ps.length)))
  [(8192,.obx [.osl (.node true none (fN k cs)),.osl (.tie (jk (gN k cs) ps.length)),.fz (.int .i64 hr)])] [.rf (8192,[((true,0),0)]) true 0 cs.length,.rf (8192,[((true,0),1)]) true 0 ps.length]:=by
 refine zY.of qc (fn:=Tryz.f20) (c:=Tryz.f20.body.getD .skip) (dr:=fun n=>qa 0 [] n) (r:=(_,_,_)) Tryz.func20 rfl (by kernel_rfl) (by kernel_rfl) (by kernel_rfl) ?_
 obtain ⟨f1,hf1⟩:∃ f,f=fN:=⟨_,rfl⟩
 obtain ⟨f2,hf2⟩:∃ f,f=jk:=⟨_,rfl⟩
 obtain ⟨g1,hg1⟩:∃ f,f=gN:=⟨_,rfl⟩
 obtain ⟨g2,hg2⟩:∃ f,f=qlV:=⟨_,rfl⟩
 have hpos:0<g1 k cs:=by rw [hg1];have:=vW k cs 0 cs.length;rw [vI,Nat.zero_add] at this;unfold gN;omega
 rw [<-hg1] at hk
 have hW:q8 Tryz.prog (XX.withW [(46,[(0,0)]),(47,[(0,0)])] (kH [(46,qb4 f1 g1),(47,yi f2 g2)])):=by
  subst hf1 hf2 hg1 hg2
  exact SX.withW_ok (zT qlr (zT qgB jm))
 generalize hn:cs.length=n at *
 generalize hm:ps.length=m at *
 refine zP.go (X:=(XX.withW [(46,[(0,0)]),(47,[(0,0)])] (kH [(46,qb4 f1 g1),(47,yi f2 g2)]))) qc (fun n=>qa [] [] n) (fun _=>none) qd 90 2 ?_ hW
 intro M R L N m0 m1 m2 m3 m4 m5
 cases M
 cbv
 repeat' first | refine m1 _ _ ?_ ?_ | refine m2 _ _ fun h=>?_ | refine m3 _ ?_ | (refine m4 _ _ (Hd.out ?_);try rw [hks]) | (refine m5 _ _ ?_;cbv)
 all_goals (clear m1 m2 m3 m4 m5;cases m0;(try clear hks);try dsimp only)
 all_goals try simp only [sm] at *
 all_goals (clear hW)
 all_goals (subst hf1 hf2 hg1 hg2 hn hm)
 all_goals first
  | rfl
  | exact (qoP _ _).symm
  | exact (Q4 _ _).symm
  | exact ⟨rfl,rfl,rfl,h1,h3,hk.1,by omega⟩
  | exact ⟨rfl,rfl,rfl,h2,hpos,by omega⟩
  | (refine ⟨?_,?_,?_⟩<;>rfl)
  | skip
structure qsZ (p q:SP)(n n' m m':Nat)(cs:List qi)(ps:List Tie)(k b:Int):Prop where out:(p=(lrt 0,[])/\q=(lrt 1,[])/\n'=n/\m'=m)/\cs.length=n/\ps.length=m/\n<=maxLen/\m<=maxLen/\(∀ q∈cs,q.label.length<=maxLen)/\0<k/\b<=4611686018427387904
def JH (f1:Int->List qi->List qi)(f2:Int->List qi->Nat->List Tie)(g:Int->List qi->Nat->Int):WrW
 | [(true,[.rf p true 0 n,.rf q true 0 m,.fz (.int .i64 hr)]),(false,[.fz (.int .i64 k)])],[(.sl n',.osl (.node true none cs)),(.sl m',.osl (.tie ps))]=>some ([qsZ p q n n' m m' cs ps k (g k cs m)],(.v (bI1 (g k cs m)),[(8192,.obx [.osl (.node true none (f1 k cs)),.osl (.tie (f2 k cs m)),.fz (.int .i64 hr)])],[.rf (8192,[((true,0),0)]) true 0 n,.rf (8192,[((true,0),1)]) true 0 m]))
 | _,_=>none
def shT (k:Int)(cs:List qi)(m:Nat):List Tie:=jk (gN k cs) m
def shG (k:Int)(cs:List qi)(m:Nat):Int:=qlV (gN k cs) m
theorem qcd:vF Tryz.prog 20 (JH fN shT shG):=by
 intro xs ls
 unfold JH
 split
 . refine R.Sim.mk fun hp=>?_
   obtain ⟨⟨rfl,rfl,rfl,rfl⟩,rfl,rfl,h1,h2,h3,h4,h5⟩:=(hp _ (.head _)).out
   exact qeH _ _ _ _ h1 h2 h3 ⟨h4,by unfold shG qlV at h5;omega⟩
 . exact R.Sim.none'
theorem qdy (nw:Int)(cs:List Int)(ps:List Int)(k:Int)(h1:cs.length<=maxLen)(h2:ps.length<=maxLen)(hk:0<k/\k+cs.length+ps.length<=4611686018427387904) :
 zY Tryz.prog 21 [(true,[.fz (.int .i64 nw),.rf (lrt 0,[]) true 0 cs.length,.rf (lrt 1,[]) true 0 ps.length]),bI1 k] [(lrt 0,.osl (.i cs)),(lrt 1,.osl (.i ps))]
  [.rf (lrt 0,[]) true 0 cs.length,.rf (lrt 1,[]) true 0 ps.length] (.v (bI1 (KI (KI k cs.length) ps.length)))
  [(8192,.obx [.fz (.int .i64 nw),.osl (.i (kx k cs.length)),.osl (.i (kx (KI k cs.length) ps.length))])] [.rf (8192,[((true,0),1)]) true 0 cs.length,.rf (8192,[((true,0),2)]) true 0 ps.length]:=by
 refine zY.of qc (fn:=Tryz.f21) (c:=Tryz.f21.body.getD .skip) (dr:=fun n=>qa 0 [] n) (r:=(_,_,_)) Tryz.func21 rfl (by kernel_rfl) (by kernel_rfl) (by kernel_rfl) ?_
 generalize hn:cs.length=n at *
 generalize hm:ps.length=m at *
 obtain ⟨f2,hf2⟩:∃ f,f=kx:=⟨_,rfl⟩
 obtain ⟨g2,hg2⟩:∃ f,f=KI:=⟨_,rfl⟩
 have hW:q8 Tryz.prog (XX.withW [(22,[(0,0)])] (kH [(22,KK f2 g2)])):=by
  subst hf2 hg2
  exact SX.withW_ok (zT Wy jm)
 refine zP.go (X:=(XX.withW [(22,[(0,0)])] (kH [(22,KK f2 g2)]))) qc (fun n=>qa [] [] n) (fun _=>none) qd 90 2 ?_ hW
 intro M R L N m0 m1 m2 m3 m4 m5
 cases M
 cbv
 repeat' first | refine m1 _ _ ?_ ?_ | refine m2 _ _ fun h=>?_ | refine m3 _ ?_ | (refine m4 _ _ (Hd.out ?_);try rw [hks]) | (refine m5 _ _ ?_;cbv)
 all_goals (clear m1 m2 m3 m4 m5;cases m0;(try clear hks);try dsimp only)
 all_goals try simp only [sm] at *
 all_goals (clear hW)
 all_goals (subst hf2 hg2 hn hm)
 all_goals first
  | rfl
  | exact (zO _ _).symm
  | exact ⟨rfl,rfl,rfl,h1,by omega,by omega⟩
  | exact ⟨rfl,rfl,rfl,h2,by unfold KI;omega,by unfold KI;omega⟩
  | (refine ⟨?_,?_,?_⟩<;>rfl)
  | skip
structure qs7 (p q:SP)(n n' m m':Nat)(cs ps:List Int)(k:Int):Prop where out:(p=(lrt 0,[])/\q=(lrt 1,[])/\n'=n/\m'=m)/\cs.length=n/\ps.length=m/\n<=maxLen/\m<=maxLen/\0<k/\k+n+m<=4611686018427387904
def Kd (f1:Int->Nat->List Int)(f2:Int->Nat->Nat->List Int)(g:Int->Nat->Nat->Int):WrW
 | [(true,[.fz (.int .i64 nw),.rf p true 0 n,.rf q true 0 m]),(false,[.fz (.int .i64 k)])],[(.sl n',.osl (.i cs)),(.sl m',.osl (.i ps))]=>some ([qs7 p q n n' m m' cs ps k],(.v (bI1 (g k n m)),[(8192,.obx [.fz (.int .i64 nw),.osl (.i (f1 k n)),.osl (.i (f2 k n m))])],[.rf (8192,[((true,0),1)]) true 0 n,.rf (8192,[((true,0),2)]) true 0 m]))
 | _,_=>none
def stF (k:Int)(n m:Nat):List Int:=kx (KI k n) m
def stG (k:Int)(n m:Nat):Int:=KI (KI k n) m
theorem qaX:vF Tryz.prog 21 (Kd kx stF stG):=by
 intro xs ls
 unfold Kd
 split
 . refine R.Sim.mk fun hp=>?_
   obtain ⟨⟨rfl,rfl,rfl,rfl⟩,rfl,rfl,h1,h2,h3,h4⟩:=(hp _ (.head _)).out
   exact qdy _ _ _ _ h1 h2 ⟨h3,h4⟩
 . exact R.Sim.none'
end Go.Proofs.YtifnopmkdempdaaGreat.Ai
namespace Go.Proofs.YtifnopmkdempdaaGreat.Ai
open Go
set_option maxRecDepth 100000
variable [qh]
def JZ (v ps vs:List Int):Nat->List Int
 | 0=>v
 | i+1=>(JZ v ps vs i).set (ps.getD i 0-1).toNat (vs.getD i 0)
theorem ZD (v ps vs:List Int):∀ i,(JZ v ps vs i).length=v.length
 | 0=>rfl
 | i+1=>by simp only [JZ,List.length_set,ZD v ps vs i]
structure PrT (ps:List Int):Prop where out:∀ p∈ps,1<=p/\p<=3
def qhM (x:qf)(ps vs:List Int):qf:=⟨IntKind.i64.wrap (x.now+1),x.times,JZ x.vals ps vs ps.length⟩
theorem qaB (x:qf)(ps vs:List Int)(hz:Kr x)(h3:x.vals.length=3)(hl:vs.length=ps.length)(h1:ps.length<=1048576)(hp:∀ p∈ps,1<=p/\p<=3):qe Tryz.prog 65 [qH x,aIs ps,aIs vs] (kV (qhM x ps vs)):=by
 refine qe.of qc (fn:=Tryz.f65) (c:=Tryz.f65.body.getD .skip) (dr:=fun n=>qa 0 [(5,8)] n) Tryz.func65 rfl (by kernel_rfl) (by kernel_rfl) (by kernel_rfl) ?_
 have hO:qp Tryz.prog (qJ [(98,ZZ)]):=qb QI qd
 obtain ⟨now,times,vals⟩:=x
 dsimp only at h3
 refine SEx.go (X:=XX) qc (fun n=>qa [] [(3,[2,6,7,12,13,14])] n) (fun _=>none) hO 60 ?_
 intro M R L N m0 m1 m2 m3 m4 m5
 cases M
 cbv
 repeat' first | refine m1 _ _ ?_ ?_ | refine m2 _ _ fun h=>?_ | refine m3 _ ?_ | (refine m4 _ _ (Hd.out ?_);generalize hks:(List.cons _ _:List K)=ks) | (refine m5 _ _ ?_;cbv)
 all_goals (clear m1 m2 m3 m4 m5;cases m0;try dsimp only)
 all_goals try simp only [sm] at *
 all_goals first
  | exact hz
  | skip
 obtain ⟨m,hm⟩:∃ m,m=ps.length:=⟨_,rfl⟩
 refine ⟨SEx.same (SEx.idx m (fun i=>⟨34,[(2,bL (.i vs)),(6,bP 24576),(7,bP 28672),(12,bL (.i ps)),(13,bI m),(14,bI i)],[(24576,.obx [.fz (.int .i64 0),.onil,.onil]),(28672,.obx [.fz (.int .i64 now),.osl (.i times),.osl (.i (JZ vals ps vs i))])]⟩) (fun _=>kV (qhM ⟨now,times,vals⟩ ps vs)) ?_) (by rw [hm];rfl) rfl⟩
 intro i hi ih
 rw [<-hks]
 obtain ⟨c,hc⟩:∃ c,c=JZ vals ps vs i:=⟨_,rfl⟩
 have hcl:c.length=3:=by rw [hc,ZD,h3]
 have hpi:i<m->1<=ps.getD i 0/\ps.getD i 0<=3:=fun h=>hp _ (qn (z:=(0:Int)) (by omega)).out
 have hw:i<m->IntKind.i64.wrap (ps.getD i 0-1)=ps.getD i 0-1:=fun h=>by have:=hpi h;exact qr (by omega) (by omega)
 rw [<-hc]
 refine SEx.go (X:=XX) qc (fun n=>qa [] [(3,[2,6,7,12,13,14])] n) (fun _=>none) hO 60 ?_
 intro M R L N m0 m1 m2 m3 m4 m5
 cases M
 cbv
 repeat' first | refine m1 _ _ ?_ ?_ | refine m2 _ _ fun h=>?_ | refine m3 _ ?_ | (refine m4 _ _ (Hd.out ?_);try first | rw [hks] | rw [hk2] | rw [hk3]) | (refine m5 _ _ ?_;cbv)
 all_goals (clear m1 m2 m3 m4 m5;cases m0;(try clear hks;try clear hk2;try clear hk3);try dsimp only)
 all_goals try simp only [sm] at *
 all_goals (try (have h8:=hpi (by omega)))
 all_goals (try rw [hw (by omega)] at *)
 all_goals (try simp only [qg (show i<9223372036854775807 by omega)])
 all_goals first
  | omega
  | (refine ⟨(ih (by omega)).same ?_ rfl⟩;show _=_;rw [show JZ vals ps vs (i+1)=c.set (ps.getD i 0-1).toNat (vs.getD i 0) by rw [hc];rfl];rfl)
  | (obtain rfl:i=m:=by omega
     unfold qhM
     rw [<-hm,hc];rfl)
  | skip
theorem qld (l:List Int)(h1:l.length<=1048576):qe Tryz.prog 50 [aIs l] (rIs l):=by
 refine qe.of qc (fn:=Tryz.f50) (c:=Tryz.f50.body.getD .skip) (dr:=fun n=>qa 0 [] n) Tryz.func50 rfl (by kernel_rfl) (by kernel_rfl) (by kernel_rfl) ?_
 refine SEx.go (X:=XX) qc (fun n=>qa [] [] n) (fun _=>none) qd 60 ?_
 intro M R L N m0 m1 m2 m3 m4 m5
 cases M
 cbv
 repeat' first | refine m1 _ _ ?_ ?_ | refine m2 _ _ fun h=>?_ | refine m3 _ ?_ | (refine m4 _ _ (Hd.out ?_);try first | rw [hks] | rw [hk2] | rw [hk3]) | (refine m5 _ _ ?_;cbv)
 all_goals (clear m1 m2 m3 m4 m5;cases m0;(try clear hks;try clear hk2;try clear hk3);try dsimp only)
 all_goals try simp only [sm] at *
 all_goals first
  | (have:=zB;omega)
  | (have hl:l=[]:=List.eq_nil_of_length_eq_zero (by omega)
     subst hl;rfl)
  | rfl
end Go.Proofs.YtifnopmkdempdaaGreat.Ai
namespace Go.Proofs.YtifnopmkdempdaaGreat.Ai
open Go
set_option maxRecDepth 100000
variable [qh]
def qjH:Wr:=w1 zX rIs (fun l=>[LLe l 1048576])
theorem qhp:qy Tryz.prog 50 qjH:=zx fun l h=>qld l (h _ (.head _)).out
theorem qcq (x:qf)(hz:Kr x):qe Tryz.prog 112 [qH x] (kV x):=by
 refine qe.of qc (fn:=Tryz.f112) (c:=Tryz.f112.body.getD .skip) (dr:=fun n=>qa 0 [(1,8)] n) Tryz.func112 rfl (by kernel_rfl) (by kernel_rfl) (by kernel_rfl) ?_
 have hO:qp Tryz.prog (qJ [(50,qjH)]):=qb qhp qd
 have h1:=hz.tlen
 have h2:=hz.vlen
 clear hz
 obtain ⟨now,times,vals⟩:=x
 dsimp only at h1 h2
 refine SEx.go (X:=XX) qc (fun n=>qa [] [] n) (fun _=>none) hO 60 ?_
 intro M R L N m0 m1 m2 m3 m4 m5
 cases M
 cbv
 repeat' first | refine m1 _ _ ?_ ?_ | refine m2 _ _ fun h=>?_ | refine m3 _ ?_ | (refine m4 _ _ (Hd.out ?_);try first | rw [hks] | rw [hk2] | rw [hk3]) | (refine m5 _ _ ?_;cbv)
 all_goals (clear m1 m2 m3 m4 m5;cases m0;(try clear hks;try clear hk2;try clear hk3);try dsimp only)
 all_goals try simp only [sm] at *
 all_goals first
  | exact ⟨h1⟩
  | exact ⟨h2⟩
  | rfl
def ye:Wr:=w1 qF kV (fun x=>[Kr x])
theorem wA:qy Tryz.prog 112 ye:=zx fun x h=>qcq x (h _ (.head _))
theorem VT (x:qf)(ps vs:List Int)(hz:Kr x)(h3:x.vals.length=3)(hl:vs.length=ps.length)(h1:ps.length<=1048576)(hp:∀ p∈ps,1<=p/\p<=3):qe Tryz.prog 81 [qH x,aIs ps,aIs vs] (kV (qhM x ps vs)):=by
 refine qe.of qc (fn:=Tryz.f81) (c:=Tryz.f81.body.getD .skip) (dr:=fun n=>qa 0 [(5,8)] n) Tryz.func81 rfl (by kernel_rfl) (by kernel_rfl) (by kernel_rfl) ?_
 have hO:qp Tryz.prog (qJ [(112,ye)]):=qb wA qd
 obtain ⟨now,times,vals⟩:=x
 dsimp only at h3
 refine SEx.go (X:=XX) qc (fun n=>qa [] [(3,[2,6,7,12,13,14])] n) (fun _=>none) hO 60 ?_
 intro M R L N m0 m1 m2 m3 m4 m5
 cases M
 cbv
 repeat' first | refine m1 _ _ ?_ ?_ | refine m2 _ _ fun h=>?_ | refine m3 _ ?_ | (refine m4 _ _ (Hd.out ?_);generalize hks:(List.cons _ _:List K)=ks) | (refine m5 _ _ ?_;cbv)
 all_goals (clear m1 m2 m3 m4 m5;cases m0;try dsimp only)
 all_goals try simp only [sm] at *
 all_goals first
  | exact hz
  | skip
 obtain ⟨m,hm⟩:∃ m,m=ps.length:=⟨_,rfl⟩
 refine ⟨SEx.same (SEx.idx m (fun i=>⟨34,[(2,bL (.i vs)),(6,bP 24576),(7,bP 28672),(12,bL (.i ps)),(13,bI m),(14,bI i)],[(24576,.obx [.fz (.int .i64 0),.onil,.onil]),(28672,.obx [.fz (.int .i64 now),.osl (.i times),.osl (.i (JZ vals ps vs i))])]⟩) (fun _=>kV (qhM ⟨now,times,vals⟩ ps vs)) ?_) (by rw [hm];rfl) rfl⟩
 intro i hi ih
 rw [<-hks]
 obtain ⟨c,hc⟩:∃ c,c=JZ vals ps vs i:=⟨_,rfl⟩
 have hcl:c.length=3:=by rw [hc,ZD,h3]
 have hpi:i<m->1<=ps.getD i 0/\ps.getD i 0<=3:=fun h=>hp _ (qn (z:=(0:Int)) (by omega)).out
 have hw:i<m->IntKind.i64.wrap (ps.getD i 0-1)=ps.getD i 0-1:=fun h=>by have:=hpi h;exact qr (by omega) (by omega)
 rw [<-hc]
 refine SEx.go (X:=XX) qc (fun n=>qa [] [(3,[2,6,7,12,13,14])] n) (fun _=>none) hO 60 ?_
 intro M R L N m0 m1 m2 m3 m4 m5
 cases M
 cbv
 repeat' first | refine m1 _ _ ?_ ?_ | refine m2 _ _ fun h=>?_ | refine m3 _ ?_ | (refine m4 _ _ (Hd.out ?_);try first | rw [hks] | rw [hk2] | rw [hk3]) | (refine m5 _ _ ?_;cbv)
 all_goals (clear m1 m2 m3 m4 m5;cases m0;(try clear hks;try clear hk2;try clear hk3);try dsimp only)
 all_goals try simp only [sm] at *
 all_goals (try (have h8:=hpi (by omega)))
 all_goals (try rw [hw (by omega)] at *)
 all_goals (try simp only [qg (show i<9223372036854775807 by omega)])
 all_goals first
  | omega
  | (refine ⟨(ih (by omega)).same ?_ rfl⟩;show _=_;rw [show JZ vals ps vs (i+1)=c.set (ps.getD i 0-1).toNat (vs.getD i 0) by rw [hc];rfl];rfl)
  | (obtain rfl:i=m:=by omega
     unfold qhM
     rw [<-hm,hc];rfl)
  | skip
def obF (v ps vs:List Int):List Int:=JZ v ps vs ps.length
structure V3 (v:List Int):Prop where out:v.length=3
structure SLn (a b:List Int):Prop where out:a.length=b.length
def nxI (n:Int):Int:=IntKind.i64.wrap (n+1)
def qkR (g:Int->Int)(f:List Int->List Int->List Int->List Int):Wr:=w3 qF zX zX (fun x ps vs=>kV ⟨g x.now,x.times,f x.vals ps vs⟩) (fun x ps vs=>[Kr x,V3 x.vals,SLn vs ps,LLe ps 1048576,PrT ps])
theorem qeF:qy Tryz.prog 65 (qkR nxI obF):=jv fun x ps vs h=>qaB x ps vs (h _ (.head _)) (h _ (.tail _ (.head _))).out (h _ (.tail _ (.tail _ (.head _)))).out (h _ (.tail _ (.tail _ (.tail _ (.head _))))).out (h _ (.tail _ (.tail _ (.tail _ (.tail _ (.head _)))))).out
theorem qdP:qy Tryz.prog 81 (qkR nxI obF):=jv fun x ps vs h=>VT x ps vs (h _ (.head _)) (h _ (.tail _ (.head _))).out (h _ (.tail _ (.tail _ (.head _)))).out (h _ (.tail _ (.tail _ (.tail _ (.head _))))).out (h _ (.tail _ (.tail _ (.tail _ (.tail _ (.head _)))))).out
end Go.Proofs.YtifnopmkdempdaaGreat.Ai
namespace Go.Proofs.YtifnopmkdempdaaGreat.Ai
open Go
set_option maxRecDepth 100000
variable [qh]
theorem qqM {l:List qi}(k:Int)(h:∀ q∈l,q.label.length<=1048576):∀ i,i<=l.length->kN k l i<=k+i * 1048578
 | 0,_=>by rw [vI];omega
 | i+1,hi=>by
   have h1:=qqM k h i (by omega)
   have h2:=h _ (qn (z:=qi.z) (show i<l.length by omega)).out
   rw [V8 (by omega)]
   omega
structure qsv (n:Int)(g:Int):Prop where
 lo:0<g
 hi:g<=4000000000000
theorem qrU {t:ql}{n:Int}(h:qhD t n):qsv n (shG 1 t.nodes t.ties.length)/\gN 1 t.nodes<=4000000000000:=by
 have h1:=qqM 1 h.labs t.nodes.length (Nat.le_refl _)
 have h2:=vW 1 t.nodes 0 t.nodes.length
 rw [vI,Nat.zero_add] at h2
 have h3:=h.len
 have h4:=h.tlen
 unfold shG qlV gN
 exact ⟨⟨by omega,by omega⟩,by omega⟩
theorem qp6 (k:Int)(n m:Nat):(stF k n m).length=m:=zO _ _
end Go.Proofs.YtifnopmkdempdaaGreat.Ai
namespace Go.Proofs.YtifnopmkdempdaaGreat.Ai
open Go
set_option maxRecDepth 100000
variable [qh]
def z8 (p:Int->Bool)(l:List Int):List Int:=l.filter fun x=>!p x
def Yo (p:Int->Bool)(l:List Int):List Int:=z8 p l++List.replicate (l.length-(z8 p l).length) 0
def qol (g:FuncId)(caps:List D)(l:List Int)(p:Int->Bool)(L:List (Nat×Wr)):Qt:=fun g' as'=>match as' with
 | (false,[.int .i64 q])::r=>some ([qob g' g r caps,Mem q l],rB (p q))
 | xs=>qJ L g' xs
theorem qox {P:Program}{g:FuncId}{caps:List D}{l:List Int}{p:Int->Bool}{L:List (Nat×Wr)}(hp:∀ q∈l,qe P g (aI q::jY caps) (rB (p q)))(hL:qp P (qJ L)):qp P (qol g caps l p L):=by
 intro g' as'
 unfold qol
 split
 . refine R.Sim.mk fun hq=>?_
   obtain ⟨rfl,rfl⟩:=hq _ (.head _)
   exact hp _ (hq _ (.tail _ (.head _))).out
 . exact hL _ _
theorem wv {α:Type}(p:α->Bool)(z:α):∀ (l:List α) (n:Nat),(zK p l n=-1/\∀ q∈l,p q=false)\/∃ i,i<l.length/\zK p l n=((n+i:Nat):Int)/\p (l.getD i z)=true/\∀ q∈l.take i,p q=false
 | [],n=>.inl ⟨rfl,fun q h=>by cases h⟩
 | a::r,n=>by
   unfold zK
   cases h:p a with
   | true=>exact .inr ⟨0,by simp,by simp,by simpa using h,fun q h=>by simp at h⟩
   | false =>
     rw [if_neg (by simp)]
     rcases wv p z r (n+1) with ⟨h1,h2⟩ | ⟨i,h1,h2,h3,h4⟩
     . exact .inl ⟨h1,fun q hq=>(List.mem_cons.1 hq).elim (fun e=>e▸h) (h2 q)⟩
     . refine .inr ⟨i+1,by simpa using h1,by rw [h2];congr 1;omega,by simpa using h3,fun q hq=>?_⟩
       rw [List.take_succ_cons] at hq
       exact (List.mem_cons.1 hq).elim (fun e=>e▸h) (h4 q)
theorem qbb {p:Int->Bool}{l:List Int}(h:∀ q∈l,p q=false):z8 p l=l:=by
 unfold z8
 rw [List.filter_eq_self]
 intro q hq
 rw [h q hq];rfl
theorem qgw {p:Int->Bool}{l:List Int}{j:Nat}(h:j<l.length):z8 p (l.take (j+1))=z8 p (l.take j)++(if p (l.getD j 0)=true then [] else [l.getD j 0]):=by
 unfold z8
 rw [List.take_add_one,List.filter_append,zn h,List.getElem?_eq_getElem h,Option.toList_some,List.filter_cons,List.filter_nil]
 cases p l[j]<;>rfl
theorem qla {c:List Int}{i n:Nat}(hn:c.length=n)(hi:i<=n):kY c i (n-i) 0=c.take i++List.replicate (n-i) 0:=by
 apply List.ext_getElem?
 intro j
 rw [Qn,List.getElem?_append,List.length_take,hn,Nat.min_eq_left hi,List.getElem?_take,List.getElem?_replicate]
 by_cases h1:j<i
 . rw [if_neg (by omega),if_pos h1,if_pos h1]
 . rw [if_neg h1]
   by_cases h2:j<n
   . rw [if_pos (by omega),if_pos (by omega)]
   . rw [if_neg (by omega),if_neg (by omega),List.getElem?_eq_none (by omega)]
theorem qmD {c:List Int}{i:Nat}(v:Int)(h:i<c.length):(c.set i v).take (i+1)=c.take i++[v]:=by
 rw [List.take_add_one,List.take_set_of_le (Nat.le_refl i),List.getElem?_set_self h];rfl
theorem qfk {c l:List Int}{j:Nat}(h:c.drop j=l.drop j):c.drop (j+1)=l.drop (j+1):=by
 have:=congrArg (List.drop 1) h
 rwa [List.drop_drop,List.drop_drop] at this
theorem Vn (l:List Int)(g:FuncId)(a b:List D)(p:Int->Bool)(hp:∀ q∈l,qe Tryz.prog g [aI q,(false,[.ptr a]),(false,[.ptr b])] (rB (p q)))(h1:l.length<=maxLen) :
 zY Tryz.prog 49 [wR l.length,(false,[.clo g [.fz (.ptr a),.fz (.ptr b)]])] [(lrt 0,.osl (.i l))] [.rf (lrt 0,[]) true 0 l.length]
  (.v (false,[.rf (lrt 0,[]) false 0 (z8 p l).length])) [(lrt 0,.osl (.i (Yo p l)))] [.rf (lrt 0,[]) true 0 l.length]:=by
 refine zY.of qc (fn:=Tryz.f49) (c:=Tryz.f49.body.getD .skip) (dr:=fun n=>qa 0 [] n) (r:=(_,_,_)) Tryz.func49 rfl (by kernel_rfl) (by kernel_rfl) (by kernel_rfl) ?_
 obtain ⟨f,hf⟩:∃ f:List Int->Int,f=fun l=>zK p l 0:=⟨_,rfl⟩
 have hO:qp Tryz.prog (qol g [.ptr a,.ptr b] l p [(90,wCl zX g [.ptr a,.ptr b] (fun l=>rI (f l)) (fun m=>[vb m l]))]):=by
  subst hf
  exact qox hp (qb (Yw fun m h=>by obtain rfl:=(h _ (.head _)).out;exact Vq m g [.ptr a,.ptr b] p hp h1) qd)
 unfold maxLen at h1
 have hc:=wv p 0 l 0
 rw [show zK p l 0=f l by rw [hf]] at hc
 have hkl:(z8 p l).length<=l.length:=List.length_filter_le _ _
 have hka:=qbb (p:=p) (l:=l)
 have hks':∀ j,j<l.length->z8 p (l.take (j+1))=z8 p (l.take j)++(if p (l.getD j 0)=true then [] else [l.getD j 0]):=fun j h=>qgw h
 have hkt:z8 p (l.take l.length)=z8 p l:=by rw [List.take_length]
 obtain ⟨kl,hkl0⟩:∃ kl,kl=z8 p l:=⟨_,rfl⟩
 obtain ⟨m,hm⟩:∃ m,m=kl.length:=⟨_,rfl⟩
 obtain ⟨dl,hdl⟩:∃ dl,dl=Yo p l:=⟨_,rfl⟩
 rw [<-hkl0,<-hm,<-hdl]
 unfold Yo at hdl
 rw [<-hkl0,<-hm] at hdl
 rw [<-hkl0] at hkl hka hkt
 generalize hn:l.length=n at *
 obtain ⟨tt,htt⟩:∃ t:Nat->List Int,t=fun j=>z8 p (l.take j):=⟨_,rfl⟩
 rw [show z8 p (l.take n)=tt n by rw [htt]] at hkt
 have hst:∀ j,j<n->tt (j+1)=tt j++(if p (l.getD j 0)=true then [] else [l.getD j 0]):=fun j h=>by rw [htt];exact hks' j h
 clear hks'
 refine zP.go (X:=(XX.withF [4])) qc (fun n=>qa [] [(5,[0,1,5,6,4294967296])] n) (fun _=>none) hO 60 1 ?_
 intro M R L N m0 m1 m2 m3 m4 m5
 cases M
 cbv
 repeat' first | refine m1 _ _ ?_ ?_ | refine m2 _ _ fun h=>?_ | refine m3 _ ?_ | (refine m4 _ _ (Hd.out ?_);generalize hks:(List.cons _ _:List K)=ks) | (refine m5 _ _ ?_;cbv)
 all_goals (clear m1 m2 m3 m4 m5;cases m0;try dsimp only)
 all_goals try simp only [sm] at *
 all_goals first
  | exact hn.symm
  | exact ⟨rfl⟩
  | exact ⟨rfl,rfl⟩
  | (have e:kl=l:=by
      rcases hc with ⟨_,h2⟩ | ⟨i,_,h2,_⟩
      . exact hka h2
      . omega
     have e2:m=n:=by rw [hm,e,hn]
     subst e2
     rw [Nat.sub_self,List.replicate_zero,List.append_nil,e] at hdl
     subst hdl
     refine ⟨?_,?_,?_⟩<;>rfl)
  | skip
 obtain ⟨i0,hi0,hfi,hpi,hbe⟩:∃ i,i<n/\f l=(i:Int)/\p (l.getD i 0)=true/\∀ q∈l.take i,p q=false:=by
  rcases hc with ⟨h2,_⟩ | ⟨i,h2,h3,h4,h5⟩
  . contradiction
  . exact ⟨i,h2,by rw [h3,Nat.zero_add],h4,h5⟩
 rw [hfi,qg (show i0<9223372036854775807 by omega)]
 have htl:∀ j,(tt j).length<=j:=fun j=>by
  rw [htt]
  show (z8 p (l.take j)).length<=j
  unfold z8
  exact Nat.le_trans (List.length_filter_le _ _) (by rw [List.length_take];omega)
 have ht0:tt (i0+1)=l.take i0:=by
  rw [hst i0 hi0,hpi,if_pos rfl,List.append_nil,htt]
  exact qbb hbe
 have htn:∀ j,j<=n->(tt j).length<=m:=fun j hj=>by
  have key:∀ d,j+d<=n->(tt j).length<=(tt (j+d)).length:=by
   intro d
   induction d with
   | zero=>intro _;exact Nat.le_refl _
   | succ d ih =>
     intro h
     have:=ih (by omega)
     rw [<-Nat.add_assoc,hst (j+d) (by omega),List.length_append]
     omega
  have:=key (n-j) (by omega)
  rw [show j+(n-j)=n by omega,hkt,<-hm] at this
  exact this
 clear hf hka hc hbe hkl0 htt
 refine ⟨zP.same (zP.ind (α:=Nat×List Int×Nat) (fun x=>⟨42,[(0,bR 41000000 n),(1,.v (false,[.clo g [.fz (.ptr a),.fz (.ptr b)]])),(5,bI x.2.2),(6,bI x.1),(4294967296,bR 41000000 n)],[(41000000,.osl (.i x.2.1))]⟩) (fun _=>(.v (false,[.rf (lrt 0,[]) false 0 m]),[(lrt 0,.osl (.i dl))],[.rf (lrt 0,[]) true 0 n])) (fun x=>x.1<=n/\x.2.2<x.1/\x.2.1.length=n/\x.2.1.take x.2.2=tt x.1/\x.2.1.drop x.1=l.drop x.1) (fun x=>n-x.1) (i0+1,l,i0) ⟨by show i0+1<=n;omega,Nat.lt_succ_self i0,hn,ht0.symm,rfl⟩ ?_) rfl ⟨rfl,rfl,rfl⟩⟩
 rintro ⟨j,c,i⟩ ⟨hj,hij,hcl,hct,hcd⟩ ih
 dsimp only at hj hij hcl hct hcd ih ⊢
 rw [<-hks]
 have hcj:j<n->c.getD j 0=l.getD j 0:=fun h=>by
  have:=congrArg (fun x:List Int=>x[0]?) hcd
  simp only [List.getElem?_drop,Nat.add_zero] at this
  rw [List.getD_eq_getElem?_getD,List.getD_eq_getElem?_getD,this]
 have hil:i=(tt j).length:=by rw [<-hct,List.length_take];omega
 refine zP.go (X:=(XX.withF [4])) qc (fun n=>qa [] [(5,[0,1,5,6,4294967296])] n) (fun _=>none) hO 60 1 ?_
 intro M R L N m0 m1 m2 m3 m4 m5
 cases M
 cbv
 repeat' first | refine m1 _ _ ?_ ?_ | refine m2 _ _ fun h=>?_ | refine m3 _ ?_ | (refine m4 _ _ (Hd.out ?_);try rw [hks]) | (refine m5 _ _ ?_;cbv)
 all_goals (clear m1 m2 m3 m4 m5;cases m0;(try clear hks);try dsimp only)
 all_goals try simp only [sm] at *
 all_goals (try simp only [Nat.zero_add] at *)
 all_goals (try simp only [hcj (by omega),qg (show j<9223372036854775807 by omega),qg (show i<9223372036854775807 by omega)] at *)
 all_goals first
  | exact hn.symm
  | omega
  | (rw [jp];omega)
  | exact ⟨rfl,rfl⟩
  | exact qn (z:=(0:Int)) (by omega)
  | (have hpj:p (l.getD j 0)=false:=by assumption
     refine ⟨(ih (j+1,c.set i (l.getD j 0),i+1) ⟨by show j+1<=n;omega,by show i+1<j+1;omega,by show (c.set i (l.getD j 0)).length=n;rw [List.length_set];exact hcl,?_,?_⟩ (by show n-(j+1)<n-j;omega)).same rfl ⟨rfl,rfl,rfl⟩⟩
     . show (c.set i (l.getD j 0)).take (i+1)=tt (j+1)
       rw [qmD _ (by omega),hct,hst j (by omega),hpj];rfl
     . show (c.set i (l.getD j 0)).drop (j+1)=l.drop (j+1)
       rw [List.drop_set_of_lt (by omega),qfk hcd])
  | (have hpj:p (l.getD j 0)=true:=by assumption
     refine ⟨(ih (j+1,c,i) ⟨by show j+1<=n;omega,by show i<j+1;omega,hcl,?_,?_⟩ (by show n-(j+1)<n-j;omega)).same rfl ⟨rfl,rfl,rfl⟩⟩
     . show c.take i=tt (j+1)
       rw [hct,hst j (by omega),hpj,if_pos rfl,List.append_nil]
     . show c.drop (j+1)=l.drop (j+1)
       exact qfk hcd)
  | (have e:j=n:=by omega
     subst e
     have hmi:m=i:=by rw [hm,<-hkt,<-hil]
     have e2:dl=kY c i (j-i) 0:=by rw [qla hcl (by omega),hct,hkt,hdl,hmi]
     subst hmi
     rw [e2]
     refine ⟨?_,?_,?_⟩<;>rfl)
  | skip
def kA (q:Nat->Bool)(i:Nat):List Int:=((List.range i).filter q).map fun (j:Nat)=>(j:Int)
theorem vE {q:Nat->Bool}{i:Nat}(h:q i=true):kA q (i+1)=kA q i++[(i:Int)]:=by
 simp only [kA,List.range_succ,List.filter_append,List.map_append,List.filter_cons,List.filter_nil,h,if_true,List.map_cons,List.map_nil]
theorem Wc {q:Nat->Bool}{i:Nat}(h:q i=false):kA q (i+1)=kA q i:=by
 simp only [kA,List.range_succ,List.filter_append,List.map_append,List.filter_cons,List.filter_nil,h,Bool.false_eq_true,if_false,List.map_nil,List.append_nil]
theorem QX (q:Nat->Bool)(i:Nat):(kA q i).length<=i:=by
 simp only [kA,List.length_map]
 exact Nat.le_trans (List.length_filter_le _ _) (by simp)
theorem vm {q:Nat->Bool}{n:Nat}{x:Int}(h:x∈kA q n):0<=x/\x<n/\q x.toNat=true:=by
 simp only [kA,List.mem_map,List.mem_filter,List.mem_range] at h
 obtain ⟨j,⟨h1,h2⟩,rfl⟩:=h
 exact ⟨by omega,by omega,by simpa using h2⟩
theorem qd4 (q:Nat->Bool)(p:Int->Bool)(n:Nat):(kA q n).filter p=kA (fun j=>q j&&p j) n:=by
 simp only [kA,List.filter_map,List.filter_filter]
 congr 1
 congr 1
 funext j
 simp [Function.comp,Bool.and_comm]
def chQ (ts:List Tie)(i:Nat):Bool:=decide (0<i)&&decide (Jm ts i<0)
def chL (t:ql):List Int:=kA (chQ t.ties) t.nodes.length
def enP (t:ql)(x:qf)(i:Int):Bool:=decide (x.times.getD i.toNat 0=-1)&&decide (nsI t x i=1)
def enL (t:ql)(x:qf):List Int:=(chL t).filter (enP t x)
theorem qe3 (q:Tie)(x:Int):qe Tryz.prog 172 [y8 q,(false,[.ptr [.int .i64 x]])] (rB (q.free&&q.dst == x)):=by
 refine qe.of qc (fn:=Tryz.f172) (c:=Tryz.f172.body.getD .skip) (dr:=fun n=>qa 0 [] n) Tryz.func172 rfl (by kernel_rfl) (by kernel_rfl) (by kernel_rfl) ?_
 obtain ⟨x1,x2,x3,x4,x5⟩:=q
 refine SEx.go (X:=XX) qc (fun n=>qa [] [] n) (fun _=>none) qd 60 ?_
 intro M R L N m0 m1 m2 m3 m4 m5
 cases M
 cbv
 repeat' first | refine m1 _ _ ?_ ?_ | refine m2 _ _ fun h=>?_ | refine m3 _ ?_ | (refine m4 _ _ (Hd.out ?_);try first | rw [hks] | rw [hk2] | rw [hk3]) | (refine m5 _ _ ?_;cbv)
 all_goals (clear m1 m2 m3 m4 m5;cases m0;(try clear hks;try clear hk2;try clear hk3);try dsimp only)
 all_goals try simp only [sm] at *
 all_goals (refine qM ?_ _;simp_all;done)
theorem qhO (t:ql)(x:Int)(h1:t.ties.length<=maxLen):qe Tryz.prog 154 [qQ t,aI x] (rI (Jm t.ties x)):=by
 refine qe.of qc (fn:=Tryz.f154) (c:=Tryz.f154.body.getD .skip) (dr:=fun n=>qa 0 [] n) Tryz.func154 rfl (by kernel_rfl) (by kernel_rfl) (by kernel_rfl) ?_
 obtain ⟨f,hf⟩:∃ f,f=Jm:=⟨_,rfl⟩
 have hO:qp Tryz.prog (qJ [(148,w2 K8 (qry 172 false dcI fun _=>rfl) (fun l x=>rI (f l x)) (fun l x=>[LLe l maxLen]))]):=by
  subst hf
  exact qb (qE fun l x h=>wg l 172 [.ptr [.int .i64 x]] (fun q=>q.free&&q.dst == x) (fun q _=>qe3 q x) (h _ (.head _)).out) qd
 obtain ⟨ns,ts,hr⟩:=t
 rw [<-hf]
 refine SEx.go (X:=XX) qc (fun n=>qa [] [] n) (fun _=>none) hO 60 ?_
 intro M R L N m0 m1 m2 m3 m4 m5
 cases M
 cbv
 repeat' first | refine m1 _ _ ?_ ?_ | refine m2 _ _ fun h=>?_ | refine m3 _ ?_ | (refine m4 _ _ (Hd.out ?_);try first | rw [hks] | rw [hk2] | rw [hk3]) | (refine m5 _ _ ?_;cbv)
 all_goals (clear m1 m2 m3 m4 m5;cases m0;(try clear hks;try clear hk2;try clear hk3);try dsimp only)
 all_goals try simp only [sm] at *
 all_goals first
  | exact ⟨h1⟩
  | rfl
  | skip
theorem qkX:qy Tryz.prog 154 (qek Jm):=qE fun t x h=>qhO t x (h _ (.head _)).out
theorem qmx (t:ql)(h1:t.ties.length<=maxLen)(h2:1<=t.nodes.length/\t.nodes.length<=7):qe Tryz.prog 135 [qQ t] (rUs (chL t)):=by
 refine qe.of qc (fn:=Tryz.f135) (c:=Tryz.f135.body.getD .skip) (dr:=fun n=>qa 0 [] n) Tryz.func135 rfl (by kernel_rfl) (by kernel_rfl) (by kernel_rfl) ?_
 obtain ⟨f,hf⟩:∃ f,f=Jm:=⟨_,rfl⟩
 have hO:qp Tryz.prog (qJ [(154,qek f)]):=by subst hf;exact qb qkX qd
 obtain ⟨ns,ts,hr⟩:=t
 dsimp only at h1 h2
 obtain ⟨q,hq⟩:∃ q,q=chQ ts:=⟨_,rfl⟩
 obtain ⟨r,hrr⟩:∃ r,r=chL ⟨ns,ts,hr⟩:=⟨_,rfl⟩
 rw [<-hrr]
 have hrr:r=kA q ns.length:=by rw [hrr,hq];rfl
 have hq0:q 0=false:=by rw [hq];rfl
 have hqs:∀ j:Nat,q (j+1)=decide (f ts ((j+1:Nat):Int)<0):=fun j=>by rw [hq,hf];unfold chQ;rw [decide_eq_true (Nat.succ_pos j),Bool.true_and]
 clear hq
 obtain ⟨m,hm⟩:∃ m,m=ns.length:=⟨_,rfl⟩
 rw [<-hm] at h2 hrr
 refine SEx.go (X:=XX) qc (fun n=>qa [] [(3,[1,3,4])] n) (fun _=>none) hO 60 ?_
 intro M R L N m0 m1 m2 m3 m4 m5
 cases M
 cbv
 repeat' first | refine m1 _ _ ?_ ?_ | refine m2 _ _ fun h=>?_ | refine m3 _ ?_ | (refine m4 _ _ (Hd.out ?_);generalize hks:(List.cons _ _:List K)=ks) | (refine m5 _ _ ?_;cbv)
 all_goals (clear m1 m2 m3 m4 m5;cases m0;try dsimp only)
 all_goals try simp only [sm] at *
 refine ⟨SEx.same (SEx.idx (m-1) (fun j=>⟨21,[(1,bP 4096),(3,bR 12288 (kA q (j+1)).length),(4,bI (j+1:Nat))],[(4096,.obx [.fz (.sl (.node false none ns)),.fz (.sl (.tie ts)),.fz (.int .i64 hr)]),(12288,.osl (.i (kA q (j+1))))]⟩) (fun _=>rUs r) ?_) (by rw [Wc hq0];rfl) rfl⟩
 intro j hj ih
 rw [<-hks]
 obtain ⟨u,hu⟩:∃ u,u=kA q (j+1):=⟨_,rfl⟩
 have hul:u.length<=j+1:=by rw [hu];exact QX _ _
 rw [<-hu]
 obtain ⟨n,hn⟩:∃ n,n=u.length:=⟨_,rfl⟩
 rw [<-hn] at hul ⊢
 obtain ⟨k,hk⟩:∃ k,k=j+1:=⟨_,rfl⟩
 have hqk:q k=decide (f ts (k:Int)<0):=by rw [hk];exact hqs j
 rw [<-hk] at hul hu ih ⊢
 refine SEx.go (X:=XX) qc (fun n=>qa [] [(3,[1,3,4])] n) (fun _=>none) hO 60 ?_
 intro M R L N m0 m1 m2 m3 m4 m5
 cases M
 cbv
 repeat' first | refine m1 _ _ ?_ ?_ | refine m2 _ _ fun h=>?_ | refine m3 _ ?_ | (refine m4 _ _ (Hd.out ?_);try first | rw [hks] | rw [hk2] | rw [hk3]) | (refine m5 _ _ ?_;cbv)
 all_goals (clear m1 m2 m3 m4 m5;cases m0;(try clear hks;try clear hk2;try clear hk3);try dsimp only)
 all_goals try simp only [sm] at *
 all_goals try simp only [List.length_append,List.length_cons,List.length_nil,List.length_set] at *
 all_goals (try omega)
 all_goals (try (have:=zB;omega))
 all_goals (try simp only [qg (show k<9223372036854775807 by omega)])
 all_goals first
  | exact ⟨h1⟩
  | (have ih':=ih (by omega)
     rw [vE (by rw [hqk];exact decide_eq_true (by assumption)),<-hu,List.length_append] at ih'
     exact ⟨ih'.same rfl rfl⟩)
  | (have ih':=ih (by omega)
     rw [Wc (by rw [hqk];exact decide_eq_false (by omega)),<-hu,<-hn] at ih'
     exact ⟨ih'.same rfl rfl⟩)
  | (have e:k=m:=by omega
     rw [hrr,<-e,hu];rfl)
  | skip
structure StV (t:ql)(x:qf):Prop where
 sh:za t=true
 vals:qS x.vals=true
theorem qaT (t:ql)(x:qf)(i:Int)(hs:kd t x)(h:StV t x)(hi:0<=i/\i<t.nodes.length):qe Tryz.prog 128 [qQ t,qH x,aI i] (rI (nsI t x i)):=by
 refine qe.of qc (fn:=Tryz.f128) (c:=Tryz.f128.body.getD .skip) (dr:=fun n=>qa 0 [(1,8)] n) Tryz.func128 rfl (by kernel_rfl) (by kernel_rfl) (by kernel_rfl) ?_
 have h1:=kM h.sh (qn (z:=qi.z) (show i.toNat<t.nodes.length by omega)).out
 have h2:=h.vals
 have h3:=hs.sh.nodes _ (qn (z:=qi.z) (show i.toNat<t.nodes.length by omega)).out
 have h4:=hs.st.vlen
 unfold nsI nd
 obtain ⟨f,hf⟩:∃ f:List Int->List Int->Int,f=fun l v=>if qW l=true/\qS v=true then ZP v l 1 else -1:=⟨_,rfl⟩
 have hO:qp Tryz.prog (qJ [(149,w2 zX zX (fun l v=>rI (f l v)) (fun l v=>[Z9 l,LLe v maxLen]))]):=by
  subst hf
  exact qb (qE fun l v h=>Kz l v (h _ (.head _)) (h _ (.tail _ (.head _))).out) qd
 have he:f (t.nodes.getD i.toNat qi.z).label x.vals=ZP x.vals (t.nodes.getD i.toNat qi.z).label 1:=by rw [hf];exact if_pos ⟨h1,h2⟩
 rw [<-he]
 clear hs h hf he
 obtain ⟨ns,ts,hr⟩:=t
 obtain ⟨now,times,vals⟩:=x
 dsimp only at hi h1 h2 h3 h4
 refine SEx.go (X:=XX) qc (fun n=>qa [] [] n) (fun _=>none) hO 60 ?_
 intro M R L N m0 m1 m2 m3 m4 m5
 cases M
 cbv
 repeat' first | refine m1 _ _ ?_ ?_ | refine m2 _ _ fun h=>?_ | refine m3 _ ?_ | (refine m4 _ _ (Hd.out ?_);try first | rw [hks] | rw [hk2] | rw [hk3]) | (refine m5 _ _ ?_;cbv)
 all_goals (clear m1 m2 m3 m4 m5;cases m0;(try clear hks;try clear hk2;try clear hk3);try dsimp only)
 all_goals try simp only [sm] at *
 all_goals first
  | omega
  | exact ⟨h3.len,h3.all⟩
  | exact ⟨h4⟩
  | rfl
  | skip
def qes (f:ql->qf->Int->Int):Wr:=w3 qN qF dcI (fun t x i=>rI (f t x i)) (fun t x i=>[kd t x,StV t x,InX i t.nodes])
theorem qev:qy Tryz.prog 128 (qes nsI):=jv fun t x i h=>qaT t x i (h _ (.head _)) (h _ (.tail _ (.head _))) (h _ (.tail _ (.tail _ (.head _)))).out
theorem qf2 (i:Int)(t:ql)(x:qf)(hs:kd t x)(h:StV t x)(hl:x.times.length=t.nodes.length)(hi:0<=i/\i<t.nodes.length):qe Tryz.prog 136 [aI i,(false,[.ptr x.d]),(false,[.ptr t.d])] (rB (!enP t x i)):=by
 refine qe.of qc (fn:=Tryz.f136) (c:=Tryz.f136.body.getD .skip) (dr:=fun n=>qa 0 [] n) Tryz.func136 rfl (by kernel_rfl) (by kernel_rfl) (by kernel_rfl) ?_
 obtain ⟨f,hf⟩:∃ f,f=nsI:=⟨_,rfl⟩
 have hO:qp Tryz.prog (qJ [(128,qes f)]):=by subst hf;exact qb qev qd
 unfold enP
 rw [<-hf]
 clear hf
 obtain ⟨ns,ts,hr⟩:=t
 obtain ⟨now,times,vals⟩:=x
 dsimp only at hl hi
 refine SEx.go (X:=XX) qc (fun n=>qa [] [] n) (fun _=>none) hO 60 ?_
 intro M R L N m0 m1 m2 m3 m4 m5
 cases M
 cbv
 repeat' first | refine m1 _ _ ?_ ?_ | refine m2 _ _ fun h=>?_ | refine m3 _ ?_ | (refine m4 _ _ (Hd.out ?_);try first | rw [hks] | rw [hk2] | rw [hk3]) | (refine m5 _ _ ?_;cbv)
 all_goals (clear m1 m2 m3 m4 m5;cases m0;(try clear hks;try clear hk2;try clear hk3);try dsimp only)
 all_goals try simp only [sm] at *
 all_goals first
  | omega
  | exact hs
  | exact h
  | exact ⟨hi⟩
  | (refine qM ?_ _;rw [decide_eq_false (by assumption)];rfl)
  | (refine qM ?_ _;rw [decide_eq_true (by assumption),Bool.true_and];generalize f _ _ i=v;by_cases hv:v=1<;>simp [hv];done)
  | skip
structure ChT (t:ql):Prop where
 len:t.ties.length<=maxLen
 nod:1<=t.nodes.length/\t.nodes.length<=7
def qiH (f:ql->List Int):Wr:=w1 qN (fun t=>rUs (f t)) (fun t=>[ChT t])
theorem qgF:qy Tryz.prog 135 (qiH chL):=zx fun t h=>qmx t (h _ (.head _)).len (h _ (.head _)).nod
structure qsN (p:SP)(n m:Nat)(l l0:List Int)(g' g:Nat)(a' a b' b:List D):Prop where out:p=(lrt 0,[])/\m=n/\l.length=n/\l=l0/\g'=g/\a'=a/\b'=b
def qqt (g:Nat)(a b:List D)(l0:List Int)(k d:List Int->List Int)(ln:List Int->Nat):WrW
 | [(false,[.rf p true 0 n]),(false,[.clo g' [.fz (.ptr a'),.fz (.ptr b')]])],[(.sl m,.osl (.i l))]=>some ([qsN p n m l l0 g' g a' a b' b],(.v (false,[.rf (lrt 0,[]) false 0 (ln (k l))]),[(lrt 0,.osl (.i (d l)))],[.rf (lrt 0,[]) true 0 n]))
 | _,_=>none
theorem qqA {g:Nat}{a b:List D}{l0:List Int}{p:Int->Bool}(hp:∀ q∈l0,qe Tryz.prog g [aI q,(false,[.ptr a]),(false,[.ptr b])] (rB (p q)))(h1:l0.length<=maxLen) :
 vF Tryz.prog 49 (qqt g a b l0 (z8 p) (Yo p) List.length):=by
 intro xs ls
 unfold qqt
 split
 . refine R.Sim.mk fun hq=>?_
   obtain ⟨rfl,rfl,rfl,rfl,rfl,rfl,rfl⟩:=(hq _ (.head _)).out
   exact Vn _ _ _ _ p hp h1
 . exact R.Sim.none'
theorem qoF (p:Int->Bool)(l:List Int):(Yo p l).length=l.length:=by
 have:(z8 p l).length<=l.length:=List.length_filter_le _ _
 unfold Yo
 rw [List.length_append,List.length_replicate]
 omega
theorem qlp (p:Int->Bool)(l:List Int):((Yo p l).drop 0).take (z8 p l).length=z8 p l:=by
 rw [List.drop_zero]
 unfold Yo
 rw [List.take_left]
theorem qmz (p:Int->Bool)(l:List Int):z8 (fun i=>!p i) l=l.filter p:=by
 unfold z8
 congr 1
 funext x
 simp
theorem qfa {P:Program}{g:FuncId}{args:List (V1 A)}{tb tb':List (Nat×O)}{ph ph':List A}{p:qj}{off:Nat}(h:Vs P g args tb ph (.v (false,[.rf p off 0])) tb' ph'):Vs P g args tb ph (.v (false,[.fz (.sl [])])) tb' ph':=by
 refine ⟨h.1,fun J w σ vals hfut hold hsz ha hin=>(h.2 J w σ vals hfut hold hsz ha hin).mono ?_⟩
 rintro e w' ⟨v,σ',he,ho⟩
 letI:=J
 refine ⟨v,σ',he,ho.goes,ho.back,?_⟩
 have hr:qm w' σ' (.rf p off 0) v:=ho.res
 show qm w' σ' (.fz (.sl [])) v
 cases hr with
 | rz _ _ b=>exact .fz _ _ (.sl [] 0 b 0 (fun _ _=>undef) (Nat.le_refl _) (by simp) (by simp) (by simp) (by simp))
 | rf _ _ _ g n cap sz hg hl hn=>exact .fz _ _ (.sl [] 0 _ _ (fun _ _=>undef) (Nat.zero_le _) (by simp) (by simp) (by simp) (by simp))
theorem qcz (l:List Int)(g:FuncId)(a b:List D)(p:Int->Bool)(hp:∀ q∈l,qe Tryz.prog g [aI q,(false,[.ptr a]),(false,[.ptr b])] (rB (p q)))(h1:l.length<=maxLen)(h0:z8 p l=[]) :
 zY Tryz.prog 49 [wR l.length,(false,[.clo g [.fz (.ptr a),.fz (.ptr b)]])] [(lrt 0,.osl (.i l))] [.rf (lrt 0,[]) true 0 l.length]
  (.v (false,[.fz (.sl (.i []))])) [(lrt 0,.osl (.i (Yo p l)))] [.rf (lrt 0,[]) true 0 l.length]:=by
 have:=Vn l g a b p hp h1
 rw [h0] at this
 exact qfa this
def qjv (g:Nat)(a b:List D)(l0:List Int)(d:List Int->List Int):WrW
 | [(false,[.rf p true 0 n]),(false,[.clo g' [.fz (.ptr a'),.fz (.ptr b')]])],[(.sl m,.osl (.i l))]=>some ([qsN p n m l l0 g' g a' a b' b],(.v (false,[.fz (.sl (.i []))]),[(lrt 0,.osl (.i (d l)))],[.rf (lrt 0,[]) true 0 n]))
 | _,_=>none
theorem qnz {g:Nat}{a b:List D}{l0:List Int}{p:Int->Bool}(hp:∀ q∈l0,qe Tryz.prog g [aI q,(false,[.ptr a]),(false,[.ptr b])] (rB (p q)))(h1:l0.length<=maxLen)(h0:z8 p l0=[]) :
 vF Tryz.prog 49 (qjv g a b l0 (Yo p)):=by
 intro xs ls
 unfold qjv
 split
 . refine R.Sim.mk fun hq=>?_
   obtain ⟨rfl,rfl,rfl,rfl,rfl,rfl,rfl⟩:=(hq _ (.head _)).out
   exact qcz _ _ _ _ p hp h1 h0
 . exact R.Sim.none'
def rE:TV W:=.v (false,[.fz (.sl (.i []))])
def rEn:List Int->TV W
 | []=>rE
 | a::l=>rUs (a::l)
theorem yB (t:ql)(x:qf)(hs:kd t x)(h:StV t x)(hl:x.times.length=t.nodes.length):qe Tryz.prog 110 [qQ t,qH x] (rEn (enL t x)):=by
 refine qe.of qc (fn:=Tryz.f110) (c:=Tryz.f110.body.getD .skip) (dr:=fun n=>qa 0 [] n) Tryz.func110 rfl (by kernel_rfl) (by kernel_rfl) (by kernel_rfl) ?_
 have hn:=qI h.sh
 have htl:=hs.sh.tlen
 obtain ⟨f0,hf0⟩:∃ f,f=chL:=⟨_,rfl⟩
 have hO:qp Tryz.prog (qJ [(135,qiH f0)]):=by subst hf0;exact qb qgF qd
 obtain ⟨l0,hl0⟩:∃ l,l=f0 t:=⟨_,rfl⟩
 have hmem:∀ q∈l0,0<=q/\q<t.nodes.length:=fun q hq=>by
  rw [hl0,hf0] at hq
  have:=vm hq
  exact ⟨this.1,this.2.1⟩
 have hl7:l0.length<=maxLen:=by
  have:l0.length<=t.nodes.length:=by rw [hl0,hf0];exact QX _ _
  unfold maxLen
  omega
 have he:enL t x=z8 (fun i=>!enP t x i) l0:=by rw [qmz,hl0,hf0];rfl
 have hc:=fun q hq=>qf2 q t x hs h hl (hmem q hq)
 obtain ⟨p,hp⟩:∃ p,p=fun i=>!enP t x i:=⟨_,rfl⟩
 rw [<-hp] at he
 have hc:∀ q∈l0,qe Tryz.prog 136 [aI q,(false,[.ptr x.d]),(false,[.ptr t.d])] (rB (p q)):=fun q hq=>by rw [hp];exact hc q hq
 rw [he]
 clear he hp hmem
 have hDl:=qoF p l0
 have hDt:=qlp p l0
 obtain ⟨ns,ts,hr⟩:=t
 obtain ⟨now,times,vals⟩:=x
 obtain ⟨d,hd⟩:∃ d,d=Yo p:=⟨_,rfl⟩
 cases hkp:z8 p l0 with
 | nil =>
   have hW:q8 Tryz.prog ((XX.withF [2,3,4]).withW [(49,[(0,0)])] (kH [(49,qjv 136 [.int .i64 now,.sl (.i times),.sl (.i vals)] [.sl (.node false none ns),.sl (.tie ts),.int .i64 hr] l0 d)])):=by
    subst hd
    exact SX.withW_ok (zT (qnz hc hl7 hkp) jm)
   rw [<-hd] at hDl
   refine SEx.go (X:=((XX.withF [2,3,4]).withW [(49,[(0,0)])] (kH [(49,qjv 136 [.int .i64 now,.sl (.i times),.sl (.i vals)] [.sl (.node false none ns),.sl (.tie ts),.int .i64 hr] l0 d)]))) qc (fun n=>qa [] [] n) (fun _=>none) hO 60 ?_ hW
   intro M R L N m0 m1 m2 m3 m4 m5
   cases M
   cbv
   repeat' first | refine m1 _ _ ?_ ?_ | refine m2 _ _ fun h=>?_ | refine m3 _ ?_ | (refine m4 _ _ (Hd.out ?_);try first | rw [hks] | rw [hk2] | rw [hk3]) | (refine m5 _ _ ?_;cbv)
   all_goals (clear m1 m2 m3 m4 m5;cases m0;(try clear hks;try clear hk2;try clear hk3);try dsimp only)
   all_goals try simp only [sm] at *
   all_goals (clear hW hO)
   all_goals first
    | exact ⟨htl,hn⟩
    | rfl
    | exact ⟨⟨rfl,rfl,rfl,hl0.symm,rfl,rfl,rfl⟩⟩
    | (rw [<-hl0];exact hDl.symm)
    | skip
 | cons k0 kr =>
   rw [hkp] at hDt
   obtain ⟨k,hk⟩:∃ k,k=z8 p:=⟨_,rfl⟩
   rw [<-hk] at hkp
   obtain ⟨ln,hln⟩:∃ f:List Int->Nat,f=List.length:=⟨_,rfl⟩
   have hlk:ln (k l0)=(k0::kr).length:=by rw [hln,hkp]
   have hkl:(k0::kr).length<=l0.length:=by rw [<-hkp,hk];exact List.length_filter_le _ _
   have hW:q8 Tryz.prog ((XX.withF [2,3,4]).withW [(49,[(0,0)])] (kH [(49,qqt 136 [.int .i64 now,.sl (.i times),.sl (.i vals)] [.sl (.node false none ns),.sl (.tie ts),.int .i64 hr] l0 k d ln)])):=by
    subst hk hd hln
    exact SX.withW_ok (zT (qqA hc hl7) jm)
   rw [<-hd] at hDt hDl
   clear hk hln
   refine SEx.go (X:=((XX.withF [2,3,4]).withW [(49,[(0,0)])] (kH [(49,qqt 136 [.int .i64 now,.sl (.i times),.sl (.i vals)] [.sl (.node false none ns),.sl (.tie ts),.int .i64 hr] l0 k d ln)]))) qc (fun n=>qa [] [] n) (fun _=>none) hO 60 ?_ hW
   intro M R L N m0 m1 m2 m3 m4 m5
   cases M
   cbv
   repeat' first | refine m1 _ _ ?_ ?_ | refine m2 _ _ fun h=>?_ | refine m3 _ ?_ | (refine m4 _ _ (Hd.out ?_);try first | rw [hks] | rw [hk2] | rw [hk3]) | (refine m5 _ _ ?_;cbv)
   all_goals (clear m1 m2 m3 m4 m5;cases m0;(try clear hks;try clear hk2;try clear hk3);try dsimp only)
   all_goals try simp only [sm] at *
   all_goals (clear hW hO)
   all_goals (try simp only [<-hl0,hlk,hDl,Nat.zero_add])
   all_goals first
    | exact ⟨htl,hn⟩
    | exact ⟨⟨rfl,rfl,rfl,rfl,rfl,rfl,rfl⟩⟩
    | exact hkl
    | (simp;done)
    | (rw [hDt];done)
    | (rw [hDt];rfl)
    | skip
theorem qan (t:ql)(x:qf)(hs:kd t x)(h:StV t x)(hl:x.times.length=t.nodes.length):qe Tryz.prog 70 [qQ t,qH x] (rUs (enL t x)):=by
 refine qe.of qc (fn:=Tryz.f70) (c:=Tryz.f70.body.getD .skip) (dr:=fun n=>qa 0 [] n) Tryz.func70 rfl (by kernel_rfl) (by kernel_rfl) (by kernel_rfl) ?_
 have hn:=qI h.sh
 have htl:=hs.sh.tlen
 obtain ⟨f1,hf1⟩:∃ f,f=qkB:=⟨_,rfl⟩
 obtain ⟨f2,hf2⟩:∃ f,f=Jm:=⟨_,rfl⟩
 have hO:qp Tryz.prog (qJ [(108,QO f1),(107,qek f2)]):=by
  subst hf1 hf2
  exact qb jI (qb qbF qd)
 have hv:=h.vals
 have hlb:∀ n∈t.nodes,qW n.label=true:=fun n hn=>kM h.sh hn
 have he:enL t x=kA (fun j=>chQ t.ties j&&enP t x j) t.nodes.length:=by unfold enL chL;rw [qd4]
 rw [he]
 obtain ⟨ns,ts,hr⟩:=t
 obtain ⟨now,times,vals⟩:=x
 dsimp only at hl hn htl hv hlb ⊢
 obtain ⟨q,hq⟩:∃ q,q=fun j:Nat=>chQ ts j&&enP ⟨ns,ts,hr⟩ ⟨now,times,vals⟩ j:=⟨_,rfl⟩
 have hqd:∀ j:Nat,q j=(decide (0<j)&&decide (f2 ts (j:Int)<0)&&(decide (times.getD j 0=-1)&&decide (f1 (ns.getD j qi.z).label vals=1))):=fun j=>by rw [hq,hf1,hf2];rfl
 rw [show kA (fun j:Nat=>chQ ts j&&enP ⟨ns,ts,hr⟩ ⟨now,times,vals⟩ j) ns.length=kA q ns.length by rw [hq]]
 clear hq he hs h
 obtain ⟨m,hm⟩:∃ m,m=ns.length:=⟨_,rfl⟩
 rw [<-hm] at hl hn ⊢
 refine SEx.go (X:=XX) qc (fun n=>qa [] [(3,[2,3,5,10,11,12])] n) (fun _=>none) hO 60 ?_
 intro M R L N m0 m1 m2 m3 m4 m5
 cases M
 cbv
 repeat' first | refine m1 _ _ ?_ ?_ | refine m2 _ _ fun h=>?_ | refine m3 _ ?_ | (refine m4 _ _ (Hd.out ?_);generalize hks:(List.cons _ _:List K)=ks) | (refine m5 _ _ ?_;cbv)
 all_goals (clear m1 m2 m3 m4 m5;cases m0;try dsimp only)
 all_goals try simp only [sm] at *
 refine ⟨SEx.same (SEx.idx m (fun i=>⟨47,[(2,bP 8192),(3,bP 12288),(5,bR 20480 (kA q i).length),(10,bL (.node false none ns)),(11,bI m),(12,bI i)],[(8192,.obx [.fz (.sl (.node false none ns)),.fz (.sl (.tie ts)),.fz (.int .i64 hr)]),(12288,.obx [.fz (.int .i64 now),.fz (.sl (.i times)),.fz (.sl (.i vals))]),(20480,.osl (.i (kA q i)))]⟩) (fun _=>rUs (kA q m)) ?_) (by rw [hm];rfl) rfl⟩
 intro i hi ih
 rw [<-hks]
 obtain ⟨u,hu⟩:∃ u,u=kA q i:=⟨_,rfl⟩
 have hul:u.length<=i:=by rw [hu];exact QX _ _
 rw [<-hu]
 obtain ⟨n,hnn⟩:∃ n,n=u.length:=⟨_,rfl⟩
 rw [<-hnn] at hul ⊢
 have hyes:0<i->f2 ts (i:Int)<0->times.getD i 0=-1->f1 (ns.getD i qi.z).label vals=1->q i=true:=fun a b c d=>by rw [hqd,decide_eq_true a,decide_eq_true b,decide_eq_true c,decide_eq_true d];rfl
 have hno:(¬0<i\/¬f2 ts (i:Int)<0\/¬times.getD i 0=-1\/¬f1 (ns.getD i qi.z).label vals=1)->q i=false:=fun h=>by
  rw [hqd]
  rcases h with h | h | h | h<;>rw [decide_eq_false h]<;>simp
 clear hqd
 refine SEx.go (X:=XX) qc (fun n=>qa [] [(3,[2,3,5,10,11,12])] n) (fun _=>none) hO 60 ?_
 intro M R L N m0 m1 m2 m3 m4 m5
 cases M
 cbv
 repeat' first | refine m1 _ _ ?_ ?_ | refine m2 _ _ fun h=>?_ | refine m3 _ ?_ | (refine m4 _ _ (Hd.out ?_);try first | rw [hks] | rw [hk2] | rw [hk3]) | (refine m5 _ _ ?_;cbv)
 all_goals (clear m1 m2 m3 m4 m5;cases m0;(try clear hks;try clear hk2;try clear hk3);try dsimp only)
 all_goals try simp only [sm] at *
 all_goals try simp only [List.length_append,List.length_cons,List.length_nil,List.length_set] at *
 all_goals (try omega)
 all_goals (try (have:=zB;omega))
 all_goals (try simp only [qg (show i<9223372036854775807 by omega)])
 all_goals first
  | exact ⟨htl⟩
  | exact ⟨hv⟩
  | exact ⟨hlb _ (qn (z:=qi.z) (by omega)).out⟩
  | (have ih':=ih (by omega)
     rw [vE (hyes (by omega) (by assumption) (by assumption) (by assumption)),<-hu,List.length_append] at ih'
     exact ⟨ih'.same rfl rfl⟩)
  | (have ih':=ih (by omega)
     rw [Wc (hno (by first | (left;omega) | (right;left;assumption) | (right;left;omega) | (right;right;left;assumption) | (right;right;right;assumption))),<-hu,<-hnn] at ih'
     exact ⟨ih'.same rfl rfl⟩)
  | (obtain rfl:i=m:=by omega
     rw [hu];rfl)
  | skip
end Go.Proofs.YtifnopmkdempdaaGreat.Ai
namespace Go.Proofs.YtifnopmkdempdaaGreat.Ai
open Go
set_option maxRecDepth 100000
variable [qh]
theorem qrb {l:List Int}(h:l≠[]):rEn l=rUs l:=by cases l with | nil=>exact absurd rfl h | cons a l=>rfl
structure EnT (t:ql)(x:qf):Prop where
 le:kd t x
 v:StV t x
 tl:x.times.length=t.nodes.length
structure qsH (t:ql)(x:qf):Prop where
 e:EnT t x
 ne:enL t x≠[]
structure qsw (t:ql)(x:qf):Prop where
 e:EnT t x
 no:enL t x=[]
def qsO (f:ql->qf->List Int):Wr:=w2 qN qF (fun t x=>rUs (f t x)) (fun t x=>[qsH t x])
theorem qqf:qy Tryz.prog 110 (qsO enL):=qE fun t x h=>by
 have h:=h _ (.head _)
 rw [<-qrb h.ne]
 exact yB t x h.e.le h.e.v h.e.tl
def qsQ:Wr:=w2 qN qF (fun t x=>rE) (fun t x=>[qsw t x])
theorem qpJ:qy Tryz.prog 110 qsQ:=qE fun t x h=>by
 have h:=h _ (.head _)
 have:=yB t x h.e.le h.e.v h.e.tl
 rw [h.no] at this
 exact this
def qrM (f:ql->qf->List Int):Wr:=w2 qN qF (fun t x=>rUs (f t x)) (fun t x=>[EnT t x])
theorem qjV:qy Tryz.prog 70 (qrM enL):=qE fun t x h=>by
 have h:=h _ (.head _)
 exact qan t x h.le h.v h.tl
end Go.Proofs.YtifnopmkdempdaaGreat.Ai
namespace Go.Proofs.YtifnopmkdempdaaGreat.Ai
open Go
set_option maxRecDepth 100000
variable [qh]
def btS (s:Int)(i:Nat):Bool:=decide (IntKind.i64.wrap (((BitVec.ofInt IntKind.i64.bits (s.fdiv (2 ^ min i IntKind.i64.bits)) &&& BitVec.ofInt IntKind.i64.bits 1).toNat:Nat):Int)=1)
def ZJ (l:List Int)(s:Int)(i:Nat):List Int:=((List.range i).filter (btS s)).map fun j=>l.getD j 0
def QE (l:List Int)(s:Int):List Int:=ZJ l s l.length
theorem qdz {l:List Int}{s:Int}{i:Nat}(h:btS s i=true):ZJ l s (i+1)=ZJ l s i++[l.getD i 0]:=by
 simp only [ZJ,List.range_succ,List.filter_append,List.map_append,List.filter_cons,List.filter_nil,h,if_true,List.map_cons,List.map_nil]
theorem qi8 {l:List Int}{s:Int}{i:Nat}(h:btS s i=false):ZJ l s (i+1)=ZJ l s i:=by
 simp only [ZJ,List.range_succ,List.filter_append,List.map_append,List.filter_cons,List.filter_nil,h,Bool.false_eq_true,if_false,List.map_nil,List.append_nil]
theorem KO (l:List Int)(s:Int)(i:Nat):(ZJ l s i).length<=i:=by
 simp only [ZJ,List.length_map]
 exact Nat.le_trans (List.length_filter_le _ _) (by simp)
theorem Jr (l:List Int)(s:Int)(h1:l.length<=1048576):qe Tryz.prog 111 [aIs l,aI s] (rUs (QE l s)):=by
 refine qe.of qc (fn:=Tryz.f111) (c:=Tryz.f111.body.getD .skip) (dr:=fun n=>qa 0 [] n) Tryz.func111 rfl (by kernel_rfl) (by kernel_rfl) (by kernel_rfl) ?_
 refine SEx.go (X:=XX) qc (fun n=>qa [] [(3,[1,5,8,9,10])] n) (fun _=>none) qd 60 ?_
 intro M R L N m0 m1 m2 m3 m4 m5
 cases M
 cbv
 repeat' first | refine m1 _ _ ?_ ?_ | refine m2 _ _ fun h=>?_ | refine m3 _ ?_ | (refine m4 _ _ (Hd.out ?_);generalize hks:(List.cons _ _:List K)=ks) | (refine m5 _ _ ?_;cbv)
 all_goals (clear m1 m2 m3 m4 m5;cases m0;try dsimp only)
 all_goals try simp only [sm] at *
 obtain ⟨m,hm⟩:∃ m,m=l.length:=⟨_,rfl⟩
 refine ⟨SEx.same (SEx.idx m (fun i=>⟨26,[(1,bI s),(5,bR 20480 (ZJ l s i).length),(8,bL (.i l)),(9,bI m),(10,bI i)],[(20480,.osl (.i (ZJ l s i)))]⟩) (fun _=>rUs (ZJ l s m)) ?_) (by rw [hm];rfl) (by rw [hm];rfl)⟩
 intro i hi ih
 rw [<-hks]
 obtain ⟨u,hu⟩:∃ u,u=ZJ l s i:=⟨_,rfl⟩
 have hul:u.length<=i:=by rw [hu];exact KO _ _ _
 rw [<-hu]
 obtain ⟨n,hn⟩:∃ n,n=u.length:=⟨_,rfl⟩
 rw [<-hn] at hul ⊢
 refine SEx.go (X:=XX) qc (fun n=>qa [] [(3,[1,5,8,9,10])] n) (fun _=>none) qd 60 ?_
 intro M R L N m0 m1 m2 m3 m4 m5
 cases M
 cbv
 repeat' first | refine m1 _ _ ?_ ?_ | refine m2 _ _ fun h=>?_ | refine m3 _ ?_ | (refine m4 _ _ (Hd.out ?_);try first | rw [hks] | rw [hk2] | rw [hk3]) | (refine m5 _ _ ?_;cbv)
 all_goals (clear m1 m2 m3 m4 m5;cases m0;(try clear hks;try clear hk2;try clear hk3);try dsimp only)
 all_goals try simp only [sm] at *
 all_goals try simp only [List.length_append,List.length_cons,List.length_nil,List.length_set] at *
 all_goals (try omega)
 all_goals (try (have:=zB;omega))
 all_goals (try simp only [qg (show i<9223372036854775807 by omega)])
 all_goals first
  | (have ih':=ih (by omega)
     rw [qdz (show btS s i=true by unfold btS;exact decide_eq_true (by assumption)),<-hu,List.length_append] at ih'
     exact ⟨ih'.same rfl rfl⟩)
  | (have ih':=ih (by omega)
     rw [qi8 (show btS s i=false by unfold btS;exact decide_eq_false (by assumption)),<-hu,<-hn] at ih'
     exact ⟨ih'.same rfl rfl⟩)
  | (obtain rfl:i=m:=by omega
     rw [hu];rfl)
  | skip
theorem qfI (l:List Int)(s:Int)(h1:l.length<=1048576):qe Tryz.prog 71 [aIs l,aI s] (rUs (QE l s)):=by
 refine qe.of qc (fn:=Tryz.f71) (c:=Tryz.f71.body.getD .skip) (dr:=fun n=>qa 0 [] n) Tryz.func71 rfl (by kernel_rfl) (by kernel_rfl) (by kernel_rfl) ?_
 refine SEx.go (X:=XX) qc (fun n=>qa [] [(3,[1,5,9,10,11])] n) (fun _=>none) qd 60 ?_
 intro M R L N m0 m1 m2 m3 m4 m5
 cases M
 cbv
 repeat' first | refine m1 _ _ ?_ ?_ | refine m2 _ _ fun h=>?_ | refine m3 _ ?_ | (refine m4 _ _ (Hd.out ?_);generalize hks:(List.cons _ _:List K)=ks) | (refine m5 _ _ ?_;cbv)
 all_goals (clear m1 m2 m3 m4 m5;cases m0;try dsimp only)
 all_goals try simp only [sm] at *
 obtain ⟨m,hm⟩:∃ m,m=l.length:=⟨_,rfl⟩
 refine ⟨SEx.same (SEx.idx m (fun i=>⟨28,[(1,bI s),(5,bR 20480 (ZJ l s i).length),(9,bL (.i l)),(10,bI m),(11,bI i)],[(20480,.osl (.i (ZJ l s i)))]⟩) (fun _=>rUs (ZJ l s m)) ?_) (by rw [hm];rfl) (by rw [hm];rfl)⟩
 intro i hi ih
 rw [<-hks]
 obtain ⟨u,hu⟩:∃ u,u=ZJ l s i:=⟨_,rfl⟩
 have hul:u.length<=i:=by rw [hu];exact KO _ _ _
 rw [<-hu]
 obtain ⟨n,hn⟩:∃ n,n=u.length:=⟨_,rfl⟩
 rw [<-hn] at hul ⊢
 have hwu:IntKind.u64.wrap (i:Int)=(i:Int):=Qg (by omega)
 refine SEx.go (X:=XX) qc (fun n=>qa [] [(3,[1,5,9,10,11])] n) (fun _=>none) qd 60 ?_
 intro M R L N m0 m1 m2 m3 m4 m5
 cases M
 cbv
 repeat' first | refine m1 _ _ ?_ ?_ | refine m2 _ _ fun h=>?_ | refine m3 _ ?_ | (refine m4 _ _ (Hd.out ?_);try first | rw [hks] | rw [hk2] | rw [hk3]) | (refine m5 _ _ ?_;cbv)
 all_goals (clear m1 m2 m3 m4 m5;cases m0;(try clear hks;try clear hk2;try clear hk3);try dsimp only)
 all_goals try simp only [sm] at *
 all_goals (try simp only [hwu,Int.toNat_natCast] at *)
 all_goals try simp only [List.length_append,List.length_cons,List.length_nil,List.length_set] at *
 all_goals (try omega)
 all_goals (try (have:=zB;omega))
 all_goals (try simp only [qg (show i<9223372036854775807 by omega)])
 all_goals first
  | (have ih':=ih (by omega)
     rw [qdz (show btS s i=true by unfold btS;exact decide_eq_true (by assumption)),<-hu,List.length_append] at ih'
     exact ⟨ih'.same rfl rfl⟩)
  | (have ih':=ih (by omega)
     rw [qi8 (show btS s i=false by unfold btS;exact decide_eq_false (by assumption)),<-hu,<-hn] at ih'
     exact ⟨ih'.same rfl rfl⟩)
  | (obtain rfl:i=m:=by omega
     rw [hu];rfl)
  | skip
def qh8 (f:List Int->Int->List Int):Wr:=w2 zX dcI (fun l s=>rUs (f l s)) (fun l _=>[LLe l 1048576])
theorem qfq:qy Tryz.prog 111 (qh8 QE):=qE fun l s h=>Jr l s (h _ (.head _)).out
theorem yP:qy Tryz.prog 71 (qh8 QE):=qE fun l s h=>qfI l s (h _ (.head _)).out
theorem yW {m:Nat}(h:m<=7):IntKind.i64.wrap (1 * 2 ^ min m IntKind.i64.bits)=((2 ^ m:Nat):Int):=by
 have:m=0\/m=1\/m=2\/m=3\/m=4\/m=5\/m=6\/m=7:=by omega
 rcases this with rfl | rfl | rfl | rfl | rfl | rfl | rfl | rfl<;>decide
theorem ZI {m:Nat}(h:m<=7):1<=2 ^ m/\2 ^ m<=128:=by
 have:m=0\/m=1\/m=2\/m=3\/m=4\/m=5\/m=6\/m=7:=by omega
 rcases this with rfl | rfl | rfl | rfl | rfl | rfl | rfl | rfl<;>decide
def ZE (l:List Int)(N k:Nat):List (List Int):=(List.range k).map fun j=>QE l ((N:Int)-1-(j:Nat))
theorem Wm (l:List Int)(N k:Nat):ZE l N (k+1)=ZE l N k++[QE l ((N:Int)-1-k)]:=by simp [ZE,List.range_succ]
theorem Jh (l:List Int)(N k:Nat):(ZE l N k).length=k:=by simp [ZE]
def qhA (l:List Int):List (List Int):=ZE l (2 ^ l.length) (2 ^ l.length)
theorem Zn {t:ql}{x:qf}(h:StV t x):(enL t x).length<=7:=by
 have h1:=(qI h.sh).2
 have h2:(enL t x).length<=t.nodes.length:=Nat.le_trans (List.length_filter_le _ _) (QX _ _)
 omega
theorem qdm (t:ql)(x:qf)(h:EnT t x):qe Tryz.prog 77 [qQ t,qH x] (Q0 (qhA (enL t x))):=by
 refine qe.of qc (fn:=Tryz.f77) (c:=Tryz.f77.body.getD .skip) (dr:=fun n=>qa 0 [] n) Tryz.func77 rfl (by kernel_rfl) (by kernel_rfl) (by kernel_rfl) ?_
 obtain ⟨f1,hf1⟩:∃ f,f=enL:=⟨_,rfl⟩
 obtain ⟨f2,hf2⟩:∃ f,f=QE:=⟨_,rfl⟩
 obtain ⟨l,hl⟩:∃ l,l=f1 t x:=⟨_,rfl⟩
 have hl7:l.length<=7:=by rw [hl,hf1];exact Zn h.v
 obtain ⟨NN,hN⟩:∃ NN,NN=2 ^ l.length:=⟨_,rfl⟩
 have hNb:=ZI hl7
 have hs:=yW hl7
 rw [<-hN] at hNb hs
 have hs1:IntKind.i64.wrap ((NN:Int)-1)=(NN:Int)-1:=qr (by omega) (by omega)
 rw [show qhA (enL t x)=ZE l NN NN by rw [hN,hl,hf1];rfl]
 by_cases hne:enL t x=[]
 . have hO:qp Tryz.prog (qJ [(110,qsQ),(111,qh8 f2)]):=by
    subst hf2
    exact qb qpJ (qb qfq qd)
   have hl0:l=[]:=by rw [hl,hf1];exact hne
   have hN1:NN=1:=by rw [hN,hl0];rfl
   have h0:qsw t x:=⟨h,hne⟩
   clear hN hl hs hs1
   subst hl0 hN1
   obtain ⟨ns,ts,hr⟩:=t
   obtain ⟨now,times,vals⟩:=x
   refine SEx.go (X:=XX) qc (fun n=>qa [] [(4,[5,6,7])] n) (fun _=>none) hO 60 ?_
   intro M R L N m0 m1 m2 m3 m4 m5
   cases M
   cbv
   repeat' first | refine m1 _ _ ?_ ?_ | refine m2 _ _ fun h=>?_ | refine m3 _ ?_ | (refine m4 _ _ (Hd.out ?_);generalize hks:(List.cons _ _:List K)=ks) | (refine m5 _ _ ?_;cbv)
   all_goals (clear m1 m2 m3 m4 m5;cases m0;try dsimp only)
   all_goals try simp only [sm] at *
   all_goals first
    | exact h0
    | omega
    | skip
   refine ⟨SEx.same (SEx.idx 1 (fun k=>⟨26,[(5,bL (.i [])),(6,bR 24576 k),(7,bI ((1:Nat)-1-(k:Nat)))],[(24576,.osl (.ii true none (ZE [] 1 k)))]⟩) (fun _=>Q0 (ZE [] 1 1)) ?_) rfl rfl⟩
   intro k hk ih
   rw [<-hks]
   obtain ⟨o,ho⟩:∃ o,o=ZE [] 1 k:=⟨_,rfl⟩
   have hol:o.length=k:=by rw [ho,Jh]
   obtain ⟨q,hq⟩:∃ q:Int,q=((1:Nat):Int)-1-(k:Nat):=⟨_,rfl⟩
   rw [<-ho,<-hq]
   refine SEx.go (X:=XX) qc (fun n=>qa [] [(4,[5,6,7])] n) (fun _=>none) hO 60 ?_
   intro M R L N m0 m1 m2 m3 m4 m5
   cases M
   cbv
   repeat' first | refine m1 _ _ ?_ ?_ | refine m2 _ _ fun h=>?_ | refine m3 _ ?_ | (refine m4 _ _ (Hd.out ?_);try first | rw [hks] | rw [hk2] | rw [hk3]) | (refine m5 _ _ ?_;cbv)
   all_goals (clear m1 m2 m3 m4 m5;cases m0;(try clear hks;try clear hk2;try clear hk3);try dsimp only)
   all_goals try simp only [sm] at *
   all_goals (try rw [qr (n:=q-1) (by omega) (by omega)])
   all_goals first
    | omega
    | rfl
    | exact ⟨by decide⟩
    | (have:=zB;simp only [List.length_cons,List.length_nil];omega)
    | (have ih':=ih (by omega)
       rw [Wm,<-ho,<-hq,show ((1:Nat):Int)-1-((k+1:Nat):Int)=q-1 by omega] at ih'
       simp only [List.length_append,List.length_cons,List.length_nil,hol,hf2]
       exact ⟨ih'.same rfl rfl⟩)
    | (have e:k=1:=by omega
       subst e
       rw [ho];rfl)
    | skip
 . have hO:qp Tryz.prog (qJ [(110,qsO f1),(111,qh8 f2)]):=by
    subst hf1 hf2
    exact qb qqf (qb qfq qd)
   have h0:qsH t x:=⟨h,hne⟩
   clear hN
   obtain ⟨ns,ts,hr⟩:=t
   obtain ⟨now,times,vals⟩:=x
   refine SEx.go (X:=XX) qc (fun n=>qa [] [(4,[5,6,7])] n) (fun _=>none) hO 60 ?_
   intro M R L N m0 m1 m2 m3 m4 m5
   cases M
   cbv
   repeat' first | refine m1 _ _ ?_ ?_ | refine m2 _ _ fun h=>?_ | refine m3 _ ?_ | (refine m4 _ _ (Hd.out ?_);generalize hks:(List.cons _ _:List K)=ks) | (refine m5 _ _ ?_;cbv)
   all_goals (clear m1 m2 m3 m4 m5;cases m0;try dsimp only)
   all_goals try simp only [sm] at *
   all_goals first
    | exact h0
    | omega
    | skip
   rw [<-hl,hs,hs1]
   obtain ⟨n,hn⟩:∃ n,n=l.length:=⟨_,rfl⟩
   refine ⟨SEx.same (SEx.idx NN (fun k=>⟨26,[(5,bR 20480 n),(6,bR 24576 k),(7,bI ((NN:Int)-1-(k:Nat)))],[(20480,.osl (.i l)),(24576,.osl (.ii true none (ZE l NN k)))]⟩) (fun _=>Q0 (ZE l NN NN)) ?_) (by rw [hn,show (NN:Int)-1-((0:Nat):Int)=(NN:Int)-1 by omega];rfl) rfl⟩
   intro k hk ih
   rw [<-hks]
   obtain ⟨o,ho⟩:∃ o,o=ZE l NN k:=⟨_,rfl⟩
   have hol:o.length=k:=by rw [ho,Jh]
   obtain ⟨q,hq⟩:∃ q:Int,q=(NN:Int)-1-(k:Nat):=⟨_,rfl⟩
   rw [<-ho,<-hq]
   refine SEx.go (X:=XX) qc (fun n=>qa [] [(4,[5,6,7])] n) (fun _=>none) hO 60 ?_
   intro M R L N m0 m1 m2 m3 m4 m5
   cases M
   cbv
   repeat' first | refine m1 _ _ ?_ ?_ | refine m2 _ _ fun h=>?_ | refine m3 _ ?_ | (refine m4 _ _ (Hd.out ?_);try first | rw [hks] | rw [hk2] | rw [hk3]) | (refine m5 _ _ ?_;cbv)
   all_goals (clear m1 m2 m3 m4 m5;cases m0;(try clear hks;try clear hk2;try clear hk3);try dsimp only)
   all_goals try simp only [sm] at *
   all_goals (try rw [qr (n:=q-1) (by omega) (by omega)])
   all_goals first
    | omega
    | rfl
    | exact ⟨by omega⟩
    | (have:=zB;simp only [List.length_cons,List.length_nil];omega)
    | (have ih':=ih (by omega)
       rw [Wm,<-ho,<-hq,show (NN:Int)-1-((k+1:Nat):Int)=q-1 by omega] at ih'
       simp only [List.length_append,List.length_cons,List.length_nil,hol,hf2]
       exact ⟨ih'.same rfl rfl⟩)
    | (have e:k=NN:=by omega
       subst e
       rw [ho];rfl)
    | skip
end Go.Proofs.YtifnopmkdempdaaGreat.Ai
namespace Go.Proofs.YtifnopmkdempdaaGreat.Ai
open Go
set_option maxRecDepth 100000
variable [qh]
def KB (t:ql)(x:qf):List (List Int):=match Qi t x with | true=>qhA (enL t x) | false=>[]
theorem qcT {t:ql}{x:qf}(h:Qi t x=true):StV t x/\x.times.length=t.nodes.length:=by
 unfold Qi at h
 simp only [Bool.and_eq_true] at h
 obtain ⟨h1,_,_,h2⟩:=h
 have h3:StT t ⟨x.now+1,x.times,x.vals⟩:=⟨h1,h2⟩
 exact ⟨⟨h1,h3.vals⟩,h3.now.2.2⟩
def qmM (f:ql->qf->List (List Int)):Wr:=w2 qN qF (fun t x=>Q0 (f t x)) (fun t x=>[EnT t x])
def W8 (t:ql)(x:qf):List (List Int):=qhA (enL t x)
theorem qeR:qy Tryz.prog 77 (qmM W8):=qE fun t x h=>qdm t x (h _ (.head _))
theorem qhY (t:ql)(x:qf)(hs:kd t x):qe Tryz.prog 39 [qQ t,qH x] (Q0 (KB t x)):=by
 refine qe.of qc (fn:=Tryz.f39) (c:=Tryz.f39.body.getD .skip) (dr:=fun n=>qa 0 [] n) Tryz.func39 rfl (by kernel_rfl) (by kernel_rfl) (by kernel_rfl) ?_
 obtain ⟨f1,hf1⟩:∃ f,f=Qi:=⟨_,rfl⟩
 obtain ⟨f2,hf2⟩:∃ f,f=W8:=⟨_,rfl⟩
 have hO:qp Tryz.prog (qJ [(44,qqL f1),(77,qmM f2)]):=by
  subst hf1 hf2
  exact qb qnF (qb qeR qd)
 have hv:f1 t x=true->EnT t x:=fun h=>by rw [hf1] at h;have:=qcT h;exact ⟨hs,this.1,this.2⟩
 have hE:KB t x=match f1 t x with | true=>f2 t x | false=>[]:=by rw [hf1,hf2];rfl
 obtain ⟨r,hr⟩:∃ r,r=KB t x:=⟨_,rfl⟩
 rw [<-hr] at hE ⊢
 obtain ⟨ns,ts,hr⟩:=t
 obtain ⟨now,times,vals⟩:=x
 refine SEx.go (X:=XX) qc (fun n=>qa [] [] n) (fun _=>none) hO 60 ?_
 intro M R L N m0 m1 m2 m3 m4 m5
 cases M
 cbv
 repeat' first | refine m1 _ _ ?_ ?_ | refine m2 _ _ fun h=>?_ | refine m3 _ ?_ | (refine m4 _ _ (Hd.out ?_);try first | rw [hks] | rw [hk2] | rw [hk3]) | (refine m5 _ _ ?_;cbv)
 all_goals (clear m1 m2 m3 m4 m5;cases m0;(try clear hks;try clear hk2;try clear hk3);try dsimp only)
 all_goals try simp only [sm] at *
 all_goals first
  | exact hs
  | exact hv (by assumption)
  | (rw [hE,show f1 _ _=false by assumption];rfl)
  | (rw [hE,show f1 _ _=true by assumption];rfl)
  | skip
theorem qg7 (t:ql)(x:qf)(hs:kd t x)(hz:Kr x):qe Tryz.prog 34 [qQ t,qH x] (Q0 (KB t x)):=by
 refine qe.of qc (fn:=Tryz.f34) (c:=Tryz.f34.body.getD .skip) (dr:=fun n=>qa 0 [] n) Tryz.func34 rfl (by kernel_rfl) (by kernel_rfl) (by kernel_rfl) ?_
 obtain ⟨f0,hf0⟩:∃ f,f=Qi:=⟨_,rfl⟩
 obtain ⟨f1,hf1⟩:∃ f,f=enL:=⟨_,rfl⟩
 obtain ⟨f2,hf2⟩:∃ f,f=QE:=⟨_,rfl⟩
 have hO:qp Tryz.prog (qJ [(69,qqX f0),(70,qrM f1),(71,qh8 f2)]):=by
  subst hf0 hf1 hf2
  exact qb qoM (qb qjV (qb yP qd))
 have hv:f0 t x=true->EnT t x:=fun h=>by rw [hf0] at h;have:=qcT h;exact ⟨hs,this.1,this.2⟩
 obtain ⟨l,hl⟩:∃ l,l=f1 t x:=⟨_,rfl⟩
 have hl7:f0 t x=true->l.length<=7:=fun h=>by rw [hl,hf1];exact Zn (hv h).v
 obtain ⟨NN,hN⟩:∃ n,n=2 ^ l.length:=⟨_,rfl⟩
 have hE:KB t x=match f0 t x with | true=>ZE l NN NN | false=>[]:=by rw [hN,hl,hf1,hf0];rfl
 obtain ⟨r,hr⟩:∃ r,r=KB t x:=⟨_,rfl⟩
 rw [<-hr] at hE ⊢
 obtain ⟨ns,ts,hr⟩:=t
 obtain ⟨now,times,vals⟩:=x
 refine SEx.go (X:=XX) qc (fun n=>qa [] [(6,[5,6,7])] n) (fun _=>none) hO 60 ?_
 intro M R L N m0 m1 m2 m3 m4 m5
 cases M
 cbv
 repeat' first | refine m1 _ _ ?_ ?_ | refine m2 _ _ fun h=>?_ | refine m3 _ ?_ | (refine m4 _ _ (Hd.out ?_);generalize hks:(List.cons _ _:List K)=ks) | (refine m5 _ _ ?_;cbv)
 all_goals (clear m1 m2 m3 m4 m5;cases m0;try dsimp only)
 all_goals try simp only [sm] at *
 all_goals first
  | exact hs
  | exact hz
  | exact hv (by assumption)
  | (rw [hE,show f0 _ _=false by assumption];rfl)
  | omega
  | skip
 . have:=hl7 (by assumption)
   rw [<-hl,Qg (by omega)]
   omega
 have hl7:=hl7 (by assumption)
 have hNb:=ZI hl7
 have hs:=yW hl7
 rw [<-hN] at hNb hs
 have hs1:IntKind.i64.wrap ((NN:Int)-1)=(NN:Int)-1:=qr (by omega) (by omega)
 have hE:r=ZE l NN NN:=by rw [hE,show f0 _ _=true by assumption]
 rw [<-hl,Qg (by omega),Int.toNat_natCast,hs,hs1]
 obtain ⟨n,hn⟩:∃ n,n=l.length:=⟨_,rfl⟩
 refine ⟨SEx.same (SEx.idx NN (fun k=>⟨32,[(5,bR 20480 n),(6,bR 24576 k),(7,bI ((NN:Int)-1-(k:Nat)))],[(20480,.osl (.i l)),(24576,.osl (.ii true none (ZE l NN k)))]⟩) (fun _=>Q0 r) ?_) (by rw [hn,show (NN:Int)-1-((0:Nat):Int)=(NN:Int)-1 by omega];rfl) rfl⟩
 intro k hk ih
 rw [<-hks]
 obtain ⟨o,ho⟩:∃ o,o=ZE l NN k:=⟨_,rfl⟩
 have hol:o.length=k:=by rw [ho,Jh]
 obtain ⟨q,hq⟩:∃ q:Int,q=(NN:Int)-1-(k:Nat):=⟨_,rfl⟩
 rw [<-ho,<-hq]
 clear hN hl hs
 refine SEx.go (X:=XX) qc (fun n=>qa [] [(6,[5,6,7])] n) (fun _=>none) hO 60 ?_
 intro M R L N m0 m1 m2 m3 m4 m5
 cases M
 cbv
 repeat' first | refine m1 _ _ ?_ ?_ | refine m2 _ _ fun h=>?_ | refine m3 _ ?_ | (refine m4 _ _ (Hd.out ?_);try first | rw [hks] | rw [hk2] | rw [hk3]) | (refine m5 _ _ ?_;cbv)
 all_goals (clear m1 m2 m3 m4 m5;cases m0;(try clear hks;try clear hk2;try clear hk3);try dsimp only)
 all_goals try simp only [sm] at *
 all_goals (try rw [qr (n:=q-1) (by omega) (by omega)])
 all_goals first
  | omega
  | rfl
  | exact ⟨by omega⟩
  | (have:=zB;simp only [List.length_cons,List.length_nil];omega)
  | (have ih':=ih (by omega)
     rw [Wm,<-ho,<-hq,show (NN:Int)-1-((k+1:Nat):Int)=q-1 by omega] at ih'
     simp only [List.length_append,List.length_cons,List.length_nil,hol,hf2]
     exact ⟨ih'.same rfl rfl⟩)
  | (have e:k=NN:=by omega
     subst e
     rw [hE,ho];rfl)
  | skip
end Go.Proofs.YtifnopmkdempdaaGreat.Ai
namespace Go.Proofs.YtifnopmkdempdaaGreat.Ai
open Go
set_option maxRecDepth 100000
variable [qh]
theorem qav (t:ql)(x:qf):(KB t x).length<=128/\∀ y∈KB t x,y.length<=7:=by
 unfold KB
 cases h:Qi t x with
 | false=>exact ⟨Nat.zero_le _,fun y hy=>by cases hy⟩
 | true =>
   have h7:=Zn (qcT h).1
   refine ⟨by show (ZE _ _ _).length<=128;rw [Jh];exact (ZI h7).2,fun y hy=>?_⟩
   obtain ⟨j,_,rfl⟩:=List.mem_map.1 hy
   exact Nat.le_trans (KO _ _ _) h7
def qno (f:ql->qf->List (List Int)):Wr:=w2 qN qF (fun t x=>Q0 (f t x)) (fun t x=>[kd t x,Kr x])
theorem qkp:qy Tryz.prog 34 (qno KB):=qE fun t x h=>qg7 t x (h _ (.head _)) (h _ (.tail _ (.head _)))
def qo2 (f:ql->qf->List (List Int)):Wr:=w2 qN qF (fun t x=>Q0 (f t x)) (fun t x=>[kd t x])
theorem qlA:qy Tryz.prog 39 (qo2 KB):=qE fun t x h=>qhY t x (h _ (.head _))
end Go.Proofs.YtifnopmkdempdaaGreat.Ai
