/- The law's proof, part 6 of 10: what of its author's texts it needs; no condition. -/
import Derived.Test.YtececadpjelanaaGreatZdE
set_option linter.unusedSectionVars false
set_option linter.unusedSimpArgs false
set_option linter.unusedVariables false
namespace Go.Proofs.YtececadpjelanaaGreat.Ai
open Go
set_option maxRecDepth 100000
variable [qi]
theorem qax (t:qm)(x:qf)(hs:kB t x):qe Tryz.prog 67 [qQ t,qI x] (rB (jp t x)):=by
 refine qe.of qc (fn:=Tryz.f67) (c:=Tryz.f67.body.getD .skip) (dr:=fun n=>qa 0 [] n) Tryz.func67 rfl (by kernel_rfl) (by kernel_rfl) (by kernel_rfl) ?_
 obtain ⟨f,hf⟩:∃ f,f=za:=⟨_,rfl⟩
 obtain ⟨g,hg⟩:∃ f,f=jT:=⟨_,rfl⟩
 obtain ⟨k,hk⟩:∃ f,f=Wz:=⟨_,rfl⟩
 have hO:qp Tryz.prog (qM [(107,qnu k),(76,wL f),(77,qd4 g)]):=by subst hf hg hk;exact qb qls (qb qdG (qb qdD qd))
 have h1:=hs.sh
 have h2:=hs.st
 have h4:=h2.now
 rw [je] at h4
 obtain ⟨r,hr⟩:∃ r,r=jp t x:=⟨_,rfl⟩
 rw [<-hr]
 have hsh:f t=true->za t=true/\1<=t.hor/\t.hor<=10:=fun h=>by rw [hf] at h;exact ⟨h,zo h⟩
 have hc:f t=true->0<=x.now->x.now<=t.hor->IntKind.i64.wrap (k x.now+1)=x.now+1:=fun h h5 h6=>by
  have:=hsh h
  rw [hk,show Wz x.now=x.now by unfold Wz;omega]
  exact qr (by omega) (by omega)
 have hr0:f t=false->r=false:=fun h=>by rw [hr];unfold jp;rw [<-hf,h];rfl
 have hr1:x.now<0->r=false:=fun h=>by rw [hr];unfold jp;rw [decide_eq_false (show ¬0<=x.now by omega)];simp
 have hr2:t.hor<x.now->r=false:=fun h=>by rw [hr];unfold jp;rw [decide_eq_false (show ¬x.now<=t.hor by omega)];simp
 have hr3:f t=true->0<=x.now->x.now<=t.hor->r=g t ⟨IntKind.i64.wrap (k x.now+1),x.times,x.vals⟩:=fun h h5 h6=>by
  rw [hc h h5 h6,hr];unfold jp;rw [hg,decide_eq_true h5,decide_eq_true h6,<-hf,h];rfl
 have hle:f t=true->0<=x.now->x.now<=t.hor->Za ⟨IntKind.i64.wrap (k x.now+1),x.times,x.vals⟩:=fun h h5 h6=>by
  have:=hsh h
  rw [hc h h5 h6]
  exact ⟨by rw [je];dsimp only;omega,h2.tlen,h2.vlen⟩
 clear hr hf hg hk hs hc
 obtain ⟨ns,ts,hr⟩:=t
 obtain ⟨now,times,vals⟩:=x
 dsimp only at hr1 hr2 hr3 hle hsh h4
 refine SEx.go (X:=XX) qc (fun n=>qa [] [] n) (fun _=>none) hO 60 ?_
 intro M R L N m0 m1 m2 m3 m4 m5
 cases M
 cbv
 repeat' first | refine m1 _ _ ?_ ?_ | refine m2 _ _ fun h=>?_ | refine m3 _ ?_ | (refine m4 _ _ (Hd.out ?_);try first | rw [hks] | rw [hk2] | rw [hk3]) | (refine m5 _ _ ?_;cbv)
 all_goals (clear m1 m2 m3 m4 m5;cases m0;(try clear hks;try clear hk2;try clear hk3);try dsimp only)
 all_goals try simp only [sm] at *
 all_goals first
  | exact h1
  | exact ⟨(hsh (by assumption)).1⟩
  | exact hle (by assumption) (by assumption) (by assumption)
  | (refine qJ ?_ _;rw [hr0 (by assumption)];done)
  | (refine qJ ?_ _;rw [hr1 (by assumption)];done)
  | (refine qJ ?_ _;rw [hr2 (by assumption)];done)
  | (refine qJ ?_ _;rw [hr3 (by assumption) (by assumption) (by assumption)];done)
  | skip
def qqy (f:qm->qf->Bool):Wr:=w2 qP qG (fun t x=>rB (f t x)) (fun t x=>[kB t x,KT x])
theorem qnW:qz Tryz.prog 91 (qqy jp):=qE fun t x h=>qaz t x (h _ (.head _)) (h _ (.tail _ (.head _)))
def qqt (f:qm->qf->Bool):Wr:=w2 qP qG (fun t x=>rB (f t x)) (fun t x=>[kB t x])
theorem qnG:qz Tryz.prog 67 (qqt jp):=qE fun t x h=>qax t x (h _ (.head _))
end Go.Proofs.YtececadpjelanaaGreat.Ai
namespace Go.Proofs.YtececadpjelanaaGreat.Ai
open Go
set_option maxRecDepth 100000
variable [qi]
def qri (k:Int):Tie:=⟨k,k+1,k+2,k+3,decide ((k+4).tmod 3=0)⟩
def jh (k:Int)(n:Nat):List Tie:=(List.range n).map fun j=>qri (k+5 * (j:Nat))
theorem QV (k:Int)(n:Nat):(jh k n).length=n:=by simp [jh]
theorem qel (k:Int)(n:Nat):jh k (n+1)=jh k n++[qri (k+5 * n)]:=by simp [jh,List.range_succ]
theorem qee {k:Int}{i:Nat}{l:List Tie}(hi:i<l.length):(jh k i++l.drop i).set i (qri (k+5 * i))=jh k (i+1)++l.drop (i+1):=by
 rw [List.set_append_right _ _ (by rw [QV];omega),QV,Nat.sub_self,qel,List.append_assoc,List.drop_eq_getElem_cons hi];rfl
theorem qdP (l:List Tie)(k:Int)(hl:l.length<=maxLen)(hk:0<k/\k+5 * l.length<=4611686018427387904) :
 zY Tryz.prog 51 [wR l.length,bI1 k] [(lrt 0,.osl (.tie l))] [.rf (lrt 0,[]) true 0 l.length] (.v (bI1 (k+5 * l.length))) [(lrt 0,.osl (.tie (jh k l.length)))] [.rf (lrt 0,[]) true 0 l.length]:=by
 refine zY.of qc (fn:=Tryz.f51) (c:=Tryz.f51.body.getD .skip) (dr:=fun n=>qa 0 [] n) (r:=(_,_,_)) Tryz.func51 rfl (by kernel_rfl) (by kernel_rfl) (by kernel_rfl) ?_
 generalize hn:l.length=n at *
 refine zN.go (X:=XX) qc (fun n=>qa [] [(2,[0,1,5,4294967296])] n) (fun _=>none) qd 60 1 ?_
 intro M R L N m0 m1 m2 m3 m4 m5
 cases M
 cbv
 repeat' first | refine m1 _ _ ?_ ?_ | refine m2 _ _ fun h=>?_ | refine m3 _ ?_ | (refine m4 _ _ (Hd.out ?_);generalize hks:(List.cons _ _:List K)=ks) | (refine m5 _ _ ?_;cbv)
 all_goals (clear m1 m2 m3 m4 m5;cases m0;try dsimp only)
 all_goals try simp only [sm] at *
 refine ⟨zN.same (zN.idx n (fun i=>⟨50,[(0,bR 41000000 n),(1,bI (k+5 * i)),(5,bI i),(4294967296,bR 41000000 n)],[(41000000,.osl (.tie (jh k i++l.drop i)))]⟩) (fun _=>(.v (bI1 (k+5 * n)),[(lrt 0,.osl (.tie (jh k n)))],[.rf (lrt 0,[]) true 0 n])) ?_) ?_ ⟨rfl,rfl,rfl⟩⟩
 rotate_left
 . rw [show k+5 * ((0:Nat):Int)=k by omega];rfl
 intro i hi ih
 rw [<-hks]
 obtain ⟨c,hc⟩:∃ c,c=jh k i++l.drop i:=⟨_,rfl⟩
 have hcl:c.length=n:=by rw [hc,List.length_append,QV,List.length_drop];omega
 rw [<-hc]
 obtain ⟨q,hq⟩:∃ q,q=k+5 * (i:Int):=⟨_,rfl⟩
 rw [<-hq]
 unfold maxLen at hl
 refine zN.go (X:=XX) qc (fun n=>qa [] [(2,[0,1,5,4294967296])] n) (fun _=>none) qd 90 1 ?_
 intro M R L N m0 m1 m2 m3 m4 m5
 cases M
 cbv
 repeat' first | refine m1 _ _ ?_ ?_ | refine m2 _ _ fun h=>?_ | refine m3 _ ?_ | (refine m4 _ _ (Hd.out ?_);try rw [hks]) | (refine m5 _ _ ?_;cbv)
 all_goals (clear m1 m2 m3 m4 m5;cases m0;(try clear hks);try dsimp only)
 all_goals try simp only [sm] at *
 all_goals (try simp only [Zd])
 all_goals first
  | omega
  | (have hin:i=n:=by omega
     subst hin
     rw [List.drop_eq_nil_of_le (by omega),List.append_nil] at hc
     subst hc;subst hq
     refine ⟨?_,?_,?_⟩<;>rfl)
  | (have hin:i<n:=by omega
     have e1:IntKind.i64.wrap (q+1)=q+1:=by rw [qr (by omega) (by omega)]
     have e2:IntKind.i64.wrap (q+1+1)=q+2:=by rw [qr (by omega) (by omega)];omega
     have e3:IntKind.i64.wrap (q+2+1)=q+3:=by rw [qr (by omega) (by omega)];omega
     have e4:IntKind.i64.wrap (q+3+1)=q+4:=by rw [qr (by omega) (by omega)];omega
     have e5:IntKind.i64.wrap (q+4+1)=q+5:=by rw [qr (by omega) (by omega)];omega
     simp only [e1,e2,e3,e4,e5,qh (show i<9223372036854775807 by omega),Wg]
     refine ⟨(ih hin).same ?_ ⟨rfl,rfl,rfl⟩⟩
     rw [<-qee (k:=k) (i:=i) (l:=l) (by omega),<-hq,<-hc,show k+5 * ((i+1:Nat):Int)=q+5 by omega]
     rfl)
  | skip
def qrO (q:qg):Nat:=q.label.length+2
def kN (k:Int)(l:List qg)(i:Nat):Int:=k+(((l.take i).map qrO).sum:Nat)
theorem vw (k:Int)(l:List qg):kN k l 0=k:=by simp [kN]
theorem VW {k:Int}{l:List qg}{i:Nat}(h:i<l.length):kN k l (i+1)=kN k l i+(l.getD i qg.z).label.length+2:=by
 unfold kN
 rw [List.take_add_one,List.getElem?_eq_getElem h,zm h,Option.toList_some,List.map_append,List.sum_append,List.map_cons,List.map_nil,List.sum_cons,List.sum_nil]
 unfold qrO
 omega
theorem vd (k:Int)(l:List qg)(i:Nat):∀ d,kN k l i<=kN k l (i+d)
 | 0=>Int.le_refl _
 | d+1=>by
   have:=vd k l i d
   by_cases h:i+d<l.length
   . rw [<-Nat.add_assoc,VW h];omega
   . have h1:kN k l (i+d+1)=kN k l (i+d):=by unfold kN;rw [List.take_of_length_le (by omega),List.take_of_length_le (by omega)]
     rw [<-Nat.add_assoc]
     omega
def mNd (k:Int)(n:Nat):qg:=⟨mT k,kv (k+1) n,k+1+n⟩
def mNS (k:Int)(l:List qg)(i:Nat):List qg:=(List.range i).map fun j=>mNd (kN k l j) (l.getD j qg.z).label.length
theorem Jt (k:Int)(l:List qg)(i:Nat):(mNS k l i).length=i:=by simp [mNS]
theorem qnl (k:Int)(l:List qg)(i:Nat):mNS k l (i+1)=mNS k l i++[mNd (kN k l i) (l.getD i qg.z).label.length]:=by simp [mNS,List.range_succ]
theorem qn9 {k:Int}{i:Nat}{l:List qg}(hi:i<l.length):(mNS k l i++l.drop i).set i (mNd (kN k l i) (l.getD i qg.z).label.length)=mNS k l (i+1)++l.drop (i+1):=by
 rw [List.set_append_right _ _ (by rw [Jt];omega),Jt,Nat.sub_self,qnl,List.append_assoc,List.drop_eq_getElem_cons hi];rfl
theorem qmW {k:Int}{i:Nat}{l:List qg}(hi:i<l.length):(mNS k l i++l.drop i).getD i qg.z=l.getD i qg.z:=by
 rw [List.getD_eq_getElem?_getD,List.getElem?_append_right (by rw [Jt];omega),Jt,Nat.sub_self,List.getElem?_drop,Nat.add_zero,List.getD_eq_getElem?_getD]
theorem qmG {α:Type}{z:α}{l:List α}{n:Nat}{f:α->α}(h:n<l.length):(wq z l n f).getD n z=f (l.getD n z):=by simp [wq,List.getD_eq_getElem?_getD,h]
theorem qct (l:List qg)(k:Int)(hl:l.length<=maxLen)(hx:∀ q∈l,q.label.length<=maxLen)(hk:0<k/\kN k l l.length<=4611686018427387904) :
 zY Tryz.prog 50 [wR l.length,bI1 k] [(lrt 0,.osl (.node true none l))] [.rf (lrt 0,[]) true 0 l.length] (.v (bI1 (kN k l l.length))) [(lrt 0,.osl (.node true none (mNS k l l.length)))] [.rf (lrt 0,[]) true 0 l.length]:=by
 refine zY.of qc (fn:=Tryz.f50) (c:=Tryz.f50.body.getD .skip) (dr:=fun n=>qa 0 [] n) (r:=(_,_,_)) Tryz.func50 rfl (by kernel_rfl) (by kernel_rfl) (by kernel_rfl) ?_
 generalize hn:l.length=n at *
 refine zN.go (X:=XX) qc (fun n=>qa [] [(2,[0,1,5,4294967296])] n) (fun _=>none) qd 60 1 ?_
 intro M R L N m0 m1 m2 m3 m4 m5
 cases M
 cbv
 repeat' first | refine m1 _ _ ?_ ?_ | refine m2 _ _ fun h=>?_ | refine m3 _ ?_ | (refine m4 _ _ (Hd.out ?_);generalize hks:(List.cons _ _:List K)=ks) | (refine m5 _ _ ?_;cbv)
 all_goals (clear m1 m2 m3 m4 m5;cases m0;try dsimp only)
 all_goals try simp only [sm] at *
 refine ⟨zN.same (zN.idx n (fun i=>⟨35,[(0,bR 41000000 n),(1,bI (kN k l i)),(5,bI i),(4294967296,bR 41000000 n)],[(41000000,.osl (.node true none (mNS k l i++l.drop i)))]⟩) (fun _=>(.v (bI1 (kN k l n)),[(lrt 0,.osl (.node true none (mNS k l n)))],[.rf (lrt 0,[]) true 0 n])) ?_) ?_ ⟨rfl,rfl,rfl⟩⟩
 rotate_left
 . rw [vw];rfl
 intro i hi ih
 rw [<-hks]
 obtain ⟨c,hc⟩:∃ c,c=mNS k l i++l.drop i:=⟨_,rfl⟩
 have hcl:c.length=n:=by rw [hc,List.length_append,Jt,List.length_drop];omega
 rw [<-hc]
 obtain ⟨q,hq⟩:∃ q,q=kN k l i:=⟨_,rfl⟩
 rw [<-hq]
 obtain ⟨f,hf⟩:∃ f,f=mT:=⟨_,rfl⟩
 have hO:qp Tryz.prog (qM [(84,qq5 f)]):=by subst hf;exact qb (zx fun q h=>qfa q (h _ (.head _)).out) qd
 obtain ⟨f2,hf2⟩:∃ f,f=kv:=⟨_,rfl⟩
 obtain ⟨g2,hg2⟩:∃ f,f=KI:=⟨_,rfl⟩
 have hW:q8 Tryz.prog (XX.withW [(26,[(0,0)])] (kH [(26,KS f2 g2)])):=by
  subst hf2 hg2
  exact SX.withW_ok (zQ WB jo)
 unfold maxLen at hl
 refine zN.go (X:=(XX.withW [(26,[(0,0)])] (kH [(26,KS f2 g2)]))) qc (fun n=>qa [] [(2,[0,1,5,4294967296])] n) (fun _=>none) hO 90 1 ?_ hW
 intro M R L N m0 m1 m2 m3 m4 m5
 cases M
 cbv
 repeat' first | refine m1 _ _ ?_ ?_ | refine m2 _ _ fun h=>?_ | refine m3 _ ?_ | (refine m4 _ _ (Hd.out ?_);try rw [hks]) | (refine m5 _ _ ?_;cbv)
 all_goals (clear m1 m2 m3 m4 m5;cases m0;(try clear hks);try dsimp only)
 all_goals try simp only [sm] at *
 all_goals (clear hW)
 all_goals (try simp only [Zd])
 all_goals (try simp only [qmG (l:=c) (n:=i) (z:=qg.z) (by omega)])
 all_goals (have hb0:=vd k l 0 i;rw [Nat.zero_add,vw,<-hq] at hb0)
 all_goals first
  | omega
  | (have hin:i=n:=by omega
     subst hin
     rw [List.drop_eq_nil_of_le (by omega),List.append_nil] at hc
     subst hc;subst hq
     refine ⟨?_,?_,?_⟩<;>rfl)
  | skip
 all_goals (have hin:i<n:=by omega)
 all_goals (have h3:=VW (k:=k) (l:=l) (i:=i) (by omega);have h4:=vd k l (i+1) (n-(i+1));rw [show i+1+(n-(i+1))=n by omega] at h4)
 all_goals (have h6:c.getD i qg.z=l.getD i qg.z:=by rw [hc,qmW (by omega)])
 all_goals (have h7:=hx _ (qo (z:=qg.z) (show i<l.length by omega)).out)
 all_goals (have e1:IntKind.i64.wrap (q+1)=q+1:=by rw [qr (by omega) (by omega)])
 all_goals (simp only [e1,h6] at *)
 all_goals first
  | exact ⟨by omega⟩
  | (subst hf2;exact (zO _ _).symm)
  | exact ⟨rfl,rfl,rfl,h7,by omega,by omega⟩
  | skip
 all_goals (subst hf hf2 hg2)
 all_goals (have e2:KI (q+1) (l.getD i qg.z).label.length=q+1+(l.getD i qg.z).label.length:=rfl)
 all_goals (have e3:IntKind.i64.wrap (q+1+(l.getD i qg.z).label.length+1)=q+(l.getD i qg.z).label.length+2:=by rw [qr (by omega) (by omega)];omega)
 all_goals (simp only [e2,e3,Wg,qh (show i<9223372036854775807 by omega)])
 all_goals (refine ⟨(ih hin).same ?_ ⟨rfl,rfl,rfl⟩⟩)
 all_goals (rw [VW (by omega),<-qn9 (by omega),<-hq,<-hc])
 all_goals rfl
structure MkN (p:SP)(n m:Nat)(l:List qg)(k b:Int):Prop where out:p=(lrt 0,[])/\m=n/\l.length=n/\n<=maxLen/\(∀ q∈l,q.label.length<=maxLen)/\0<k/\b<=4611686018427387904
structure MkT {α:Type}(p:SP)(n m:Nat)(l:List α)(k:Int):Prop where out:p=(lrt 0,[])/\m=n/\l.length=n/\n<=maxLen/\0<k/\k+5 * n<=4611686018427387904
def qlk (k:Int)(n:Nat):Int:=k+5 * n
def gN (k:Int)(l:List qg):Int:=kN k l l.length
def fN (k:Int)(l:List qg):List qg:=mNS k l l.length
def VV (f:Int->Nat->List Tie)(g:Int->Nat->Int):WrW
 | [(false,[.rf p true 0 n]),(false,[.fz (.int .i64 k)])],[(.sl m,.osl (.tie l))]=>some ([MkT p n m l k],(.v (bI1 (g k n)),[(lrt 0,.osl (.tie (f k n)))],[.rf (lrt 0,[]) true 0 n]))
 | _,_=>none
theorem qgx:vr Tryz.prog 51 (VV jh qlk):=by
 intro xs ls
 unfold VV
 split
 . refine R.Sim.mk fun hp=>?_
   obtain ⟨rfl,rfl,rfl,h1,h2,h3⟩:=(hp _ (.head _)).out
   exact qdP _ _ h1 ⟨h2,h3⟩
 . exact R.Sim.none'
def qcH (f:Int->List qg->List qg)(g:Int->List qg->Int):WrW
 | [(false,[.rf p true 0 n]),(false,[.fz (.int .i64 k)])],[(.sl m,.osl (.node true none l))]=>some ([MkN p n m l k (g k l)],(.v (bI1 (g k l)),[(lrt 0,.osl (.node true none (f k l)))],[.rf (lrt 0,[]) true 0 n]))
 | _,_=>none
theorem qlh:vr Tryz.prog 50 (qcH fN gN):=by
 intro xs ls
 unfold qcH
 split
 . refine R.Sim.mk fun hp=>?_
   obtain ⟨rfl,rfl,rfl,h1,h2,h3,h4⟩:=(hp _ (.head _)).out
   exact qct _ _ h1 h2 ⟨h3,h4⟩
 . exact R.Sim.none'
theorem qmL (k:Int)(l:List qg):(fN k l).length=l.length:=Jt _ _ _
theorem qff (cs:List qg)(ps:List Tie)(hr:Int)(k:Int)(h1:cs.length<=maxLen)(h2:ps.length<=maxLen)(h3:∀ q∈cs,q.label.length<=maxLen)(hk:0<k/\gN k cs+5 * ps.length<=4611686018427387904) :
 zY Tryz.prog 18 [(true,[.rf (lrt 0,[]) true 0 cs.length,.rf (lrt 1,[]) true 0 ps.length,.fz (.int .i64 hr)]),bI1 k] [(lrt 0,.osl (.node true none cs)),(lrt 1,.osl (.tie ps))]
  [.rf (lrt 0,[]) true 0 cs.length,.rf (lrt 1,[]) true 0 ps.length] (.v (bI1 (qlk (gN k cs) ps.length)))
  [(8192,.obx [.osl (.node true none (fN k cs)),.osl (.tie (jh (gN k cs) ps.length)),.fz (.int .i64 hr)])] [.rf (8192,[((true,0),0)]) true 0 cs.length,.rf (8192,[((true,0),1)]) true 0 ps.length]:=by
 refine zY.of qc (fn:=Tryz.f18) (c:=Tryz.f18.body.getD .skip) (dr:=fun n=>qa 0 [] n) (r:=(_,_,_)) Tryz.func18 rfl (by kernel_rfl) (by kernel_rfl) (by kernel_rfl) ?_
 obtain ⟨f1,hf1⟩:∃ f,f=fN:=⟨_,rfl⟩
 obtain ⟨f2,hf2⟩:∃ f,f=jh:=⟨_,rfl⟩
 obtain ⟨g1,hg1⟩:∃ f,f=gN:=⟨_,rfl⟩
 obtain ⟨g2,hg2⟩:∃ f,f=qlk:=⟨_,rfl⟩
 have hpos:0<g1 k cs:=by rw [hg1];have:=vd k cs 0 cs.length;rw [vw,Nat.zero_add] at this;unfold gN;omega
 rw [<-hg1] at hk
 have hW:q8 Tryz.prog (XX.withW [(50,[(0,0)]),(51,[(0,0)])] (kH [(50,qcH f1 g1),(51,VV f2 g2)])):=by
  subst hf1 hf2 hg1 hg2
  exact SX.withW_ok (zQ qlh (zQ qgx jo))
 generalize hn:cs.length=n at *
 generalize hm:ps.length=m at *
 refine zN.go (X:=(XX.withW [(50,[(0,0)]),(51,[(0,0)])] (kH [(50,qcH f1 g1),(51,VV f2 g2)]))) qc (fun n=>qa [] [] n) (fun _=>none) qd 90 2 ?_ hW
 intro M R L N m0 m1 m2 m3 m4 m5
 cases M
 cbv
 repeat' first | refine m1 _ _ ?_ ?_ | refine m2 _ _ fun h=>?_ | refine m3 _ ?_ | (refine m4 _ _ (Hd.out ?_);try rw [hks]) | (refine m5 _ _ ?_;cbv)
 all_goals (clear m1 m2 m3 m4 m5;cases m0;(try clear hks);try dsimp only)
 all_goals try simp only [sm] at *
 all_goals (clear hW)
 all_goals (subst hf1 hf2 hg1 hg2 hn hm)
 all_goals first
  | rfl
  | exact (qmL _ _).symm
  | exact (QV _ _).symm
  | exact ⟨rfl,rfl,rfl,h1,h3,hk.1,by omega⟩
  | exact ⟨rfl,rfl,rfl,h2,hpos,by omega⟩
  | (refine ⟨?_,?_,?_⟩<;>rfl)
  | skip
structure qsO (p q:SP)(n n' m m':Nat)(cs:List qg)(ps:List Tie)(k b:Int):Prop where out:(p=(lrt 0,[])/\q=(lrt 1,[])/\n'=n/\m'=m)/\cs.length=n/\ps.length=m/\n<=maxLen/\m<=maxLen/\(∀ q∈cs,q.label.length<=maxLen)/\0<k/\b<=4611686018427387904
def JI (f1:Int->List qg->List qg)(f2:Int->List qg->Nat->List Tie)(g:Int->List qg->Nat->Int):WrW
 | [(true,[.rf p true 0 n,.rf q true 0 m,.fz (.int .i64 hr)]),(false,[.fz (.int .i64 k)])],[(.sl n',.osl (.node true none cs)),(.sl m',.osl (.tie ps))]=>some ([qsO p q n n' m m' cs ps k (g k cs m)],(.v (bI1 (g k cs m)),[(8192,.obx [.osl (.node true none (f1 k cs)),.osl (.tie (f2 k cs m)),.fz (.int .i64 hr)])],[.rf (8192,[((true,0),0)]) true 0 n,.rf (8192,[((true,0),1)]) true 0 m]))
 | _,_=>none
def shT (k:Int)(cs:List qg)(m:Nat):List Tie:=jh (gN k cs) m
def shG (k:Int)(cs:List qg)(m:Nat):Int:=qlk (gN k cs) m
theorem qc9:vr Tryz.prog 18 (JI fN shT shG):=by
 intro xs ls
 unfold JI
 split
 . refine R.Sim.mk fun hp=>?_
   obtain ⟨⟨rfl,rfl,rfl,rfl⟩,rfl,rfl,h1,h2,h3,h4,h5⟩:=(hp _ (.head _)).out
   exact qff _ _ _ _ h1 h2 h3 ⟨h4,by unfold shG qlk at h5;omega⟩
 . exact R.Sim.none'
theorem qcX (nw:Int)(cs:List Int)(ps:List Int)(k:Int)(h1:cs.length<=maxLen)(h2:ps.length<=maxLen)(hk:0<k/\k+cs.length+ps.length<=4611686018427387904) :
 zY Tryz.prog 19 [(true,[.fz (.int .i64 nw),.rf (lrt 0,[]) true 0 cs.length,.rf (lrt 1,[]) true 0 ps.length]),bI1 k] [(lrt 0,.osl (.i cs)),(lrt 1,.osl (.i ps))]
  [.rf (lrt 0,[]) true 0 cs.length,.rf (lrt 1,[]) true 0 ps.length] (.v (bI1 (KI (KI k cs.length) ps.length)))
  [(8192,.obx [.fz (.int .i64 nw),.osl (.i (kv k cs.length)),.osl (.i (kv (KI k cs.length) ps.length))])] [.rf (8192,[((true,0),1)]) true 0 cs.length,.rf (8192,[((true,0),2)]) true 0 ps.length]:=by
 refine zY.of qc (fn:=Tryz.f19) (c:=Tryz.f19.body.getD .skip) (dr:=fun n=>qa 0 [] n) (r:=(_,_,_)) Tryz.func19 rfl (by kernel_rfl) (by kernel_rfl) (by kernel_rfl) ?_
 generalize hn:cs.length=n at *
 generalize hm:ps.length=m at *
 obtain ⟨f2,hf2⟩:∃ f,f=kv:=⟨_,rfl⟩
 obtain ⟨g2,hg2⟩:∃ f,f=KI:=⟨_,rfl⟩
 have hW:q8 Tryz.prog (XX.withW [(26,[(0,0)])] (kH [(26,KS f2 g2)])):=by
  subst hf2 hg2
  exact SX.withW_ok (zQ WB jo)
 refine zN.go (X:=(XX.withW [(26,[(0,0)])] (kH [(26,KS f2 g2)]))) qc (fun n=>qa [] [] n) (fun _=>none) qd 90 2 ?_ hW
 intro M R L N m0 m1 m2 m3 m4 m5
 cases M
 cbv
 repeat' first | refine m1 _ _ ?_ ?_ | refine m2 _ _ fun h=>?_ | refine m3 _ ?_ | (refine m4 _ _ (Hd.out ?_);try rw [hks]) | (refine m5 _ _ ?_;cbv)
 all_goals (clear m1 m2 m3 m4 m5;cases m0;(try clear hks);try dsimp only)
 all_goals try simp only [sm] at *
 all_goals (clear hW)
 all_goals (subst hf2 hg2 hn hm)
 all_goals first
  | rfl
  | exact (zO _ _).symm
  | exact ⟨rfl,rfl,rfl,h1,by omega,by omega⟩
  | exact ⟨rfl,rfl,rfl,h2,by unfold KI;omega,by unfold KI;omega⟩
  | (refine ⟨?_,?_,?_⟩<;>rfl)
  | skip
structure qsB (p q:SP)(n n' m m':Nat)(cs ps:List Int)(k:Int):Prop where out:(p=(lrt 0,[])/\q=(lrt 1,[])/\n'=n/\m'=m)/\cs.length=n/\ps.length=m/\n<=maxLen/\m<=maxLen/\0<k/\k+n+m<=4611686018427387904
def Z7 (f1:Int->Nat->List Int)(f2:Int->Nat->Nat->List Int)(g:Int->Nat->Nat->Int):WrW
 | [(true,[.fz (.int .i64 nw),.rf p true 0 n,.rf q true 0 m]),(false,[.fz (.int .i64 k)])],[(.sl n',.osl (.i cs)),(.sl m',.osl (.i ps))]=>some ([qsB p q n n' m m' cs ps k],(.v (bI1 (g k n m)),[(8192,.obx [.fz (.int .i64 nw),.osl (.i (f1 k n)),.osl (.i (f2 k n m))])],[.rf (8192,[((true,0),1)]) true 0 n,.rf (8192,[((true,0),2)]) true 0 m]))
 | _,_=>none
def stF (k:Int)(n m:Nat):List Int:=kv (KI k n) m
def stG (k:Int)(n m:Nat):Int:=KI (KI k n) m
theorem qau:vr Tryz.prog 19 (Z7 kv stF stG):=by
 intro xs ls
 unfold Z7
 split
 . refine R.Sim.mk fun hp=>?_
   obtain ⟨⟨rfl,rfl,rfl,rfl⟩,rfl,rfl,h1,h2,h3,h4⟩:=(hp _ (.head _)).out
   exact qcX _ _ _ _ h1 h2 ⟨h3,h4⟩
 . exact R.Sim.none'
end Go.Proofs.YtececadpjelanaaGreat.Ai
namespace Go.Proofs.YtececadpjelanaaGreat.Ai
open Go
set_option maxRecDepth 100000
variable [qi]
def JO (v ps vs:List Int):Nat->List Int
 | 0=>v
 | i+1=>(JO v ps vs i).set (ps.getD i 0-1).toNat (vs.getD i 0)
theorem ZO (v ps vs:List Int):∀ i,(JO v ps vs i).length=v.length
 | 0=>rfl
 | i+1=>by simp only [JO,List.length_set,ZO v ps vs i]
structure PrT (ps:List Int):Prop where out:∀ p∈ps,1<=p/\p<=3
def qgk (x:qf)(ps vs:List Int):qf:=⟨IntKind.i64.wrap (x.now+1),x.times,JO x.vals ps vs ps.length⟩
theorem qaB (x:qf)(ps vs:List Int)(hz:KT x)(h3:x.vals.length=3)(hl:vs.length=ps.length)(h1:ps.length<=1048576)(hp:∀ p∈ps,1<=p/\p<=3):qe Tryz.prog 106 [qI x,aIs ps,aIs vs] (kU (qgk x ps vs)):=by
 refine qe.of qc (fn:=Tryz.f106) (c:=Tryz.f106.body.getD .skip) (dr:=fun n=>qa 0 [(5,8)] n) Tryz.func106 rfl (by kernel_rfl) (by kernel_rfl) (by kernel_rfl) ?_
 have hO:qp Tryz.prog (qM [(86,ZB)]):=qb QD qd
 obtain ⟨now,times,vals⟩:=x
 dsimp only at h3
 refine SEx.go (X:=XX) qc (fun n=>qa [] [(3,[2,6,7,12,13,14])] n) (fun _=>none) hO 60 ?_
 intro M R L N m0 m1 m2 m3 m4 m5
 cases M
 cbv
 repeat' first | refine m1 _ _ ?_ ?_ | refine m2 _ _ fun h=>?_ | refine m3 _ ?_ | (refine m4 _ _ (Hd.out ?_);generalize hks:(List.cons _ _:List K)=ks) | (refine m5 _ _ ?_;cbv)
 all_goals (clear m1 m2 m3 m4 m5;cases m0;try dsimp only)
 all_goals try simp only [sm] at *
 all_goals first
  | exact hz
  | skip
 obtain ⟨m,hm⟩:∃ m,m=ps.length:=⟨_,rfl⟩
 refine ⟨SEx.same (SEx.idx m (fun i=>⟨34,[(2,bL (.i vs)),(6,bP 24576),(7,bP 28672),(12,bL (.i ps)),(13,bI m),(14,bI i)],[(24576,.obx [.fz (.int .i64 0),.onil,.onil]),(28672,.obx [.fz (.int .i64 now),.osl (.i times),.osl (.i (JO vals ps vs i))])]⟩) (fun _=>kU (qgk ⟨now,times,vals⟩ ps vs)) ?_) (by rw [hm];rfl) rfl⟩
 intro i hi ih
 rw [<-hks]
 obtain ⟨c,hc⟩:∃ c,c=JO vals ps vs i:=⟨_,rfl⟩
 have hcl:c.length=3:=by rw [hc,ZO,h3]
 have hpi:i<m->1<=ps.getD i 0/\ps.getD i 0<=3:=fun h=>hp _ (qo (z:=(0:Int)) (by omega)).out
 have hw:i<m->IntKind.i64.wrap (ps.getD i 0-1)=ps.getD i 0-1:=fun h=>by have:=hpi h;exact qr (by omega) (by omega)
 rw [<-hc]
 refine SEx.go (X:=XX) qc (fun n=>qa [] [(3,[2,6,7,12,13,14])] n) (fun _=>none) hO 60 ?_
 intro M R L N m0 m1 m2 m3 m4 m5
 cases M
 cbv
 repeat' first | refine m1 _ _ ?_ ?_ | refine m2 _ _ fun h=>?_ | refine m3 _ ?_ | (refine m4 _ _ (Hd.out ?_);try first | rw [hks] | rw [hk2] | rw [hk3]) | (refine m5 _ _ ?_;cbv)
 all_goals (clear m1 m2 m3 m4 m5;cases m0;(try clear hks;try clear hk2;try clear hk3);try dsimp only)
 all_goals try simp only [sm] at *
 all_goals (try (have h8:=hpi (by omega)))
 all_goals (try rw [hw (by omega)] at *)
 all_goals (try simp only [qh (show i<9223372036854775807 by omega)])
 all_goals first
  | omega
  | (refine ⟨(ih (by omega)).same ?_ rfl⟩;show _=_;rw [show JO vals ps vs (i+1)=c.set (ps.getD i 0-1).toNat (vs.getD i 0) by rw [hc];rfl];rfl)
  | (obtain rfl:i=m:=by omega
     unfold qgk
     rw [<-hm,hc];rfl)
  | skip
theorem qkc (l:List Int)(h1:l.length<=1048576):qe Tryz.prog 120 [aIs l] (rIs l):=by
 refine qe.of qc (fn:=Tryz.f120) (c:=Tryz.f120.body.getD .skip) (dr:=fun n=>qa 0 [] n) Tryz.func120 rfl (by kernel_rfl) (by kernel_rfl) (by kernel_rfl) ?_
 refine SEx.go (X:=XX) qc (fun n=>qa [] [] n) (fun _=>none) qd 60 ?_
 intro M R L N m0 m1 m2 m3 m4 m5
 cases M
 cbv
 repeat' first | refine m1 _ _ ?_ ?_ | refine m2 _ _ fun h=>?_ | refine m3 _ ?_ | (refine m4 _ _ (Hd.out ?_);try first | rw [hks] | rw [hk2] | rw [hk3]) | (refine m5 _ _ ?_;cbv)
 all_goals (clear m1 m2 m3 m4 m5;cases m0;(try clear hks;try clear hk2;try clear hk3);try dsimp only)
 all_goals try simp only [sm] at *
 all_goals first
  | (have:=zz;omega)
  | (have hl:l=[]:=List.eq_nil_of_length_eq_zero (by omega)
     subst hl;rfl)
  | rfl
end Go.Proofs.YtececadpjelanaaGreat.Ai
namespace Go.Proofs.YtececadpjelanaaGreat.Ai
open Go
set_option maxRecDepth 100000
variable [qi]
def qjw:Wr:=w1 kA rIs (fun l=>[LLe l 1048576])
theorem qif:qz Tryz.prog 120 qjw:=zx fun l h=>qkc l (h _ (.head _)).out
theorem qci (x:qf)(hz:KT x):qe Tryz.prog 90 [qI x] (kU x):=by
 refine qe.of qc (fn:=Tryz.f90) (c:=Tryz.f90.body.getD .skip) (dr:=fun n=>qa 0 [(1,8)] n) Tryz.func90 rfl (by kernel_rfl) (by kernel_rfl) (by kernel_rfl) ?_
 have hO:qp Tryz.prog (qM [(120,qjw)]):=qb qif qd
 have h1:=hz.tlen
 have h2:=hz.vlen
 clear hz
 obtain ⟨now,times,vals⟩:=x
 dsimp only at h1 h2
 refine SEx.go (X:=XX) qc (fun n=>qa [] [] n) (fun _=>none) hO 60 ?_
 intro M R L N m0 m1 m2 m3 m4 m5
 cases M
 cbv
 repeat' first | refine m1 _ _ ?_ ?_ | refine m2 _ _ fun h=>?_ | refine m3 _ ?_ | (refine m4 _ _ (Hd.out ?_);try first | rw [hks] | rw [hk2] | rw [hk3]) | (refine m5 _ _ ?_;cbv)
 all_goals (clear m1 m2 m3 m4 m5;cases m0;(try clear hks;try clear hk2;try clear hk3);try dsimp only)
 all_goals try simp only [sm] at *
 all_goals first
  | exact ⟨h1⟩
  | exact ⟨h2⟩
  | rfl
def VQ:Wr:=w1 qG kU (fun x=>[KT x])
theorem wg:qz Tryz.prog 90 VQ:=zx fun x h=>qci x (h _ (.head _))
theorem VD (x:qf)(ps vs:List Int)(hz:KT x)(h3:x.vals.length=3)(hl:vs.length=ps.length)(h1:ps.length<=1048576)(hp:∀ p∈ps,1<=p/\p<=3):qe Tryz.prog 136 [qI x,aIs ps,aIs vs] (kU (qgk x ps vs)):=by
 refine qe.of qc (fn:=Tryz.f136) (c:=Tryz.f136.body.getD .skip) (dr:=fun n=>qa 0 [(5,8)] n) Tryz.func136 rfl (by kernel_rfl) (by kernel_rfl) (by kernel_rfl) ?_
 have hO:qp Tryz.prog (qM [(90,VQ)]):=qb wg qd
 obtain ⟨now,times,vals⟩:=x
 dsimp only at h3
 refine SEx.go (X:=XX) qc (fun n=>qa [] [(3,[2,6,7,12,13,14])] n) (fun _=>none) hO 60 ?_
 intro M R L N m0 m1 m2 m3 m4 m5
 cases M
 cbv
 repeat' first | refine m1 _ _ ?_ ?_ | refine m2 _ _ fun h=>?_ | refine m3 _ ?_ | (refine m4 _ _ (Hd.out ?_);generalize hks:(List.cons _ _:List K)=ks) | (refine m5 _ _ ?_;cbv)
 all_goals (clear m1 m2 m3 m4 m5;cases m0;try dsimp only)
 all_goals try simp only [sm] at *
 all_goals first
  | exact hz
  | skip
 obtain ⟨m,hm⟩:∃ m,m=ps.length:=⟨_,rfl⟩
 refine ⟨SEx.same (SEx.idx m (fun i=>⟨34,[(2,bL (.i vs)),(6,bP 24576),(7,bP 28672),(12,bL (.i ps)),(13,bI m),(14,bI i)],[(24576,.obx [.fz (.int .i64 0),.onil,.onil]),(28672,.obx [.fz (.int .i64 now),.osl (.i times),.osl (.i (JO vals ps vs i))])]⟩) (fun _=>kU (qgk ⟨now,times,vals⟩ ps vs)) ?_) (by rw [hm];rfl) rfl⟩
 intro i hi ih
 rw [<-hks]
 obtain ⟨c,hc⟩:∃ c,c=JO vals ps vs i:=⟨_,rfl⟩
 have hcl:c.length=3:=by rw [hc,ZO,h3]
 have hpi:i<m->1<=ps.getD i 0/\ps.getD i 0<=3:=fun h=>hp _ (qo (z:=(0:Int)) (by omega)).out
 have hw:i<m->IntKind.i64.wrap (ps.getD i 0-1)=ps.getD i 0-1:=fun h=>by have:=hpi h;exact qr (by omega) (by omega)
 rw [<-hc]
 refine SEx.go (X:=XX) qc (fun n=>qa [] [(3,[2,6,7,12,13,14])] n) (fun _=>none) hO 60 ?_
 intro M R L N m0 m1 m2 m3 m4 m5
 cases M
 cbv
 repeat' first | refine m1 _ _ ?_ ?_ | refine m2 _ _ fun h=>?_ | refine m3 _ ?_ | (refine m4 _ _ (Hd.out ?_);try first | rw [hks] | rw [hk2] | rw [hk3]) | (refine m5 _ _ ?_;cbv)
 all_goals (clear m1 m2 m3 m4 m5;cases m0;(try clear hks;try clear hk2;try clear hk3);try dsimp only)
 all_goals try simp only [sm] at *
 all_goals (try (have h8:=hpi (by omega)))
 all_goals (try rw [hw (by omega)] at *)
 all_goals (try simp only [qh (show i<9223372036854775807 by omega)])
 all_goals first
  | omega
  | (refine ⟨(ih (by omega)).same ?_ rfl⟩;show _=_;rw [show JO vals ps vs (i+1)=c.set (ps.getD i 0-1).toNat (vs.getD i 0) by rw [hc];rfl];rfl)
  | (obtain rfl:i=m:=by omega
     unfold qgk
     rw [<-hm,hc];rfl)
  | skip
def obF (v ps vs:List Int):List Int:=JO v ps vs ps.length
structure V3 (v:List Int):Prop where out:v.length=3
structure SLn (a b:List Int):Prop where out:a.length=b.length
def nxI (n:Int):Int:=IntKind.i64.wrap (n+1)
def qpN (g:Int->Int)(f:List Int->List Int->List Int->List Int):Wr:=w3 qG kA kA (fun x ps vs=>kU ⟨g x.now,x.times,f x.vals ps vs⟩) (fun x ps vs=>[KT x,V3 x.vals,SLn vs ps,LLe ps 1048576,PrT ps])
theorem qml:qz Tryz.prog 106 (qpN nxI obF):=Qe fun x ps vs h=>qaB x ps vs (h _ (.head _)) (h _ (.tail _ (.head _))).out (h _ (.tail _ (.tail _ (.head _)))).out (h _ (.tail _ (.tail _ (.tail _ (.head _))))).out (h _ (.tail _ (.tail _ (.tail _ (.tail _ (.head _)))))).out
theorem qna:qz Tryz.prog 136 (qpN nxI obF):=Qe fun x ps vs h=>VD x ps vs (h _ (.head _)) (h _ (.tail _ (.head _))).out (h _ (.tail _ (.tail _ (.head _)))).out (h _ (.tail _ (.tail _ (.tail _ (.head _))))).out (h _ (.tail _ (.tail _ (.tail _ (.tail _ (.head _)))))).out
end Go.Proofs.YtececadpjelanaaGreat.Ai
namespace Go.Proofs.YtececadpjelanaaGreat.Ai
open Go
set_option maxRecDepth 100000
variable [qi]
theorem qqe {l:List qg}(k:Int)(h:∀ q∈l,q.label.length<=1048576):∀ i,i<=l.length->kN k l i<=k+i * 1048578
 | 0,_=>by rw [vw];omega
 | i+1,hi=>by
   have h1:=qqe k h i (by omega)
   have h2:=h _ (qo (z:=qg.z) (show i<l.length by omega)).out
   rw [VW (by omega)]
   omega
structure qsh (n:Int)(g:Int):Prop where
 lo:0<g
 hi:g<=4000000000000
theorem qrc {t:qm}{n:Int}(h:qie t n):qsh n (shG 1 t.nodes t.ties.length)/\gN 1 t.nodes<=4000000000000:=by
 have h1:=qqe 1 h.labs t.nodes.length (Nat.le_refl _)
 have h2:=vd 1 t.nodes 0 t.nodes.length
 rw [vw,Nat.zero_add] at h2
 have h3:=h.len
 have h4:=h.tlen
 unfold shG qlk gN
 exact ⟨⟨by omega,by omega⟩,by omega⟩
theorem qpM (k:Int)(n m:Nat):(stF k n m).length=m:=zO _ _
end Go.Proofs.YtececadpjelanaaGreat.Ai
namespace Go.Proofs.YtececadpjelanaaGreat.Ai
open Go
set_option maxRecDepth 100000
variable [qi]
def z7 (p:Int->Bool)(l:List Int):List Int:=l.filter fun x=>!p x
def qah (p:Int->Bool)(l:List Int):List Int:=z7 p l++List.replicate (l.length-(z7 p l).length) 0
def qoB (g:FuncId)(caps:List D)(l:List Int)(p:Int->Bool)(L:List (Nat×Wr)):Qg:=fun g' as'=>match as' with
 | (false,[.int .i64 q])::r=>some ([qnV g' g r caps,Mem q l],rB (p q))
 | xs=>qM L g' xs
theorem qnh {P:Program}{g:FuncId}{caps:List D}{l:List Int}{p:Int->Bool}{L:List (Nat×Wr)}(hp:∀ q∈l,qe P g (aI q::Qv caps) (rB (p q)))(hL:qp P (qM L)):qp P (qoB g caps l p L):=by
 intro g' as'
 unfold qoB
 split
 . refine R.Sim.mk fun hq=>?_
   obtain ⟨rfl,rfl⟩:=hq _ (.head _)
   exact hp _ (hq _ (.tail _ (.head _))).out
 . exact hL _ _
theorem wn {α:Type}(p:α->Bool)(z:α):∀ (l:List α) (n:Nat),(zV p l n=-1/\∀ q∈l,p q=false)\/∃ i,i<l.length/\zV p l n=((n+i:Nat):Int)/\p (l.getD i z)=true/\∀ q∈l.take i,p q=false
 | [],n=>.inl ⟨rfl,fun q h=>by cases h⟩
 | a::r,n=>by
   unfold zV
   cases h:p a with
   | true=>exact .inr ⟨0,by simp,by simp,by simpa using h,fun q h=>by simp at h⟩
   | false =>
     rw [if_neg (by simp)]
     rcases wn p z r (n+1) with ⟨h1,h2⟩ | ⟨i,h1,h2,h3,h4⟩
     . exact .inl ⟨h1,fun q hq=>(List.mem_cons.1 hq).elim (fun e=>e▸h) (h2 q)⟩
     . refine .inr ⟨i+1,by simpa using h1,by rw [h2];congr 1;omega,by simpa using h3,fun q hq=>?_⟩
       rw [List.take_succ_cons] at hq
       exact (List.mem_cons.1 hq).elim (fun e=>e▸h) (h4 q)
theorem qbD {p:Int->Bool}{l:List Int}(h:∀ q∈l,p q=false):z7 p l=l:=by
 unfold z7
 rw [List.filter_eq_self]
 intro q hq
 rw [h q hq];rfl
theorem qgi {p:Int->Bool}{l:List Int}{j:Nat}(h:j<l.length):z7 p (l.take (j+1))=z7 p (l.take j)++(if p (l.getD j 0)=true then [] else [l.getD j 0]):=by
 unfold z7
 rw [List.take_add_one,List.filter_append,zm h,List.getElem?_eq_getElem h,Option.toList_some,List.filter_cons,List.filter_nil]
 cases p l[j]<;>rfl
theorem qkg {c:List Int}{i n:Nat}(hn:c.length=n)(hi:i<=n):kW c i (n-i) 0=c.take i++List.replicate (n-i) 0:=by
 apply List.ext_getElem?
 intro j
 rw [Qi,List.getElem?_append,List.length_take,hn,Nat.min_eq_left hi,List.getElem?_take,List.getElem?_replicate]
 by_cases h1:j<i
 . rw [if_neg (by omega),if_pos h1,if_pos h1]
 . rw [if_neg h1]
   by_cases h2:j<n
   . rw [if_pos (by omega),if_pos (by omega)]
   . rw [if_neg (by omega),if_neg (by omega),List.getElem?_eq_none (by omega)]
theorem qob {c:List Int}{i:Nat}(v:Int)(h:i<c.length):(c.set i v).take (i+1)=c.take i++[v]:=by
 rw [List.take_add_one,List.take_set_of_le (Nat.le_refl i),List.getElem?_set_self h];rfl
theorem qef {c l:List Int}{j:Nat}(h:c.drop j=l.drop j):c.drop (j+1)=l.drop (j+1):=by
 have:=congrArg (List.drop 1) h
 rwa [List.drop_drop,List.drop_drop] at this
theorem WY (l:List Int)(g:FuncId)(a b:List D)(p:Int->Bool)(hp:∀ q∈l,qe Tryz.prog g [aI q,(false,[.ptr a]),(false,[.ptr b])] (rB (p q)))(h1:l.length<=maxLen) :
 zY Tryz.prog 159 [wR l.length,(false,[.clo g [.fz (.ptr a),.fz (.ptr b)]])] [(lrt 0,.osl (.i l))] [.rf (lrt 0,[]) true 0 l.length]
  (.v (false,[.rf (lrt 0,[]) false 0 (z7 p l).length])) [(lrt 0,.osl (.i (qah p l)))] [.rf (lrt 0,[]) true 0 l.length]:=by
 refine zY.of qc (fn:=Tryz.f159) (c:=Tryz.f159.body.getD .skip) (dr:=fun n=>qa 0 [] n) (r:=(_,_,_)) Tryz.func159 rfl (by kernel_rfl) (by kernel_rfl) (by kernel_rfl) ?_
 obtain ⟨f,hf⟩:∃ f:List Int->Int,f=fun l=>zV p l 0:=⟨_,rfl⟩
 have hO:qp Tryz.prog (qoB g [.ptr a,.ptr b] l p [(141,wCl kA g [.ptr a,.ptr b] (fun l=>rI (f l)) (fun m=>[WQ m l]))]):=by
  subst hf
  exact qnh hp (qb (qbH fun m h=>by obtain rfl:=(h _ (.head _)).out;exact Vn m g [.ptr a,.ptr b] p hp h1) qd)
 unfold maxLen at h1
 have hc:=wn p 0 l 0
 rw [show zV p l 0=f l by rw [hf]] at hc
 have hkl:(z7 p l).length<=l.length:=List.length_filter_le _ _
 have hka:=qbD (p:=p) (l:=l)
 have hks':∀ j,j<l.length->z7 p (l.take (j+1))=z7 p (l.take j)++(if p (l.getD j 0)=true then [] else [l.getD j 0]):=fun j h=>qgi h
 have hkt:z7 p (l.take l.length)=z7 p l:=by rw [List.take_length]
 obtain ⟨kl,hkl0⟩:∃ kl,kl=z7 p l:=⟨_,rfl⟩
 obtain ⟨m,hm⟩:∃ m,m=kl.length:=⟨_,rfl⟩
 obtain ⟨dl,hdl⟩:∃ dl,dl=qah p l:=⟨_,rfl⟩
 rw [<-hkl0,<-hm,<-hdl]
 unfold qah at hdl
 rw [<-hkl0,<-hm] at hdl
 rw [<-hkl0] at hkl hka hkt
 generalize hn:l.length=n at *
 obtain ⟨tt,htt⟩:∃ t:Nat->List Int,t=fun j=>z7 p (l.take j):=⟨_,rfl⟩
 rw [show z7 p (l.take n)=tt n by rw [htt]] at hkt
 have hst:∀ j,j<n->tt (j+1)=tt j++(if p (l.getD j 0)=true then [] else [l.getD j 0]):=fun j h=>by rw [htt];exact hks' j h
 clear hks'
 refine zN.go (X:=(XX.withF [4])) qc (fun n=>qa [] [(5,[0,1,5,6,4294967296])] n) (fun _=>none) hO 60 1 ?_
 intro M R L N m0 m1 m2 m3 m4 m5
 cases M
 cbv
 repeat' first | refine m1 _ _ ?_ ?_ | refine m2 _ _ fun h=>?_ | refine m3 _ ?_ | (refine m4 _ _ (Hd.out ?_);generalize hks:(List.cons _ _:List K)=ks) | (refine m5 _ _ ?_;cbv)
 all_goals (clear m1 m2 m3 m4 m5;cases m0;try dsimp only)
 all_goals try simp only [sm] at *
 all_goals first
  | exact hn.symm
  | exact ⟨rfl⟩
  | exact ⟨rfl,rfl⟩
  | (have e:kl=l:=by
      rcases hc with ⟨_,h2⟩ | ⟨i,_,h2,_⟩
      . exact hka h2
      . omega
     have e2:m=n:=by rw [hm,e,hn]
     subst e2
     rw [Nat.sub_self,List.replicate_zero,List.append_nil,e] at hdl
     subst hdl
     refine ⟨?_,?_,?_⟩<;>rfl)
  | skip
 obtain ⟨i0,hi0,hfi,hpi,hbe⟩:∃ i,i<n/\f l=(i:Int)/\p (l.getD i 0)=true/\∀ q∈l.take i,p q=false:=by
  rcases hc with ⟨h2,_⟩ | ⟨i,h2,h3,h4,h5⟩
  . contradiction
  . exact ⟨i,h2,by rw [h3,Nat.zero_add],h4,h5⟩
 rw [hfi,qh (show i0<9223372036854775807 by omega)]
 have htl:∀ j,(tt j).length<=j:=fun j=>by
  rw [htt]
  show (z7 p (l.take j)).length<=j
  unfold z7
  exact Nat.le_trans (List.length_filter_le _ _) (by rw [List.length_take];omega)
 have ht0:tt (i0+1)=l.take i0:=by
  rw [hst i0 hi0,hpi,if_pos rfl,List.append_nil,htt]
  exact qbD hbe
 have htn:∀ j,j<=n->(tt j).length<=m:=fun j hj=>by
  have key:∀ d,j+d<=n->(tt j).length<=(tt (j+d)).length:=by
   intro d
   induction d with
   | zero=>intro _;exact Nat.le_refl _
   | succ d ih =>
     intro h
     have:=ih (by omega)
     rw [<-Nat.add_assoc,hst (j+d) (by omega),List.length_append]
     omega
  have:=key (n-j) (by omega)
  rw [show j+(n-j)=n by omega,hkt,<-hm] at this
  exact this
 clear hf hka hc hbe hkl0 htt
 refine ⟨zN.same (zN.ind (α:=Nat×List Int×Nat) (fun x=>⟨42,[(0,bR 41000000 n),(1,.v (false,[.clo g [.fz (.ptr a),.fz (.ptr b)]])),(5,bI x.2.2),(6,bI x.1),(4294967296,bR 41000000 n)],[(41000000,.osl (.i x.2.1))]⟩) (fun _=>(.v (false,[.rf (lrt 0,[]) false 0 m]),[(lrt 0,.osl (.i dl))],[.rf (lrt 0,[]) true 0 n])) (fun x=>x.1<=n/\x.2.2<x.1/\x.2.1.length=n/\x.2.1.take x.2.2=tt x.1/\x.2.1.drop x.1=l.drop x.1) (fun x=>n-x.1) (i0+1,l,i0) ⟨by show i0+1<=n;omega,Nat.lt_succ_self i0,hn,ht0.symm,rfl⟩ ?_) rfl ⟨rfl,rfl,rfl⟩⟩
 rintro ⟨j,c,i⟩ ⟨hj,hij,hcl,hct,hcd⟩ ih
 dsimp only at hj hij hcl hct hcd ih ⊢
 rw [<-hks]
 have hcj:j<n->c.getD j 0=l.getD j 0:=fun h=>by
  have:=congrArg (fun x:List Int=>x[0]?) hcd
  simp only [List.getElem?_drop,Nat.add_zero] at this
  rw [List.getD_eq_getElem?_getD,List.getD_eq_getElem?_getD,this]
 have hil:i=(tt j).length:=by rw [<-hct,List.length_take];omega
 refine zN.go (X:=(XX.withF [4])) qc (fun n=>qa [] [(5,[0,1,5,6,4294967296])] n) (fun _=>none) hO 60 1 ?_
 intro M R L N m0 m1 m2 m3 m4 m5
 cases M
 cbv
 repeat' first | refine m1 _ _ ?_ ?_ | refine m2 _ _ fun h=>?_ | refine m3 _ ?_ | (refine m4 _ _ (Hd.out ?_);try rw [hks]) | (refine m5 _ _ ?_;cbv)
 all_goals (clear m1 m2 m3 m4 m5;cases m0;(try clear hks);try dsimp only)
 all_goals try simp only [sm] at *
 all_goals (try simp only [Nat.zero_add] at *)
 all_goals (try simp only [hcj (by omega),qh (show j<9223372036854775807 by omega),qh (show i<9223372036854775807 by omega)] at *)
 all_goals first
  | exact hn.symm
  | omega
  | (rw [jl];omega)
  | exact ⟨rfl,rfl⟩
  | exact qo (z:=(0:Int)) (by omega)
  | (have hpj:p (l.getD j 0)=false:=by assumption
     refine ⟨(ih (j+1,c.set i (l.getD j 0),i+1) ⟨by show j+1<=n;omega,by show i+1<j+1;omega,by show (c.set i (l.getD j 0)).length=n;rw [List.length_set];exact hcl,?_,?_⟩ (by show n-(j+1)<n-j;omega)).same rfl ⟨rfl,rfl,rfl⟩⟩
     . show (c.set i (l.getD j 0)).take (i+1)=tt (j+1)
       rw [qob _ (by omega),hct,hst j (by omega),hpj];rfl
     . show (c.set i (l.getD j 0)).drop (j+1)=l.drop (j+1)
       rw [List.drop_set_of_lt (by omega),qef hcd])
  | (have hpj:p (l.getD j 0)=true:=by assumption
     refine ⟨(ih (j+1,c,i) ⟨by show j+1<=n;omega,by show i<j+1;omega,hcl,?_,?_⟩ (by show n-(j+1)<n-j;omega)).same rfl ⟨rfl,rfl,rfl⟩⟩
     . show c.take i=tt (j+1)
       rw [hct,hst j (by omega),hpj,if_pos rfl,List.append_nil]
     . show c.drop (j+1)=l.drop (j+1)
       exact qef hcd)
  | (have e:j=n:=by omega
     subst e
     have hmi:m=i:=by rw [hm,<-hkt,<-hil]
     have e2:dl=kW c i (j-i) 0:=by rw [qkg hcl (by omega),hct,hkt,hdl,hmi]
     subst hmi
     rw [e2]
     refine ⟨?_,?_,?_⟩<;>rfl)
  | skip
def kC (q:Nat->Bool)(i:Nat):List Int:=((List.range i).filter q).map fun (j:Nat)=>(j:Int)
theorem vV {q:Nat->Bool}{i:Nat}(h:q i=true):kC q (i+1)=kC q i++[(i:Int)]:=by
 simp only [kC,List.range_succ,List.filter_append,List.map_append,List.filter_cons,List.filter_nil,h,if_true,List.map_cons,List.map_nil]
theorem vh {q:Nat->Bool}{i:Nat}(h:q i=false):kC q (i+1)=kC q i:=by
 simp only [kC,List.range_succ,List.filter_append,List.map_append,List.filter_cons,List.filter_nil,h,Bool.false_eq_true,if_false,List.map_nil,List.append_nil]
theorem QO (q:Nat->Bool)(i:Nat):(kC q i).length<=i:=by
 simp only [kC,List.length_map]
 exact Nat.le_trans (List.length_filter_le _ _) (by simp)
theorem wM {q:Nat->Bool}{n:Nat}{x:Int}(h:x∈kC q n):0<=x/\x<n/\q x.toNat=true:=by
 simp only [kC,List.mem_map,List.mem_filter,List.mem_range] at h
 obtain ⟨j,⟨h1,h2⟩,rfl⟩:=h
 exact ⟨by omega,by omega,by simpa using h2⟩
theorem qdJ (q:Nat->Bool)(p:Int->Bool)(n:Nat):(kC q n).filter p=kC (fun j=>q j&&p j) n:=by
 simp only [kC,List.filter_map,List.filter_filter]
 congr 1
 congr 1
 funext j
 simp [Function.comp,Bool.and_comm]
def chQ (ts:List Tie)(i:Nat):Bool:=decide (0<i)&&decide (KZ ts i<0)
def chL (t:qm):List Int:=kC (chQ t.ties) t.nodes.length
def enP (t:qm)(x:qf)(i:Int):Bool:=decide (x.times.getD i.toNat 0=-1)&&decide (nsI t x i=1)
def enL (t:qm)(x:qf):List Int:=(chL t).filter (enP t x)
theorem qdw (q:Tie)(x:Int):qe Tryz.prog 181 [yZ q,(false,[.ptr [.int .i64 x]])] (rB (q.free&&q.dst == x)):=by
 refine qe.of qc (fn:=Tryz.f181) (c:=Tryz.f181.body.getD .skip) (dr:=fun n=>qa 0 [] n) Tryz.func181 rfl (by kernel_rfl) (by kernel_rfl) (by kernel_rfl) ?_
 obtain ⟨x1,x2,x3,x4,x5⟩:=q
 refine SEx.go (X:=XX) qc (fun n=>qa [] [] n) (fun _=>none) qd 60 ?_
 intro M R L N m0 m1 m2 m3 m4 m5
 cases M
 cbv
 repeat' first | refine m1 _ _ ?_ ?_ | refine m2 _ _ fun h=>?_ | refine m3 _ ?_ | (refine m4 _ _ (Hd.out ?_);try first | rw [hks] | rw [hk2] | rw [hk3]) | (refine m5 _ _ ?_;cbv)
 all_goals (clear m1 m2 m3 m4 m5;cases m0;(try clear hks;try clear hk2;try clear hk3);try dsimp only)
 all_goals try simp only [sm] at *
 all_goals (refine qJ ?_ _;simp_all;done)
theorem qg4 (t:qm)(x:Int)(h1:t.ties.length<=maxLen):qe Tryz.prog 178 [qQ t,aI x] (rI (KZ t.ties x)):=by
 refine qe.of qc (fn:=Tryz.f178) (c:=Tryz.f178.body.getD .skip) (dr:=fun n=>qa 0 [] n) Tryz.func178 rfl (by kernel_rfl) (by kernel_rfl) (by kernel_rfl) ?_
 obtain ⟨f,hf⟩:∃ f,f=KZ:=⟨_,rfl⟩
 have hO:qp Tryz.prog (qM [(162,w2 K9 (qse 181 false dcI fun _=>rfl) (fun l x=>rI (f l x)) (fun l x=>[LLe l maxLen]))]):=by
  subst hf
  exact qb (qE fun l x h=>JZ l 181 [.ptr [.int .i64 x]] (fun q=>q.free&&q.dst == x) (fun q _=>qdw q x) (h _ (.head _)).out) qd
 obtain ⟨ns,ts,hr⟩:=t
 rw [<-hf]
 refine SEx.go (X:=XX) qc (fun n=>qa [] [] n) (fun _=>none) hO 60 ?_
 intro M R L N m0 m1 m2 m3 m4 m5
 cases M
 cbv
 repeat' first | refine m1 _ _ ?_ ?_ | refine m2 _ _ fun h=>?_ | refine m3 _ ?_ | (refine m4 _ _ (Hd.out ?_);try first | rw [hks] | rw [hk2] | rw [hk3]) | (refine m5 _ _ ?_;cbv)
 all_goals (clear m1 m2 m3 m4 m5;cases m0;(try clear hks;try clear hk2;try clear hk3);try dsimp only)
 all_goals try simp only [sm] at *
 all_goals first
  | exact ⟨h1⟩
  | rfl
  | skip
theorem qle:qz Tryz.prog 178 (qf6 KZ):=qE fun t x h=>qg4 t x (h _ (.head _)).out
theorem qkS (t:qm)(h1:t.ties.length<=maxLen)(h2:1<=t.nodes.length/\t.nodes.length<=7):qe Tryz.prog 160 [qQ t] (rUs (chL t)):=by
 refine qe.of qc (fn:=Tryz.f160) (c:=Tryz.f160.body.getD .skip) (dr:=fun n=>qa 0 [] n) Tryz.func160 rfl (by kernel_rfl) (by kernel_rfl) (by kernel_rfl) ?_
 obtain ⟨f,hf⟩:∃ f,f=KZ:=⟨_,rfl⟩
 have hO:qp Tryz.prog (qM [(178,qf6 f)]):=by subst hf;exact qb qle qd
 obtain ⟨ns,ts,hr⟩:=t
 dsimp only at h1 h2
 obtain ⟨q,hq⟩:∃ q,q=chQ ts:=⟨_,rfl⟩
 obtain ⟨r,hrr⟩:∃ r,r=chL ⟨ns,ts,hr⟩:=⟨_,rfl⟩
 rw [<-hrr]
 have hrr:r=kC q ns.length:=by rw [hrr,hq];rfl
 have hq0:q 0=false:=by rw [hq];rfl
 have hqs:∀ j:Nat,q (j+1)=decide (f ts ((j+1:Nat):Int)<0):=fun j=>by rw [hq,hf];unfold chQ;rw [decide_eq_true (Nat.succ_pos j),Bool.true_and]
 clear hq
 obtain ⟨m,hm⟩:∃ m,m=ns.length:=⟨_,rfl⟩
 rw [<-hm] at h2 hrr
 refine SEx.go (X:=XX) qc (fun n=>qa [] [(3,[1,3,4])] n) (fun _=>none) hO 60 ?_
 intro M R L N m0 m1 m2 m3 m4 m5
 cases M
 cbv
 repeat' first | refine m1 _ _ ?_ ?_ | refine m2 _ _ fun h=>?_ | refine m3 _ ?_ | (refine m4 _ _ (Hd.out ?_);generalize hks:(List.cons _ _:List K)=ks) | (refine m5 _ _ ?_;cbv)
 all_goals (clear m1 m2 m3 m4 m5;cases m0;try dsimp only)
 all_goals try simp only [sm] at *
 refine ⟨SEx.same (SEx.idx (m-1) (fun j=>⟨21,[(1,bP 4096),(3,bR 12288 (kC q (j+1)).length),(4,bI (j+1:Nat))],[(4096,.obx [.fz (.sl (.node false none ns)),.fz (.sl (.tie ts)),.fz (.int .i64 hr)]),(12288,.osl (.i (kC q (j+1))))]⟩) (fun _=>rUs r) ?_) (by rw [vh hq0];rfl) rfl⟩
 intro j hj ih
 rw [<-hks]
 obtain ⟨u,hu⟩:∃ u,u=kC q (j+1):=⟨_,rfl⟩
 have hul:u.length<=j+1:=by rw [hu];exact QO _ _
 rw [<-hu]
 obtain ⟨n,hn⟩:∃ n,n=u.length:=⟨_,rfl⟩
 rw [<-hn] at hul ⊢
 obtain ⟨k,hk⟩:∃ k,k=j+1:=⟨_,rfl⟩
 have hqk:q k=decide (f ts (k:Int)<0):=by rw [hk];exact hqs j
 rw [<-hk] at hul hu ih ⊢
 refine SEx.go (X:=XX) qc (fun n=>qa [] [(3,[1,3,4])] n) (fun _=>none) hO 60 ?_
 intro M R L N m0 m1 m2 m3 m4 m5
 cases M
 cbv
 repeat' first | refine m1 _ _ ?_ ?_ | refine m2 _ _ fun h=>?_ | refine m3 _ ?_ | (refine m4 _ _ (Hd.out ?_);try first | rw [hks] | rw [hk2] | rw [hk3]) | (refine m5 _ _ ?_;cbv)
 all_goals (clear m1 m2 m3 m4 m5;cases m0;(try clear hks;try clear hk2;try clear hk3);try dsimp only)
 all_goals try simp only [sm] at *
 all_goals try simp only [List.length_append,List.length_cons,List.length_nil,List.length_set] at *
 all_goals (try omega)
 all_goals (try (have:=zz;omega))
 all_goals (try simp only [qh (show k<9223372036854775807 by omega)])
 all_goals first
  | exact ⟨h1⟩
  | (have ih':=ih (by omega)
     rw [vV (by rw [hqk];exact decide_eq_true (by assumption)),<-hu,List.length_append] at ih'
     exact ⟨ih'.same rfl rfl⟩)
  | (have ih':=ih (by omega)
     rw [vh (by rw [hqk];exact decide_eq_false (by omega)),<-hu,<-hn] at ih'
     exact ⟨ih'.same rfl rfl⟩)
  | (have e:k=m:=by omega
     rw [hrr,<-e,hu];rfl)
  | skip
structure StV (t:qm)(x:qf):Prop where
 sh:za t=true
 vals:qR x.vals=true
theorem qaK (t:qm)(x:qf)(i:Int)(hs:kB t x)(h:StV t x)(hi:0<=i/\i<t.nodes.length):qe Tryz.prog 129 [qQ t,qI x,aI i] (rI (nsI t x i)):=by
 refine qe.of qc (fn:=Tryz.f129) (c:=Tryz.f129.body.getD .skip) (dr:=fun n=>qa 0 [(1,8)] n) Tryz.func129 rfl (by kernel_rfl) (by kernel_rfl) (by kernel_rfl) ?_
 have h1:=kK h.sh (qo (z:=qg.z) (show i.toNat<t.nodes.length by omega)).out
 have h2:=h.vals
 have h3:=hs.sh.nodes _ (qo (z:=qg.z) (show i.toNat<t.nodes.length by omega)).out
 have h4:=hs.st.vlen
 unfold nsI nd
 obtain ⟨f,hf⟩:∃ f:List Int->List Int->Int,f=fun l v=>if qW l=true/\qR v=true then ZQ v l 1 else -1:=⟨_,rfl⟩
 have hO:qp Tryz.prog (qM [(163,w2 kA kA (fun l v=>rI (f l v)) (fun l v=>[Kb l,LLe v maxLen]))]):=by
  subst hf
  exact qb (qE fun l v h=>Ks l v (h _ (.head _)) (h _ (.tail _ (.head _))).out) qd
 have he:f (t.nodes.getD i.toNat qg.z).label x.vals=ZQ x.vals (t.nodes.getD i.toNat qg.z).label 1:=by rw [hf];exact if_pos ⟨h1,h2⟩
 rw [<-he]
 clear hs h hf he
 obtain ⟨ns,ts,hr⟩:=t
 obtain ⟨now,times,vals⟩:=x
 dsimp only at hi h1 h2 h3 h4
 refine SEx.go (X:=XX) qc (fun n=>qa [] [] n) (fun _=>none) hO 60 ?_
 intro M R L N m0 m1 m2 m3 m4 m5
 cases M
 cbv
 repeat' first | refine m1 _ _ ?_ ?_ | refine m2 _ _ fun h=>?_ | refine m3 _ ?_ | (refine m4 _ _ (Hd.out ?_);try first | rw [hks] | rw [hk2] | rw [hk3]) | (refine m5 _ _ ?_;cbv)
 all_goals (clear m1 m2 m3 m4 m5;cases m0;(try clear hks;try clear hk2;try clear hk3);try dsimp only)
 all_goals try simp only [sm] at *
 all_goals first
  | omega
  | exact ⟨h3.len,h3.all⟩
  | exact ⟨h4⟩
  | rfl
  | skip
def qfD (f:qm->qf->Int->Int):Wr:=w3 qP qG dcI (fun t x i=>rI (f t x i)) (fun t x i=>[kB t x,StV t x,InX i t.nodes])
theorem qe0:qz Tryz.prog 129 (qfD nsI):=Qe fun t x i h=>qaK t x i (h _ (.head _)) (h _ (.tail _ (.head _))) (h _ (.tail _ (.tail _ (.head _)))).out
theorem qeE (i:Int)(t:qm)(x:qf)(hs:kB t x)(h:StV t x)(hl:x.times.length=t.nodes.length)(hi:0<=i/\i<t.nodes.length):qe Tryz.prog 161 [aI i,(false,[.ptr x.d]),(false,[.ptr t.d])] (rB (!enP t x i)):=by
 refine qe.of qc (fn:=Tryz.f161) (c:=Tryz.f161.body.getD .skip) (dr:=fun n=>qa 0 [] n) Tryz.func161 rfl (by kernel_rfl) (by kernel_rfl) (by kernel_rfl) ?_
 obtain ⟨f,hf⟩:∃ f,f=nsI:=⟨_,rfl⟩
 have hO:qp Tryz.prog (qM [(129,qfD f)]):=by subst hf;exact qb qe0 qd
 unfold enP
 rw [<-hf]
 clear hf
 obtain ⟨ns,ts,hr⟩:=t
 obtain ⟨now,times,vals⟩:=x
 dsimp only at hl hi
 refine SEx.go (X:=XX) qc (fun n=>qa [] [] n) (fun _=>none) hO 60 ?_
 intro M R L N m0 m1 m2 m3 m4 m5
 cases M
 cbv
 repeat' first | refine m1 _ _ ?_ ?_ | refine m2 _ _ fun h=>?_ | refine m3 _ ?_ | (refine m4 _ _ (Hd.out ?_);try first | rw [hks] | rw [hk2] | rw [hk3]) | (refine m5 _ _ ?_;cbv)
 all_goals (clear m1 m2 m3 m4 m5;cases m0;(try clear hks;try clear hk2;try clear hk3);try dsimp only)
 all_goals try simp only [sm] at *
 all_goals first
  | omega
  | exact hs
  | exact h
  | exact ⟨hi⟩
  | (refine qJ ?_ _;rw [decide_eq_false (by assumption)];rfl)
  | (refine qJ ?_ _;rw [decide_eq_true (by assumption),Bool.true_and];generalize f _ _ i=v;by_cases hv:v=1<;>simp [hv];done)
  | skip
structure ChT (t:qm):Prop where
 len:t.ties.length<=maxLen
 nod:1<=t.nodes.length/\t.nodes.length<=7
def qi7 (f:qm->List Int):Wr:=w1 qP (fun t=>rUs (f t)) (fun t=>[ChT t])
theorem qgc:qz Tryz.prog 160 (qi7 chL):=zx fun t h=>qkS t (h _ (.head _)).len (h _ (.head _)).nod
structure qrP (p:SP)(n m:Nat)(l l0:List Int)(g' g:Nat)(a' a b' b:List D):Prop where out:p=(lrt 0,[])/\m=n/\l.length=n/\l=l0/\g'=g/\a'=a/\b'=b
def qo9 (g:Nat)(a b:List D)(l0:List Int)(k d:List Int->List Int)(ln:List Int->Nat):WrW
 | [(false,[.rf p true 0 n]),(false,[.clo g' [.fz (.ptr a'),.fz (.ptr b')]])],[(.sl m,.osl (.i l))]=>some ([qrP p n m l l0 g' g a' a b' b],(.v (false,[.rf (lrt 0,[]) false 0 (ln (k l))]),[(lrt 0,.osl (.i (d l)))],[.rf (lrt 0,[]) true 0 n]))
 | _,_=>none
theorem qpq {g:Nat}{a b:List D}{l0:List Int}{p:Int->Bool}(hp:∀ q∈l0,qe Tryz.prog g [aI q,(false,[.ptr a]),(false,[.ptr b])] (rB (p q)))(h1:l0.length<=maxLen) :
 vr Tryz.prog 159 (qo9 g a b l0 (z7 p) (qah p) List.length):=by
 intro xs ls
 unfold qo9
 split
 . refine R.Sim.mk fun hq=>?_
   obtain ⟨rfl,rfl,rfl,rfl,rfl,rfl,rfl⟩:=(hq _ (.head _)).out
   exact WY _ _ _ _ p hp h1
 . exact R.Sim.none'
theorem qmO (p:Int->Bool)(l:List Int):(qah p l).length=l.length:=by
 have:(z7 p l).length<=l.length:=List.length_filter_le _ _
 unfold qah
 rw [List.length_append,List.length_replicate]
 omega
theorem qk2 (p:Int->Bool)(l:List Int):((qah p l).drop 0).take (z7 p l).length=z7 p l:=by
 rw [List.drop_zero]
 unfold qah
 rw [List.take_left]
theorem qkk (p:Int->Bool)(l:List Int):z7 (fun i=>!p i) l=l.filter p:=by
 unfold z7
 congr 1
 funext x
 simp
theorem qd6 {P:Program}{g:FuncId}{args:List (V1 A)}{tb tb':List (Nat×O)}{ph ph':List A}{p:qj}{off:Nat}(h:Vp P g args tb ph (.v (false,[.rf p off 0])) tb' ph'):Vp P g args tb ph (.v (false,[.fz (.sl [])])) tb' ph':=by
 refine ⟨h.1,fun J w σ vals hfut hold hsz ha hin=>(h.2 J w σ vals hfut hold hsz ha hin).mono ?_⟩
 rintro e w' ⟨v,σ',he,ho⟩
 letI:=J
 refine ⟨v,σ',he,ho.goes,ho.back,?_⟩
 have hr:ql w' σ' (.rf p off 0) v:=ho.res
 show ql w' σ' (.fz (.sl [])) v
 cases hr with
 | rz _ _ b=>exact .fz _ _ (.sl [] 0 b 0 (fun _ _=>undef) (Nat.le_refl _) (by simp) (by simp) (by simp) (by simp))
 | rf _ _ _ g n cap sz hg hl hn=>exact .fz _ _ (.sl [] 0 _ _ (fun _ _=>undef) (Nat.zero_le _) (by simp) (by simp) (by simp) (by simp))
theorem qdf (l:List Int)(g:FuncId)(a b:List D)(p:Int->Bool)(hp:∀ q∈l,qe Tryz.prog g [aI q,(false,[.ptr a]),(false,[.ptr b])] (rB (p q)))(h1:l.length<=maxLen)(h0:z7 p l=[]) :
 zY Tryz.prog 159 [wR l.length,(false,[.clo g [.fz (.ptr a),.fz (.ptr b)]])] [(lrt 0,.osl (.i l))] [.rf (lrt 0,[]) true 0 l.length]
  (.v (false,[.fz (.sl (.i []))])) [(lrt 0,.osl (.i (qah p l)))] [.rf (lrt 0,[]) true 0 l.length]:=by
 have:=WY l g a b p hp h1
 rw [h0] at this
 exact qd6 this
def qjF (g:Nat)(a b:List D)(l0:List Int)(d:List Int->List Int):WrW
 | [(false,[.rf p true 0 n]),(false,[.clo g' [.fz (.ptr a'),.fz (.ptr b')]])],[(.sl m,.osl (.i l))]=>some ([qrP p n m l l0 g' g a' a b' b],(.v (false,[.fz (.sl (.i []))]),[(lrt 0,.osl (.i (d l)))],[.rf (lrt 0,[]) true 0 n]))
 | _,_=>none
theorem qox {g:Nat}{a b:List D}{l0:List Int}{p:Int->Bool}(hp:∀ q∈l0,qe Tryz.prog g [aI q,(false,[.ptr a]),(false,[.ptr b])] (rB (p q)))(h1:l0.length<=maxLen)(h0:z7 p l0=[]) :
 vr Tryz.prog 159 (qjF g a b l0 (qah p)):=by
 intro xs ls
 unfold qjF
 split
 . refine R.Sim.mk fun hq=>?_
   obtain ⟨rfl,rfl,rfl,rfl,rfl,rfl,rfl⟩:=(hq _ (.head _)).out
   exact qdf _ _ _ _ p hp h1 h0
 . exact R.Sim.none'
def rE:TV W:=.v (false,[.fz (.sl (.i []))])
def rEn:List Int->TV W
 | []=>rE
 | a::l=>rUs (a::l)
theorem Yi (t:qm)(x:qf)(hs:kB t x)(h:StV t x)(hl:x.times.length=t.nodes.length):qe Tryz.prog 123 [qQ t,qI x] (rEn (enL t x)):=by
 refine qe.of qc (fn:=Tryz.f123) (c:=Tryz.f123.body.getD .skip) (dr:=fun n=>qa 0 [] n) Tryz.func123 rfl (by kernel_rfl) (by kernel_rfl) (by kernel_rfl) ?_
 have hn:=qL h.sh
 have htl:=hs.sh.tlen
 obtain ⟨f0,hf0⟩:∃ f,f=chL:=⟨_,rfl⟩
 have hO:qp Tryz.prog (qM [(160,qi7 f0)]):=by subst hf0;exact qb qgc qd
 obtain ⟨l0,hl0⟩:∃ l,l=f0 t:=⟨_,rfl⟩
 have hmem:∀ q∈l0,0<=q/\q<t.nodes.length:=fun q hq=>by
  rw [hl0,hf0] at hq
  have:=wM hq
  exact ⟨this.1,this.2.1⟩
 have hl7:l0.length<=maxLen:=by
  have:l0.length<=t.nodes.length:=by rw [hl0,hf0];exact QO _ _
  unfold maxLen
  omega
 have he:enL t x=z7 (fun i=>!enP t x i) l0:=by rw [qkk,hl0,hf0];rfl
 have hc:=fun q hq=>qeE q t x hs h hl (hmem q hq)
 obtain ⟨p,hp⟩:∃ p,p=fun i=>!enP t x i:=⟨_,rfl⟩
 rw [<-hp] at he
 have hc:∀ q∈l0,qe Tryz.prog 161 [aI q,(false,[.ptr x.d]),(false,[.ptr t.d])] (rB (p q)):=fun q hq=>by rw [hp];exact hc q hq
 rw [he]
 clear he hp hmem
 have hDl:=qmO p l0
 have hDt:=qk2 p l0
 obtain ⟨ns,ts,hr⟩:=t
 obtain ⟨now,times,vals⟩:=x
 obtain ⟨d,hd⟩:∃ d,d=qah p:=⟨_,rfl⟩
 cases hkp:z7 p l0 with
 | nil =>
   have hW:q8 Tryz.prog ((XX.withF [2,3,4]).withW [(159,[(0,0)])] (kH [(159,qjF 161 [.int .i64 now,.sl (.i times),.sl (.i vals)] [.sl (.node false none ns),.sl (.tie ts),.int .i64 hr] l0 d)])):=by
    subst hd
    exact SX.withW_ok (zQ (qox hc hl7 hkp) jo)
   rw [<-hd] at hDl
   refine SEx.go (X:=((XX.withF [2,3,4]).withW [(159,[(0,0)])] (kH [(159,qjF 161 [.int .i64 now,.sl (.i times),.sl (.i vals)] [.sl (.node false none ns),.sl (.tie ts),.int .i64 hr] l0 d)]))) qc (fun n=>qa [] [] n) (fun _=>none) hO 60 ?_ hW
   intro M R L N m0 m1 m2 m3 m4 m5
   cases M
   cbv
   repeat' first | refine m1 _ _ ?_ ?_ | refine m2 _ _ fun h=>?_ | refine m3 _ ?_ | (refine m4 _ _ (Hd.out ?_);try first | rw [hks] | rw [hk2] | rw [hk3]) | (refine m5 _ _ ?_;cbv)
   all_goals (clear m1 m2 m3 m4 m5;cases m0;(try clear hks;try clear hk2;try clear hk3);try dsimp only)
   all_goals try simp only [sm] at *
   all_goals (clear hW hO)
   all_goals first
    | exact ⟨htl,hn⟩
    | rfl
    | exact ⟨⟨rfl,rfl,rfl,hl0.symm,rfl,rfl,rfl⟩⟩
    | (rw [<-hl0];exact hDl.symm)
    | skip
 | cons k0 kr =>
   rw [hkp] at hDt
   obtain ⟨k,hk⟩:∃ k,k=z7 p:=⟨_,rfl⟩
   rw [<-hk] at hkp
   obtain ⟨ln,hln⟩:∃ f:List Int->Nat,f=List.length:=⟨_,rfl⟩
   have hlk:ln (k l0)=(k0::kr).length:=by rw [hln,hkp]
   have hkl:(k0::kr).length<=l0.length:=by rw [<-hkp,hk];exact List.length_filter_le _ _
   have hW:q8 Tryz.prog ((XX.withF [2,3,4]).withW [(159,[(0,0)])] (kH [(159,qo9 161 [.int .i64 now,.sl (.i times),.sl (.i vals)] [.sl (.node false none ns),.sl (.tie ts),.int .i64 hr] l0 k d ln)])):=by
    subst hk hd hln
    exact SX.withW_ok (zQ (qpq hc hl7) jo)
   rw [<-hd] at hDt hDl
   clear hk hln
   refine SEx.go (X:=((XX.withF [2,3,4]).withW [(159,[(0,0)])] (kH [(159,qo9 161 [.int .i64 now,.sl (.i times),.sl (.i vals)] [.sl (.node false none ns),.sl (.tie ts),.int .i64 hr] l0 k d ln)]))) qc (fun n=>qa [] [] n) (fun _=>none) hO 60 ?_ hW
   intro M R L N m0 m1 m2 m3 m4 m5
   cases M
   cbv
   repeat' first | refine m1 _ _ ?_ ?_ | refine m2 _ _ fun h=>?_ | refine m3 _ ?_ | (refine m4 _ _ (Hd.out ?_);try first | rw [hks] | rw [hk2] | rw [hk3]) | (refine m5 _ _ ?_;cbv)
   all_goals (clear m1 m2 m3 m4 m5;cases m0;(try clear hks;try clear hk2;try clear hk3);try dsimp only)
   all_goals try simp only [sm] at *
   all_goals (clear hW hO)
   all_goals (try simp only [<-hl0,hlk,hDl,Nat.zero_add])
   all_goals first
    | exact ⟨htl,hn⟩
    | exact ⟨⟨rfl,rfl,rfl,rfl,rfl,rfl,rfl⟩⟩
    | exact hkl
    | (simp;done)
    | (rw [hDt];done)
    | (rw [hDt];rfl)
    | skip
theorem yh (t:qm)(x:qf)(hs:kB t x)(h:StV t x)(hl:x.times.length=t.nodes.length):qe Tryz.prog 92 [qQ t,qI x] (rUs (enL t x)):=by
 refine qe.of qc (fn:=Tryz.f92) (c:=Tryz.f92.body.getD .skip) (dr:=fun n=>qa 0 [] n) Tryz.func92 rfl (by kernel_rfl) (by kernel_rfl) (by kernel_rfl) ?_
 have hn:=qL h.sh
 have htl:=hs.sh.tlen
 obtain ⟨f1,hf1⟩:∃ f,f=qkv:=⟨_,rfl⟩
 obtain ⟨f2,hf2⟩:∃ f,f=KZ:=⟨_,rfl⟩
 have hO:qp Tryz.prog (qM [(122,QL f1),(121,qf6 f2)]):=by
  subst hf1 hf2
  exact qb jA (qb qaX qd)
 have hv:=h.vals
 have hlb:∀ n∈t.nodes,qW n.label=true:=fun n hn=>kK h.sh hn
 have he:enL t x=kC (fun j=>chQ t.ties j&&enP t x j) t.nodes.length:=by unfold enL chL;rw [qdJ]
 rw [he]
 obtain ⟨ns,ts,hr⟩:=t
 obtain ⟨now,times,vals⟩:=x
 dsimp only at hl hn htl hv hlb ⊢
 obtain ⟨q,hq⟩:∃ q,q=fun j:Nat=>chQ ts j&&enP ⟨ns,ts,hr⟩ ⟨now,times,vals⟩ j:=⟨_,rfl⟩
 have hqd:∀ j:Nat,q j=(decide (0<j)&&decide (f2 ts (j:Int)<0)&&(decide (times.getD j 0=-1)&&decide (f1 (ns.getD j qg.z).label vals=1))):=fun j=>by rw [hq,hf1,hf2];rfl
 rw [show kC (fun j:Nat=>chQ ts j&&enP ⟨ns,ts,hr⟩ ⟨now,times,vals⟩ j) ns.length=kC q ns.length by rw [hq]]
 clear hq he hs h
 obtain ⟨m,hm⟩:∃ m,m=ns.length:=⟨_,rfl⟩
 rw [<-hm] at hl hn ⊢
 refine SEx.go (X:=XX) qc (fun n=>qa [] [(3,[2,3,5,10,11,12])] n) (fun _=>none) hO 60 ?_
 intro M R L N m0 m1 m2 m3 m4 m5
 cases M
 cbv
 repeat' first | refine m1 _ _ ?_ ?_ | refine m2 _ _ fun h=>?_ | refine m3 _ ?_ | (refine m4 _ _ (Hd.out ?_);generalize hks:(List.cons _ _:List K)=ks) | (refine m5 _ _ ?_;cbv)
 all_goals (clear m1 m2 m3 m4 m5;cases m0;try dsimp only)
 all_goals try simp only [sm] at *
 refine ⟨SEx.same (SEx.idx m (fun i=>⟨47,[(2,bP 8192),(3,bP 12288),(5,bR 20480 (kC q i).length),(10,bL (.node false none ns)),(11,bI m),(12,bI i)],[(8192,.obx [.fz (.sl (.node false none ns)),.fz (.sl (.tie ts)),.fz (.int .i64 hr)]),(12288,.obx [.fz (.int .i64 now),.fz (.sl (.i times)),.fz (.sl (.i vals))]),(20480,.osl (.i (kC q i)))]⟩) (fun _=>rUs (kC q m)) ?_) (by rw [hm];rfl) rfl⟩
 intro i hi ih
 rw [<-hks]
 obtain ⟨u,hu⟩:∃ u,u=kC q i:=⟨_,rfl⟩
 have hul:u.length<=i:=by rw [hu];exact QO _ _
 rw [<-hu]
 obtain ⟨n,hnn⟩:∃ n,n=u.length:=⟨_,rfl⟩
 rw [<-hnn] at hul ⊢
 have hyes:0<i->f2 ts (i:Int)<0->times.getD i 0=-1->f1 (ns.getD i qg.z).label vals=1->q i=true:=fun a b c d=>by rw [hqd,decide_eq_true a,decide_eq_true b,decide_eq_true c,decide_eq_true d];rfl
 have hno:(¬0<i\/¬f2 ts (i:Int)<0\/¬times.getD i 0=-1\/¬f1 (ns.getD i qg.z).label vals=1)->q i=false:=fun h=>by
  rw [hqd]
  rcases h with h | h | h | h<;>rw [decide_eq_false h]<;>simp
 clear hqd
 refine SEx.go (X:=XX) qc (fun n=>qa [] [(3,[2,3,5,10,11,12])] n) (fun _=>none) hO 60 ?_
 intro M R L N m0 m1 m2 m3 m4 m5
 cases M
 cbv
 repeat' first | refine m1 _ _ ?_ ?_ | refine m2 _ _ fun h=>?_ | refine m3 _ ?_ | (refine m4 _ _ (Hd.out ?_);try first | rw [hks] | rw [hk2] | rw [hk3]) | (refine m5 _ _ ?_;cbv)
 all_goals (clear m1 m2 m3 m4 m5;cases m0;(try clear hks;try clear hk2;try clear hk3);try dsimp only)
 all_goals try simp only [sm] at *
 all_goals try simp only [List.length_append,List.length_cons,List.length_nil,List.length_set] at *
 all_goals (try omega)
 all_goals (try (have:=zz;omega))
 all_goals (try simp only [qh (show i<9223372036854775807 by omega)])
 all_goals first
  | exact ⟨htl⟩
  | exact ⟨hv⟩
  | exact ⟨hlb _ (qo (z:=qg.z) (by omega)).out⟩
  | (have ih':=ih (by omega)
     rw [vV (hyes (by omega) (by assumption) (by assumption) (by assumption)),<-hu,List.length_append] at ih'
     exact ⟨ih'.same rfl rfl⟩)
  | (have ih':=ih (by omega)
     rw [vh (hno (by first | (left;omega) | (right;left;assumption) | (right;left;omega) | (right;right;left;assumption) | (right;right;right;assumption))),<-hu,<-hnn] at ih'
     exact ⟨ih'.same rfl rfl⟩)
  | (obtain rfl:i=m:=by omega
     rw [hu];rfl)
  | skip
end Go.Proofs.YtececadpjelanaaGreat.Ai
namespace Go.Proofs.YtececadpjelanaaGreat.Ai
open Go
set_option maxRecDepth 100000
variable [qi]
theorem qrk {l:List Int}(h:l≠[]):rEn l=rUs l:=by cases l with | nil=>exact absurd rfl h | cons a l=>rfl
structure EnT (t:qm)(x:qf):Prop where
 le:kB t x
 v:StV t x
 tl:x.times.length=t.nodes.length
structure qrH (t:qm)(x:qf):Prop where
 e:EnT t x
 ne:enL t x≠[]
structure qsi (t:qm)(x:qf):Prop where
 e:EnT t x
 no:enL t x=[]
def qr4 (f:qm->qf->List Int):Wr:=w2 qP qG (fun t x=>rUs (f t x)) (fun t x=>[qrH t x])
theorem qpm:qz Tryz.prog 123 (qr4 enL):=qE fun t x h=>by
 have h:=h _ (.head _)
 rw [<-qrk h.ne]
 exact Yi t x h.e.le h.e.v h.e.tl
def qrV:Wr:=w2 qP qG (fun t x=>rE) (fun t x=>[qsi t x])
theorem qpl:qz Tryz.prog 123 qrV:=qE fun t x h=>by
 have h:=h _ (.head _)
 have:=Yi t x h.e.le h.e.v h.e.tl
 rw [h.no] at this
 exact this
def qrC (f:qm->qf->List Int):Wr:=w2 qP qG (fun t x=>rUs (f t x)) (fun t x=>[EnT t x])
theorem qje:qz Tryz.prog 92 (qrC enL):=qE fun t x h=>by
 have h:=h _ (.head _)
 exact yh t x h.le h.v h.tl
end Go.Proofs.YtececadpjelanaaGreat.Ai
namespace Go.Proofs.YtececadpjelanaaGreat.Ai
open Go
set_option maxRecDepth 100000
variable [qi]
def btS (s:Int)(i:Nat):Bool:=decide (IntKind.i64.wrap (((BitVec.ofInt IntKind.i64.bits (s.fdiv (2 ^ min i IntKind.i64.bits)) &&& BitVec.ofInt IntKind.i64.bits 1).toNat:Nat):Int)=1)
def ZR (l:List Int)(s:Int)(i:Nat):List Int:=((List.range i).filter (btS s)).map fun j=>l.getD j 0
def Qz (l:List Int)(s:Int):List Int:=ZR l s l.length
theorem qdR {l:List Int}{s:Int}{i:Nat}(h:btS s i=true):ZR l s (i+1)=ZR l s i++[l.getD i 0]:=by
 simp only [ZR,List.range_succ,List.filter_append,List.map_append,List.filter_cons,List.filter_nil,h,if_true,List.map_cons,List.map_nil]
theorem qjH {l:List Int}{s:Int}{i:Nat}(h:btS s i=false):ZR l s (i+1)=ZR l s i:=by
 simp only [ZR,List.range_succ,List.filter_append,List.map_append,List.filter_cons,List.filter_nil,h,Bool.false_eq_true,if_false,List.map_nil,List.append_nil]
theorem K8 (l:List Int)(s:Int)(i:Nat):(ZR l s i).length<=i:=by
 simp only [ZR,List.length_map]
 exact Nat.le_trans (List.length_filter_le _ _) (by simp)
theorem Jk (l:List Int)(s:Int)(h1:l.length<=1048576):qe Tryz.prog 80 [aIs l,aI s] (rUs (Qz l s)):=by
 refine qe.of qc (fn:=Tryz.f80) (c:=Tryz.f80.body.getD .skip) (dr:=fun n=>qa 0 [] n) Tryz.func80 rfl (by kernel_rfl) (by kernel_rfl) (by kernel_rfl) ?_
 refine SEx.go (X:=XX) qc (fun n=>qa [] [(3,[1,5,8,9,10])] n) (fun _=>none) qd 60 ?_
 intro M R L N m0 m1 m2 m3 m4 m5
 cases M
 cbv
 repeat' first | refine m1 _ _ ?_ ?_ | refine m2 _ _ fun h=>?_ | refine m3 _ ?_ | (refine m4 _ _ (Hd.out ?_);generalize hks:(List.cons _ _:List K)=ks) | (refine m5 _ _ ?_;cbv)
 all_goals (clear m1 m2 m3 m4 m5;cases m0;try dsimp only)
 all_goals try simp only [sm] at *
 obtain ⟨m,hm⟩:∃ m,m=l.length:=⟨_,rfl⟩
 refine ⟨SEx.same (SEx.idx m (fun i=>⟨26,[(1,bI s),(5,bR 20480 (ZR l s i).length),(8,bL (.i l)),(9,bI m),(10,bI i)],[(20480,.osl (.i (ZR l s i)))]⟩) (fun _=>rUs (ZR l s m)) ?_) (by rw [hm];rfl) (by rw [hm];rfl)⟩
 intro i hi ih
 rw [<-hks]
 obtain ⟨u,hu⟩:∃ u,u=ZR l s i:=⟨_,rfl⟩
 have hul:u.length<=i:=by rw [hu];exact K8 _ _ _
 rw [<-hu]
 obtain ⟨n,hn⟩:∃ n,n=u.length:=⟨_,rfl⟩
 rw [<-hn] at hul ⊢
 refine SEx.go (X:=XX) qc (fun n=>qa [] [(3,[1,5,8,9,10])] n) (fun _=>none) qd 60 ?_
 intro M R L N m0 m1 m2 m3 m4 m5
 cases M
 cbv
 repeat' first | refine m1 _ _ ?_ ?_ | refine m2 _ _ fun h=>?_ | refine m3 _ ?_ | (refine m4 _ _ (Hd.out ?_);try first | rw [hks] | rw [hk2] | rw [hk3]) | (refine m5 _ _ ?_;cbv)
 all_goals (clear m1 m2 m3 m4 m5;cases m0;(try clear hks;try clear hk2;try clear hk3);try dsimp only)
 all_goals try simp only [sm] at *
 all_goals try simp only [List.length_append,List.length_cons,List.length_nil,List.length_set] at *
 all_goals (try omega)
 all_goals (try (have:=zz;omega))
 all_goals (try simp only [qh (show i<9223372036854775807 by omega)])
 all_goals first
  | (have ih':=ih (by omega)
     rw [qdR (show btS s i=true by unfold btS;exact decide_eq_true (by assumption)),<-hu,List.length_append] at ih'
     exact ⟨ih'.same rfl rfl⟩)
  | (have ih':=ih (by omega)
     rw [qjH (show btS s i=false by unfold btS;exact decide_eq_false (by assumption)),<-hu,<-hn] at ih'
     exact ⟨ih'.same rfl rfl⟩)
  | (obtain rfl:i=m:=by omega
     rw [hu];rfl)
  | skip
theorem qer (l:List Int)(s:Int)(h1:l.length<=1048576):qe Tryz.prog 43 [aIs l,aI s] (rUs (Qz l s)):=by
 refine qe.of qc (fn:=Tryz.f43) (c:=Tryz.f43.body.getD .skip) (dr:=fun n=>qa 0 [] n) Tryz.func43 rfl (by kernel_rfl) (by kernel_rfl) (by kernel_rfl) ?_
 refine SEx.go (X:=XX) qc (fun n=>qa [] [(3,[1,5,9,10,11])] n) (fun _=>none) qd 60 ?_
 intro M R L N m0 m1 m2 m3 m4 m5
 cases M
 cbv
 repeat' first | refine m1 _ _ ?_ ?_ | refine m2 _ _ fun h=>?_ | refine m3 _ ?_ | (refine m4 _ _ (Hd.out ?_);generalize hks:(List.cons _ _:List K)=ks) | (refine m5 _ _ ?_;cbv)
 all_goals (clear m1 m2 m3 m4 m5;cases m0;try dsimp only)
 all_goals try simp only [sm] at *
 obtain ⟨m,hm⟩:∃ m,m=l.length:=⟨_,rfl⟩
 refine ⟨SEx.same (SEx.idx m (fun i=>⟨28,[(1,bI s),(5,bR 20480 (ZR l s i).length),(9,bL (.i l)),(10,bI m),(11,bI i)],[(20480,.osl (.i (ZR l s i)))]⟩) (fun _=>rUs (ZR l s m)) ?_) (by rw [hm];rfl) (by rw [hm];rfl)⟩
 intro i hi ih
 rw [<-hks]
 obtain ⟨u,hu⟩:∃ u,u=ZR l s i:=⟨_,rfl⟩
 have hul:u.length<=i:=by rw [hu];exact K8 _ _ _
 rw [<-hu]
 obtain ⟨n,hn⟩:∃ n,n=u.length:=⟨_,rfl⟩
 rw [<-hn] at hul ⊢
 have hwu:IntKind.u64.wrap (i:Int)=(i:Int):=Qh (by omega)
 refine SEx.go (X:=XX) qc (fun n=>qa [] [(3,[1,5,9,10,11])] n) (fun _=>none) qd 60 ?_
 intro M R L N m0 m1 m2 m3 m4 m5
 cases M
 cbv
 repeat' first | refine m1 _ _ ?_ ?_ | refine m2 _ _ fun h=>?_ | refine m3 _ ?_ | (refine m4 _ _ (Hd.out ?_);try first | rw [hks] | rw [hk2] | rw [hk3]) | (refine m5 _ _ ?_;cbv)
 all_goals (clear m1 m2 m3 m4 m5;cases m0;(try clear hks;try clear hk2;try clear hk3);try dsimp only)
 all_goals try simp only [sm] at *
 all_goals (try simp only [hwu,Int.toNat_natCast] at *)
 all_goals try simp only [List.length_append,List.length_cons,List.length_nil,List.length_set] at *
 all_goals (try omega)
 all_goals (try (have:=zz;omega))
 all_goals (try simp only [qh (show i<9223372036854775807 by omega)])
 all_goals first
  | (have ih':=ih (by omega)
     rw [qdR (show btS s i=true by unfold btS;exact decide_eq_true (by assumption)),<-hu,List.length_append] at ih'
     exact ⟨ih'.same rfl rfl⟩)
  | (have ih':=ih (by omega)
     rw [qjH (show btS s i=false by unfold btS;exact decide_eq_false (by assumption)),<-hu,<-hn] at ih'
     exact ⟨ih'.same rfl rfl⟩)
  | (obtain rfl:i=m:=by omega
     rw [hu];rfl)
  | skip
def qh9 (f:List Int->Int->List Int):Wr:=w2 kA dcI (fun l s=>rUs (f l s)) (fun l _=>[LLe l 1048576])
theorem qfc:qz Tryz.prog 80 (qh9 Qz):=qE fun l s h=>Jk l s (h _ (.head _)).out
theorem yY:qz Tryz.prog 43 (qh9 Qz):=qE fun l s h=>qer l s (h _ (.head _)).out
theorem yr {m:Nat}(h:m<=7):IntKind.i64.wrap (1 * 2 ^ min m IntKind.i64.bits)=((2 ^ m:Nat):Int):=by
 have:m=0\/m=1\/m=2\/m=3\/m=4\/m=5\/m=6\/m=7:=by omega
 rcases this with rfl | rfl | rfl | rfl | rfl | rfl | rfl | rfl<;>decide
theorem ZG {m:Nat}(h:m<=7):1<=2 ^ m/\2 ^ m<=128:=by
 have:m=0\/m=1\/m=2\/m=3\/m=4\/m=5\/m=6\/m=7:=by omega
 rcases this with rfl | rfl | rfl | rfl | rfl | rfl | rfl | rfl<;>decide
def ZA (l:List Int)(N k:Nat):List (List Int):=(List.range k).map fun j=>Qz l ((N:Int)-1-(j:Nat))
theorem WD (l:List Int)(N k:Nat):ZA l N (k+1)=ZA l N k++[Qz l ((N:Int)-1-k)]:=by simp [ZA,List.range_succ]
theorem KQ (l:List Int)(N k:Nat):(ZA l N k).length=k:=by simp [ZA]
def qhO (l:List Int):List (List Int):=ZA l (2 ^ l.length) (2 ^ l.length)
theorem Zg {t:qm}{x:qf}(h:StV t x):(enL t x).length<=7:=by
 have h1:=(qL h.sh).2
 have h2:(enL t x).length<=t.nodes.length:=Nat.le_trans (List.length_filter_le _ _) (QO _ _)
 omega
theorem qdc (t:qm)(x:qf)(h:EnT t x):qe Tryz.prog 94 [qQ t,qI x] (Zl (qhO (enL t x))):=by
 refine qe.of qc (fn:=Tryz.f94) (c:=Tryz.f94.body.getD .skip) (dr:=fun n=>qa 0 [] n) Tryz.func94 rfl (by kernel_rfl) (by kernel_rfl) (by kernel_rfl) ?_
 obtain ⟨f1,hf1⟩:∃ f,f=enL:=⟨_,rfl⟩
 obtain ⟨f2,hf2⟩:∃ f,f=Qz:=⟨_,rfl⟩
 obtain ⟨l,hl⟩:∃ l,l=f1 t x:=⟨_,rfl⟩
 have hl7:l.length<=7:=by rw [hl,hf1];exact Zg h.v
 obtain ⟨NN,hN⟩:∃ NN,NN=2 ^ l.length:=⟨_,rfl⟩
 have hNb:=ZG hl7
 have hs:=yr hl7
 rw [<-hN] at hNb hs
 have hs1:IntKind.i64.wrap ((NN:Int)-1)=(NN:Int)-1:=qr (by omega) (by omega)
 rw [show qhO (enL t x)=ZA l NN NN by rw [hN,hl,hf1];rfl]
 by_cases hne:enL t x=[]
 . have hO:qp Tryz.prog (qM [(123,qrV),(80,qh9 f2)]):=by
    subst hf2
    exact qb qpl (qb qfc qd)
   have hl0:l=[]:=by rw [hl,hf1];exact hne
   have hN1:NN=1:=by rw [hN,hl0];rfl
   have h0:qsi t x:=⟨h,hne⟩
   clear hN hl hs hs1
   subst hl0 hN1
   obtain ⟨ns,ts,hr⟩:=t
   obtain ⟨now,times,vals⟩:=x
   refine SEx.go (X:=XX) qc (fun n=>qa [] [(4,[5,6,7])] n) (fun _=>none) hO 60 ?_
   intro M R L N m0 m1 m2 m3 m4 m5
   cases M
   cbv
   repeat' first | refine m1 _ _ ?_ ?_ | refine m2 _ _ fun h=>?_ | refine m3 _ ?_ | (refine m4 _ _ (Hd.out ?_);generalize hks:(List.cons _ _:List K)=ks) | (refine m5 _ _ ?_;cbv)
   all_goals (clear m1 m2 m3 m4 m5;cases m0;try dsimp only)
   all_goals try simp only [sm] at *
   all_goals first
    | exact h0
    | omega
    | skip
   refine ⟨SEx.same (SEx.idx 1 (fun k=>⟨26,[(5,bL (.i [])),(6,bR 24576 k),(7,bI ((1:Nat)-1-(k:Nat)))],[(24576,.osl (.ii true none (ZA [] 1 k)))]⟩) (fun _=>Zl (ZA [] 1 1)) ?_) rfl rfl⟩
   intro k hk ih
   rw [<-hks]
   obtain ⟨o,ho⟩:∃ o,o=ZA [] 1 k:=⟨_,rfl⟩
   have hol:o.length=k:=by rw [ho,KQ]
   obtain ⟨q,hq⟩:∃ q:Int,q=((1:Nat):Int)-1-(k:Nat):=⟨_,rfl⟩
   rw [<-ho,<-hq]
   refine SEx.go (X:=XX) qc (fun n=>qa [] [(4,[5,6,7])] n) (fun _=>none) hO 60 ?_
   intro M R L N m0 m1 m2 m3 m4 m5
   cases M
   cbv
   repeat' first | refine m1 _ _ ?_ ?_ | refine m2 _ _ fun h=>?_ | refine m3 _ ?_ | (refine m4 _ _ (Hd.out ?_);try first | rw [hks] | rw [hk2] | rw [hk3]) | (refine m5 _ _ ?_;cbv)
   all_goals (clear m1 m2 m3 m4 m5;cases m0;(try clear hks;try clear hk2;try clear hk3);try dsimp only)
   all_goals try simp only [sm] at *
   all_goals (try rw [qr (n:=q-1) (by omega) (by omega)])
   all_goals first
    | omega
    | rfl
    | exact ⟨by decide⟩
    | (have:=zz;simp only [List.length_cons,List.length_nil];omega)
    | (have ih':=ih (by omega)
       rw [WD,<-ho,<-hq,show ((1:Nat):Int)-1-((k+1:Nat):Int)=q-1 by omega] at ih'
       simp only [List.length_append,List.length_cons,List.length_nil,hol,hf2]
       exact ⟨ih'.same rfl rfl⟩)
    | (have e:k=1:=by omega
       subst e
       rw [ho];rfl)
    | skip
 . have hO:qp Tryz.prog (qM [(123,qr4 f1),(80,qh9 f2)]):=by
    subst hf1 hf2
    exact qb qpm (qb qfc qd)
   have h0:qrH t x:=⟨h,hne⟩
   clear hN
   obtain ⟨ns,ts,hr⟩:=t
   obtain ⟨now,times,vals⟩:=x
   refine SEx.go (X:=XX) qc (fun n=>qa [] [(4,[5,6,7])] n) (fun _=>none) hO 60 ?_
   intro M R L N m0 m1 m2 m3 m4 m5
   cases M
   cbv
   repeat' first | refine m1 _ _ ?_ ?_ | refine m2 _ _ fun h=>?_ | refine m3 _ ?_ | (refine m4 _ _ (Hd.out ?_);generalize hks:(List.cons _ _:List K)=ks) | (refine m5 _ _ ?_;cbv)
   all_goals (clear m1 m2 m3 m4 m5;cases m0;try dsimp only)
   all_goals try simp only [sm] at *
   all_goals first
    | exact h0
    | omega
    | skip
   rw [<-hl,hs,hs1]
   obtain ⟨n,hn⟩:∃ n,n=l.length:=⟨_,rfl⟩
   refine ⟨SEx.same (SEx.idx NN (fun k=>⟨26,[(5,bR 20480 n),(6,bR 24576 k),(7,bI ((NN:Int)-1-(k:Nat)))],[(20480,.osl (.i l)),(24576,.osl (.ii true none (ZA l NN k)))]⟩) (fun _=>Zl (ZA l NN NN)) ?_) (by rw [hn,show (NN:Int)-1-((0:Nat):Int)=(NN:Int)-1 by omega];rfl) rfl⟩
   intro k hk ih
   rw [<-hks]
   obtain ⟨o,ho⟩:∃ o,o=ZA l NN k:=⟨_,rfl⟩
   have hol:o.length=k:=by rw [ho,KQ]
   obtain ⟨q,hq⟩:∃ q:Int,q=(NN:Int)-1-(k:Nat):=⟨_,rfl⟩
   rw [<-ho,<-hq]
   refine SEx.go (X:=XX) qc (fun n=>qa [] [(4,[5,6,7])] n) (fun _=>none) hO 60 ?_
   intro M R L N m0 m1 m2 m3 m4 m5
   cases M
   cbv
   repeat' first | refine m1 _ _ ?_ ?_ | refine m2 _ _ fun h=>?_ | refine m3 _ ?_ | (refine m4 _ _ (Hd.out ?_);try first | rw [hks] | rw [hk2] | rw [hk3]) | (refine m5 _ _ ?_;cbv)
   all_goals (clear m1 m2 m3 m4 m5;cases m0;(try clear hks;try clear hk2;try clear hk3);try dsimp only)
   all_goals try simp only [sm] at *
   all_goals (try rw [qr (n:=q-1) (by omega) (by omega)])
   all_goals first
    | omega
    | rfl
    | exact ⟨by omega⟩
    | (have:=zz;simp only [List.length_cons,List.length_nil];omega)
    | (have ih':=ih (by omega)
       rw [WD,<-ho,<-hq,show (NN:Int)-1-((k+1:Nat):Int)=q-1 by omega] at ih'
       simp only [List.length_append,List.length_cons,List.length_nil,hol,hf2]
       exact ⟨ih'.same rfl rfl⟩)
    | (have e:k=NN:=by omega
       subst e
       rw [ho];rfl)
    | skip
end Go.Proofs.YtececadpjelanaaGreat.Ai
namespace Go.Proofs.YtececadpjelanaaGreat.Ai
open Go
set_option maxRecDepth 100000
variable [qi]
def qaJ (t:qm)(x:qf):List (List Int):=match jp t x with | true=>qhO (enL t x) | false=>[]
theorem qhF {t:qm}{x:qf}(h:jp t x=true):StV t x/\x.times.length=t.nodes.length:=by
 unfold jp at h
 simp only [Bool.and_eq_true] at h
 obtain ⟨h1,_,_,h2⟩:=h
 have h3:StT t ⟨x.now+1,x.times,x.vals⟩:=⟨h1,h2⟩
 exact ⟨⟨h1,h3.vals⟩,h3.now.2.2⟩
def qqD (f:qm->qf->List (List Int)):Wr:=w2 qP qG (fun t x=>Zl (f t x)) (fun t x=>[EnT t x])
def wH (t:qm)(x:qf):List (List Int):=qhO (enL t x)
theorem qmh:qz Tryz.prog 94 (qqD wH):=qE fun t x h=>qdc t x (h _ (.head _))
theorem qg6 (t:qm)(x:qf)(hs:kB t x)(hz:KT x):qe Tryz.prog 56 [qQ t,qI x] (Zl (qaJ t x)):=by
 refine qe.of qc (fn:=Tryz.f56) (c:=Tryz.f56.body.getD .skip) (dr:=fun n=>qa 0 [] n) Tryz.func56 rfl (by kernel_rfl) (by kernel_rfl) (by kernel_rfl) ?_
 obtain ⟨f0,hf0⟩:∃ f,f=jp:=⟨_,rfl⟩
 obtain ⟨f1,hf1⟩:∃ f,f=enL:=⟨_,rfl⟩
 obtain ⟨f2,hf2⟩:∃ f,f=Qz:=⟨_,rfl⟩
 have hO:qp Tryz.prog (qM [(91,qqy f0),(92,qrC f1),(43,qh9 f2)]):=by
  subst hf0 hf1 hf2
  exact qb qnW (qb qje (qb yY qd))
 have hv:f0 t x=true->EnT t x:=fun h=>by rw [hf0] at h;have:=qhF h;exact ⟨hs,this.1,this.2⟩
 obtain ⟨l,hl⟩:∃ l,l=f1 t x:=⟨_,rfl⟩
 have hl7:f0 t x=true->l.length<=7:=fun h=>by rw [hl,hf1];exact Zg (hv h).v
 obtain ⟨NN,hN⟩:∃ n,n=2 ^ l.length:=⟨_,rfl⟩
 have hE:qaJ t x=match f0 t x with | true=>ZA l NN NN | false=>[]:=by rw [hN,hl,hf1,hf0];rfl
 obtain ⟨r,hr⟩:∃ r,r=qaJ t x:=⟨_,rfl⟩
 rw [<-hr] at hE ⊢
 obtain ⟨ns,ts,hr⟩:=t
 obtain ⟨now,times,vals⟩:=x
 refine SEx.go (X:=XX) qc (fun n=>qa [] [(6,[5,6,7])] n) (fun _=>none) hO 60 ?_
 intro M R L N m0 m1 m2 m3 m4 m5
 cases M
 cbv
 repeat' first | refine m1 _ _ ?_ ?_ | refine m2 _ _ fun h=>?_ | refine m3 _ ?_ | (refine m4 _ _ (Hd.out ?_);generalize hks:(List.cons _ _:List K)=ks) | (refine m5 _ _ ?_;cbv)
 all_goals (clear m1 m2 m3 m4 m5;cases m0;try dsimp only)
 all_goals try simp only [sm] at *
 all_goals first
  | exact hs
  | exact hz
  | exact hv (by assumption)
  | (rw [hE,show f0 _ _=false by assumption];rfl)
  | omega
  | skip
 . have:=hl7 (by assumption)
   rw [<-hl,Qh (by omega)]
   omega
 have hl7:=hl7 (by assumption)
 have hNb:=ZG hl7
 have hs:=yr hl7
 rw [<-hN] at hNb hs
 have hs1:IntKind.i64.wrap ((NN:Int)-1)=(NN:Int)-1:=qr (by omega) (by omega)
 have hE:r=ZA l NN NN:=by rw [hE,show f0 _ _=true by assumption]
 rw [<-hl,Qh (by omega),Int.toNat_natCast,hs,hs1]
 obtain ⟨n,hn⟩:∃ n,n=l.length:=⟨_,rfl⟩
 refine ⟨SEx.same (SEx.idx NN (fun k=>⟨32,[(5,bR 20480 n),(6,bR 24576 k),(7,bI ((NN:Int)-1-(k:Nat)))],[(20480,.osl (.i l)),(24576,.osl (.ii true none (ZA l NN k)))]⟩) (fun _=>Zl r) ?_) (by rw [hn,show (NN:Int)-1-((0:Nat):Int)=(NN:Int)-1 by omega];rfl) rfl⟩
 intro k hk ih
 rw [<-hks]
 obtain ⟨o,ho⟩:∃ o,o=ZA l NN k:=⟨_,rfl⟩
 have hol:o.length=k:=by rw [ho,KQ]
 obtain ⟨q,hq⟩:∃ q:Int,q=(NN:Int)-1-(k:Nat):=⟨_,rfl⟩
 rw [<-ho,<-hq]
 clear hN hl hs
 refine SEx.go (X:=XX) qc (fun n=>qa [] [(6,[5,6,7])] n) (fun _=>none) hO 60 ?_
 intro M R L N m0 m1 m2 m3 m4 m5
 cases M
 cbv
 repeat' first | refine m1 _ _ ?_ ?_ | refine m2 _ _ fun h=>?_ | refine m3 _ ?_ | (refine m4 _ _ (Hd.out ?_);try first | rw [hks] | rw [hk2] | rw [hk3]) | (refine m5 _ _ ?_;cbv)
 all_goals (clear m1 m2 m3 m4 m5;cases m0;(try clear hks;try clear hk2;try clear hk3);try dsimp only)
 all_goals try simp only [sm] at *
 all_goals (try rw [qr (n:=q-1) (by omega) (by omega)])
 all_goals first
  | omega
  | rfl
  | exact ⟨by omega⟩
  | (have:=zz;simp only [List.length_cons,List.length_nil];omega)
  | (have ih':=ih (by omega)
     rw [WD,<-ho,<-hq,show (NN:Int)-1-((k+1:Nat):Int)=q-1 by omega] at ih'
     simp only [List.length_append,List.length_cons,List.length_nil,hol,hf2]
     exact ⟨ih'.same rfl rfl⟩)
  | (have e:k=NN:=by omega
     subst e
     rw [hE,ho];rfl)
  | skip
end Go.Proofs.YtececadpjelanaaGreat.Ai
namespace Go.Proofs.YtececadpjelanaaGreat.Ai
open Go
set_option maxRecDepth 100000
variable [qi]
theorem yz (t:qm)(x:qf):(qaJ t x).length<=128/\∀ y∈qaJ t x,y.length<=7:=by
 unfold qaJ
 cases h:jp t x with
 | false=>exact ⟨Nat.zero_le _,fun y hy=>by cases hy⟩
 | true =>
   have h7:=Zg (qhF h).1
   refine ⟨by show (ZA _ _ _).length<=128;rw [KQ];exact (ZG h7).2,fun y hy=>?_⟩
   obtain ⟨j,_,rfl⟩:=List.mem_map.1 hy
   exact Nat.le_trans (K8 _ _ _) h7
def qnn (f:qm->qf->List (List Int)):Wr:=w2 qP qG (fun t x=>Zl (f t x)) (fun t x=>[kB t x,KT x])
theorem qlp:qz Tryz.prog 56 (qnn qaJ):=qE fun t x h=>qg6 t x (h _ (.head _)) (h _ (.tail _ (.head _)))
end Go.Proofs.YtececadpjelanaaGreat.Ai
