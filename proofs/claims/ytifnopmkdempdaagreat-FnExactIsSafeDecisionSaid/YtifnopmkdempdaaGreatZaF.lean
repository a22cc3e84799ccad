/- The law's proof, part 6 of 10: what of its author's texts it needs; no condition. -/
import Derived.Test.YtifnopmkdempdaaGreatZaE
set_option linter.unusedSectionVars false
set_option linter.unusedSimpArgs false
set_option linter.unusedVariables false
namespace Go.Proofs.YtifnopmkdempdaaGreat.Ai
open Go
set_option maxRecDepth 100000
variable [qg]
theorem qct (x:qf)(hz:KG x):qe Tryz.prog 112 [qH x] (kR x):=by
 refine qe.of qc (fn:=Tryz.f112) (c:=Tryz.f112.body.getD .skip) (dr:=fun n=>qa 0 [(1,8)] n) Tryz.func112 rfl (by kernel_rfl) (by kernel_rfl) (by kernel_rfl) ?_
 have hO:qp Tryz.prog (qK [(50,qjh)]):=qb qg7 qd
 have h1:=hz.tlen
 have h2:=hz.vlen
 clear hz
 obtain ⟨now,times,vals⟩:=x
 dsimp only at h1 h2
 refine SEx.go (X:=XX) qc (fun n=>qa [] [] n) (fun _=>none) hO 60 ?_
 intro M R L N m0 m1 m2 m3 m4 m5
 cases M
 cbv
 repeat' first | refine m1 _ _ ?_ ?_ | refine m2 _ _ fun h=>?_ | refine m3 _ ?_ | (refine m4 _ _ (Hd.out ?_);try first | rw [hks] | rw [hk2] | rw [hk3]) | (refine m5 _ _ ?_;cbv)
 all_goals (clear m1 m2 m3 m4 m5;cases m0;(try clear hks;try clear hk2;try clear hk3);try dsimp only)
 all_goals try simp only [sm] at *
 all_goals first
  | exact ⟨h1⟩
  | exact ⟨h2⟩
  | rfl
def VO:Wr:=w1 qG kR (fun x=>[KG x])
theorem we:qy Tryz.prog 112 VO:=zH fun x h=>qct x (h _ (.head _))
theorem Vn (x:qf)(ps vs:List Int)(hz:KG x)(h3:x.vals.length=3)(hl:vs.length=ps.length)(h1:ps.length<=1048576)(hp:∀ p∈ps,1<=p/\p<=3):qe Tryz.prog 81 [qH x,aIs ps,aIs vs] (kR (qgU x ps vs)):=by
 refine qe.of qc (fn:=Tryz.f81) (c:=Tryz.f81.body.getD .skip) (dr:=fun n=>qa 0 [(5,8)] n) Tryz.func81 rfl (by kernel_rfl) (by kernel_rfl) (by kernel_rfl) ?_
 have hO:qp Tryz.prog (qK [(112,VO)]):=qb we qd
 obtain ⟨now,times,vals⟩:=x
 dsimp only at h3
 refine SEx.go (X:=XX) qc (fun n=>qa [] [(3,[2,6,7,12,13,14])] n) (fun _=>none) hO 60 ?_
 intro M R L N m0 m1 m2 m3 m4 m5
 cases M
 cbv
 repeat' first | refine m1 _ _ ?_ ?_ | refine m2 _ _ fun h=>?_ | refine m3 _ ?_ | (refine m4 _ _ (Hd.out ?_);generalize hks:(List.cons _ _:List K)=ks) | (refine m5 _ _ ?_;cbv)
 all_goals (clear m1 m2 m3 m4 m5;cases m0;try dsimp only)
 all_goals try simp only [sm] at *
 all_goals first
  | exact hz
  | skip
 obtain ⟨m,hm⟩:∃ m,m=ps.length:=⟨_,rfl⟩
 refine ⟨SEx.same (SEx.idx m (fun i=>⟨34,[(2,bL (.i vs)),(6,bP 24576),(7,bP 28672),(12,bL (.i ps)),(13,bI m),(14,bI i)],[(24576,.obx [.fz (.int .i64 0),.onil,.onil]),(28672,.obx [.fz (.int .i64 now),.osl (.i times),.osl (.i (JJ vals ps vs i))])]⟩) (fun _=>kR (qgU ⟨now,times,vals⟩ ps vs)) ?_) (by rw [hm];rfl) rfl⟩
 intro i hi ih
 rw [<-hks]
 obtain ⟨c,hc⟩:∃ c,c=JJ vals ps vs i:=⟨_,rfl⟩
 have hcl:c.length=3:=by rw [hc,Zx,h3]
 have hpi:i<m->1<=ps.getD i 0/\ps.getD i 0<=3:=fun h=>hp _ (qo (z:=(0:Int)) (by omega)).out
 have hw:i<m->IntKind.i64.wrap (ps.getD i 0-1)=ps.getD i 0-1:=fun h=>by have:=hpi h;exact qv (by omega) (by omega)
 rw [<-hc]
 refine SEx.go (X:=XX) qc (fun n=>qa [] [(3,[2,6,7,12,13,14])] n) (fun _=>none) hO 60 ?_
 intro M R L N m0 m1 m2 m3 m4 m5
 cases M
 cbv
 repeat' first | refine m1 _ _ ?_ ?_ | refine m2 _ _ fun h=>?_ | refine m3 _ ?_ | (refine m4 _ _ (Hd.out ?_);try first | rw [hks] | rw [hk2] | rw [hk3]) | (refine m5 _ _ ?_;cbv)
 all_goals (clear m1 m2 m3 m4 m5;cases m0;(try clear hks;try clear hk2;try clear hk3);try dsimp only)
 all_goals try simp only [sm] at *
 all_goals (try (have h8:=hpi (by omega)))
 all_goals (try rw [hw (by omega)] at *)
 all_goals (try simp only [qh (show i<9223372036854775807 by omega)])
 all_goals first
  | omega
  | (refine ⟨(ih (by omega)).same ?_ rfl⟩;show _=_;rw [show JJ vals ps vs (i+1)=c.set (ps.getD i 0-1).toNat (vs.getD i 0) by rw [hc];rfl];rfl)
  | (obtain rfl:i=m:=by omega
     unfold qgU
     rw [<-hm,hc];rfl)
  | skip
def obF (v ps vs:List Int):List Int:=JJ v ps vs ps.length
structure V3 (v:List Int):Prop where out:v.length=3
structure SLn (a b:List Int):Prop where out:a.length=b.length
def nxI (n:Int):Int:=IntKind.i64.wrap (n+1)
def qoX (g:Int->Int)(f:List Int->List Int->List Int->List Int):Wr:=w3 qG z8 z8 (fun x ps vs=>kR ⟨g x.now,x.times,f x.vals ps vs⟩) (fun x ps vs=>[KG x,V3 x.vals,SLn vs ps,LLe ps 1048576,PrT ps])
theorem qnx:qy Tryz.prog 65 (qoX nxI obF):=jo fun x ps vs h=>qat x ps vs (h _ (.head _)) (h _ (.tail _ (.head _))).out (h _ (.tail _ (.tail _ (.head _)))).out (h _ (.tail _ (.tail _ (.tail _ (.head _))))).out (h _ (.tail _ (.tail _ (.tail _ (.tail _ (.head _)))))).out
theorem ql2:qy Tryz.prog 81 (qoX nxI obF):=jo fun x ps vs h=>Vn x ps vs (h _ (.head _)) (h _ (.tail _ (.head _))).out (h _ (.tail _ (.tail _ (.head _)))).out (h _ (.tail _ (.tail _ (.tail _ (.head _))))).out (h _ (.tail _ (.tail _ (.tail _ (.tail _ (.head _)))))).out
end Go.Proofs.YtifnopmkdempdaaGreat.Ai
namespace Go.Proofs.YtifnopmkdempdaaGreat.Ai
open Go
set_option maxRecDepth 100000
variable [qg]
def zV (p:Int->Bool)(l:List Int):List Int:=l.filter fun x=>!p x
def Ya (p:Int->Bool)(l:List Int):List Int:=zV p l++List.replicate (l.length-(zV p l).length) 0
def qmL (g:FuncId)(caps:List D)(l:List Int)(p:Int->Bool)(L:List (Nat×Wr)):Qo:=fun g' as'=>match as' with
 | (false,[.int .i64 q])::r=>some ([ql0 g' g r caps,Mem q l],rB (p q))
 | xs=>qK L g' xs
theorem qnQ {P:Program}{g:FuncId}{caps:List D}{l:List Int}{p:Int->Bool}{L:List (Nat×Wr)}(hp:∀ q∈l,qe P g (aI q::jO caps) (rB (p q)))(hL:qp P (qK L)):qp P (qmL g caps l p L):=by
 intro g' as'
 unfold qmL
 split
 . refine R.Sim.mk fun hq=>?_
   obtain ⟨rfl,rfl⟩:=hq _ (.head _)
   exact hp _ (hq _ (.tail _ (.head _))).out
 . exact hL _ _
theorem wu {α:Type}(p:α->Bool)(z:α):∀ (l:List α) (n:Nat),(zK p l n=-1/\∀ q∈l,p q=false)\/∃ i,i<l.length/\zK p l n=((n+i:Nat):Int)/\p (l.getD i z)=true/\∀ q∈l.take i,p q=false
 | [],n=>.inl ⟨rfl,fun q h=>by cases h⟩
 | a::r,n=>by
   unfold zK
   cases h:p a with
   | true=>exact .inr ⟨0,by simp,by simp,by simpa using h,fun q h=>by simp at h⟩
   | false =>
     rw [if_neg (by simp)]
     rcases wu p z r (n+1) with ⟨h1,h2⟩ | ⟨i,h1,h2,h3,h4⟩
     . exact .inl ⟨h1,fun q hq=>(List.mem_cons.1 hq).elim (fun e=>e▸h) (h2 q)⟩
     . refine .inr ⟨i+1,by simpa using h1,by rw [h2];congr 1;omega,by simpa using h3,fun q hq=>?_⟩
       rw [List.take_succ_cons] at hq
       exact (List.mem_cons.1 hq).elim (fun e=>e▸h) (h4 q)
theorem qaW {p:Int->Bool}{l:List Int}(h:∀ q∈l,p q=false):zV p l=l:=by
 unfold zV
 rw [List.filter_eq_self]
 intro q hq
 rw [h q hq];rfl
theorem qg6 {p:Int->Bool}{l:List Int}{j:Nat}(h:j<l.length):zV p (l.take (j+1))=zV p (l.take j)++(if p (l.getD j 0)=true then [] else [l.getD j 0]):=by
 unfold zV
 rw [List.take_add_one,List.filter_append,zB h,List.getElem?_eq_getElem h,Option.toList_some,List.filter_cons,List.filter_nil]
 cases p l[j]<;>rfl
theorem qlp {c:List Int}{i n:Nat}(hn:c.length=n)(hi:i<=n):kO c i (n-i) 0=c.take i++List.replicate (n-i) 0:=by
 apply List.ext_getElem?
 intro j
 rw [j8,List.getElem?_append,List.length_take,hn,Nat.min_eq_left hi,List.getElem?_take,List.getElem?_replicate]
 by_cases h1:j<i
 . rw [if_neg (by omega),if_pos h1,if_pos h1]
 . rw [if_neg h1]
   by_cases h2:j<n
   . rw [if_pos (by omega),if_pos (by omega)]
   . rw [if_neg (by omega),if_neg (by omega),List.getElem?_eq_none (by omega)]
theorem qnZ {c:List Int}{i:Nat}(v:Int)(h:i<c.length):(c.set i v).take (i+1)=c.take i++[v]:=by
 rw [List.take_add_one,List.take_set_of_le (Nat.le_refl i),List.getElem?_set_self h];rfl
theorem qeM {c l:List Int}{j:Nat}(h:c.drop j=l.drop j):c.drop (j+1)=l.drop (j+1):=by
 have:=congrArg (List.drop 1) h
 rwa [List.drop_drop,List.drop_drop] at this
theorem W8 (l:List Int)(g:FuncId)(a b:List D)(p:Int->Bool)(hp:∀ q∈l,qe Tryz.prog g [aI q,(false,[.ptr a]),(false,[.ptr b])] (rB (p q)))(h1:l.length<=maxLen) :
 Qi Tryz.prog 49 [wR l.length,(false,[.clo g [.fz (.ptr a),.fz (.ptr b)]])] [(lrt 0,.osl (.i l))] [.rf (lrt 0,[]) true 0 l.length]
  (.v (false,[.rf (lrt 0,[]) false 0 (zV p l).length])) [(lrt 0,.osl (.i (Ya p l)))] [.rf (lrt 0,[]) true 0 l.length]:=by
 refine Qi.of qc (fn:=Tryz.f49) (c:=Tryz.f49.body.getD .skip) (dr:=fun n=>qa 0 [] n) (r:=(_,_,_)) Tryz.func49 rfl (by kernel_rfl) (by kernel_rfl) (by kernel_rfl) ?_
 obtain ⟨f,hf⟩:∃ f:List Int->Int,f=fun l=>zK p l 0:=⟨_,rfl⟩
 have hO:qp Tryz.prog (qmL g [.ptr a,.ptr b] l p [(90,wCl z8 g [.ptr a,.ptr b] (fun l=>rI (f l)) (fun m=>[vS m l]))]):=by
  subst hf
  exact qnQ hp (qb (Y7 fun m h=>by obtain rfl:=(h _ (.head _)).out;exact W2 m g [.ptr a,.ptr b] p hp h1) qd)
 unfold maxLen at h1
 have hc:=wu p 0 l 0
 rw [show zK p l 0=f l by rw [hf]] at hc
 have hkl:(zV p l).length<=l.length:=List.length_filter_le _ _
 have hka:=qaW (p:=p) (l:=l)
 have hks':∀ j,j<l.length->zV p (l.take (j+1))=zV p (l.take j)++(if p (l.getD j 0)=true then [] else [l.getD j 0]):=fun j h=>qg6 h
 have hkt:zV p (l.take l.length)=zV p l:=by rw [List.take_length]
 obtain ⟨kl,hkl0⟩:∃ kl,kl=zV p l:=⟨_,rfl⟩
 obtain ⟨m,hm⟩:∃ m,m=kl.length:=⟨_,rfl⟩
 obtain ⟨dl,hdl⟩:∃ dl,dl=Ya p l:=⟨_,rfl⟩
 rw [<-hkl0,<-hm,<-hdl]
 unfold Ya at hdl
 rw [<-hkl0,<-hm] at hdl
 rw [<-hkl0] at hkl hka hkt
 generalize hn:l.length=n at *
 obtain ⟨tt,htt⟩:∃ t:Nat->List Int,t=fun j=>zV p (l.take j):=⟨_,rfl⟩
 rw [show zV p (l.take n)=tt n by rw [htt]] at hkt
 have hst:∀ j,j<n->tt (j+1)=tt j++(if p (l.getD j 0)=true then [] else [l.getD j 0]):=fun j h=>by rw [htt];exact hks' j h
 clear hks'
 refine jH.go (X:=(XX.withF [4])) qc (fun n=>qa [] [(5,[0,1,5,6,4294967296])] n) (fun _=>none) hO 60 1 ?_
 intro M R L N m0 m1 m2 m3 m4 m5
 cases M
 cbv
 repeat' first | refine m1 _ _ ?_ ?_ | refine m2 _ _ fun h=>?_ | refine m3 _ ?_ | (refine m4 _ _ (Hd.out ?_);generalize hks:(List.cons _ _:List K)=ks) | (refine m5 _ _ ?_;cbv)
 all_goals (clear m1 m2 m3 m4 m5;cases m0;try dsimp only)
 all_goals try simp only [sm] at *
 all_goals first
  | exact hn.symm
  | exact ⟨rfl⟩
  | exact ⟨rfl,rfl⟩
  | (have e:kl=l:=by
      rcases hc with ⟨_,h2⟩ | ⟨i,_,h2,_⟩
      . exact hka h2
      . omega
     have e2:m=n:=by rw [hm,e,hn]
     subst e2
     rw [Nat.sub_self,List.replicate_zero,List.append_nil,e] at hdl
     subst hdl
     refine ⟨?_,?_,?_⟩<;>rfl)
  | skip
 obtain ⟨i0,hi0,hfi,hpi,hbe⟩:∃ i,i<n/\f l=(i:Int)/\p (l.getD i 0)=true/\∀ q∈l.take i,p q=false:=by
  rcases hc with ⟨h2,_⟩ | ⟨i,h2,h3,h4,h5⟩
  . contradiction
  . exact ⟨i,h2,by rw [h3,Nat.zero_add],h4,h5⟩
 rw [hfi,qh (show i0<9223372036854775807 by omega)]
 have htl:∀ j,(tt j).length<=j:=fun j=>by
  rw [htt]
  show (zV p (l.take j)).length<=j
  unfold zV
  exact Nat.le_trans (List.length_filter_le _ _) (by rw [List.length_take];omega)
 have ht0:tt (i0+1)=l.take i0:=by
  rw [hst i0 hi0,hpi,if_pos rfl,List.append_nil,htt]
  exact qaW hbe
 have htn:∀ j,j<=n->(tt j).length<=m:=fun j hj=>by
  have key:∀ d,j+d<=n->(tt j).length<=(tt (j+d)).length:=by
   intro d
   induction d with
   | zero=>intro _;exact Nat.le_refl _
   | succ d ih =>
     intro h
     have:=ih (by omega)
     rw [<-Nat.add_assoc,hst (j+d) (by omega),List.length_append]
     omega
  have:=key (n-j) (by omega)
  rw [show j+(n-j)=n by omega,hkt,<-hm] at this
  exact this
 clear hf hka hc hbe hkl0 htt
 refine ⟨jH.same (jH.ind (α:=Nat×List Int×Nat) (fun x=>⟨42,[(0,bR 41000000 n),(1,.v (false,[.clo g [.fz (.ptr a),.fz (.ptr b)]])),(5,bI x.2.2),(6,bI x.1),(4294967296,bR 41000000 n)],[(41000000,.osl (.i x.2.1))]⟩) (fun _=>(.v (false,[.rf (lrt 0,[]) false 0 m]),[(lrt 0,.osl (.i dl))],[.rf (lrt 0,[]) true 0 n])) (fun x=>x.1<=n/\x.2.2<x.1/\x.2.1.length=n/\x.2.1.take x.2.2=tt x.1/\x.2.1.drop x.1=l.drop x.1) (fun x=>n-x.1) (i0+1,l,i0) ⟨by show i0+1<=n;omega,Nat.lt_succ_self i0,hn,ht0.symm,rfl⟩ ?_) rfl ⟨rfl,rfl,rfl⟩⟩
 rintro ⟨j,c,i⟩ ⟨hj,hij,hcl,hct,hcd⟩ ih
 dsimp only at hj hij hcl hct hcd ih ⊢
 rw [<-hks]
 have hcj:j<n->c.getD j 0=l.getD j 0:=fun h=>by
  have:=congrArg (fun x:List Int=>x[0]?) hcd
  simp only [List.getElem?_drop,Nat.add_zero] at this
  rw [List.getD_eq_getElem?_getD,List.getD_eq_getElem?_getD,this]
 have hil:i=(tt j).length:=by rw [<-hct,List.length_take];omega
 refine jH.go (X:=(XX.withF [4])) qc (fun n=>qa [] [(5,[0,1,5,6,4294967296])] n) (fun _=>none) hO 60 1 ?_
 intro M R L N m0 m1 m2 m3 m4 m5
 cases M
 cbv
 repeat' first | refine m1 _ _ ?_ ?_ | refine m2 _ _ fun h=>?_ | refine m3 _ ?_ | (refine m4 _ _ (Hd.out ?_);try rw [hks]) | (refine m5 _ _ ?_;cbv)
 all_goals (clear m1 m2 m3 m4 m5;cases m0;(try clear hks);try dsimp only)
 all_goals try simp only [sm] at *
 all_goals (try simp only [Nat.zero_add] at *)
 all_goals (try simp only [hcj (by omega),qh (show j<9223372036854775807 by omega),qh (show i<9223372036854775807 by omega)] at *)
 all_goals first
  | exact hn.symm
  | omega
  | (rw [je];omega)
  | exact ⟨rfl,rfl⟩
  | exact qo (z:=(0:Int)) (by omega)
  | (have hpj:p (l.getD j 0)=false:=by assumption
     refine ⟨(ih (j+1,c.set i (l.getD j 0),i+1) ⟨by show j+1<=n;omega,by show i+1<j+1;omega,by show (c.set i (l.getD j 0)).length=n;rw [List.length_set];exact hcl,?_,?_⟩ (by show n-(j+1)<n-j;omega)).same rfl ⟨rfl,rfl,rfl⟩⟩
     . show (c.set i (l.getD j 0)).take (i+1)=tt (j+1)
       rw [qnZ _ (by omega),hct,hst j (by omega),hpj];rfl
     . show (c.set i (l.getD j 0)).drop (j+1)=l.drop (j+1)
       rw [List.drop_set_of_lt (by omega),qeM hcd])
  | (have hpj:p (l.getD j 0)=true:=by assumption
     refine ⟨(ih (j+1,c,i) ⟨by show j+1<=n;omega,by show i<j+1;omega,hcl,?_,?_⟩ (by show n-(j+1)<n-j;omega)).same rfl ⟨rfl,rfl,rfl⟩⟩
     . show c.take i=tt (j+1)
       rw [hct,hst j (by omega),hpj,if_pos rfl,List.append_nil]
     . show c.drop (j+1)=l.drop (j+1)
       exact qeM hcd)
  | (have e:j=n:=by omega
     subst e
     have hmi:m=i:=by rw [hm,<-hkt,<-hil]
     have e2:dl=kO c i (j-i) 0:=by rw [qlp hcl (by omega),hct,hkt,hdl,hmi]
     subst hmi
     rw [e2]
     refine ⟨?_,?_,?_⟩<;>rfl)
  | skip
def ku (q:Nat->Bool)(i:Nat):List Int:=((List.range i).filter q).map fun (j:Nat)=>(j:Int)
theorem ww {q:Nat->Bool}{i:Nat}(h:q i=true):ku q (i+1)=ku q i++[(i:Int)]:=by
 simp only [ku,List.range_succ,List.filter_append,List.map_append,List.filter_cons,List.filter_nil,h,if_true,List.map_cons,List.map_nil]
theorem vw {q:Nat->Bool}{i:Nat}(h:q i=false):ku q (i+1)=ku q i:=by
 simp only [ku,List.range_succ,List.filter_append,List.map_append,List.filter_cons,List.filter_nil,h,Bool.false_eq_true,if_false,List.map_nil,List.append_nil]
theorem QU (q:Nat->Bool)(i:Nat):(ku q i).length<=i:=by
 simp only [ku,List.length_map]
 exact Nat.le_trans (List.length_filter_le _ _) (by simp)
theorem wL {q:Nat->Bool}{n:Nat}{x:Int}(h:x∈ku q n):0<=x/\x<n/\q x.toNat=true:=by
 simp only [ku,List.mem_map,List.mem_filter,List.mem_range] at h
 obtain ⟨j,⟨h1,h2⟩,rfl⟩:=h
 exact ⟨by omega,by omega,by simpa using h2⟩
theorem qdo (q:Nat->Bool)(p:Int->Bool)(n:Nat):(ku q n).filter p=ku (fun j=>q j&&p j) n:=by
 simp only [ku,List.filter_map,List.filter_filter]
 congr 1
 congr 1
 funext j
 simp [Function.comp,Bool.and_comm]
def chQ (ts:List Tie)(i:Nat):Bool:=decide (0<i)&&decide (KU ts i<0)
def chL (t:qm):List Int:=ku (chQ t.ties) t.nodes.length
def enP (t:qm)(x:qf)(i:Int):Bool:=decide (x.times.getD i.toNat 0=-1)&&decide (nsI t x i=1)
def enL (t:qm)(x:qf):List Int:=(chL t).filter (enP t x)
theorem qd5 (q:Tie)(x:Int):qe Tryz.prog 172 [YO q,(false,[.ptr [.int .i64 x]])] (rB (q.free&&q.dst == x)):=by
 refine qe.of qc (fn:=Tryz.f172) (c:=Tryz.f172.body.getD .skip) (dr:=fun n=>qa 0 [] n) Tryz.func172 rfl (by kernel_rfl) (by kernel_rfl) (by kernel_rfl) ?_
 obtain ⟨x1,x2,x3,x4,x5⟩:=q
 refine SEx.go (X:=XX) qc (fun n=>qa [] [] n) (fun _=>none) qd 60 ?_
 intro M R L N m0 m1 m2 m3 m4 m5
 cases M
 cbv
 repeat' first | refine m1 _ _ ?_ ?_ | refine m2 _ _ fun h=>?_ | refine m3 _ ?_ | (refine m4 _ _ (Hd.out ?_);try first | rw [hks] | rw [hk2] | rw [hk3]) | (refine m5 _ _ ?_;cbv)
 all_goals (clear m1 m2 m3 m4 m5;cases m0;(try clear hks;try clear hk2;try clear hk3);try dsimp only)
 all_goals try simp only [sm] at *
 all_goals (refine qI ?_ _;simp_all;done)
theorem qhU (t:qm)(x:Int)(h1:t.ties.length<=maxLen):qe Tryz.prog 154 [qQ t,aI x] (rI (KU t.ties x)):=by
 refine qe.of qc (fn:=Tryz.f154) (c:=Tryz.f154.body.getD .skip) (dr:=fun n=>qa 0 [] n) Tryz.func154 rfl (by kernel_rfl) (by kernel_rfl) (by kernel_rfl) ?_
 obtain ⟨f,hf⟩:∃ f,f=KU:=⟨_,rfl⟩
 have hO:qp Tryz.prog (qK [(148,w2 KL (qqz 172 false dcI fun _=>rfl) (fun l x=>rI (f l x)) (fun l x=>[LLe l maxLen]))]):=by
  subst hf
  exact qb (qE fun l x h=>JM l 172 [.ptr [.int .i64 x]] (fun q=>q.free&&q.dst == x) (fun q _=>qd5 q x) (h _ (.head _)).out) qd
 obtain ⟨ns,ts,hr⟩:=t
 rw [<-hf]
 refine SEx.go (X:=XX) qc (fun n=>qa [] [] n) (fun _=>none) hO 60 ?_
 intro M R L N m0 m1 m2 m3 m4 m5
 cases M
 cbv
 repeat' first | refine m1 _ _ ?_ ?_ | refine m2 _ _ fun h=>?_ | refine m3 _ ?_ | (refine m4 _ _ (Hd.out ?_);try first | rw [hks] | rw [hk2] | rw [hk3]) | (refine m5 _ _ ?_;cbv)
 all_goals (clear m1 m2 m3 m4 m5;cases m0;(try clear hks;try clear hk2;try clear hk3);try dsimp only)
 all_goals try simp only [sm] at *
 all_goals first
  | exact ⟨h1⟩
  | rfl
  | skip
theorem qj4:qy Tryz.prog 154 (qes KU):=qE fun t x h=>qhU t x (h _ (.head _)).out
theorem qkj (t:qm)(h1:t.ties.length<=maxLen)(h2:1<=t.nodes.length/\t.nodes.length<=7):qe Tryz.prog 135 [qQ t] (rUs (chL t)):=by
 refine qe.of qc (fn:=Tryz.f135) (c:=Tryz.f135.body.getD .skip) (dr:=fun n=>qa 0 [] n) Tryz.func135 rfl (by kernel_rfl) (by kernel_rfl) (by kernel_rfl) ?_
 obtain ⟨f,hf⟩:∃ f,f=KU:=⟨_,rfl⟩
 have hO:qp Tryz.prog (qK [(154,qes f)]):=by subst hf;exact qb qj4 qd
 obtain ⟨ns,ts,hr⟩:=t
 dsimp only at h1 h2
 obtain ⟨q,hq⟩:∃ q,q=chQ ts:=⟨_,rfl⟩
 obtain ⟨r,hrr⟩:∃ r,r=chL ⟨ns,ts,hr⟩:=⟨_,rfl⟩
 rw [<-hrr]
 have hrr:r=ku q ns.length:=by rw [hrr,hq];rfl
 have hq0:q 0=false:=by rw [hq];rfl
 have hqs:∀ j:Nat,q (j+1)=decide (f ts ((j+1:Nat):Int)<0):=fun j=>by rw [hq,hf];unfold chQ;rw [decide_eq_true (Nat.succ_pos j),Bool.true_and]
 clear hq
 obtain ⟨m,hm⟩:∃ m,m=ns.length:=⟨_,rfl⟩
 rw [<-hm] at h2 hrr
 refine SEx.go (X:=XX) qc (fun n=>qa [] [(3,[1,3,4])] n) (fun _=>none) hO 60 ?_
 intro M R L N m0 m1 m2 m3 m4 m5
 cases M
 cbv
 repeat' first | refine m1 _ _ ?_ ?_ | refine m2 _ _ fun h=>?_ | refine m3 _ ?_ | (refine m4 _ _ (Hd.out ?_);generalize hks:(List.cons _ _:List K)=ks) | (refine m5 _ _ ?_;cbv)
 all_goals (clear m1 m2 m3 m4 m5;cases m0;try dsimp only)
 all_goals try simp only [sm] at *
 refine ⟨SEx.same (SEx.idx (m-1) (fun j=>⟨21,[(1,bP 4096),(3,bR 12288 (ku q (j+1)).length),(4,bI (j+1:Nat))],[(4096,.obx [.fz (.sl (.node false none ns)),.fz (.sl (.tie ts)),.fz (.int .i64 hr)]),(12288,.osl (.i (ku q (j+1))))]⟩) (fun _=>rUs r) ?_) (by rw [vw hq0];rfl) rfl⟩
 intro j hj ih
 rw [<-hks]
 obtain ⟨u,hu⟩:∃ u,u=ku q (j+1):=⟨_,rfl⟩
 have hul:u.length<=j+1:=by rw [hu];exact QU _ _
 rw [<-hu]
 obtain ⟨n,hn⟩:∃ n,n=u.length:=⟨_,rfl⟩
 rw [<-hn] at hul ⊢
 obtain ⟨k,hk⟩:∃ k,k=j+1:=⟨_,rfl⟩
 have hqk:q k=decide (f ts (k:Int)<0):=by rw [hk];exact hqs j
 rw [<-hk] at hul hu ih ⊢
 refine SEx.go (X:=XX) qc (fun n=>qa [] [(3,[1,3,4])] n) (fun _=>none) hO 60 ?_
 intro M R L N m0 m1 m2 m3 m4 m5
 cases M
 cbv
 repeat' first | refine m1 _ _ ?_ ?_ | refine m2 _ _ fun h=>?_ | refine m3 _ ?_ | (refine m4 _ _ (Hd.out ?_);try first | rw [hks] | rw [hk2] | rw [hk3]) | (refine m5 _ _ ?_;cbv)
 all_goals (clear m1 m2 m3 m4 m5;cases m0;(try clear hks;try clear hk2;try clear hk3);try dsimp only)
 all_goals try simp only [sm] at *
 all_goals try simp only [List.length_append,List.length_cons,List.length_nil,List.length_set] at *
 all_goals (try omega)
 all_goals (try (have:=zx;omega))
 all_goals (try simp only [qh (show k<9223372036854775807 by omega)])
 all_goals first
  | exact ⟨h1⟩
  | (have ih':=ih (by omega)
     rw [ww (by rw [hqk];exact decide_eq_true (by assumption)),<-hu,List.length_append] at ih'
     exact ⟨ih'.same rfl rfl⟩)
  | (have ih':=ih (by omega)
     rw [vw (by rw [hqk];exact decide_eq_false (by omega)),<-hu,<-hn] at ih'
     exact ⟨ih'.same rfl rfl⟩)
  | (have e:k=m:=by omega
     rw [hrr,<-e,hu];rfl)
  | skip
structure StV (t:qm)(x:qf):Prop where
 sh:q8 t=true
 vals:qR x.vals=true
theorem qaA (t:qm)(x:qf)(i:Int)(hs:ki t x)(h:StV t x)(hi:0<=i/\i<t.nodes.length):qe Tryz.prog 128 [qQ t,qH x,aI i] (rI (nsI t x i)):=by
 refine qe.of qc (fn:=Tryz.f128) (c:=Tryz.f128.body.getD .skip) (dr:=fun n=>qa 0 [(1,8)] n) Tryz.func128 rfl (by kernel_rfl) (by kernel_rfl) (by kernel_rfl) ?_
 have h1:=kF h.sh (qo (z:=qi.z) (show i.toNat<t.nodes.length by omega)).out
 have h2:=h.vals
 have h3:=hs.sh.nodes _ (qo (z:=qi.z) (show i.toNat<t.nodes.length by omega)).out
 have h4:=hs.st.vlen
 unfold nsI nd
 obtain ⟨f,hf⟩:∃ f:List Int->List Int->Int,f=fun l v=>if qX l=true/\qR v=true then Zy v l 1 else -1:=⟨_,rfl⟩
 have hO:qp Tryz.prog (qK [(149,w2 z8 z8 (fun l v=>rI (f l v)) (fun l v=>[Kb l,LLe v maxLen]))]):=by
  subst hf
  exact qb (qE fun l v h=>Kn l v (h _ (.head _)) (h _ (.tail _ (.head _))).out) qd
 have he:f (t.nodes.getD i.toNat qi.z).label x.vals=Zy x.vals (t.nodes.getD i.toNat qi.z).label 1:=by rw [hf];exact if_pos ⟨h1,h2⟩
 rw [<-he]
 clear hs h hf he
 obtain ⟨ns,ts,hr⟩:=t
 obtain ⟨now,times,vals⟩:=x
 dsimp only at hi h1 h2 h3 h4
 refine SEx.go (X:=XX) qc (fun n=>qa [] [] n) (fun _=>none) hO 60 ?_
 intro M R L N m0 m1 m2 m3 m4 m5
 cases M
 cbv
 repeat' first | refine m1 _ _ ?_ ?_ | refine m2 _ _ fun h=>?_ | refine m3 _ ?_ | (refine m4 _ _ (Hd.out ?_);try first | rw [hks] | rw [hk2] | rw [hk3]) | (refine m5 _ _ ?_;cbv)
 all_goals (clear m1 m2 m3 m4 m5;cases m0;(try clear hks;try clear hk2;try clear hk3);try dsimp only)
 all_goals try simp only [sm] at *
 all_goals first
  | omega
  | exact ⟨h3.len,h3.all⟩
  | exact ⟨h4⟩
  | rfl
  | skip
def qfE (f:qm->qf->Int->Int):Wr:=w3 qP qG dcI (fun t x i=>rI (f t x i)) (fun t x i=>[ki t x,StV t x,InX i t.nodes])
theorem qfa:qy Tryz.prog 128 (qfE nsI):=jo fun t x i h=>qaA t x i (h _ (.head _)) (h _ (.tail _ (.head _))) (h _ (.tail _ (.tail _ (.head _)))).out
theorem qeH (i:Int)(t:qm)(x:qf)(hs:ki t x)(h:StV t x)(hl:x.times.length=t.nodes.length)(hi:0<=i/\i<t.nodes.length):qe Tryz.prog 136 [aI i,(false,[.ptr x.d]),(false,[.ptr t.d])] (rB (!enP t x i)):=by
 refine qe.of qc (fn:=Tryz.f136) (c:=Tryz.f136.body.getD .skip) (dr:=fun n=>qa 0 [] n) Tryz.func136 rfl (by kernel_rfl) (by kernel_rfl) (by kernel_rfl) ?_
 obtain ⟨f,hf⟩:∃ f,f=nsI:=⟨_,rfl⟩
 have hO:qp Tryz.prog (qK [(128,qfE f)]):=by subst hf;exact qb qfa qd
 unfold enP
 rw [<-hf]
 clear hf
 obtain ⟨ns,ts,hr⟩:=t
 obtain ⟨now,times,vals⟩:=x
 dsimp only at hl hi
 refine SEx.go (X:=XX) qc (fun n=>qa [] [] n) (fun _=>none) hO 60 ?_
 intro M R L N m0 m1 m2 m3 m4 m5
 cases M
 cbv
 repeat' first | refine m1 _ _ ?_ ?_ | refine m2 _ _ fun h=>?_ | refine m3 _ ?_ | (refine m4 _ _ (Hd.out ?_);try first | rw [hks] | rw [hk2] | rw [hk3]) | (refine m5 _ _ ?_;cbv)
 all_goals (clear m1 m2 m3 m4 m5;cases m0;(try clear hks;try clear hk2;try clear hk3);try dsimp only)
 all_goals try simp only [sm] at *
 all_goals first
  | omega
  | exact hs
  | exact h
  | exact ⟨hi⟩
  | (refine qI ?_ _;rw [decide_eq_false (by assumption)];rfl)
  | (refine qI ?_ _;rw [decide_eq_true (by assumption),Bool.true_and];generalize f _ _ i=v;by_cases hv:v=1<;>simp [hv];done)
  | skip
structure ChT (t:qm):Prop where
 len:t.ties.length<=maxLen
 nod:1<=t.nodes.length/\t.nodes.length<=7
def qjn (f:qm->List Int):Wr:=w1 qP (fun t=>rUs (f t)) (fun t=>[ChT t])
theorem qgu:qy Tryz.prog 135 (qjn chL):=zH fun t h=>qkj t (h _ (.head _)).len (h _ (.head _)).nod
structure qrA (p:SP)(n m:Nat)(l l0:List Int)(g' g:Nat)(a' a b' b:List D):Prop where out:p=(lrt 0,[])/\m=n/\l.length=n/\l=l0/\g'=g/\a'=a/\b'=b
def qpr (g:Nat)(a b:List D)(l0:List Int)(k d:List Int->List Int)(ln:List Int->Nat):WrW
 | [(false,[.rf p true 0 n]),(false,[.clo g' [.fz (.ptr a'),.fz (.ptr b')]])],[(.sl m,.osl (.i l))]=>some ([qrA p n m l l0 g' g a' a b' b],(.v (false,[.rf (lrt 0,[]) false 0 (ln (k l))]),[(lrt 0,.osl (.i (d l)))],[.rf (lrt 0,[]) true 0 n]))
 | _,_=>none
theorem qoq {g:Nat}{a b:List D}{l0:List Int}{p:Int->Bool}(hp:∀ q∈l0,qe Tryz.prog g [aI q,(false,[.ptr a]),(false,[.ptr b])] (rB (p q)))(h1:l0.length<=maxLen) :
 qi9 Tryz.prog 49 (qpr g a b l0 (zV p) (Ya p) List.length):=by
 intro xs ls
 unfold qpr
 split
 . refine R.Sim.mk fun hq=>?_
   obtain ⟨rfl,rfl,rfl,rfl,rfl,rfl,rfl⟩:=(hq _ (.head _)).out
   exact W8 _ _ _ _ p hp h1
 . exact R.Sim.none'
theorem qlL (p:Int->Bool)(l:List Int):(Ya p l).length=l.length:=by
 have:(zV p l).length<=l.length:=List.length_filter_le _ _
 unfold Ya
 rw [List.length_append,List.length_replicate]
 omega
theorem qlv (p:Int->Bool)(l:List Int):((Ya p l).drop 0).take (zV p l).length=zV p l:=by
 rw [List.drop_zero]
 unfold Ya
 rw [List.take_left]
theorem qj7 (p:Int->Bool)(l:List Int):zV (fun i=>!p i) l=l.filter p:=by
 unfold zV
 congr 1
 funext x
 simp
theorem qeV {P:Program}{g:FuncId}{args:List (V1 A)}{tb tb':List (Nat×O)}{ph ph':List A}{p:qj}{off:Nat}(h:W3 P g args tb ph (.v (false,[.rf p off 0])) tb' ph'):W3 P g args tb ph (.v (false,[.fz (.sl [])])) tb' ph':=by
 refine ⟨h.1,fun J w σ vals hfut hold hsz ha hin=>(h.2 J w σ vals hfut hold hsz ha hin).mono ?_⟩
 rintro e w' ⟨v,σ',he,ho⟩
 letI:=J
 refine ⟨v,σ',he,ho.goes,ho.back,?_⟩
 have hr:ql w' σ' (.rf p off 0) v:=ho.res
 show ql w' σ' (.fz (.sl [])) v
 cases hr with
 | rz _ _ b=>exact .fz _ _ (.sl [] 0 b 0 (fun _ _=>undef) (Nat.le_refl _) (by simp) (by simp) (by simp) (by simp))
 | rf _ _ _ g n cap sz hg hl hn=>exact .fz _ _ (.sl [] 0 _ _ (fun _ _=>undef) (Nat.zero_le _) (by simp) (by simp) (by simp) (by simp))
theorem qbN (l:List Int)(g:FuncId)(a b:List D)(p:Int->Bool)(hp:∀ q∈l,qe Tryz.prog g [aI q,(false,[.ptr a]),(false,[.ptr b])] (rB (p q)))(h1:l.length<=maxLen)(h0:zV p l=[]) :
 Qi Tryz.prog 49 [wR l.length,(false,[.clo g [.fz (.ptr a),.fz (.ptr b)]])] [(lrt 0,.osl (.i l))] [.rf (lrt 0,[]) true 0 l.length]
  (.v (false,[.fz (.sl (.i []))])) [(lrt 0,.osl (.i (Ya p l)))] [.rf (lrt 0,[]) true 0 l.length]:=by
 have:=W8 l g a b p hp h1
 rw [h0] at this
 exact qeV this
def qix (g:Nat)(a b:List D)(l0:List Int)(d:List Int->List Int):WrW
 | [(false,[.rf p true 0 n]),(false,[.clo g' [.fz (.ptr a'),.fz (.ptr b')]])],[(.sl m,.osl (.i l))]=>some ([qrA p n m l l0 g' g a' a b' b],(.v (false,[.fz (.sl (.i []))]),[(lrt 0,.osl (.i (d l)))],[.rf (lrt 0,[]) true 0 n]))
 | _,_=>none
theorem qmF {g:Nat}{a b:List D}{l0:List Int}{p:Int->Bool}(hp:∀ q∈l0,qe Tryz.prog g [aI q,(false,[.ptr a]),(false,[.ptr b])] (rB (p q)))(h1:l0.length<=maxLen)(h0:zV p l0=[]) :
 qi9 Tryz.prog 49 (qix g a b l0 (Ya p)):=by
 intro xs ls
 unfold qix
 split
 . refine R.Sim.mk fun hq=>?_
   obtain ⟨rfl,rfl,rfl,rfl,rfl,rfl,rfl⟩:=(hq _ (.head _)).out
   exact qbN _ _ _ _ p hp h1 h0
 . exact R.Sim.none'
def rE:TV W:=.v (false,[.fz (.sl (.i []))])
def rEn:List Int->TV W
 | []=>rE
 | a::l=>rUs (a::l)
theorem yS (t:qm)(x:qf)(hs:ki t x)(h:StV t x)(hl:x.times.length=t.nodes.length):qe Tryz.prog 110 [qQ t,qH x] (rEn (enL t x)):=by
 refine qe.of qc (fn:=Tryz.f110) (c:=Tryz.f110.body.getD .skip) (dr:=fun n=>qa 0 [] n) Tryz.func110 rfl (by kernel_rfl) (by kernel_rfl) (by kernel_rfl) ?_
 have hn:=qM h.sh
 have htl:=hs.sh.tlen
 obtain ⟨f0,hf0⟩:∃ f,f=chL:=⟨_,rfl⟩
 have hO:qp Tryz.prog (qK [(135,qjn f0)]):=by subst hf0;exact qb qgu qd
 obtain ⟨l0,hl0⟩:∃ l,l=f0 t:=⟨_,rfl⟩
 have hmem:∀ q∈l0,0<=q/\q<t.nodes.length:=fun q hq=>by
  rw [hl0,hf0] at hq
  have:=wL hq
  exact ⟨this.1,this.2.1⟩
 have hl7:l0.length<=maxLen:=by
  have:l0.length<=t.nodes.length:=by rw [hl0,hf0];exact QU _ _
  unfold maxLen
  omega
 have he:enL t x=zV (fun i=>!enP t x i) l0:=by rw [qj7,hl0,hf0];rfl
 have hc:=fun q hq=>qeH q t x hs h hl (hmem q hq)
 obtain ⟨p,hp⟩:∃ p,p=fun i=>!enP t x i:=⟨_,rfl⟩
 rw [<-hp] at he
 have hc:∀ q∈l0,qe Tryz.prog 136 [aI q,(false,[.ptr x.d]),(false,[.ptr t.d])] (rB (p q)):=fun q hq=>by rw [hp];exact hc q hq
 rw [he]
 clear he hp hmem
 have hDl:=qlL p l0
 have hDt:=qlv p l0
 obtain ⟨ns,ts,hr⟩:=t
 obtain ⟨now,times,vals⟩:=x
 obtain ⟨d,hd⟩:∃ d,d=Ya p:=⟨_,rfl⟩
 cases hkp:zV p l0 with
 | nil =>
   have hW:zr Tryz.prog ((XX.withF [2,3,4]).withW [(49,[(0,0)])] (Qt [(49,qix 136 [.int .i64 now,.sl (.i times),.sl (.i vals)] [.sl (.node false none ns),.sl (.tie ts),.int .i64 hr] l0 d)])):=by
    subst hd
    exact SX.withW_ok (Z0 (qmF hc hl7 hkp) Ji)
   rw [<-hd] at hDl
   refine SEx.go (X:=((XX.withF [2,3,4]).withW [(49,[(0,0)])] (Qt [(49,qix 136 [.int .i64 now,.sl (.i times),.sl (.i vals)] [.sl (.node false none ns),.sl (.tie ts),.int .i64 hr] l0 d)]))) qc (fun n=>qa [] [] n) (fun _=>none) hO 60 ?_ hW
   intro M R L N m0 m1 m2 m3 m4 m5
   cases M
   cbv
   repeat' first | refine m1 _ _ ?_ ?_ | refine m2 _ _ fun h=>?_ | refine m3 _ ?_ | (refine m4 _ _ (Hd.out ?_);try first | rw [hks] | rw [hk2] | rw [hk3]) | (refine m5 _ _ ?_;cbv)
   all_goals (clear m1 m2 m3 m4 m5;cases m0;(try clear hks;try clear hk2;try clear hk3);try dsimp only)
   all_goals try simp only [sm] at *
   all_goals (clear hW hO)
   all_goals first
    | exact ⟨htl,hn⟩
    | rfl
    | exact ⟨⟨rfl,rfl,rfl,hl0.symm,rfl,rfl,rfl⟩⟩
    | (rw [<-hl0];exact hDl.symm)
    | skip
 | cons k0 kr =>
   rw [hkp] at hDt
   obtain ⟨k,hk⟩:∃ k,k=zV p:=⟨_,rfl⟩
   rw [<-hk] at hkp
   obtain ⟨ln,hln⟩:∃ f:List Int->Nat,f=List.length:=⟨_,rfl⟩
   have hlk:ln (k l0)=(k0::kr).length:=by rw [hln,hkp]
   have hkl:(k0::kr).length<=l0.length:=by rw [<-hkp,hk];exact List.length_filter_le _ _
   have hW:zr Tryz.prog ((XX.withF [2,3,4]).withW [(49,[(0,0)])] (Qt [(49,qpr 136 [.int .i64 now,.sl (.i times),.sl (.i vals)] [.sl (.node false none ns),.sl (.tie ts),.int .i64 hr] l0 k d ln)])):=by
    subst hk hd hln
    exact SX.withW_ok (Z0 (qoq hc hl7) Ji)
   rw [<-hd] at hDt hDl
   clear hk hln
   refine SEx.go (X:=((XX.withF [2,3,4]).withW [(49,[(0,0)])] (Qt [(49,qpr 136 [.int .i64 now,.sl (.i times),.sl (.i vals)] [.sl (.node false none ns),.sl (.tie ts),.int .i64 hr] l0 k d ln)]))) qc (fun n=>qa [] [] n) (fun _=>none) hO 60 ?_ hW
   intro M R L N m0 m1 m2 m3 m4 m5
   cases M
   cbv
   repeat' first | refine m1 _ _ ?_ ?_ | refine m2 _ _ fun h=>?_ | refine m3 _ ?_ | (refine m4 _ _ (Hd.out ?_);try first | rw [hks] | rw [hk2] | rw [hk3]) | (refine m5 _ _ ?_;cbv)
   all_goals (clear m1 m2 m3 m4 m5;cases m0;(try clear hks;try clear hk2;try clear hk3);try dsimp only)
   all_goals try simp only [sm] at *
   all_goals (clear hW hO)
   all_goals (try simp only [<-hl0,hlk,hDl,Nat.zero_add])
   all_goals first
    | exact ⟨htl,hn⟩
    | exact ⟨⟨rfl,rfl,rfl,rfl,rfl,rfl,rfl⟩⟩
    | exact hkl
    | (simp;done)
    | (rw [hDt];done)
    | (rw [hDt];rfl)
    | skip
theorem Y2 (t:qm)(x:qf)(hs:ki t x)(h:StV t x)(hl:x.times.length=t.nodes.length):qe Tryz.prog 70 [qQ t,qH x] (rUs (enL t x)):=by
 refine qe.of qc (fn:=Tryz.f70) (c:=Tryz.f70.body.getD .skip) (dr:=fun n=>qa 0 [] n) Tryz.func70 rfl (by kernel_rfl) (by kernel_rfl) (by kernel_rfl) ?_
 have hn:=qM h.sh
 have htl:=hs.sh.tlen
 obtain ⟨f1,hf1⟩:∃ f,f=qkx:=⟨_,rfl⟩
 obtain ⟨f2,hf2⟩:∃ f,f=KU:=⟨_,rfl⟩
 have hO:qp Tryz.prog (qK [(108,QG f1),(107,qes f2)]):=by
  subst hf1 hf2
  exact qb jk (qb qa0 qd)
 have hv:=h.vals
 have hlb:∀ n∈t.nodes,qX n.label=true:=fun n hn=>kF h.sh hn
 have he:enL t x=ku (fun j=>chQ t.ties j&&enP t x j) t.nodes.length:=by unfold enL chL;rw [qdo]
 rw [he]
 obtain ⟨ns,ts,hr⟩:=t
 obtain ⟨now,times,vals⟩:=x
 dsimp only at hl hn htl hv hlb ⊢
 obtain ⟨q,hq⟩:∃ q,q=fun j:Nat=>chQ ts j&&enP ⟨ns,ts,hr⟩ ⟨now,times,vals⟩ j:=⟨_,rfl⟩
 have hqd:∀ j:Nat,q j=(decide (0<j)&&decide (f2 ts (j:Int)<0)&&(decide (times.getD j 0=-1)&&decide (f1 (ns.getD j qi.z).label vals=1))):=fun j=>by rw [hq,hf1,hf2];rfl
 rw [show ku (fun j:Nat=>chQ ts j&&enP ⟨ns,ts,hr⟩ ⟨now,times,vals⟩ j) ns.length=ku q ns.length by rw [hq]]
 clear hq he hs h
 obtain ⟨m,hm⟩:∃ m,m=ns.length:=⟨_,rfl⟩
 rw [<-hm] at hl hn ⊢
 refine SEx.go (X:=XX) qc (fun n=>qa [] [(3,[2,3,5,10,11,12])] n) (fun _=>none) hO 60 ?_
 intro M R L N m0 m1 m2 m3 m4 m5
 cases M
 cbv
 repeat' first | refine m1 _ _ ?_ ?_ | refine m2 _ _ fun h=>?_ | refine m3 _ ?_ | (refine m4 _ _ (Hd.out ?_);generalize hks:(List.cons _ _:List K)=ks) | (refine m5 _ _ ?_;cbv)
 all_goals (clear m1 m2 m3 m4 m5;cases m0;try dsimp only)
 all_goals try simp only [sm] at *
 refine ⟨SEx.same (SEx.idx m (fun i=>⟨47,[(2,bP 8192),(3,bP 12288),(5,bR 20480 (ku q i).length),(10,bL (.node false none ns)),(11,bI m),(12,bI i)],[(8192,.obx [.fz (.sl (.node false none ns)),.fz (.sl (.tie ts)),.fz (.int .i64 hr)]),(12288,.obx [.fz (.int .i64 now),.fz (.sl (.i times)),.fz (.sl (.i vals))]),(20480,.osl (.i (ku q i)))]⟩) (fun _=>rUs (ku q m)) ?_) (by rw [hm];rfl) rfl⟩
 intro i hi ih
 rw [<-hks]
 obtain ⟨u,hu⟩:∃ u,u=ku q i:=⟨_,rfl⟩
 have hul:u.length<=i:=by rw [hu];exact QU _ _
 rw [<-hu]
 obtain ⟨n,hnn⟩:∃ n,n=u.length:=⟨_,rfl⟩
 rw [<-hnn] at hul ⊢
 have hyes:0<i->f2 ts (i:Int)<0->times.getD i 0=-1->f1 (ns.getD i qi.z).label vals=1->q i=true:=fun a b c d=>by rw [hqd,decide_eq_true a,decide_eq_true b,decide_eq_true c,decide_eq_true d];rfl
 have hno:(¬0<i\/¬f2 ts (i:Int)<0\/¬times.getD i 0=-1\/¬f1 (ns.getD i qi.z).label vals=1)->q i=false:=fun h=>by
  rw [hqd]
  rcases h with h | h | h | h<;>rw [decide_eq_false h]<;>simp
 clear hqd
 refine SEx.go (X:=XX) qc (fun n=>qa [] [(3,[2,3,5,10,11,12])] n) (fun _=>none) hO 60 ?_
 intro M R L N m0 m1 m2 m3 m4 m5
 cases M
 cbv
 repeat' first | refine m1 _ _ ?_ ?_ | refine m2 _ _ fun h=>?_ | refine m3 _ ?_ | (refine m4 _ _ (Hd.out ?_);try first | rw [hks] | rw [hk2] | rw [hk3]) | (refine m5 _ _ ?_;cbv)
 all_goals (clear m1 m2 m3 m4 m5;cases m0;(try clear hks;try clear hk2;try clear hk3);try dsimp only)
 all_goals try simp only [sm] at *
 all_goals try simp only [List.length_append,List.length_cons,List.length_nil,List.length_set] at *
 all_goals (try omega)
 all_goals (try (have:=zx;omega))
 all_goals (try simp only [qh (show i<9223372036854775807 by omega)])
 all_goals first
  | exact ⟨htl⟩
  | exact ⟨hv⟩
  | exact ⟨hlb _ (qo (z:=qi.z) (by omega)).out⟩
  | (have ih':=ih (by omega)
     rw [ww (hyes (by omega) (by assumption) (by assumption) (by assumption)),<-hu,List.length_append] at ih'
     exact ⟨ih'.same rfl rfl⟩)
  | (have ih':=ih (by omega)
     rw [vw (hno (by first | (left;omega) | (right;left;assumption) | (right;left;omega) | (right;right;left;assumption) | (right;right;right;assumption))),<-hu,<-hnn] at ih'
     exact ⟨ih'.same rfl rfl⟩)
  | (obtain rfl:i=m:=by omega
     rw [hu];rfl)
  | skip
end Go.Proofs.YtifnopmkdempdaaGreat.Ai
namespace Go.Proofs.YtifnopmkdempdaaGreat.Ai
open Go
set_option maxRecDepth 100000
variable [qg]
theorem qrd {l:List Int}(h:l≠[]):rEn l=rUs l:=by cases l with | nil=>exact absurd rfl h | cons a l=>rfl
structure EnT (t:qm)(x:qf):Prop where
 le:ki t x
 v:StV t x
 tl:x.times.length=t.nodes.length
structure qrk (t:qm)(x:qf):Prop where
 e:EnT t x
 ne:enL t x≠[]
structure qrP (t:qm)(x:qf):Prop where
 e:EnT t x
 no:enL t x=[]
def qrJ (f:qm->qf->List Int):Wr:=w2 qP qG (fun t x=>rUs (f t x)) (fun t x=>[qrk t x])
theorem qpq:qy Tryz.prog 110 (qrJ enL):=qE fun t x h=>by
 have h:=h _ (.head _)
 rw [<-qrd h.ne]
 exact yS t x h.e.le h.e.v h.e.tl
def qrz:Wr:=w2 qP qG (fun t x=>rE) (fun t x=>[qrP t x])
theorem qpf:qy Tryz.prog 110 qrz:=qE fun t x h=>by
 have h:=h _ (.head _)
 have:=yS t x h.e.le h.e.v h.e.tl
 rw [h.no] at this
 exact this
def qqH (f:qm->qf->List Int):Wr:=w2 qP qG (fun t x=>rUs (f t x)) (fun t x=>[EnT t x])
theorem qik:qy Tryz.prog 70 (qqH enL):=qE fun t x h=>by
 have h:=h _ (.head _)
 exact Y2 t x h.le h.v h.tl
end Go.Proofs.YtifnopmkdempdaaGreat.Ai
namespace Go.Proofs.YtifnopmkdempdaaGreat.Ai
open Go
set_option maxRecDepth 100000
variable [qg]
def btS (s:Int)(i:Nat):Bool:=decide (IntKind.i64.wrap (((BitVec.ofInt IntKind.i64.bits (s.fdiv (2 ^ min i IntKind.i64.bits)) &&& BitVec.ofInt IntKind.i64.bits 1).toNat:Nat):Int)=1)
def ZC (l:List Int)(s:Int)(i:Nat):List Int:=((List.range i).filter (btS s)).map fun j=>l.getD j 0
def QD (l:List Int)(s:Int):List Int:=ZC l s l.length
theorem qfd {l:List Int}{s:Int}{i:Nat}(h:btS s i=true):ZC l s (i+1)=ZC l s i++[l.getD i 0]:=by
 simp only [ZC,List.range_succ,List.filter_append,List.map_append,List.filter_cons,List.filter_nil,h,if_true,List.map_cons,List.map_nil]
theorem qi4 {l:List Int}{s:Int}{i:Nat}(h:btS s i=false):ZC l s (i+1)=ZC l s i:=by
 simp only [ZC,List.range_succ,List.filter_append,List.map_append,List.filter_cons,List.filter_nil,h,Bool.false_eq_true,if_false,List.map_nil,List.append_nil]
theorem KE (l:List Int)(s:Int)(i:Nat):(ZC l s i).length<=i:=by
 simp only [ZC,List.length_map]
 exact Nat.le_trans (List.length_filter_le _ _) (by simp)
theorem KF (l:List Int)(s:Int)(h1:l.length<=1048576):qe Tryz.prog 111 [aIs l,aI s] (rUs (QD l s)):=by
 refine qe.of qc (fn:=Tryz.f111) (c:=Tryz.f111.body.getD .skip) (dr:=fun n=>qa 0 [] n) Tryz.func111 rfl (by kernel_rfl) (by kernel_rfl) (by kernel_rfl) ?_
 refine SEx.go (X:=XX) qc (fun n=>qa [] [(3,[1,5,8,9,10])] n) (fun _=>none) qd 60 ?_
 intro M R L N m0 m1 m2 m3 m4 m5
 cases M
 cbv
 repeat' first | refine m1 _ _ ?_ ?_ | refine m2 _ _ fun h=>?_ | refine m3 _ ?_ | (refine m4 _ _ (Hd.out ?_);generalize hks:(List.cons _ _:List K)=ks) | (refine m5 _ _ ?_;cbv)
 all_goals (clear m1 m2 m3 m4 m5;cases m0;try dsimp only)
 all_goals try simp only [sm] at *
 obtain ⟨m,hm⟩:∃ m,m=l.length:=⟨_,rfl⟩
 refine ⟨SEx.same (SEx.idx m (fun i=>⟨26,[(1,bI s),(5,bR 20480 (ZC l s i).length),(8,bL (.i l)),(9,bI m),(10,bI i)],[(20480,.osl (.i (ZC l s i)))]⟩) (fun _=>rUs (ZC l s m)) ?_) (by rw [hm];rfl) (by rw [hm];rfl)⟩
 intro i hi ih
 rw [<-hks]
 obtain ⟨u,hu⟩:∃ u,u=ZC l s i:=⟨_,rfl⟩
 have hul:u.length<=i:=by rw [hu];exact KE _ _ _
 rw [<-hu]
 obtain ⟨n,hn⟩:∃ n,n=u.length:=⟨_,rfl⟩
 rw [<-hn] at hul ⊢
 refine SEx.go (X:=XX) qc (fun n=>qa [] [(3,[1,5,8,9,10])] n) (fun _=>none) qd 60 ?_
 intro M R L N m0 m1 m2 m3 m4 m5
 cases M
 cbv
 repeat' first | refine m1 _ _ ?_ ?_ | refine m2 _ _ fun h=>?_ | refine m3 _ ?_ | (refine m4 _ _ (Hd.out ?_);try first | rw [hks] | rw [hk2] | rw [hk3]) | (refine m5 _ _ ?_;cbv)
 all_goals (clear m1 m2 m3 m4 m5;cases m0;(try clear hks;try clear hk2;try clear hk3);try dsimp only)
 all_goals try simp only [sm] at *
 all_goals try simp only [List.length_append,List.length_cons,List.length_nil,List.length_set] at *
 all_goals (try omega)
 all_goals (try (have:=zx;omega))
 all_goals (try simp only [qh (show i<9223372036854775807 by omega)])
 all_goals first
  | (have ih':=ih (by omega)
     rw [qfd (show btS s i=true by unfold btS;exact decide_eq_true (by assumption)),<-hu,List.length_append] at ih'
     exact ⟨ih'.same rfl rfl⟩)
  | (have ih':=ih (by omega)
     rw [qi4 (show btS s i=false by unfold btS;exact decide_eq_false (by assumption)),<-hu,<-hn] at ih'
     exact ⟨ih'.same rfl rfl⟩)
  | (obtain rfl:i=m:=by omega
     rw [hu];rfl)
  | skip
theorem qdi (l:List Int)(s:Int)(h1:l.length<=1048576):qe Tryz.prog 71 [aIs l,aI s] (rUs (QD l s)):=by
 refine qe.of qc (fn:=Tryz.f71) (c:=Tryz.f71.body.getD .skip) (dr:=fun n=>qa 0 [] n) Tryz.func71 rfl (by kernel_rfl) (by kernel_rfl) (by kernel_rfl) ?_
 refine SEx.go (X:=XX) qc (fun n=>qa [] [(3,[1,5,9,10,11])] n) (fun _=>none) qd 60 ?_
 intro M R L N m0 m1 m2 m3 m4 m5
 cases M
 cbv
 repeat' first | refine m1 _ _ ?_ ?_ | refine m2 _ _ fun h=>?_ | refine m3 _ ?_ | (refine m4 _ _ (Hd.out ?_);generalize hks:(List.cons _ _:List K)=ks) | (refine m5 _ _ ?_;cbv)
 all_goals (clear m1 m2 m3 m4 m5;cases m0;try dsimp only)
 all_goals try simp only [sm] at *
 obtain ⟨m,hm⟩:∃ m,m=l.length:=⟨_,rfl⟩
 refine ⟨SEx.same (SEx.idx m (fun i=>⟨28,[(1,bI s),(5,bR 20480 (ZC l s i).length),(9,bL (.i l)),(10,bI m),(11,bI i)],[(20480,.osl (.i (ZC l s i)))]⟩) (fun _=>rUs (ZC l s m)) ?_) (by rw [hm];rfl) (by rw [hm];rfl)⟩
 intro i hi ih
 rw [<-hks]
 obtain ⟨u,hu⟩:∃ u,u=ZC l s i:=⟨_,rfl⟩
 have hul:u.length<=i:=by rw [hu];exact KE _ _ _
 rw [<-hu]
 obtain ⟨n,hn⟩:∃ n,n=u.length:=⟨_,rfl⟩
 rw [<-hn] at hul ⊢
 have hwu:IntKind.u64.wrap (i:Int)=(i:Int):=Qc (by omega)
 refine SEx.go (X:=XX) qc (fun n=>qa [] [(3,[1,5,9,10,11])] n) (fun _=>none) qd 60 ?_
 intro M R L N m0 m1 m2 m3 m4 m5
 cases M
 cbv
 repeat' first | refine m1 _ _ ?_ ?_ | refine m2 _ _ fun h=>?_ | refine m3 _ ?_ | (refine m4 _ _ (Hd.out ?_);try first | rw [hks] | rw [hk2] | rw [hk3]) | (refine m5 _ _ ?_;cbv)
 all_goals (clear m1 m2 m3 m4 m5;cases m0;(try clear hks;try clear hk2;try clear hk3);try dsimp only)
 all_goals try simp only [sm] at *
 all_goals (try simp only [hwu,Int.toNat_natCast] at *)
 all_goals try simp only [List.length_append,List.length_cons,List.length_nil,List.length_set] at *
 all_goals (try omega)
 all_goals (try (have:=zx;omega))
 all_goals (try simp only [qh (show i<9223372036854775807 by omega)])
 all_goals first
  | (have ih':=ih (by omega)
     rw [qfd (show btS s i=true by unfold btS;exact decide_eq_true (by assumption)),<-hu,List.length_append] at ih'
     exact ⟨ih'.same rfl rfl⟩)
  | (have ih':=ih (by omega)
     rw [qi4 (show btS s i=false by unfold btS;exact decide_eq_false (by assumption)),<-hu,<-hn] at ih'
     exact ⟨ih'.same rfl rfl⟩)
  | (obtain rfl:i=m:=by omega
     rw [hu];rfl)
  | skip
def qfJ (f:List Int->Int->List Int):Wr:=w2 z8 dcI (fun l s=>rUs (f l s)) (fun l _=>[LLe l 1048576])
theorem qft:qy Tryz.prog 111 (qfJ QD):=qE fun l s h=>KF l s (h _ (.head _)).out
theorem YS:qy Tryz.prog 71 (qfJ QD):=qE fun l s h=>qdi l s (h _ (.head _)).out
theorem Yi {m:Nat}(h:m<=7):IntKind.i64.wrap (1 * 2 ^ min m IntKind.i64.bits)=((2 ^ m:Nat):Int):=by
 have:m=0\/m=1\/m=2\/m=3\/m=4\/m=5\/m=6\/m=7:=by omega
 rcases this with rfl | rfl | rfl | rfl | rfl | rfl | rfl | rfl<;>decide
theorem ZF {m:Nat}(h:m<=7):1<=2 ^ m/\2 ^ m<=128:=by
 have:m=0\/m=1\/m=2\/m=3\/m=4\/m=5\/m=6\/m=7:=by omega
 rcases this with rfl | rfl | rfl | rfl | rfl | rfl | rfl | rfl<;>decide
def ZH (l:List Int)(N k:Nat):List (List Int):=(List.range k).map fun j=>QD l ((N:Int)-1-(j:Nat))
theorem Wj (l:List Int)(N k:Nat):ZH l N (k+1)=ZH l N k++[QD l ((N:Int)-1-k)]:=by simp [ZH,List.range_succ]
theorem KJ (l:List Int)(N k:Nat):(ZH l N k).length=k:=by simp [ZH]
def qfF (l:List Int):List (List Int):=ZH l (2 ^ l.length) (2 ^ l.length)
theorem Kg {t:qm}{x:qf}(h:StV t x):(enL t x).length<=7:=by
 have h1:=(qM h.sh).2
 have h2:(enL t x).length<=t.nodes.length:=Nat.le_trans (List.length_filter_le _ _) (QU _ _)
 omega
theorem qb1 (t:qm)(x:qf)(h:EnT t x):qe Tryz.prog 77 [qQ t,qH x] (QW (qfF (enL t x))):=by
 refine qe.of qc (fn:=Tryz.f77) (c:=Tryz.f77.body.getD .skip) (dr:=fun n=>qa 0 [] n) Tryz.func77 rfl (by kernel_rfl) (by kernel_rfl) (by kernel_rfl) ?_
 obtain ⟨f1,hf1⟩:∃ f,f=enL:=⟨_,rfl⟩
 obtain ⟨f2,hf2⟩:∃ f,f=QD:=⟨_,rfl⟩
 obtain ⟨l,hl⟩:∃ l,l=f1 t x:=⟨_,rfl⟩
 have hl7:l.length<=7:=by rw [hl,hf1];exact Kg h.v
 obtain ⟨NN,hN⟩:∃ NN,NN=2 ^ l.length:=⟨_,rfl⟩
 have hNb:=ZF hl7
 have hs:=Yi hl7
 rw [<-hN] at hNb hs
 have hs1:IntKind.i64.wrap ((NN:Int)-1)=(NN:Int)-1:=qv (by omega) (by omega)
 rw [show qfF (enL t x)=ZH l NN NN by rw [hN,hl,hf1];rfl]
 by_cases hne:enL t x=[]
 . have hO:qp Tryz.prog (qK [(110,qrz),(111,qfJ f2)]):=by
    subst hf2
    exact qb qpf (qb qft qd)
   have hl0:l=[]:=by rw [hl,hf1];exact hne
   have hN1:NN=1:=by rw [hN,hl0];rfl
   have h0:qrP t x:=⟨h,hne⟩
   clear hN hl hs hs1
   subst hl0 hN1
   obtain ⟨ns,ts,hr⟩:=t
   obtain ⟨now,times,vals⟩:=x
   refine SEx.go (X:=XX) qc (fun n=>qa [] [(4,[5,6,7])] n) (fun _=>none) hO 60 ?_
   intro M R L N m0 m1 m2 m3 m4 m5
   cases M
   cbv
   repeat' first | refine m1 _ _ ?_ ?_ | refine m2 _ _ fun h=>?_ | refine m3 _ ?_ | (refine m4 _ _ (Hd.out ?_);generalize hks:(List.cons _ _:List K)=ks) | (refine m5 _ _ ?_;cbv)
   all_goals (clear m1 m2 m3 m4 m5;cases m0;try dsimp only)
   all_goals try simp only [sm] at *
   all_goals first
    | exact h0
    | omega
    | skip
   refine ⟨SEx.same (SEx.idx 1 (fun k=>⟨26,[(5,bL (.i [])),(6,bR 24576 k),(7,bI ((1:Nat)-1-(k:Nat)))],[(24576,.osl (.ii true none (ZH [] 1 k)))]⟩) (fun _=>QW (ZH [] 1 1)) ?_) rfl rfl⟩
   intro k hk ih
   rw [<-hks]
   obtain ⟨o,ho⟩:∃ o,o=ZH [] 1 k:=⟨_,rfl⟩
   have hol:o.length=k:=by rw [ho,KJ]
   obtain ⟨q,hq⟩:∃ q:Int,q=((1:Nat):Int)-1-(k:Nat):=⟨_,rfl⟩
   rw [<-ho,<-hq]
   refine SEx.go (X:=XX) qc (fun n=>qa [] [(4,[5,6,7])] n) (fun _=>none) hO 60 ?_
   intro M R L N m0 m1 m2 m3 m4 m5
   cases M
   cbv
   repeat' first | refine m1 _ _ ?_ ?_ | refine m2 _ _ fun h=>?_ | refine m3 _ ?_ | (refine m4 _ _ (Hd.out ?_);try first | rw [hks] | rw [hk2] | rw [hk3]) | (refine m5 _ _ ?_;cbv)
   all_goals (clear m1 m2 m3 m4 m5;cases m0;(try clear hks;try clear hk2;try clear hk3);try dsimp only)
   all_goals try simp only [sm] at *
   all_goals (try rw [qv (n:=q-1) (by omega) (by omega)])
   all_goals first
    | omega
    | rfl
    | exact ⟨by decide⟩
    | (have:=zx;simp only [List.length_cons,List.length_nil];omega)
    | (have ih':=ih (by omega)
       rw [Wj,<-ho,<-hq,show ((1:Nat):Int)-1-((k+1:Nat):Int)=q-1 by omega] at ih'
       simp only [List.length_append,List.length_cons,List.length_nil,hol,hf2]
       exact ⟨ih'.same rfl rfl⟩)
    | (have e:k=1:=by omega
       subst e
       rw [ho];rfl)
    | skip
 . have hO:qp Tryz.prog (qK [(110,qrJ f1),(111,qfJ f2)]):=by
    subst hf1 hf2
    exact qb qpq (qb qft qd)
   have h0:qrk t x:=⟨h,hne⟩
   clear hN
   obtain ⟨ns,ts,hr⟩:=t
   obtain ⟨now,times,vals⟩:=x
   refine SEx.go (X:=XX) qc (fun n=>qa [] [(4,[5,6,7])] n) (fun _=>none) hO 60 ?_
   intro M R L N m0 m1 m2 m3 m4 m5
   cases M
   cbv
   repeat' first | refine m1 _ _ ?_ ?_ | refine m2 _ _ fun h=>?_ | refine m3 _ ?_ | (refine m4 _ _ (Hd.out ?_);generalize hks:(List.cons _ _:List K)=ks) | (refine m5 _ _ ?_;cbv)
   all_goals (clear m1 m2 m3 m4 m5;cases m0;try dsimp only)
   all_goals try simp only [sm] at *
   all_goals first
    | exact h0
    | omega
    | skip
   rw [<-hl,hs,hs1]
   obtain ⟨n,hn⟩:∃ n,n=l.length:=⟨_,rfl⟩
   refine ⟨SEx.same (SEx.idx NN (fun k=>⟨26,[(5,bR 20480 n),(6,bR 24576 k),(7,bI ((NN:Int)-1-(k:Nat)))],[(20480,.osl (.i l)),(24576,.osl (.ii true none (ZH l NN k)))]⟩) (fun _=>QW (ZH l NN NN)) ?_) (by rw [hn,show (NN:Int)-1-((0:Nat):Int)=(NN:Int)-1 by omega];rfl) rfl⟩
   intro k hk ih
   rw [<-hks]
   obtain ⟨o,ho⟩:∃ o,o=ZH l NN k:=⟨_,rfl⟩
   have hol:o.length=k:=by rw [ho,KJ]
   obtain ⟨q,hq⟩:∃ q:Int,q=(NN:Int)-1-(k:Nat):=⟨_,rfl⟩
   rw [<-ho,<-hq]
   refine SEx.go (X:=XX) qc (fun n=>qa [] [(4,[5,6,7])] n) (fun _=>none) hO 60 ?_
   intro M R L N m0 m1 m2 m3 m4 m5
   cases M
   cbv
   repeat' first | refine m1 _ _ ?_ ?_ | refine m2 _ _ fun h=>?_ | refine m3 _ ?_ | (refine m4 _ _ (Hd.out ?_);try first | rw [hks] | rw [hk2] | rw [hk3]) | (refine m5 _ _ ?_;cbv)
   all_goals (clear m1 m2 m3 m4 m5;cases m0;(try clear hks;try clear hk2;try clear hk3);try dsimp only)
   all_goals try simp only [sm] at *
   all_goals (try rw [qv (n:=q-1) (by omega) (by omega)])
   all_goals first
    | omega
    | rfl
    | exact ⟨by omega⟩
    | (have:=zx;simp only [List.length_cons,List.length_nil];omega)
    | (have ih':=ih (by omega)
       rw [Wj,<-ho,<-hq,show (NN:Int)-1-((k+1:Nat):Int)=q-1 by omega] at ih'
       simp only [List.length_append,List.length_cons,List.length_nil,hol,hf2]
       exact ⟨ih'.same rfl rfl⟩)
    | (have e:k=NN:=by omega
       subst e
       rw [ho];rfl)
    | skip
end Go.Proofs.YtifnopmkdempdaaGreat.Ai
namespace Go.Proofs.YtifnopmkdempdaaGreat.Ai
open Go
set_option maxRecDepth 100000
variable [qg]
def JG (t:qm)(x:qf):List (List Int):=match Qd t x with | true=>qfF (enL t x) | false=>[]
theorem qhi {t:qm}{x:qf}(h:Qd t x=true):StV t x/\x.times.length=t.nodes.length:=by
 unfold Qd at h
 simp only [Bool.and_eq_true] at h
 obtain ⟨h1,_,_,h2⟩:=h
 have h3:StT t ⟨x.now+1,x.times,x.vals⟩:=⟨h1,h2⟩
 exact ⟨⟨h1,h3.vals⟩,h3.now.2.2⟩
def qmk (f:qm->qf->List (List Int)):Wr:=w2 qP qG (fun t x=>QW (f t x)) (fun t x=>[EnT t x])
def vW (t:qm)(x:qf):List (List Int):=qfF (enL t x)
theorem qfc:qy Tryz.prog 77 (qmk vW):=qE fun t x h=>qb1 t x (h _ (.head _))
theorem qgM (t:qm)(x:qf)(hs:ki t x):qe Tryz.prog 39 [qQ t,qH x] (QW (JG t x)):=by
 refine qe.of qc (fn:=Tryz.f39) (c:=Tryz.f39.body.getD .skip) (dr:=fun n=>qa 0 [] n) Tryz.func39 rfl (by kernel_rfl) (by kernel_rfl) (by kernel_rfl) ?_
 obtain ⟨f1,hf1⟩:∃ f,f=Qd:=⟨_,rfl⟩
 obtain ⟨f2,hf2⟩:∃ f,f=vW:=⟨_,rfl⟩
 have hO:qp Tryz.prog (qK [(44,qp9 f1),(77,qmk f2)]):=by
  subst hf1 hf2
  exact qb qoe (qb qfc qd)
 have hv:f1 t x=true->EnT t x:=fun h=>by rw [hf1] at h;have:=qhi h;exact ⟨hs,this.1,this.2⟩
 have hE:JG t x=match f1 t x with | true=>f2 t x | false=>[]:=by rw [hf1,hf2];rfl
 obtain ⟨r,hr⟩:∃ r,r=JG t x:=⟨_,rfl⟩
 rw [<-hr] at hE ⊢
 obtain ⟨ns,ts,hr⟩:=t
 obtain ⟨now,times,vals⟩:=x
 refine SEx.go (X:=XX) qc (fun n=>qa [] [] n) (fun _=>none) hO 60 ?_
 intro M R L N m0 m1 m2 m3 m4 m5
 cases M
 cbv
 repeat' first | refine m1 _ _ ?_ ?_ | refine m2 _ _ fun h=>?_ | refine m3 _ ?_ | (refine m4 _ _ (Hd.out ?_);try first | rw [hks] | rw [hk2] | rw [hk3]) | (refine m5 _ _ ?_;cbv)
 all_goals (clear m1 m2 m3 m4 m5;cases m0;(try clear hks;try clear hk2;try clear hk3);try dsimp only)
 all_goals try simp only [sm] at *
 all_goals first
  | exact hs
  | exact hv (by assumption)
  | (rw [hE,show f1 _ _=false by assumption];rfl)
  | (rw [hE,show f1 _ _=true by assumption];rfl)
  | skip
theorem qgw (t:qm)(x:qf)(hs:ki t x)(hz:KG x):qe Tryz.prog 34 [qQ t,qH x] (QW (JG t x)):=by
 refine qe.of qc (fn:=Tryz.f34) (c:=Tryz.f34.body.getD .skip) (dr:=fun n=>qa 0 [] n) Tryz.func34 rfl (by kernel_rfl) (by kernel_rfl) (by kernel_rfl) ?_
 obtain ⟨f0,hf0⟩:∃ f,f=Qd:=⟨_,rfl⟩
 obtain ⟨f1,hf1⟩:∃ f,f=enL:=⟨_,rfl⟩
 obtain ⟨f2,hf2⟩:∃ f,f=QD:=⟨_,rfl⟩
 have hO:qp Tryz.prog (qK [(69,qpT f0),(70,qqH f1),(71,qfJ f2)]):=by
  subst hf0 hf1 hf2
  exact qb qnX (qb qik (qb YS qd))
 have hv:f0 t x=true->EnT t x:=fun h=>by rw [hf0] at h;have:=qhi h;exact ⟨hs,this.1,this.2⟩
 obtain ⟨l,hl⟩:∃ l,l=f1 t x:=⟨_,rfl⟩
 have hl7:f0 t x=true->l.length<=7:=fun h=>by rw [hl,hf1];exact Kg (hv h).v
 obtain ⟨NN,hN⟩:∃ n,n=2 ^ l.length:=⟨_,rfl⟩
 have hE:JG t x=match f0 t x with | true=>ZH l NN NN | false=>[]:=by rw [hN,hl,hf1,hf0];rfl
 obtain ⟨r,hr⟩:∃ r,r=JG t x:=⟨_,rfl⟩
 rw [<-hr] at hE ⊢
 obtain ⟨ns,ts,hr⟩:=t
 obtain ⟨now,times,vals⟩:=x
 refine SEx.go (X:=XX) qc (fun n=>qa [] [(6,[5,6,7])] n) (fun _=>none) hO 60 ?_
 intro M R L N m0 m1 m2 m3 m4 m5
 cases M
 cbv
 repeat' first | refine m1 _ _ ?_ ?_ | refine m2 _ _ fun h=>?_ | refine m3 _ ?_ | (refine m4 _ _ (Hd.out ?_);generalize hks:(List.cons _ _:List K)=ks) | (refine m5 _ _ ?_;cbv)
 all_goals (clear m1 m2 m3 m4 m5;cases m0;try dsimp only)
 all_goals try simp only [sm] at *
 all_goals first
  | exact hs
  | exact hz
  | exact hv (by assumption)
  | (rw [hE,show f0 _ _=false by assumption];rfl)
  | omega
  | skip
 . have:=hl7 (by assumption)
   rw [<-hl,Qc (by omega)]
   omega
 have hl7:=hl7 (by assumption)
 have hNb:=ZF hl7
 have hs:=Yi hl7
 rw [<-hN] at hNb hs
 have hs1:IntKind.i64.wrap ((NN:Int)-1)=(NN:Int)-1:=qv (by omega) (by omega)
 have hE:r=ZH l NN NN:=by rw [hE,show f0 _ _=true by assumption]
 rw [<-hl,Qc (by omega),Int.toNat_natCast,hs,hs1]
 obtain ⟨n,hn⟩:∃ n,n=l.length:=⟨_,rfl⟩
 refine ⟨SEx.same (SEx.idx NN (fun k=>⟨32,[(5,bR 20480 n),(6,bR 24576 k),(7,bI ((NN:Int)-1-(k:Nat)))],[(20480,.osl (.i l)),(24576,.osl (.ii true none (ZH l NN k)))]⟩) (fun _=>QW r) ?_) (by rw [hn,show (NN:Int)-1-((0:Nat):Int)=(NN:Int)-1 by omega];rfl) rfl⟩
 intro k hk ih
 rw [<-hks]
 obtain ⟨o,ho⟩:∃ o,o=ZH l NN k:=⟨_,rfl⟩
 have hol:o.length=k:=by rw [ho,KJ]
 obtain ⟨q,hq⟩:∃ q:Int,q=(NN:Int)-1-(k:Nat):=⟨_,rfl⟩
 rw [<-ho,<-hq]
 clear hN hl hs
 refine SEx.go (X:=XX) qc (fun n=>qa [] [(6,[5,6,7])] n) (fun _=>none) hO 60 ?_
 intro M R L N m0 m1 m2 m3 m4 m5
 cases M
 cbv
 repeat' first | refine m1 _ _ ?_ ?_ | refine m2 _ _ fun h=>?_ | refine m3 _ ?_ | (refine m4 _ _ (Hd.out ?_);try first | rw [hks] | rw [hk2] | rw [hk3]) | (refine m5 _ _ ?_;cbv)
 all_goals (clear m1 m2 m3 m4 m5;cases m0;(try clear hks;try clear hk2;try clear hk3);try dsimp only)
 all_goals try simp only [sm] at *
 all_goals (try rw [qv (n:=q-1) (by omega) (by omega)])
 all_goals first
  | omega
  | rfl
  | exact ⟨by omega⟩
  | (have:=zx;simp only [List.length_cons,List.length_nil];omega)
  | (have ih':=ih (by omega)
     rw [Wj,<-ho,<-hq,show (NN:Int)-1-((k+1:Nat):Int)=q-1 by omega] at ih'
     simp only [List.length_append,List.length_cons,List.length_nil,hol,hf2]
     exact ⟨ih'.same rfl rfl⟩)
  | (have e:k=NN:=by omega
     subst e
     rw [hE,ho];rfl)
  | skip
end Go.Proofs.YtifnopmkdempdaaGreat.Ai
namespace Go.Proofs.YtifnopmkdempdaaGreat.Ai
open Go
set_option maxRecDepth 100000
variable [qg]
theorem yV (t:qm)(x:qf):(JG t x).length<=128/\∀ y∈JG t x,y.length<=7:=by
 unfold JG
 cases h:Qd t x with
 | false=>exact ⟨Nat.zero_le _,fun y hy=>by cases hy⟩
 | true =>
   have h7:=Kg (qhi h).1
   refine ⟨by show (ZH _ _ _).length<=128;rw [KJ];exact (ZF h7).2,fun y hy=>?_⟩
   obtain ⟨j,_,rfl⟩:=List.mem_map.1 hy
   exact Nat.le_trans (KE _ _ _) h7
def qmv (f:qm->qf->List (List Int)):Wr:=w2 qP qG (fun t x=>QW (f t x)) (fun t x=>[ki t x,KG x])
theorem qjF:qy Tryz.prog 34 (qmv JG):=qE fun t x h=>qgw t x (h _ (.head _)) (h _ (.tail _ (.head _)))
def qmu (f:qm->qf->List (List Int)):Wr:=w2 qP qG (fun t x=>QW (f t x)) (fun t x=>[ki t x])
theorem qkA:qy Tryz.prog 39 (qmu JG):=qE fun t x h=>qgM t x (h _ (.head _))
end Go.Proofs.YtifnopmkdempdaaGreat.Ai
