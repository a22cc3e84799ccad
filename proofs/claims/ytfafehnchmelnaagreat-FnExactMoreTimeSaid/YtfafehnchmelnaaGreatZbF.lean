/- The law's proof, part 6 of 11: what of its author's texts it needs; no condition. -/
import Derived.Test.YtfafehnchmelnaaGreatZbE
set_option linter.unusedSectionVars false
set_option linter.unusedSimpArgs false
set_option linter.unusedVariables false
namespace Go.Proofs.YtfafehnchmelnaaGreat.Ai
open Go
set_option maxRecDepth 100000
variable [qf]
theorem qkf (t:qm)(h1:t.ties.length<=maxLen)(h2:1<=t.nodes.length/\t.nodes.length<=7):qe Tryz.prog 161 [qM t] (rUs (chL t)):=by
 refine qe.of qc (fn:=Tryz.f161) (c:=Tryz.f161.body.getD .skip) (dr:=fun n=>qa 0 [] n) Tryz.func161 rfl (by kernel_rfl) (by kernel_rfl) (by kernel_rfl) ?_
 obtain ⟨f,hf⟩:∃ f,f=KU:=⟨_,rfl⟩
 have hO:qp Tryz.prog (qK [(169,qea f)]):=by subst hf;exact qb qkk qd
 obtain ⟨ns,ts,hr⟩:=t
 dsimp only at h1 h2
 obtain ⟨q,hq⟩:∃ q,q=chQ ts:=⟨_,rfl⟩
 obtain ⟨r,hrr⟩:∃ r,r=chL ⟨ns,ts,hr⟩:=⟨_,rfl⟩
 rw [<-hrr]
 have hrr:r=kv q ns.length:=by rw [hrr,hq];rfl
 have hq0:q 0=false:=by rw [hq];rfl
 have hqs:∀ j:Nat,q (j+1)=decide (f ts ((j+1:Nat):Int)<0):=fun j=>by rw [hq,hf];unfold chQ;rw [decide_eq_true (Nat.succ_pos j),Bool.true_and]
 clear hq
 obtain ⟨m,hm⟩:∃ m,m=ns.length:=⟨_,rfl⟩
 rw [<-hm] at h2 hrr
 refine SEx.go (X:=XX) qc (fun n=>qa [] [(3,[1,3,4])] n) (fun _=>none) hO 60 ?_
 intro M R L N m0 m1 m2 m3 m4 m5
 cases M
 cbv
 repeat' first | refine m1 _ _ ?_ ?_ | refine m2 _ _ fun h=>?_ | refine m3 _ ?_ | (refine m4 _ _ (Hd.out ?_);generalize hks:(List.cons _ _:List K)=ks) | (refine m5 _ _ ?_;cbv)
 all_goals (clear m1 m2 m3 m4 m5;cases m0;try dsimp only)
 all_goals try simp only [sm] at *
 refine ⟨SEx.same (SEx.idx (m-1) (fun j=>⟨21,[(1,bP 4096),(3,bR 12288 (kv q (j+1)).length),(4,bI (j+1:Nat))],[(4096,.obx [.fz (.sl (.node false none ns)),.fz (.sl (.tie ts)),.fz (.int .i64 hr)]),(12288,.osl (.i (kv q (j+1))))]⟩) (fun _=>rUs r) ?_) (by rw [vz hq0];rfl) rfl⟩
 intro j hj ih
 rw [<-hks]
 obtain ⟨u,hu⟩:∃ u,u=kv q (j+1):=⟨_,rfl⟩
 have hul:u.length<=j+1:=by rw [hu];exact QU _ _
 rw [<-hu]
 obtain ⟨n,hn⟩:∃ n,n=u.length:=⟨_,rfl⟩
 rw [<-hn] at hul ⊢
 obtain ⟨k,hk⟩:∃ k,k=j+1:=⟨_,rfl⟩
 have hqk:q k=decide (f ts (k:Int)<0):=by rw [hk];exact hqs j
 rw [<-hk] at hul hu ih ⊢
 refine SEx.go (X:=XX) qc (fun n=>qa [] [(3,[1,3,4])] n) (fun _=>none) hO 60 ?_
 intro M R L N m0 m1 m2 m3 m4 m5
 cases M
 cbv
 repeat' first | refine m1 _ _ ?_ ?_ | refine m2 _ _ fun h=>?_ | refine m3 _ ?_ | (refine m4 _ _ (Hd.out ?_);try first | rw [hks] | rw [hk2] | rw [hk3]) | (refine m5 _ _ ?_;cbv)
 all_goals (clear m1 m2 m3 m4 m5;cases m0;(try clear hks;try clear hk2;try clear hk3);try dsimp only)
 all_goals try simp only [sm] at *
 all_goals try simp only [List.length_append,List.length_cons,List.length_nil,List.length_set] at *
 all_goals (try omega)
 all_goals (try (have:=qZ;omega))
 all_goals (try simp only [qg (show k<9223372036854775807 by omega)])
 all_goals first
  | exact ⟨h1⟩
  | (have ih':=ih (by omega)
     rw [w6 (by rw [hqk];exact decide_eq_true (by assumption)),<-hu,List.length_append] at ih'
     exact ⟨ih'.same rfl rfl⟩)
  | (have ih':=ih (by omega)
     rw [vz (by rw [hqk];exact decide_eq_false (by omega)),<-hu,<-hn] at ih'
     exact ⟨ih'.same rfl rfl⟩)
  | (have e:k=m:=by omega
     rw [hrr,<-e,hu];rfl)
  | skip
structure StV (t:qm)(x:qh):Prop where
 sh:qO t=true
 vals:qW x.vals=true
theorem Y0 (t:qm)(x:qh)(i:Int)(hs:kM t x)(h:StV t x)(hi:0<=i/\i<t.nodes.length):qe Tryz.prog 128 [qM t,qQ x,aI i] (rI (nsI t x i)):=by
 refine qe.of qc (fn:=Tryz.f128) (c:=Tryz.f128.body.getD .skip) (dr:=fun n=>qa 0 [(1,8)] n) Tryz.func128 rfl (by kernel_rfl) (by kernel_rfl) (by kernel_rfl) ?_
 have h1:=kK h.sh (qo (z:=qi.z) (show i.toNat<t.nodes.length by omega)).out
 have h2:=h.vals
 have h3:=hs.sh.nodes _ (qo (z:=qi.z) (show i.toNat<t.nodes.length by omega)).out
 have h4:=hs.st.vlen
 unfold nsI nd
 obtain ⟨f,hf⟩:∃ f:List Int->List Int->Int,f=fun l v=>if qX l=true/\qW v=true then Zu v l 1 else -1:=⟨_,rfl⟩
 have hO:qp Tryz.prog (qK [(140,w2 kx kx (fun l v=>rI (f l v)) (fun l v=>[ZS l,LLe v maxLen]))]):=by
  subst hf
  exact qb (qG fun l v h=>Km l v (h _ (.head _)) (h _ (.tail _ (.head _))).out) qd
 have he:f (t.nodes.getD i.toNat qi.z).label x.vals=Zu x.vals (t.nodes.getD i.toNat qi.z).label 1:=by rw [hf];exact if_pos ⟨h1,h2⟩
 rw [<-he]
 clear hs h hf he
 obtain ⟨ns,ts,hr⟩:=t
 obtain ⟨now,times,vals⟩:=x
 dsimp only at hi h1 h2 h3 h4
 refine SEx.go (X:=XX) qc (fun n=>qa [] [] n) (fun _=>none) hO 60 ?_
 intro M R L N m0 m1 m2 m3 m4 m5
 cases M
 cbv
 repeat' first | refine m1 _ _ ?_ ?_ | refine m2 _ _ fun h=>?_ | refine m3 _ ?_ | (refine m4 _ _ (Hd.out ?_);try first | rw [hks] | rw [hk2] | rw [hk3]) | (refine m5 _ _ ?_;cbv)
 all_goals (clear m1 m2 m3 m4 m5;cases m0;(try clear hks;try clear hk2;try clear hk3);try dsimp only)
 all_goals try simp only [sm] at *
 all_goals first
  | omega
  | exact ⟨h3.len,h3.all⟩
  | exact ⟨h4⟩
  | rfl
  | skip
def qdG (f:qm->qh->Int->Int):Wr:=w3 qL qP dcI (fun t x i=>rI (f t x i)) (fun t x i=>[kM t x,StV t x,InX i t.nodes])
theorem qds:qA Tryz.prog 128 (qdG nsI):=QC fun t x i h=>Y0 t x i (h _ (.head _)) (h _ (.tail _ (.head _))) (h _ (.tail _ (.tail _ (.head _)))).out
theorem qfl (i:Int)(t:qm)(x:qh)(hs:kM t x)(h:StV t x)(hl:x.times.length=t.nodes.length)(hi:0<=i/\i<t.nodes.length):qe Tryz.prog 162 [aI i,(false,[.ptr x.d]),(false,[.ptr t.d])] (rB (!enP t x i)):=by
 refine qe.of qc (fn:=Tryz.f162) (c:=Tryz.f162.body.getD .skip) (dr:=fun n=>qa 0 [] n) Tryz.func162 rfl (by kernel_rfl) (by kernel_rfl) (by kernel_rfl) ?_
 obtain ⟨f,hf⟩:∃ f,f=nsI:=⟨_,rfl⟩
 have hO:qp Tryz.prog (qK [(128,qdG f)]):=by subst hf;exact qb qds qd
 unfold enP
 rw [<-hf]
 clear hf
 obtain ⟨ns,ts,hr⟩:=t
 obtain ⟨now,times,vals⟩:=x
 dsimp only at hl hi
 refine SEx.go (X:=XX) qc (fun n=>qa [] [] n) (fun _=>none) hO 60 ?_
 intro M R L N m0 m1 m2 m3 m4 m5
 cases M
 cbv
 repeat' first | refine m1 _ _ ?_ ?_ | refine m2 _ _ fun h=>?_ | refine m3 _ ?_ | (refine m4 _ _ (Hd.out ?_);try first | rw [hks] | rw [hk2] | rw [hk3]) | (refine m5 _ _ ?_;cbv)
 all_goals (clear m1 m2 m3 m4 m5;cases m0;(try clear hks;try clear hk2;try clear hk3);try dsimp only)
 all_goals try simp only [sm] at *
 all_goals first
  | omega
  | exact hs
  | exact h
  | exact ⟨hi⟩
  | (refine qV ?_ _;rw [decide_eq_false (by assumption)];rfl)
  | (refine qV ?_ _;rw [decide_eq_true (by assumption),Bool.true_and];generalize f _ _ i=v;by_cases hv:v=1<;>simp [hv];done)
  | skip
structure ChT (t:qm):Prop where
 len:t.ties.length<=maxLen
 nod:1<=t.nodes.length/\t.nodes.length<=7
def qh4 (f:qm->List Int):Wr:=w1 qL (fun t=>rUs (f t)) (fun t=>[ChT t])
theorem qgy:qA Tryz.prog 161 (qh4 chL):=zf fun t h=>qkf t (h _ (.head _)).len (h _ (.head _)).nod
structure qrQ (p:SP)(n m:Nat)(l l0:List Int)(g' g:Nat)(a' a b' b:List D):Prop where out:p=(lrt 0,[])/\m=n/\l.length=n/\l=l0/\g'=g/\a'=a/\b'=b
def qpi (g:Nat)(a b:List D)(l0:List Int)(k d:List Int->List Int)(ln:List Int->Nat):WrW
 | [(false,[.rf p true 0 n]),(false,[.clo g' [.fz (.ptr a'),.fz (.ptr b')]])],[(.sl m,.osl (.i l))]=>some ([qrQ p n m l l0 g' g a' a b' b],(.v (false,[.rf (lrt 0,[]) false 0 (ln (k l))]),[(lrt 0,.osl (.i (d l)))],[.rf (lrt 0,[]) true 0 n]))
 | _,_=>none
theorem qpv {g:Nat}{a b:List D}{l0:List Int}{p:Int->Bool}(hp:∀ q∈l0,qe Tryz.prog g [aI q,(false,[.ptr a]),(false,[.ptr b])] (rB (p q)))(h1:l0.length<=maxLen) :
 qit Tryz.prog 160 (qpi g a b l0 (zZ p) (Yd p) List.length):=by
 intro xs ls
 unfold qpi
 split
 . refine R.Sim.mk fun hq=>?_
   obtain ⟨rfl,rfl,rfl,rfl,rfl,rfl,rfl⟩:=(hq _ (.head _)).out
   exact WX _ _ _ _ p hp h1
 . exact R.Sim.none'
theorem qmb (p:Int->Bool)(l:List Int):(Yd p l).length=l.length:=by
 have:(zZ p l).length<=l.length:=List.length_filter_le _ _
 unfold Yd
 rw [List.length_append,List.length_replicate]
 omega
theorem qk7 (p:Int->Bool)(l:List Int):((Yd p l).drop 0).take (zZ p l).length=zZ p l:=by
 rw [List.drop_zero]
 unfold Yd
 rw [List.take_left]
theorem qjs (p:Int->Bool)(l:List Int):zZ (fun i=>!p i) l=l.filter p:=by
 unfold zZ
 congr 1
 funext x
 simp
theorem qeP {P:Program}{g:FuncId}{args:List (V1 A)}{tb tb':List (Nat×O)}{ph ph':List A}{p:qj}{off:Nat}(h:WF P g args tb ph (.v (false,[.rf p off 0])) tb' ph'):WF P g args tb ph (.v (false,[.fz (.sl [])])) tb' ph':=by
 refine ⟨h.1,fun J w σ vals hfut hold hsz ha hin=>(h.2 J w σ vals hfut hold hsz ha hin).mono ?_⟩
 rintro e w' ⟨v,σ',he,ho⟩
 letI:=J
 refine ⟨v,σ',he,ho.goes,ho.back,?_⟩
 have hr:ql w' σ' (.rf p off 0) v:=ho.res
 show ql w' σ' (.fz (.sl [])) v
 cases hr with
 | rz _ _ b=>exact .fz _ _ (.sl [] 0 b 0 (fun _ _=>undef) (Nat.le_refl _) (by simp) (by simp) (by simp) (by simp))
 | rf _ _ _ g n cap sz hg hl hn=>exact .fz _ _ (.sl [] 0 _ _ (fun _ _=>undef) (Nat.zero_le _) (by simp) (by simp) (by simp) (by simp))
theorem qb7 (l:List Int)(g:FuncId)(a b:List D)(p:Int->Bool)(hp:∀ q∈l,qe Tryz.prog g [aI q,(false,[.ptr a]),(false,[.ptr b])] (rB (p q)))(h1:l.length<=maxLen)(h0:zZ p l=[]) :
 Qf Tryz.prog 160 [wR l.length,(false,[.clo g [.fz (.ptr a),.fz (.ptr b)]])] [(lrt 0,.osl (.i l))] [.rf (lrt 0,[]) true 0 l.length]
  (.v (false,[.fz (.sl (.i []))])) [(lrt 0,.osl (.i (Yd p l)))] [.rf (lrt 0,[]) true 0 l.length]:=by
 have:=WX l g a b p hp h1
 rw [h0] at this
 exact qeP this
def qh6 (g:Nat)(a b:List D)(l0:List Int)(d:List Int->List Int):WrW
 | [(false,[.rf p true 0 n]),(false,[.clo g' [.fz (.ptr a'),.fz (.ptr b')]])],[(.sl m,.osl (.i l))]=>some ([qrQ p n m l l0 g' g a' a b' b],(.v (false,[.fz (.sl (.i []))]),[(lrt 0,.osl (.i (d l)))],[.rf (lrt 0,[]) true 0 n]))
 | _,_=>none
theorem qmg {g:Nat}{a b:List D}{l0:List Int}{p:Int->Bool}(hp:∀ q∈l0,qe Tryz.prog g [aI q,(false,[.ptr a]),(false,[.ptr b])] (rB (p q)))(h1:l0.length<=maxLen)(h0:zZ p l0=[]) :
 qit Tryz.prog 160 (qh6 g a b l0 (Yd p)):=by
 intro xs ls
 unfold qh6
 split
 . refine R.Sim.mk fun hq=>?_
   obtain ⟨rfl,rfl,rfl,rfl,rfl,rfl,rfl⟩:=(hq _ (.head _)).out
   exact qb7 _ _ _ _ p hp h1 h0
 . exact R.Sim.none'
def rE:TV W:=.v (false,[.fz (.sl (.i []))])
def rEn:List Int->TV W
 | []=>rE
 | a::l=>rUs (a::l)
theorem YF (t:qm)(x:qh)(hs:kM t x)(h:StV t x)(hl:x.times.length=t.nodes.length):qe Tryz.prog 144 [qM t,qQ x] (rEn (enL t x)):=by
 refine qe.of qc (fn:=Tryz.f144) (c:=Tryz.f144.body.getD .skip) (dr:=fun n=>qa 0 [] n) Tryz.func144 rfl (by kernel_rfl) (by kernel_rfl) (by kernel_rfl) ?_
 have hn:=qF h.sh
 have htl:=hs.sh.tlen
 obtain ⟨f0,hf0⟩:∃ f,f=chL:=⟨_,rfl⟩
 have hO:qp Tryz.prog (qK [(161,qh4 f0)]):=by subst hf0;exact qb qgy qd
 obtain ⟨l0,hl0⟩:∃ l,l=f0 t:=⟨_,rfl⟩
 have hmem:∀ q∈l0,0<=q/\q<t.nodes.length:=fun q hq=>by
  rw [hl0,hf0] at hq
  have:=wJ hq
  exact ⟨this.1,this.2.1⟩
 have hl7:l0.length<=maxLen:=by
  have:l0.length<=t.nodes.length:=by rw [hl0,hf0];exact QU _ _
  unfold maxLen
  omega
 have he:enL t x=zZ (fun i=>!enP t x i) l0:=by rw [qjs,hl0,hf0];rfl
 have hc:=fun q hq=>qfl q t x hs h hl (hmem q hq)
 obtain ⟨p,hp⟩:∃ p,p=fun i=>!enP t x i:=⟨_,rfl⟩
 rw [<-hp] at he
 have hc:∀ q∈l0,qe Tryz.prog 162 [aI q,(false,[.ptr x.d]),(false,[.ptr t.d])] (rB (p q)):=fun q hq=>by rw [hp];exact hc q hq
 rw [he]
 clear he hp hmem
 have hDl:=qmb p l0
 have hDt:=qk7 p l0
 obtain ⟨ns,ts,hr⟩:=t
 obtain ⟨now,times,vals⟩:=x
 obtain ⟨d,hd⟩:∃ d,d=Yd p:=⟨_,rfl⟩
 cases hkp:zZ p l0 with
 | nil =>
   have hW:zB Tryz.prog ((XX.withF [2,3,4]).withW [(160,[(0,0)])] (Qn [(160,qh6 162 [.int .i64 now,.sl (.i times),.sl (.i vals)] [.sl (.node false none ns),.sl (.tie ts),.int .i64 hr] l0 d)])):=by
    subst hd
    exact SX.withW_ok (ZO (qmg hc hl7 hkp) JC)
   rw [<-hd] at hDl
   refine SEx.go (X:=((XX.withF [2,3,4]).withW [(160,[(0,0)])] (Qn [(160,qh6 162 [.int .i64 now,.sl (.i times),.sl (.i vals)] [.sl (.node false none ns),.sl (.tie ts),.int .i64 hr] l0 d)]))) qc (fun n=>qa [] [] n) (fun _=>none) hO 60 ?_ hW
   intro M R L N m0 m1 m2 m3 m4 m5
   cases M
   cbv
   repeat' first | refine m1 _ _ ?_ ?_ | refine m2 _ _ fun h=>?_ | refine m3 _ ?_ | (refine m4 _ _ (Hd.out ?_);try first | rw [hks] | rw [hk2] | rw [hk3]) | (refine m5 _ _ ?_;cbv)
   all_goals (clear m1 m2 m3 m4 m5;cases m0;(try clear hks;try clear hk2;try clear hk3);try dsimp only)
   all_goals try simp only [sm] at *
   all_goals (clear hW hO)
   all_goals first
    | exact ⟨htl,hn⟩
    | rfl
    | exact ⟨⟨rfl,rfl,rfl,hl0.symm,rfl,rfl,rfl⟩⟩
    | (rw [<-hl0];exact hDl.symm)
    | skip
 | cons k0 kr =>
   rw [hkp] at hDt
   obtain ⟨k,hk⟩:∃ k,k=zZ p:=⟨_,rfl⟩
   rw [<-hk] at hkp
   obtain ⟨ln,hln⟩:∃ f:List Int->Nat,f=List.length:=⟨_,rfl⟩
   have hlk:ln (k l0)=(k0::kr).length:=by rw [hln,hkp]
   have hkl:(k0::kr).length<=l0.length:=by rw [<-hkp,hk];exact List.length_filter_le _ _
   have hW:zB Tryz.prog ((XX.withF [2,3,4]).withW [(160,[(0,0)])] (Qn [(160,qpi 162 [.int .i64 now,.sl (.i times),.sl (.i vals)] [.sl (.node false none ns),.sl (.tie ts),.int .i64 hr] l0 k d ln)])):=by
    subst hk hd hln
    exact SX.withW_ok (ZO (qpv hc hl7) JC)
   rw [<-hd] at hDt hDl
   clear hk hln
   refine SEx.go (X:=((XX.withF [2,3,4]).withW [(160,[(0,0)])] (Qn [(160,qpi 162 [.int .i64 now,.sl (.i times),.sl (.i vals)] [.sl (.node false none ns),.sl (.tie ts),.int .i64 hr] l0 k d ln)]))) qc (fun n=>qa [] [] n) (fun _=>none) hO 60 ?_ hW
   intro M R L N m0 m1 m2 m3 m4 m5
   cases M
   cbv
   repeat' first | refine m1 _ _ ?_ ?_ | refine m2 _ _ fun h=>?_ | refine m3 _ ?_ | (refine m4 _ _ (Hd.out ?_);try first | rw [hks] | rw [hk2] | rw [hk3]) | (refine m5 _ _ ?_;cbv)
   all_goals (clear m1 m2 m3 m4 m5;cases m0;(try clear hks;try clear hk2;try clear hk3);try dsimp only)
   all_goals try simp only [sm] at *
   all_goals (clear hW hO)
   all_goals (try simp only [<-hl0,hlk,hDl,Nat.zero_add])
   all_goals first
    | exact ⟨htl,hn⟩
    | exact ⟨⟨rfl,rfl,rfl,rfl,rfl,rfl,rfl⟩⟩
    | exact hkl
    | (simp;done)
    | (rw [hDt];done)
    | (rw [hDt];rfl)
    | skip
theorem Yc (t:qm)(x:qh)(hs:kM t x)(h:StV t x)(hl:x.times.length=t.nodes.length):qe Tryz.prog 97 [qM t,qQ x] (rUs (enL t x)):=by
 refine qe.of qc (fn:=Tryz.f97) (c:=Tryz.f97.body.getD .skip) (dr:=fun n=>qa 0 [] n) Tryz.func97 rfl (by kernel_rfl) (by kernel_rfl) (by kernel_rfl) ?_
 have hn:=qF h.sh
 have htl:=hs.sh.tlen
 obtain ⟨f1,hf1⟩:∃ f,f=qlo:=⟨_,rfl⟩
 obtain ⟨f2,hf2⟩:∃ f,f=KU:=⟨_,rfl⟩
 have hO:qp Tryz.prog (qK [(94,Qx f1),(92,qea f2)]):=by
  subst hf1 hf2
  exact qb jA (qb qap qd)
 have hv:=h.vals
 have hlb:∀ n∈t.nodes,qX n.label=true:=fun n hn=>kK h.sh hn
 have he:enL t x=kv (fun j=>chQ t.ties j&&enP t x j) t.nodes.length:=by unfold enL chL;rw [qdt]
 rw [he]
 obtain ⟨ns,ts,hr⟩:=t
 obtain ⟨now,times,vals⟩:=x
 dsimp only at hl hn htl hv hlb ⊢
 obtain ⟨q,hq⟩:∃ q,q=fun j:Nat=>chQ ts j&&enP ⟨ns,ts,hr⟩ ⟨now,times,vals⟩ j:=⟨_,rfl⟩
 have hqd:∀ j:Nat,q j=(decide (0<j)&&decide (f2 ts (j:Int)<0)&&(decide (times.getD j 0=-1)&&decide (f1 (ns.getD j qi.z).label vals=1))):=fun j=>by rw [hq,hf1,hf2];rfl
 rw [show kv (fun j:Nat=>chQ ts j&&enP ⟨ns,ts,hr⟩ ⟨now,times,vals⟩ j) ns.length=kv q ns.length by rw [hq]]
 clear hq he hs h
 obtain ⟨m,hm⟩:∃ m,m=ns.length:=⟨_,rfl⟩
 rw [<-hm] at hl hn ⊢
 refine SEx.go (X:=XX) qc (fun n=>qa [] [(3,[2,3,5,10,11,12])] n) (fun _=>none) hO 60 ?_
 intro M R L N m0 m1 m2 m3 m4 m5
 cases M
 cbv
 repeat' first | refine m1 _ _ ?_ ?_ | refine m2 _ _ fun h=>?_ | refine m3 _ ?_ | (refine m4 _ _ (Hd.out ?_);generalize hks:(List.cons _ _:List K)=ks) | (refine m5 _ _ ?_;cbv)
 all_goals (clear m1 m2 m3 m4 m5;cases m0;try dsimp only)
 all_goals try simp only [sm] at *
 refine ⟨SEx.same (SEx.idx m (fun i=>⟨47,[(2,bP 8192),(3,bP 12288),(5,bR 20480 (kv q i).length),(10,bL (.node false none ns)),(11,bI m),(12,bI i)],[(8192,.obx [.fz (.sl (.node false none ns)),.fz (.sl (.tie ts)),.fz (.int .i64 hr)]),(12288,.obx [.fz (.int .i64 now),.fz (.sl (.i times)),.fz (.sl (.i vals))]),(20480,.osl (.i (kv q i)))]⟩) (fun _=>rUs (kv q m)) ?_) (by rw [hm];rfl) rfl⟩
 intro i hi ih
 rw [<-hks]
 obtain ⟨u,hu⟩:∃ u,u=kv q i:=⟨_,rfl⟩
 have hul:u.length<=i:=by rw [hu];exact QU _ _
 rw [<-hu]
 obtain ⟨n,hnn⟩:∃ n,n=u.length:=⟨_,rfl⟩
 rw [<-hnn] at hul ⊢
 have hyes:0<i->f2 ts (i:Int)<0->times.getD i 0=-1->f1 (ns.getD i qi.z).label vals=1->q i=true:=fun a b c d=>by rw [hqd,decide_eq_true a,decide_eq_true b,decide_eq_true c,decide_eq_true d];rfl
 have hno:(¬0<i\/¬f2 ts (i:Int)<0\/¬times.getD i 0=-1\/¬f1 (ns.getD i qi.z).label vals=1)->q i=false:=fun h=>by
  rw [hqd]
  rcases h with h | h | h | h<;>rw [decide_eq_false h]<;>simp
 clear hqd
 refine SEx.go (X:=XX) qc (fun n=>qa [] [(3,[2,3,5,10,11,12])] n) (fun _=>none) hO 60 ?_
 intro M R L N m0 m1 m2 m3 m4 m5
 cases M
 cbv
 repeat' first | refine m1 _ _ ?_ ?_ | refine m2 _ _ fun h=>?_ | refine m3 _ ?_ | (refine m4 _ _ (Hd.out ?_);try first | rw [hks] | rw [hk2] | rw [hk3]) | (refine m5 _ _ ?_;cbv)
 all_goals (clear m1 m2 m3 m4 m5;cases m0;(try clear hks;try clear hk2;try clear hk3);try dsimp only)
 all_goals try simp only [sm] at *
 all_goals try simp only [List.length_append,List.length_cons,List.length_nil,List.length_set] at *
 all_goals (try omega)
 all_goals (try (have:=qZ;omega))
 all_goals (try simp only [qg (show i<9223372036854775807 by omega)])
 all_goals first
  | exact ⟨htl⟩
  | exact ⟨hv⟩
  | exact ⟨hlb _ (qo (z:=qi.z) (by omega)).out⟩
  | (have ih':=ih (by omega)
     rw [w6 (hyes (by omega) (by assumption) (by assumption) (by assumption)),<-hu,List.length_append] at ih'
     exact ⟨ih'.same rfl rfl⟩)
  | (have ih':=ih (by omega)
     rw [vz (hno (by first | (left;omega) | (right;left;assumption) | (right;left;omega) | (right;right;left;assumption) | (right;right;right;assumption))),<-hu,<-hnn] at ih'
     exact ⟨ih'.same rfl rfl⟩)
  | (obtain rfl:i=m:=by omega
     rw [hu];rfl)
  | skip
end Go.Proofs.YtfafehnchmelnaaGreat.Ai
namespace Go.Proofs.YtfafehnchmelnaaGreat.Ai
open Go
set_option maxRecDepth 100000
variable [qf]
theorem qql {l:List Int}(h:l≠[]):rEn l=rUs l:=by cases l with | nil=>exact absurd rfl h | cons a l=>rfl
structure EnT (t:qm)(x:qh):Prop where
 le:kM t x
 v:StV t x
 tl:x.times.length=t.nodes.length
structure qrY (t:qm)(x:qh):Prop where
 e:EnT t x
 ne:enL t x≠[]
structure qrW (t:qm)(x:qh):Prop where
 e:EnT t x
 no:enL t x=[]
def qrM (f:qm->qh->List Int):Wr:=w2 qL qP (fun t x=>rUs (f t x)) (fun t x=>[qrY t x])
theorem qoy:qA Tryz.prog 144 (qrM enL):=qG fun t x h=>by
 have h:=h _ (.head _)
 rw [<-qql h.ne]
 exact YF t x h.e.le h.e.v h.e.tl
def qrm:Wr:=w2 qL qP (fun t x=>rE) (fun t x=>[qrW t x])
theorem qoS:qA Tryz.prog 144 qrm:=qG fun t x h=>by
 have h:=h _ (.head _)
 have:=YF t x h.e.le h.e.v h.e.tl
 rw [h.no] at this
 exact this
def qry (f:qm->qh->List Int):Wr:=w2 qL qP (fun t x=>rUs (f t x)) (fun t x=>[EnT t x])
theorem qoO:qA Tryz.prog 97 (qry enL):=qG fun t x h=>by
 have h:=h _ (.head _)
 exact Yc t x h.le h.v h.tl
end Go.Proofs.YtfafehnchmelnaaGreat.Ai
namespace Go.Proofs.YtfafehnchmelnaaGreat.Ai
open Go
set_option maxRecDepth 100000
variable [qf]
def btS (s:Int)(i:Nat):Bool:=decide (IntKind.i64.wrap (((BitVec.ofInt IntKind.i64.bits (s.fdiv (2 ^ min i IntKind.i64.bits)) &&& BitVec.ofInt IntKind.i64.bits 1).toNat:Nat):Int)=1)
def ZH (l:List Int)(s:Int)(i:Nat):List Int:=((List.range i).filter (btS s)).map fun j=>l.getD j 0
def QP (l:List Int)(s:Int):List Int:=ZH l s l.length
theorem qc8 {l:List Int}{s:Int}{i:Nat}(h:btS s i=true):ZH l s (i+1)=ZH l s i++[l.getD i 0]:=by
 simp only [ZH,List.range_succ,List.filter_append,List.map_append,List.filter_cons,List.filter_nil,h,if_true,List.map_cons,List.map_nil]
theorem qiL {l:List Int}{s:Int}{i:Nat}(h:btS s i=false):ZH l s (i+1)=ZH l s i:=by
 simp only [ZH,List.range_succ,List.filter_append,List.map_append,List.filter_cons,List.filter_nil,h,Bool.false_eq_true,if_false,List.map_nil,List.append_nil]
theorem wK (l:List Int)(s:Int)(i:Nat):(ZH l s i).length<=i:=by
 simp only [ZH,List.length_map]
 exact Nat.le_trans (List.length_filter_le _ _) (by simp)
theorem KD (l:List Int)(s:Int)(h1:l.length<=1048576):qe Tryz.prog 131 [aIs l,aI s] (rUs (QP l s)):=by
 refine qe.of qc (fn:=Tryz.f131) (c:=Tryz.f131.body.getD .skip) (dr:=fun n=>qa 0 [] n) Tryz.func131 rfl (by kernel_rfl) (by kernel_rfl) (by kernel_rfl) ?_
 refine SEx.go (X:=XX) qc (fun n=>qa [] [(3,[1,5,8,9,10])] n) (fun _=>none) qd 60 ?_
 intro M R L N m0 m1 m2 m3 m4 m5
 cases M
 cbv
 repeat' first | refine m1 _ _ ?_ ?_ | refine m2 _ _ fun h=>?_ | refine m3 _ ?_ | (refine m4 _ _ (Hd.out ?_);generalize hks:(List.cons _ _:List K)=ks) | (refine m5 _ _ ?_;cbv)
 all_goals (clear m1 m2 m3 m4 m5;cases m0;try dsimp only)
 all_goals try simp only [sm] at *
 obtain ⟨m,hm⟩:∃ m,m=l.length:=⟨_,rfl⟩
 refine ⟨SEx.same (SEx.idx m (fun i=>⟨26,[(1,bI s),(5,bR 20480 (ZH l s i).length),(8,bL (.i l)),(9,bI m),(10,bI i)],[(20480,.osl (.i (ZH l s i)))]⟩) (fun _=>rUs (ZH l s m)) ?_) (by rw [hm];rfl) (by rw [hm];rfl)⟩
 intro i hi ih
 rw [<-hks]
 obtain ⟨u,hu⟩:∃ u,u=ZH l s i:=⟨_,rfl⟩
 have hul:u.length<=i:=by rw [hu];exact wK _ _ _
 rw [<-hu]
 obtain ⟨n,hn⟩:∃ n,n=u.length:=⟨_,rfl⟩
 rw [<-hn] at hul ⊢
 refine SEx.go (X:=XX) qc (fun n=>qa [] [(3,[1,5,8,9,10])] n) (fun _=>none) qd 60 ?_
 intro M R L N m0 m1 m2 m3 m4 m5
 cases M
 cbv
 repeat' first | refine m1 _ _ ?_ ?_ | refine m2 _ _ fun h=>?_ | refine m3 _ ?_ | (refine m4 _ _ (Hd.out ?_);try first | rw [hks] | rw [hk2] | rw [hk3]) | (refine m5 _ _ ?_;cbv)
 all_goals (clear m1 m2 m3 m4 m5;cases m0;(try clear hks;try clear hk2;try clear hk3);try dsimp only)
 all_goals try simp only [sm] at *
 all_goals try simp only [List.length_append,List.length_cons,List.length_nil,List.length_set] at *
 all_goals (try omega)
 all_goals (try (have:=qZ;omega))
 all_goals (try simp only [qg (show i<9223372036854775807 by omega)])
 all_goals first
  | (have ih':=ih (by omega)
     rw [qc8 (show btS s i=true by unfold btS;exact decide_eq_true (by assumption)),<-hu,List.length_append] at ih'
     exact ⟨ih'.same rfl rfl⟩)
  | (have ih':=ih (by omega)
     rw [qiL (show btS s i=false by unfold btS;exact decide_eq_false (by assumption)),<-hu,<-hn] at ih'
     exact ⟨ih'.same rfl rfl⟩)
  | (obtain rfl:i=m:=by omega
     rw [hu];rfl)
  | skip
theorem qeW (l:List Int)(s:Int)(h1:l.length<=1048576):qe Tryz.prog 59 [aIs l,aI s] (rUs (QP l s)):=by
 refine qe.of qc (fn:=Tryz.f59) (c:=Tryz.f59.body.getD .skip) (dr:=fun n=>qa 0 [] n) Tryz.func59 rfl (by kernel_rfl) (by kernel_rfl) (by kernel_rfl) ?_
 refine SEx.go (X:=XX) qc (fun n=>qa [] [(3,[1,5,9,10,11])] n) (fun _=>none) qd 60 ?_
 intro M R L N m0 m1 m2 m3 m4 m5
 cases M
 cbv
 repeat' first | refine m1 _ _ ?_ ?_ | refine m2 _ _ fun h=>?_ | refine m3 _ ?_ | (refine m4 _ _ (Hd.out ?_);generalize hks:(List.cons _ _:List K)=ks) | (refine m5 _ _ ?_;cbv)
 all_goals (clear m1 m2 m3 m4 m5;cases m0;try dsimp only)
 all_goals try simp only [sm] at *
 obtain ⟨m,hm⟩:∃ m,m=l.length:=⟨_,rfl⟩
 refine ⟨SEx.same (SEx.idx m (fun i=>⟨28,[(1,bI s),(5,bR 20480 (ZH l s i).length),(9,bL (.i l)),(10,bI m),(11,bI i)],[(20480,.osl (.i (ZH l s i)))]⟩) (fun _=>rUs (ZH l s m)) ?_) (by rw [hm];rfl) (by rw [hm];rfl)⟩
 intro i hi ih
 rw [<-hks]
 obtain ⟨u,hu⟩:∃ u,u=ZH l s i:=⟨_,rfl⟩
 have hul:u.length<=i:=by rw [hu];exact wK _ _ _
 rw [<-hu]
 obtain ⟨n,hn⟩:∃ n,n=u.length:=⟨_,rfl⟩
 rw [<-hn] at hul ⊢
 have hwu:IntKind.u64.wrap (i:Int)=(i:Int):=Zt (by omega)
 refine SEx.go (X:=XX) qc (fun n=>qa [] [(3,[1,5,9,10,11])] n) (fun _=>none) qd 60 ?_
 intro M R L N m0 m1 m2 m3 m4 m5
 cases M
 cbv
 repeat' first | refine m1 _ _ ?_ ?_ | refine m2 _ _ fun h=>?_ | refine m3 _ ?_ | (refine m4 _ _ (Hd.out ?_);try first | rw [hks] | rw [hk2] | rw [hk3]) | (refine m5 _ _ ?_;cbv)
 all_goals (clear m1 m2 m3 m4 m5;cases m0;(try clear hks;try clear hk2;try clear hk3);try dsimp only)
 all_goals try simp only [sm] at *
 all_goals (try simp only [hwu,Int.toNat_natCast] at *)
 all_goals try simp only [List.length_append,List.length_cons,List.length_nil,List.length_set] at *
 all_goals (try omega)
 all_goals (try (have:=qZ;omega))
 all_goals (try simp only [qg (show i<9223372036854775807 by omega)])
 all_goals first
  | (have ih':=ih (by omega)
     rw [qc8 (show btS s i=true by unfold btS;exact decide_eq_true (by assumption)),<-hu,List.length_append] at ih'
     exact ⟨ih'.same rfl rfl⟩)
  | (have ih':=ih (by omega)
     rw [qiL (show btS s i=false by unfold btS;exact decide_eq_false (by assumption)),<-hu,<-hn] at ih'
     exact ⟨ih'.same rfl rfl⟩)
  | (obtain rfl:i=m:=by omega
     rw [hu];rfl)
  | skip
def qkp (f:List Int->Int->List Int):Wr:=w2 kx dcI (fun l s=>rUs (f l s)) (fun l _=>[LLe l 1048576])
theorem qfd:qA Tryz.prog 131 (qkp QP):=qG fun l s h=>KD l s (h _ (.head _)).out
theorem qeY:qA Tryz.prog 59 (qkp QP):=qG fun l s h=>qeW l s (h _ (.head _)).out
theorem qdk {m:Nat}(h:m<=7):IntKind.i64.wrap (1 * 2 ^ min m IntKind.i64.bits)=((2 ^ m:Nat):Int):=by
 have:m=0\/m=1\/m=2\/m=3\/m=4\/m=5\/m=6\/m=7:=by omega
 rcases this with rfl | rfl | rfl | rfl | rfl | rfl | rfl | rfl<;>decide
theorem Ww {m:Nat}(h:m<=7):1<=2 ^ m/\2 ^ m<=128:=by
 have:m=0\/m=1\/m=2\/m=3\/m=4\/m=5\/m=6\/m=7:=by omega
 rcases this with rfl | rfl | rfl | rfl | rfl | rfl | rfl | rfl<;>decide
def wu (l:List Int)(N k:Nat):List (List Int):=(List.range k).map fun j=>QP l ((N:Int)-1-(j:Nat))
theorem qar (l:List Int)(N k:Nat):wu l N (k+1)=wu l N k++[QP l ((N:Int)-1-k)]:=by simp [wu,List.range_succ]
theorem YU (l:List Int)(N k:Nat):(wu l N k).length=k:=by simp [wu]
def qlv (l:List Int):List (List Int):=wu l (2 ^ l.length) (2 ^ l.length)
theorem vg {t:qm}{x:qh}(h:StV t x):(enL t x).length<=7:=by
 have h1:=(qF h.sh).2
 have h2:(enL t x).length<=t.nodes.length:=Nat.le_trans (List.length_filter_le _ _) (QU _ _)
 omega
theorem qca (t:qm)(x:qh)(h:EnT t x):qe Tryz.prog 133 [qM t,qQ x] (Kq (qlv (enL t x))):=by
 refine qe.of qc (fn:=Tryz.f133) (c:=Tryz.f133.body.getD .skip) (dr:=fun n=>qa 0 [] n) Tryz.func133 rfl (by kernel_rfl) (by kernel_rfl) (by kernel_rfl) ?_
 obtain ⟨f1,hf1⟩:∃ f,f=enL:=⟨_,rfl⟩
 obtain ⟨f2,hf2⟩:∃ f,f=QP:=⟨_,rfl⟩
 obtain ⟨l,hl⟩:∃ l,l=f1 t x:=⟨_,rfl⟩
 have hl7:l.length<=7:=by rw [hl,hf1];exact vg h.v
 obtain ⟨NN,hN⟩:∃ NN,NN=2 ^ l.length:=⟨_,rfl⟩
 have hNb:=Ww hl7
 have hs:=qdk hl7
 rw [<-hN] at hNb hs
 have hs1:IntKind.i64.wrap ((NN:Int)-1)=(NN:Int)-1:=qx (by omega) (by omega)
 rw [show qlv (enL t x)=wu l NN NN by rw [hN,hl,hf1];rfl]
 by_cases hne:enL t x=[]
 . have hO:qp Tryz.prog (qK [(144,qrm),(131,qkp f2)]):=by
    subst hf2
    exact qb qoS (qb qfd qd)
   have hl0:l=[]:=by rw [hl,hf1];exact hne
   have hN1:NN=1:=by rw [hN,hl0];rfl
   have h0:qrW t x:=⟨h,hne⟩
   clear hN hl hs hs1
   subst hl0 hN1
   obtain ⟨ns,ts,hr⟩:=t
   obtain ⟨now,times,vals⟩:=x
   refine SEx.go (X:=XX) qc (fun n=>qa [] [(4,[5,6,7])] n) (fun _=>none) hO 60 ?_
   intro M R L N m0 m1 m2 m3 m4 m5
   cases M
   cbv
   repeat' first | refine m1 _ _ ?_ ?_ | refine m2 _ _ fun h=>?_ | refine m3 _ ?_ | (refine m4 _ _ (Hd.out ?_);generalize hks:(List.cons _ _:List K)=ks) | (refine m5 _ _ ?_;cbv)
   all_goals (clear m1 m2 m3 m4 m5;cases m0;try dsimp only)
   all_goals try simp only [sm] at *
   all_goals first
    | exact h0
    | omega
    | skip
   refine ⟨SEx.same (SEx.idx 1 (fun k=>⟨26,[(5,bL (.i [])),(6,bR 24576 k),(7,bI ((1:Nat)-1-(k:Nat)))],[(24576,.osl (.ii true none (wu [] 1 k)))]⟩) (fun _=>Kq (wu [] 1 1)) ?_) rfl rfl⟩
   intro k hk ih
   rw [<-hks]
   obtain ⟨o,ho⟩:∃ o,o=wu [] 1 k:=⟨_,rfl⟩
   have hol:o.length=k:=by rw [ho,YU]
   obtain ⟨q,hq⟩:∃ q:Int,q=((1:Nat):Int)-1-(k:Nat):=⟨_,rfl⟩
   rw [<-ho,<-hq]
   refine SEx.go (X:=XX) qc (fun n=>qa [] [(4,[5,6,7])] n) (fun _=>none) hO 60 ?_
   intro M R L N m0 m1 m2 m3 m4 m5
   cases M
   cbv
   repeat' first | refine m1 _ _ ?_ ?_ | refine m2 _ _ fun h=>?_ | refine m3 _ ?_ | (refine m4 _ _ (Hd.out ?_);try first | rw [hks] | rw [hk2] | rw [hk3]) | (refine m5 _ _ ?_;cbv)
   all_goals (clear m1 m2 m3 m4 m5;cases m0;(try clear hks;try clear hk2;try clear hk3);try dsimp only)
   all_goals try simp only [sm] at *
   all_goals (try rw [qx (n:=q-1) (by omega) (by omega)])
   all_goals first
    | omega
    | rfl
    | exact ⟨by decide⟩
    | (have:=qZ;simp only [List.length_cons,List.length_nil];omega)
    | (have ih':=ih (by omega)
       rw [qar,<-ho,<-hq,show ((1:Nat):Int)-1-((k+1:Nat):Int)=q-1 by omega] at ih'
       simp only [List.length_append,List.length_cons,List.length_nil,hol,hf2]
       exact ⟨ih'.same rfl rfl⟩)
    | (have e:k=1:=by omega
       subst e
       rw [ho];rfl)
    | skip
 . have hO:qp Tryz.prog (qK [(144,qrM f1),(131,qkp f2)]):=by
    subst hf1 hf2
    exact qb qoy (qb qfd qd)
   have h0:qrY t x:=⟨h,hne⟩
   clear hN
   obtain ⟨ns,ts,hr⟩:=t
   obtain ⟨now,times,vals⟩:=x
   refine SEx.go (X:=XX) qc (fun n=>qa [] [(4,[5,6,7])] n) (fun _=>none) hO 60 ?_
   intro M R L N m0 m1 m2 m3 m4 m5
   cases M
   cbv
   repeat' first | refine m1 _ _ ?_ ?_ | refine m2 _ _ fun h=>?_ | refine m3 _ ?_ | (refine m4 _ _ (Hd.out ?_);generalize hks:(List.cons _ _:List K)=ks) | (refine m5 _ _ ?_;cbv)
   all_goals (clear m1 m2 m3 m4 m5;cases m0;try dsimp only)
   all_goals try simp only [sm] at *
   all_goals first
    | exact h0
    | omega
    | skip
   rw [<-hl,hs,hs1]
   obtain ⟨n,hn⟩:∃ n,n=l.length:=⟨_,rfl⟩
   refine ⟨SEx.same (SEx.idx NN (fun k=>⟨26,[(5,bR 20480 n),(6,bR 24576 k),(7,bI ((NN:Int)-1-(k:Nat)))],[(20480,.osl (.i l)),(24576,.osl (.ii true none (wu l NN k)))]⟩) (fun _=>Kq (wu l NN NN)) ?_) (by rw [hn,show (NN:Int)-1-((0:Nat):Int)=(NN:Int)-1 by omega];rfl) rfl⟩
   intro k hk ih
   rw [<-hks]
   obtain ⟨o,ho⟩:∃ o,o=wu l NN k:=⟨_,rfl⟩
   have hol:o.length=k:=by rw [ho,YU]
   obtain ⟨q,hq⟩:∃ q:Int,q=(NN:Int)-1-(k:Nat):=⟨_,rfl⟩
   rw [<-ho,<-hq]
   refine SEx.go (X:=XX) qc (fun n=>qa [] [(4,[5,6,7])] n) (fun _=>none) hO 60 ?_
   intro M R L N m0 m1 m2 m3 m4 m5
   cases M
   cbv
   repeat' first | refine m1 _ _ ?_ ?_ | refine m2 _ _ fun h=>?_ | refine m3 _ ?_ | (refine m4 _ _ (Hd.out ?_);try first | rw [hks] | rw [hk2] | rw [hk3]) | (refine m5 _ _ ?_;cbv)
   all_goals (clear m1 m2 m3 m4 m5;cases m0;(try clear hks;try clear hk2;try clear hk3);try dsimp only)
   all_goals try simp only [sm] at *
   all_goals (try rw [qx (n:=q-1) (by omega) (by omega)])
   all_goals first
    | omega
    | rfl
    | exact ⟨by omega⟩
    | (have:=qZ;simp only [List.length_cons,List.length_nil];omega)
    | (have ih':=ih (by omega)
       rw [qar,<-ho,<-hq,show (NN:Int)-1-((k+1:Nat):Int)=q-1 by omega] at ih'
       simp only [List.length_append,List.length_cons,List.length_nil,hol,hf2]
       exact ⟨ih'.same rfl rfl⟩)
    | (have e:k=NN:=by omega
       subst e
       rw [ho];rfl)
    | skip
end Go.Proofs.YtfafehnchmelnaaGreat.Ai
namespace Go.Proofs.YtfafehnchmelnaaGreat.Ai
open Go
set_option maxRecDepth 100000
variable [qf]
def qpX (f:qm->qh->List (List Int)):Wr:=w2 qL qP (fun t x=>Kq (f t x)) (fun t x=>[EnT t x])
def Vp (t:qm)(x:qh):List (List Int):=qlv (enL t x)
theorem qmp:qA Tryz.prog 133 (qpX Vp):=qG fun t x h=>qca t x (h _ (.head _))
end Go.Proofs.YtfafehnchmelnaaGreat.Ai
