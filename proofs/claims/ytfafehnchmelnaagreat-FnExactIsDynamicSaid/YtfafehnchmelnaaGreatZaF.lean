/- The law's proof, part 6 of 11: what of its author's texts it needs; no condition. -/
import Derived.Test.YtfafehnchmelnaaGreatZaE
set_option linter.unusedSectionVars false
set_option linter.unusedSimpArgs false
set_option linter.unusedVariables false
namespace Go.Proofs.YtfafehnchmelnaaGreat.Ai
open Go
set_option maxRecDepth 100000
variable [qf]
theorem qdC {P:Program}{g:FuncId}{args:List (V1 A)}{tb tb':List (Nat×O)}{ph ph':List A}{p:qj}{off:Nat}(h:WN P g args tb ph (.v (false,[.rf p off 0])) tb' ph'):WN P g args tb ph (.v (false,[.fz (.sl [])])) tb' ph':=by
 refine ⟨h.1,fun J w σ vals hfut hold hsz ha hin=>(h.2 J w σ vals hfut hold hsz ha hin).mono ?_⟩
 rintro e w' ⟨v,σ',he,ho⟩
 letI:=J
 refine ⟨v,σ',he,ho.goes,ho.back,?_⟩
 have hr:ql w' σ' (.rf p off 0) v:=ho.res
 show ql w' σ' (.fz (.sl [])) v
 cases hr with
 | rz _ _ b=>exact .fz _ _ (.sl [] 0 b 0 (fun _ _=>undef) (Nat.le_refl _) (by simp) (by simp) (by simp) (by simp))
 | rf _ _ _ g n cap sz hg hl hn=>exact .fz _ _ (.sl [] 0 _ _ (fun _ _=>undef) (Nat.zero_le _) (by simp) (by simp) (by simp) (by simp))
theorem qba (l:List Int)(g:FuncId)(a b:List D)(p:Int->Bool)(hp:∀ q∈l,qe Tryz.prog g [aI q,(false,[.ptr a]),(false,[.ptr b])] (rB (p q)))(h1:l.length<=maxLen)(h0:zZ p l=[]) :
 Qg Tryz.prog 160 [wR l.length,(false,[.clo g [.fz (.ptr a),.fz (.ptr b)]])] [(lrt 0,.osl (.i l))] [.rf (lrt 0,[]) true 0 l.length]
  (.v (false,[.fz (.sl (.i []))])) [(lrt 0,.osl (.i (yo p l)))] [.rf (lrt 0,[]) true 0 l.length]:=by
 have:=WA l g a b p hp h1
 rw [h0] at this
 exact qdC this
def qiY (g:Nat)(a b:List D)(l0:List Int)(d:List Int->List Int):WrW
 | [(false,[.rf p true 0 n]),(false,[.clo g' [.fz (.ptr a'),.fz (.ptr b')]])],[(.sl m,.osl (.i l))]=>some ([qrr p n m l l0 g' g a' a b' b],(.v (false,[.fz (.sl (.i []))]),[(lrt 0,.osl (.i (d l)))],[.rf (lrt 0,[]) true 0 n]))
 | _,_=>none
theorem qmK {g:Nat}{a b:List D}{l0:List Int}{p:Int->Bool}(hp:∀ q∈l0,qe Tryz.prog g [aI q,(false,[.ptr a]),(false,[.ptr b])] (rB (p q)))(h1:l0.length<=maxLen)(h0:zZ p l0=[]) :
 qip Tryz.prog 160 (qiY g a b l0 (yo p)):=by
 intro xs ls
 unfold qiY
 split
 . refine R.Sim.mk fun hq=>?_
   obtain ⟨rfl,rfl,rfl,rfl,rfl,rfl,rfl⟩:=(hq _ (.head _)).out
   exact qba _ _ _ _ p hp h1 h0
 . exact R.Sim.none'
def rE:TV W:=.v (false,[.fz (.sl (.i []))])
def rEn:List Int->TV W
 | []=>rE
 | a::l=>rUs (a::l)
theorem yU (t:qm)(x:qh)(hs:kO t x)(h:StV t x)(hl:x.times.length=t.nodes.length):qe Tryz.prog 144 [qN t,qQ x] (rEn (enL t x)):=by
 refine qe.of qc (fn:=Tryz.f144) (c:=Tryz.f144.body.getD .skip) (dr:=fun n=>qa 0 [] n) Tryz.func144 rfl (by kernel_rfl) (by kernel_rfl) (by kernel_rfl) ?_
 have hn:=qF h.sh
 have htl:=hs.sh.tlen
 obtain ⟨f0,hf0⟩:∃ f,f=chL:=⟨_,rfl⟩
 have hO:qp Tryz.prog (qL [(161,qif f0)]):=by subst hf0;exact qb qgF qd
 obtain ⟨l0,hl0⟩:∃ l,l=f0 t:=⟨_,rfl⟩
 have hmem:∀ q∈l0,0<=q/\q<t.nodes.length:=fun q hq=>by
  rw [hl0,hf0] at hq
  have:=wB hq
  exact ⟨this.1,this.2.1⟩
 have hl7:l0.length<=maxLen:=by
  have:l0.length<=t.nodes.length:=by rw [hl0,hf0];exact QQ _ _
  unfold maxLen
  omega
 have he:enL t x=zZ (fun i=>!enP t x i) l0:=by rw [qkv,hl0,hf0];rfl
 have hc:=fun q hq=>qcW q t x hs h hl (hmem q hq)
 obtain ⟨p,hp⟩:∃ p,p=fun i=>!enP t x i:=⟨_,rfl⟩
 rw [<-hp] at he
 have hc:∀ q∈l0,qe Tryz.prog 162 [aI q,(false,[.ptr x.d]),(false,[.ptr t.d])] (rB (p q)):=fun q hq=>by rw [hp];exact hc q hq
 rw [he]
 clear he hp hmem
 have hDl:=qnc p l0
 have hDt:=qjL p l0
 obtain ⟨ns,ts,hr⟩:=t
 obtain ⟨now,times,vals⟩:=x
 obtain ⟨d,hd⟩:∃ d,d=yo p:=⟨_,rfl⟩
 cases hkp:zZ p l0 with
 | nil =>
   have hW:zy Tryz.prog ((XX.withF [2,3,4]).withW [(160,[(0,0)])] (Qj [(160,qiY 162 [.int .i64 now,.sl (.i times),.sl (.i vals)] [.sl (.node false none ns),.sl (.tie ts),.int .i64 hr] l0 d)])):=by
    subst hd
    exact SX.withW_ok (Z0 (qmK hc hl7 hkp) Jw)
   rw [<-hd] at hDl
   refine SEx.go (X:=((XX.withF [2,3,4]).withW [(160,[(0,0)])] (Qj [(160,qiY 162 [.int .i64 now,.sl (.i times),.sl (.i vals)] [.sl (.node false none ns),.sl (.tie ts),.int .i64 hr] l0 d)]))) qc (fun n=>qa [] [] n) (fun _=>none) hO 60 ?_ hW
   intro M R L N m0 m1 m2 m3 m4 m5
   cases M
   cbv
   repeat' first | refine m1 _ _ ?_ ?_ | refine m2 _ _ fun h=>?_ | refine m3 _ ?_ | (refine m4 _ _ (Hd.out ?_);try first | rw [hks] | rw [hk2] | rw [hk3]) | (refine m5 _ _ ?_;cbv)
   all_goals (clear m1 m2 m3 m4 m5;cases m0;(try clear hks;try clear hk2;try clear hk3);try dsimp only)
   all_goals try simp only [sm] at *
   all_goals (clear hW hO)
   all_goals first
    | exact ⟨htl,hn⟩
    | rfl
    | exact ⟨⟨rfl,rfl,rfl,hl0.symm,rfl,rfl,rfl⟩⟩
    | (rw [<-hl0];exact hDl.symm)
    | skip
 | cons k0 kr =>
   rw [hkp] at hDt
   obtain ⟨k,hk⟩:∃ k,k=zZ p:=⟨_,rfl⟩
   rw [<-hk] at hkp
   obtain ⟨ln,hln⟩:∃ f:List Int->Nat,f=List.length:=⟨_,rfl⟩
   have hlk:ln (k l0)=(k0::kr).length:=by rw [hln,hkp]
   have hkl:(k0::kr).length<=l0.length:=by rw [<-hkp,hk];exact List.length_filter_le _ _
   have hW:zy Tryz.prog ((XX.withF [2,3,4]).withW [(160,[(0,0)])] (Qj [(160,qnS 162 [.int .i64 now,.sl (.i times),.sl (.i vals)] [.sl (.node false none ns),.sl (.tie ts),.int .i64 hr] l0 k d ln)])):=by
    subst hk hd hln
    exact SX.withW_ok (Z0 (qo2 hc hl7) Jw)
   rw [<-hd] at hDt hDl
   clear hk hln
   refine SEx.go (X:=((XX.withF [2,3,4]).withW [(160,[(0,0)])] (Qj [(160,qnS 162 [.int .i64 now,.sl (.i times),.sl (.i vals)] [.sl (.node false none ns),.sl (.tie ts),.int .i64 hr] l0 k d ln)]))) qc (fun n=>qa [] [] n) (fun _=>none) hO 60 ?_ hW
   intro M R L N m0 m1 m2 m3 m4 m5
   cases M
   cbv
   repeat' first | refine m1 _ _ ?_ ?_ | refine m2 _ _ fun h=>?_ | refine m3 _ ?_ | (refine m4 _ _ (Hd.out ?_);try first | rw [hks] | rw [hk2] | rw [hk3]) | (refine m5 _ _ ?_;cbv)
   all_goals (clear m1 m2 m3 m4 m5;cases m0;(try clear hks;try clear hk2;try clear hk3);try dsimp only)
   all_goals try simp only [sm] at *
   all_goals (clear hW hO)
   all_goals (try simp only [<-hl0,hlk,hDl,Nat.zero_add])
   all_goals first
    | exact ⟨htl,hn⟩
    | exact ⟨⟨rfl,rfl,rfl,rfl,rfl,rfl,rfl⟩⟩
    | exact hkl
    | (simp;done)
    | (rw [hDt];done)
    | (rw [hDt];rfl)
    | skip
theorem Yy (t:qm)(x:qh)(hs:kO t x)(h:StV t x)(hl:x.times.length=t.nodes.length):qe Tryz.prog 97 [qN t,qQ x] (rUs (enL t x)):=by
 refine qe.of qc (fn:=Tryz.f97) (c:=Tryz.f97.body.getD .skip) (dr:=fun n=>qa 0 [] n) Tryz.func97 rfl (by kernel_rfl) (by kernel_rfl) (by kernel_rfl) ?_
 have hn:=qF h.sh
 have htl:=hs.sh.tlen
 obtain ⟨f1,hf1⟩:∃ f,f=qja:=⟨_,rfl⟩
 obtain ⟨f2,hf2⟩:∃ f,f=Ku:=⟨_,rfl⟩
 have hO:qp Tryz.prog (qL [(94,Qy f1),(92,qfm f2)]):=by
  subst hf1 hf2
  exact qb jC (qb qa7 qd)
 have hv:=h.vals
 have hlb:∀ n∈t.nodes,qY n.label=true:=fun n hn=>kG h.sh hn
 have he:enL t x=ku (fun j=>chQ t.ties j&&enP t x j) t.nodes.length:=by unfold enL chL;rw [qe4]
 rw [he]
 obtain ⟨ns,ts,hr⟩:=t
 obtain ⟨now,times,vals⟩:=x
 dsimp only at hl hn htl hv hlb ⊢
 obtain ⟨q,hq⟩:∃ q,q=fun j:Nat=>chQ ts j&&enP ⟨ns,ts,hr⟩ ⟨now,times,vals⟩ j:=⟨_,rfl⟩
 have hqd:∀ j:Nat,q j=(decide (0<j)&&decide (f2 ts (j:Int)<0)&&(decide (times.getD j 0=-1)&&decide (f1 (ns.getD j qi.z).label vals=1))):=fun j=>by rw [hq,hf1,hf2];rfl
 rw [show ku (fun j:Nat=>chQ ts j&&enP ⟨ns,ts,hr⟩ ⟨now,times,vals⟩ j) ns.length=ku q ns.length by rw [hq]]
 clear hq he hs h
 obtain ⟨m,hm⟩:∃ m,m=ns.length:=⟨_,rfl⟩
 rw [<-hm] at hl hn ⊢
 refine SEx.go (X:=XX) qc (fun n=>qa [] [(3,[2,3,5,10,11,12])] n) (fun _=>none) hO 60 ?_
 intro M R L N m0 m1 m2 m3 m4 m5
 cases M
 cbv
 repeat' first | refine m1 _ _ ?_ ?_ | refine m2 _ _ fun h=>?_ | refine m3 _ ?_ | (refine m4 _ _ (Hd.out ?_);generalize hks:(List.cons _ _:List K)=ks) | (refine m5 _ _ ?_;cbv)
 all_goals (clear m1 m2 m3 m4 m5;cases m0;try dsimp only)
 all_goals try simp only [sm] at *
 refine ⟨SEx.same (SEx.idx m (fun i=>⟨47,[(2,bP 8192),(3,bP 12288),(5,bR 20480 (ku q i).length),(10,bL (.node false none ns)),(11,bI m),(12,bI i)],[(8192,.obx [.fz (.sl (.node false none ns)),.fz (.sl (.tie ts)),.fz (.int .i64 hr)]),(12288,.obx [.fz (.int .i64 now),.fz (.sl (.i times)),.fz (.sl (.i vals))]),(20480,.osl (.i (ku q i)))]⟩) (fun _=>rUs (ku q m)) ?_) (by rw [hm];rfl) rfl⟩
 intro i hi ih
 rw [<-hks]
 obtain ⟨u,hu⟩:∃ u,u=ku q i:=⟨_,rfl⟩
 have hul:u.length<=i:=by rw [hu];exact QQ _ _
 rw [<-hu]
 obtain ⟨n,hnn⟩:∃ n,n=u.length:=⟨_,rfl⟩
 rw [<-hnn] at hul ⊢
 have hyes:0<i->f2 ts (i:Int)<0->times.getD i 0=-1->f1 (ns.getD i qi.z).label vals=1->q i=true:=fun a b c d=>by rw [hqd,decide_eq_true a,decide_eq_true b,decide_eq_true c,decide_eq_true d];rfl
 have hno:(¬0<i\/¬f2 ts (i:Int)<0\/¬times.getD i 0=-1\/¬f1 (ns.getD i qi.z).label vals=1)->q i=false:=fun h=>by
  rw [hqd]
  rcases h with h | h | h | h<;>rw [decide_eq_false h]<;>simp
 clear hqd
 refine SEx.go (X:=XX) qc (fun n=>qa [] [(3,[2,3,5,10,11,12])] n) (fun _=>none) hO 60 ?_
 intro M R L N m0 m1 m2 m3 m4 m5
 cases M
 cbv
 repeat' first | refine m1 _ _ ?_ ?_ | refine m2 _ _ fun h=>?_ | refine m3 _ ?_ | (refine m4 _ _ (Hd.out ?_);try first | rw [hks] | rw [hk2] | rw [hk3]) | (refine m5 _ _ ?_;cbv)
 all_goals (clear m1 m2 m3 m4 m5;cases m0;(try clear hks;try clear hk2;try clear hk3);try dsimp only)
 all_goals try simp only [sm] at *
 all_goals try simp only [List.length_append,List.length_cons,List.length_nil,List.length_set] at *
 all_goals (try omega)
 all_goals (try (have:=zm;omega))
 all_goals (try simp only [qg (show i<9223372036854775807 by omega)])
 all_goals first
  | exact ⟨htl⟩
  | exact ⟨hv⟩
  | exact ⟨hlb _ (qo (z:=qi.z) (by omega)).out⟩
  | (have ih':=ih (by omega)
     rw [w7 (hyes (by omega) (by assumption) (by assumption) (by assumption)),<-hu,List.length_append] at ih'
     exact ⟨ih'.same rfl rfl⟩)
  | (have ih':=ih (by omega)
     rw [vf (hno (by first | (left;omega) | (right;left;assumption) | (right;left;omega) | (right;right;left;assumption) | (right;right;right;assumption))),<-hu,<-hnn] at ih'
     exact ⟨ih'.same rfl rfl⟩)
  | (obtain rfl:i=m:=by omega
     rw [hu];rfl)
  | skip
end Go.Proofs.YtfafehnchmelnaaGreat.Ai
namespace Go.Proofs.YtfafehnchmelnaaGreat.Ai
open Go
set_option maxRecDepth 100000
variable [qf]
theorem qqQ {l:List Int}(h:l≠[]):rEn l=rUs l:=by cases l with | nil=>exact absurd rfl h | cons a l=>rfl
structure EnT (t:qm)(x:qh):Prop where
 le:kO t x
 v:StV t x
 tl:x.times.length=t.nodes.length
structure qq0 (t:qm)(x:qh):Prop where
 e:EnT t x
 ne:enL t x≠[]
structure qqW (t:qm)(x:qh):Prop where
 e:EnT t x
 no:enL t x=[]
def qrD (f:qm->qh->List Int):Wr:=w2 qM qP (fun t x=>rUs (f t x)) (fun t x=>[qq0 t x])
theorem qn3:qA Tryz.prog 144 (qrD enL):=qG fun t x h=>by
 have h:=h _ (.head _)
 rw [<-qqQ h.ne]
 exact yU t x h.e.le h.e.v h.e.tl
def qqX:Wr:=w2 qM qP (fun t x=>rE) (fun t x=>[qqW t x])
theorem qn5:qA Tryz.prog 144 qqX:=qG fun t x h=>by
 have h:=h _ (.head _)
 have:=yU t x h.e.le h.e.v h.e.tl
 rw [h.no] at this
 exact this
def qq1 (f:qm->qh->List Int):Wr:=w2 qM qP (fun t x=>rUs (f t x)) (fun t x=>[EnT t x])
theorem qoT:qA Tryz.prog 97 (qq1 enL):=qG fun t x h=>by
 have h:=h _ (.head _)
 exact Yy t x h.le h.v h.tl
end Go.Proofs.YtfafehnchmelnaaGreat.Ai
namespace Go.Proofs.YtfafehnchmelnaaGreat.Ai
open Go
set_option maxRecDepth 100000
variable [qf]
def btS (s:Int)(i:Nat):Bool:=decide (IntKind.i64.wrap (((BitVec.ofInt IntKind.i64.bits (s.fdiv (2 ^ min i IntKind.i64.bits)) &&& BitVec.ofInt IntKind.i64.bits 1).toNat:Nat):Int)=1)
def ZC (l:List Int)(s:Int)(i:Nat):List Int:=((List.range i).filter (btS s)).map fun j=>l.getD j 0
def QS (l:List Int)(s:Int):List Int:=ZC l s l.length
theorem qd2 {l:List Int}{s:Int}{i:Nat}(h:btS s i=true):ZC l s (i+1)=ZC l s i++[l.getD i 0]:=by
 simp only [ZC,List.range_succ,List.filter_append,List.map_append,List.filter_cons,List.filter_nil,h,if_true,List.map_cons,List.map_nil]
theorem qi0 {l:List Int}{s:Int}{i:Nat}(h:btS s i=false):ZC l s (i+1)=ZC l s i:=by
 simp only [ZC,List.range_succ,List.filter_append,List.map_append,List.filter_cons,List.filter_nil,h,Bool.false_eq_true,if_false,List.map_nil,List.append_nil]
theorem w9 (l:List Int)(s:Int)(i:Nat):(ZC l s i).length<=i:=by
 simp only [ZC,List.length_map]
 exact Nat.le_trans (List.length_filter_le _ _) (by simp)
theorem Kr (l:List Int)(s:Int)(h1:l.length<=1048576):qe Tryz.prog 131 [aIs l,aI s] (rUs (QS l s)):=by
 refine qe.of qc (fn:=Tryz.f131) (c:=Tryz.f131.body.getD .skip) (dr:=fun n=>qa 0 [] n) Tryz.func131 rfl (by kernel_rfl) (by kernel_rfl) (by kernel_rfl) ?_
 refine SEx.go (X:=XX) qc (fun n=>qa [] [(3,[1,5,8,9,10])] n) (fun _=>none) qd 60 ?_
 intro M R L N m0 m1 m2 m3 m4 m5
 cases M
 cbv
 repeat' first | refine m1 _ _ ?_ ?_ | refine m2 _ _ fun h=>?_ | refine m3 _ ?_ | (refine m4 _ _ (Hd.out ?_);generalize hks:(List.cons _ _:List K)=ks) | (refine m5 _ _ ?_;cbv)
 all_goals (clear m1 m2 m3 m4 m5;cases m0;try dsimp only)
 all_goals try simp only [sm] at *
 obtain ⟨m,hm⟩:∃ m,m=l.length:=⟨_,rfl⟩
 refine ⟨SEx.same (SEx.idx m (fun i=>⟨26,[(1,bI s),(5,bR 20480 (ZC l s i).length),(8,bL (.i l)),(9,bI m),(10,bI i)],[(20480,.osl (.i (ZC l s i)))]⟩) (fun _=>rUs (ZC l s m)) ?_) (by rw [hm];rfl) (by rw [hm];rfl)⟩
 intro i hi ih
 rw [<-hks]
 obtain ⟨u,hu⟩:∃ u,u=ZC l s i:=⟨_,rfl⟩
 have hul:u.length<=i:=by rw [hu];exact w9 _ _ _
 rw [<-hu]
 obtain ⟨n,hn⟩:∃ n,n=u.length:=⟨_,rfl⟩
 rw [<-hn] at hul ⊢
 refine SEx.go (X:=XX) qc (fun n=>qa [] [(3,[1,5,8,9,10])] n) (fun _=>none) qd 60 ?_
 intro M R L N m0 m1 m2 m3 m4 m5
 cases M
 cbv
 repeat' first | refine m1 _ _ ?_ ?_ | refine m2 _ _ fun h=>?_ | refine m3 _ ?_ | (refine m4 _ _ (Hd.out ?_);try first | rw [hks] | rw [hk2] | rw [hk3]) | (refine m5 _ _ ?_;cbv)
 all_goals (clear m1 m2 m3 m4 m5;cases m0;(try clear hks;try clear hk2;try clear hk3);try dsimp only)
 all_goals try simp only [sm] at *
 all_goals try simp only [List.length_append,List.length_cons,List.length_nil,List.length_set] at *
 all_goals (try omega)
 all_goals (try (have:=zm;omega))
 all_goals (try simp only [qg (show i<9223372036854775807 by omega)])
 all_goals first
  | (have ih':=ih (by omega)
     rw [qd2 (show btS s i=true by unfold btS;exact decide_eq_true (by assumption)),<-hu,List.length_append] at ih'
     exact ⟨ih'.same rfl rfl⟩)
  | (have ih':=ih (by omega)
     rw [qi0 (show btS s i=false by unfold btS;exact decide_eq_false (by assumption)),<-hu,<-hn] at ih'
     exact ⟨ih'.same rfl rfl⟩)
  | (obtain rfl:i=m:=by omega
     rw [hu];rfl)
  | skip
theorem qdP (l:List Int)(s:Int)(h1:l.length<=1048576):qe Tryz.prog 59 [aIs l,aI s] (rUs (QS l s)):=by
 refine qe.of qc (fn:=Tryz.f59) (c:=Tryz.f59.body.getD .skip) (dr:=fun n=>qa 0 [] n) Tryz.func59 rfl (by kernel_rfl) (by kernel_rfl) (by kernel_rfl) ?_
 refine SEx.go (X:=XX) qc (fun n=>qa [] [(3,[1,5,9,10,11])] n) (fun _=>none) qd 60 ?_
 intro M R L N m0 m1 m2 m3 m4 m5
 cases M
 cbv
 repeat' first | refine m1 _ _ ?_ ?_ | refine m2 _ _ fun h=>?_ | refine m3 _ ?_ | (refine m4 _ _ (Hd.out ?_);generalize hks:(List.cons _ _:List K)=ks) | (refine m5 _ _ ?_;cbv)
 all_goals (clear m1 m2 m3 m4 m5;cases m0;try dsimp only)
 all_goals try simp only [sm] at *
 obtain ⟨m,hm⟩:∃ m,m=l.length:=⟨_,rfl⟩
 refine ⟨SEx.same (SEx.idx m (fun i=>⟨28,[(1,bI s),(5,bR 20480 (ZC l s i).length),(9,bL (.i l)),(10,bI m),(11,bI i)],[(20480,.osl (.i (ZC l s i)))]⟩) (fun _=>rUs (ZC l s m)) ?_) (by rw [hm];rfl) (by rw [hm];rfl)⟩
 intro i hi ih
 rw [<-hks]
 obtain ⟨u,hu⟩:∃ u,u=ZC l s i:=⟨_,rfl⟩
 have hul:u.length<=i:=by rw [hu];exact w9 _ _ _
 rw [<-hu]
 obtain ⟨n,hn⟩:∃ n,n=u.length:=⟨_,rfl⟩
 rw [<-hn] at hul ⊢
 have hwu:IntKind.u64.wrap (i:Int)=(i:Int):=ZG (by omega)
 refine SEx.go (X:=XX) qc (fun n=>qa [] [(3,[1,5,9,10,11])] n) (fun _=>none) qd 60 ?_
 intro M R L N m0 m1 m2 m3 m4 m5
 cases M
 cbv
 repeat' first | refine m1 _ _ ?_ ?_ | refine m2 _ _ fun h=>?_ | refine m3 _ ?_ | (refine m4 _ _ (Hd.out ?_);try first | rw [hks] | rw [hk2] | rw [hk3]) | (refine m5 _ _ ?_;cbv)
 all_goals (clear m1 m2 m3 m4 m5;cases m0;(try clear hks;try clear hk2;try clear hk3);try dsimp only)
 all_goals try simp only [sm] at *
 all_goals (try simp only [hwu,Int.toNat_natCast] at *)
 all_goals try simp only [List.length_append,List.length_cons,List.length_nil,List.length_set] at *
 all_goals (try omega)
 all_goals (try (have:=zm;omega))
 all_goals (try simp only [qg (show i<9223372036854775807 by omega)])
 all_goals first
  | (have ih':=ih (by omega)
     rw [qd2 (show btS s i=true by unfold btS;exact decide_eq_true (by assumption)),<-hu,List.length_append] at ih'
     exact ⟨ih'.same rfl rfl⟩)
  | (have ih':=ih (by omega)
     rw [qi0 (show btS s i=false by unfold btS;exact decide_eq_false (by assumption)),<-hu,<-hn] at ih'
     exact ⟨ih'.same rfl rfl⟩)
  | (obtain rfl:i=m:=by omega
     rw [hu];rfl)
  | skip
def qk1 (f:List Int->Int->List Int):Wr:=w2 kx dcI (fun l s=>rUs (f l s)) (fun l _=>[LLe l 1048576])
theorem qc0:qA Tryz.prog 131 (qk1 QS):=qG fun l s h=>Kr l s (h _ (.head _)).out
theorem qeo:qA Tryz.prog 59 (qk1 QS):=qG fun l s h=>qdP l s (h _ (.head _)).out
theorem qdz {m:Nat}(h:m<=7):IntKind.i64.wrap (1 * 2 ^ min m IntKind.i64.bits)=((2 ^ m:Nat):Int):=by
 have:m=0\/m=1\/m=2\/m=3\/m=4\/m=5\/m=6\/m=7:=by omega
 rcases this with rfl | rfl | rfl | rfl | rfl | rfl | rfl | rfl<;>decide
theorem vE {m:Nat}(h:m<=7):1<=2 ^ m/\2 ^ m<=128:=by
 have:m=0\/m=1\/m=2\/m=3\/m=4\/m=5\/m=6\/m=7:=by omega
 rcases this with rfl | rfl | rfl | rfl | rfl | rfl | rfl | rfl<;>decide
def J9 (l:List Int)(N k:Nat):List (List Int):=(List.range k).map fun j=>QS l ((N:Int)-1-(j:Nat))
theorem qaN (l:List Int)(N k:Nat):J9 l N (k+1)=J9 l N k++[QS l ((N:Int)-1-k)]:=by simp [J9,List.range_succ]
theorem y7 (l:List Int)(N k:Nat):(J9 l N k).length=k:=by simp [J9]
def qli (l:List Int):List (List Int):=J9 l (2 ^ l.length) (2 ^ l.length)
theorem wD {t:qm}{x:qh}(h:StV t x):(enL t x).length<=7:=by
 have h1:=(qF h.sh).2
 have h2:(enL t x).length<=t.nodes.length:=Nat.le_trans (List.length_filter_le _ _) (QQ _ _)
 omega
theorem qcC (t:qm)(x:qh)(h:EnT t x):qe Tryz.prog 133 [qN t,qQ x] (Kl (qli (enL t x))):=by
 refine qe.of qc (fn:=Tryz.f133) (c:=Tryz.f133.body.getD .skip) (dr:=fun n=>qa 0 [] n) Tryz.func133 rfl (by kernel_rfl) (by kernel_rfl) (by kernel_rfl) ?_
 obtain ⟨f1,hf1⟩:∃ f,f=enL:=⟨_,rfl⟩
 obtain ⟨f2,hf2⟩:∃ f,f=QS:=⟨_,rfl⟩
 obtain ⟨l,hl⟩:∃ l,l=f1 t x:=⟨_,rfl⟩
 have hl7:l.length<=7:=by rw [hl,hf1];exact wD h.v
 obtain ⟨NN,hN⟩:∃ NN,NN=2 ^ l.length:=⟨_,rfl⟩
 have hNb:=vE hl7
 have hs:=qdz hl7
 rw [<-hN] at hNb hs
 have hs1:IntKind.i64.wrap ((NN:Int)-1)=(NN:Int)-1:=qy (by omega) (by omega)
 rw [show qli (enL t x)=J9 l NN NN by rw [hN,hl,hf1];rfl]
 by_cases hne:enL t x=[]
 . have hO:qp Tryz.prog (qL [(144,qqX),(131,qk1 f2)]):=by
    subst hf2
    exact qb qn5 (qb qc0 qd)
   have hl0:l=[]:=by rw [hl,hf1];exact hne
   have hN1:NN=1:=by rw [hN,hl0];rfl
   have h0:qqW t x:=⟨h,hne⟩
   clear hN hl hs hs1
   subst hl0 hN1
   obtain ⟨ns,ts,hr⟩:=t
   obtain ⟨now,times,vals⟩:=x
   refine SEx.go (X:=XX) qc (fun n=>qa [] [(4,[5,6,7])] n) (fun _=>none) hO 60 ?_
   intro M R L N m0 m1 m2 m3 m4 m5
   cases M
   cbv
   repeat' first | refine m1 _ _ ?_ ?_ | refine m2 _ _ fun h=>?_ | refine m3 _ ?_ | (refine m4 _ _ (Hd.out ?_);generalize hks:(List.cons _ _:List K)=ks) | (refine m5 _ _ ?_;cbv)
   all_goals (clear m1 m2 m3 m4 m5;cases m0;try dsimp only)
   all_goals try simp only [sm] at *
   all_goals first
    | exact h0
    | omega
    | skip
   refine ⟨SEx.same (SEx.idx 1 (fun k=>⟨26,[(5,bL (.i [])),(6,bR 24576 k),(7,bI ((1:Nat)-1-(k:Nat)))],[(24576,.osl (.ii true none (J9 [] 1 k)))]⟩) (fun _=>Kl (J9 [] 1 1)) ?_) rfl rfl⟩
   intro k hk ih
   rw [<-hks]
   obtain ⟨o,ho⟩:∃ o,o=J9 [] 1 k:=⟨_,rfl⟩
   have hol:o.length=k:=by rw [ho,y7]
   obtain ⟨q,hq⟩:∃ q:Int,q=((1:Nat):Int)-1-(k:Nat):=⟨_,rfl⟩
   rw [<-ho,<-hq]
   refine SEx.go (X:=XX) qc (fun n=>qa [] [(4,[5,6,7])] n) (fun _=>none) hO 60 ?_
   intro M R L N m0 m1 m2 m3 m4 m5
   cases M
   cbv
   repeat' first | refine m1 _ _ ?_ ?_ | refine m2 _ _ fun h=>?_ | refine m3 _ ?_ | (refine m4 _ _ (Hd.out ?_);try first | rw [hks] | rw [hk2] | rw [hk3]) | (refine m5 _ _ ?_;cbv)
   all_goals (clear m1 m2 m3 m4 m5;cases m0;(try clear hks;try clear hk2;try clear hk3);try dsimp only)
   all_goals try simp only [sm] at *
   all_goals (try rw [qy (n:=q-1) (by omega) (by omega)])
   all_goals first
    | omega
    | rfl
    | exact ⟨by decide⟩
    | (have:=zm;simp only [List.length_cons,List.length_nil];omega)
    | (have ih':=ih (by omega)
       rw [qaN,<-ho,<-hq,show ((1:Nat):Int)-1-((k+1:Nat):Int)=q-1 by omega] at ih'
       simp only [List.length_append,List.length_cons,List.length_nil,hol,hf2]
       exact ⟨ih'.same rfl rfl⟩)
    | (have e:k=1:=by omega
       subst e
       rw [ho];rfl)
    | skip
 . have hO:qp Tryz.prog (qL [(144,qrD f1),(131,qk1 f2)]):=by
    subst hf1 hf2
    exact qb qn3 (qb qc0 qd)
   have h0:qq0 t x:=⟨h,hne⟩
   clear hN
   obtain ⟨ns,ts,hr⟩:=t
   obtain ⟨now,times,vals⟩:=x
   refine SEx.go (X:=XX) qc (fun n=>qa [] [(4,[5,6,7])] n) (fun _=>none) hO 60 ?_
   intro M R L N m0 m1 m2 m3 m4 m5
   cases M
   cbv
   repeat' first | refine m1 _ _ ?_ ?_ | refine m2 _ _ fun h=>?_ | refine m3 _ ?_ | (refine m4 _ _ (Hd.out ?_);generalize hks:(List.cons _ _:List K)=ks) | (refine m5 _ _ ?_;cbv)
   all_goals (clear m1 m2 m3 m4 m5;cases m0;try dsimp only)
   all_goals try simp only [sm] at *
   all_goals first
    | exact h0
    | omega
    | skip
   rw [<-hl,hs,hs1]
   obtain ⟨n,hn⟩:∃ n,n=l.length:=⟨_,rfl⟩
   refine ⟨SEx.same (SEx.idx NN (fun k=>⟨26,[(5,bR 20480 n),(6,bR 24576 k),(7,bI ((NN:Int)-1-(k:Nat)))],[(20480,.osl (.i l)),(24576,.osl (.ii true none (J9 l NN k)))]⟩) (fun _=>Kl (J9 l NN NN)) ?_) (by rw [hn,show (NN:Int)-1-((0:Nat):Int)=(NN:Int)-1 by omega];rfl) rfl⟩
   intro k hk ih
   rw [<-hks]
   obtain ⟨o,ho⟩:∃ o,o=J9 l NN k:=⟨_,rfl⟩
   have hol:o.length=k:=by rw [ho,y7]
   obtain ⟨q,hq⟩:∃ q:Int,q=(NN:Int)-1-(k:Nat):=⟨_,rfl⟩
   rw [<-ho,<-hq]
   refine SEx.go (X:=XX) qc (fun n=>qa [] [(4,[5,6,7])] n) (fun _=>none) hO 60 ?_
   intro M R L N m0 m1 m2 m3 m4 m5
   cases M
   cbv
   repeat' first | refine m1 _ _ ?_ ?_ | refine m2 _ _ fun h=>?_ | refine m3 _ ?_ | (refine m4 _ _ (Hd.out ?_);try first | rw [hks] | rw [hk2] | rw [hk3]) | (refine m5 _ _ ?_;cbv)
   all_goals (clear m1 m2 m3 m4 m5;cases m0;(try clear hks;try clear hk2;try clear hk3);try dsimp only)
   all_goals try simp only [sm] at *
   all_goals (try rw [qy (n:=q-1) (by omega) (by omega)])
   all_goals first
    | omega
    | rfl
    | exact ⟨by omega⟩
    | (have:=zm;simp only [List.length_cons,List.length_nil];omega)
    | (have ih':=ih (by omega)
       rw [qaN,<-ho,<-hq,show (NN:Int)-1-((k+1:Nat):Int)=q-1 by omega] at ih'
       simp only [List.length_append,List.length_cons,List.length_nil,hol,hf2]
       exact ⟨ih'.same rfl rfl⟩)
    | (have e:k=NN:=by omega
       subst e
       rw [ho];rfl)
    | skip
end Go.Proofs.YtfafehnchmelnaaGreat.Ai
namespace Go.Proofs.YtfafehnchmelnaaGreat.Ai
open Go
set_option maxRecDepth 100000
variable [qf]
def qpu (f:qm->qh->List (List Int)):Wr:=w2 qM qP (fun t x=>Kl (f t x)) (fun t x=>[EnT t x])
def Vc (t:qm)(x:qh):List (List Int):=qli (enL t x)
theorem qnl:qA Tryz.prog 133 (qpu Vc):=qG fun t x h=>qcC t x (h _ (.head _))
end Go.Proofs.YtfafehnchmelnaaGreat.Ai
