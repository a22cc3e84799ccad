/- The law's proof, part 3 of 10: what of its author's texts it needs; no condition. -/
import Derived.MapKept
import Derived.Test.YtececadpjelanaaGreatZeB
set_option linter.unusedSectionVars false
set_option linter.unusedSimpArgs false
set_option linter.unusedVariables false
namespace Go.Proofs.YtececadpjelanaaGreat.Ai
open Go Go.RowKit
variable [qh]
def qS (o:Oper):List Nat:=(o.after.toList.filter K7).map (·.on)
def ZZ (md:Region.Mode)(o:Oper):List Nat:=(o.after.toList.filter (Region.binds md)).map (·.on)
structure YJ (all:List Oper)(anc:Nat->Nat->Prop):Prop where
 plain:∀ (i:Nat) (o:Oper),all[i]?=some o->∀ e∈qS o,e<i
 an:∀ (i j:Nat) (o:Oper),all[i]?=some o->anc i j->∃ e∈qS o,e=j\/anc e j
 topo:∀ md:Region.Mode,∃ rank:Nat->Nat,∀ (i:Nat) (o:Oper),all[i]?=some o->∀ e∈ZZ md o,e<all.length/\rank e<rank i
section
variable {P:Program} {all:List Oper} {anc:Nat->Nat->Prop} {F:Fr} {its:List It} {Fs:Nat->Fr}
theorem Qs {md:Region.Mode}{listed:Array Bool}{i:Nat}:i∈Region.ready md ⟨all⟩ listed↔i<all.length/\listed.getD i true=false/\∃ o,all[i]?=some o/\∀ e∈ZZ md o,listed.getD e false=true:=by
 unfold Region.ready
 simp only [List.mem_filter,List.mem_range,Bool.and_eq_true,Bool.not_eq_true']
 constructor
 . rintro ⟨h1,h2,h3⟩
   refine ⟨h1,h2,?_⟩
   have ho:all[i]?=some all[i]:=List.getElem?_eq_getElem h1
   refine ⟨_,ho,?_⟩
   simp only [List.getElem?_toArray,ho,Option.map_some,Option.getD_some] at h3
   intro e he
   obtain ⟨x,hx,rfl⟩:=List.mem_map.1 he
   obtain ⟨hx,hb⟩:=List.mem_filter.1 hx
   have:=Array.all_eq_true'.1 h3 x (by simpa using hx)
   rw [hb] at this
   simpa using this
 . rintro ⟨h1,h2,o,ho,h3⟩
   refine ⟨h1,h2,?_⟩
   simp only [List.getElem?_toArray,ho,Option.map_some,Option.getD_some]
   refine Array.all_eq_true'.2 fun x hx=>?_
   cases hb:Region.binds md x with
   | false=>simp
   | true=>simp [h3 x.on (List.mem_map.2 ⟨x,List.mem_filter.2 ⟨by simpa using hx,hb⟩,rfl⟩)]
theorem QB {md:Region.Mode}{o:Oper}{e:Nat}(h:e∈qS o):e∈ZZ md o:=by
 obtain ⟨x,hx,rfl⟩:=List.mem_map.1 h
 obtain ⟨hx,hp⟩:=List.mem_filter.1 hx
 refine List.mem_map.2 ⟨x,List.mem_filter.2 ⟨hx,?_⟩,rfl⟩
 unfold K7 at hp
 unfold Region.binds
 split<;>simp_all
theorem KE (hS:YJ all anc){listed:Array Bool}(hd:∀ (i:Nat) (o:Oper),all[i]?=some o->listed.getD i false=true->∀ e∈qS o,listed.getD e false=true) :
 ∀ (i:Nat) (o:Oper),all[i]?=some o->(∀ e∈qS o,listed.getD e false=true)->∀ j,anc i j->listed.getD j false=true:=by
 intro i
 induction i using Nat.strongRecOn with
 | _ i ih =>
   intro o ho he j hj
   obtain ⟨e,he1,he2⟩:=hS.an i j o ho hj
   rcases he2 with rfl | he2
   . exact he e he1
   . have hlt:=hS.plain i o ho e he1
     have hlen:i<all.length:=(List.getElem?_eq_some_iff.1 ho).1
     have hxo:all[e]?=some all[e]:=List.getElem?_eq_getElem (by omega)
     exact ih e hlt _ hxo (hd e _ hxo (he e he1)) j he2
theorem wh {md:Region.Mode}{listed:Array Bool}(hsz:listed.size=all.length)(hS:YJ all anc)(h:∃ i,i<all.length/\listed.getD i false=false):Region.ready md ⟨all⟩ listed≠[]:=by
 obtain ⟨rank,hr⟩:=hS.topo md
 have key:∀ n i,rank i=n->i<all.length->listed.getD i false=false->∃ i,i∈Region.ready md ⟨all⟩ listed:=by
  intro n
  induction n using Nat.strongRecOn with
  | _ n ih =>
    intro i hn hi hl
    have ho:all[i]?=some all[i]:=List.getElem?_eq_getElem hi
    by_cases hex:∃ e∈ZZ md all[i],listed.getD e false=false
    . obtain ⟨e,he,hle⟩:=hex
      obtain ⟨h1,h2⟩:=hr i _ ho e he
      exact ih (rank e) (by omega) e rfl h1 hle
    . refine ⟨i,Qs.2 ⟨hi,?_,_,ho,fun e he=>?_⟩⟩
      . simp only [Array.getD_eq_getD_getElem?,Array.getElem?_eq_getElem (show i<listed.size by omega),Option.getD_some] at hl ⊢
        exact hl
      . cases hc:listed.getD e false with
        | true=>rfl
        | false=>exact absurd ⟨e,he,hc⟩ hex
 obtain ⟨i,hi,hl⟩:=h
 obtain ⟨j,hj⟩:=key _ i rfl hi hl
 intro hq
 rw [hq] at hj
 cases hj
theorem qhU (md:Region.Mode)(hS:YJ all anc)(hD:Dyn all all.length anc F its Fs)(hA:∀ (i:Nat) (o:Oper) (x:It),all[i]?=some o->its[i]?=some x->z7 P ⟨all⟩ (Fs i) o x){J:qi}(hfut:J.fut=qh.fut)(b:Frame)(ks:List Item)(cs:List Frame) :
 ∀ (fuel t:Nat) (listed:Array Bool) (G:Fr) (a:Act) (w:World) (σ:Gh),listed.size=all.length->fuel=kU all.length (fun i=>listed.getD i false) →
  (∀ (i:Nat) (o:Oper),all[i]?=some o->listed.getD i false=true->∀ e∈qS o,listed.getD e false=true)->Inv all.length F its (fun j=>j<all.length/\listed.getD j false=true) G->FR G σ w (qC a)->Dom G σ []->G.n<=a.tmps.size →
  ∃ a' w' σ',Steps P (lone (b.at a (.inRegion ⟨all⟩ (Region.linearise.go md ⟨all⟩ fuel t listed [])::ks)) cs w) (lone (b.at a' (.inRegion ⟨all⟩ []::ks)) cs w') ∧
   FR (Fs all.length) σ' w' (qC a')/\Dom (Fs all.length) σ' []/\qF w σ w' σ'/\a'.defers=a.defers/\a'.tmps.size=a.tmps.size:=by
 intro fuel
 induction fuel with
 | zero =>
   intro t listed G a w σ hsz hfu hdn hI hF hd hn
   have hall:∀ i,i<all.length->listed.getD i false=true:=by
    intro i hi
    cases hl:listed.getD i false with
    | true=>rfl
    | false =>
      have:=Qh (f:=fun i=>listed.getD i false) all.length hi hl
      omega
   refine ⟨a,w,σ,?_,?_⟩
   . simp [Region.linearise.go];exact .refl P _
   . have he:(fun j=>j<all.length/\listed.getD j false=true)=(fun j=>j<all.length):=by funext j;exact propext ⟨fun h=>h.1,fun h=>⟨h,hall j h⟩⟩
     rw [he] at hI
     obtain ⟨h1,h2⟩:=qeA hI (zX hD all.length (Nat.le_refl _)) hF hd
     exact ⟨h1,h2,qF.refl _ _,rfl,rfl⟩
 | succ fuel ih =>
   intro t listed G a w σ hsz hfu hdn hI hF hd hn
   have hex:∃ i,i<all.length/\listed.getD i false=false:=by
    refine Classical.byContradiction fun hno=>?_
    have hall:∀ i,i<all.length->listed.getD i false=true:=by
     intro i hi
     cases hl:listed.getD i false with
     | true=>rfl
     | false=>exact absurd ⟨i,hi,hl⟩ hno
    rw [zw (g:=fun i=>decide (i<all.length)) _ (fun i hi=>by rw [hall i hi];simp [hi]),Ku _ _ (Nat.le_refl _)] at hfu
    omega
   have hgd:∀ i,i<all.length->listed.getD i true=listed.getD i false:=by
    intro i hi
    simp only [Array.getD_eq_getD_getElem?,Array.getElem?_eq_getElem (show i<listed.size by omega),Option.getD_some]
   obtain ⟨i,hpi,hmi⟩:=Z7 (wh (md:=md) hsz hS hex) t
   rw [Qs] at hmi
   obtain ⟨hil,hiu,o,ho,hed⟩:=hmi
   rw [hgd i hil] at hiu
   have hed:∀ e∈qS o,listed.getD e false=true:=fun e he=>hed e (QB he)
   have hanc:=KE hS hdn i o ho hed
   obtain ⟨itx,hix⟩:∃ x,its[i]?=some x:=⟨its[i]'(by rw [hD.len];exact hil),List.getElem?_eq_getElem _⟩
   have hancE:∀ j,anc i j->j<all.length/\listed.getD j false=true:=by
    intro j hj
    have h1:=hanc j hj
    refine ⟨?_,h1⟩
    rcases Nat.lt_or_ge j all.length with h | h
    . exact h
    . simp only [Array.getD_eq_getD_getElem?,Array.getElem?_eq_none (show listed.size<=j by omega)] at h1;cases h1
   have hag:=yn hD hI hil ho hancE
   have hnE:¬(i<all.length/\listed.getD i false=true):=by rw [hiu];simp
   have hfr:=Vd hD hI hix hnE
   have hGn:G.n=(Fs i).n:=by rw [hI.n,(zX hD i (Nat.le_of_lt hil)).n]
   have hst:=hA i o _ ho hix G hGn hag hfr
   have hI':=hI.step hD hix hnE
   have hE:(fun j=>j=i\/j<all.length/\listed.getD j false=true)=(fun j=>j<all.length/\(listed.setIfInBounds i true).getD j false=true):=by
    funext j
    rw [zl (by omega)]
    refine propext ⟨?_,?_⟩
    . rintro (rfl | ⟨h1,h2⟩)
      . exact ⟨hil,by simp⟩
      . refine ⟨h1,?_⟩
        split
        . rfl
        . exact h2
    . rintro ⟨h1,h2⟩
      split at h2
      . exact .inl (by assumption)
      . exact .inr ⟨h1,h2⟩
   rw [hE] at hI'
   have hfu':fuel=kU all.length (fun j=>(listed.setIfInBounds i true).getD j false):=by
    have h1:=Qh (f:=fun j=>listed.getD j false) all.length hil hiu
    have h2:kU all.length (fun j=>(listed.setIfInBounds i true).getD j false)=kU all.length (fun j=>if j=i then true else listed.getD j false) :=
     zw _ (fun j _=>zl (by omega) _)
    omega
   have hrest:=fun a1 w1 σ1=>ih (t / (Region.ready md ⟨all⟩ listed).length) (listed.setIfInBounds i true) (G.ap itx) a1 w1 σ1 (by simpa using hsz) hfu'
    (by
      intro j o' ho' hj e he
      rw [zl (by omega)] at hj ⊢
      split
      . rfl
      . split at hj
        . rename_i hji
          subst hji
          rw [ho] at ho'
          injection ho' with ho'
          subst ho'
          exact hed e he
        . exact hdn j o' ho' hj e he) hI'
   rw [Qo,hpi]
   dsimp only
   have hoa:(⟨all⟩:Array Oper)[i]?=some o:=by simpa using ho
   rcases hst with ⟨hw,hop⟩ | ⟨hw,hsk⟩
   . obtain ⟨a1,w1,σ1,k1,k2,k3,k4,k5,k6,k7⟩:=hop J a w σ hfut hF hd hn b ks cs ⟨all⟩ i _ hoa (hw.sound hF)
     obtain ⟨a',w',σ',m1,m2,m3,m4,m5,m6⟩:=hrest a1 w1 σ1 k2 k3 (by omega)
     exact ⟨a',w',σ',k1.trans m1,m2,m3,k4.trans m4,m5.trans k6,m6.trans k7⟩
   . obtain ⟨g1,g2,g3⟩:=Ze hF hd o
     have hs:=step_op_skip (P:=P) (b:=b) (a:=a) (k:=ks) (cs:=cs) (w:=w) (ops:=⟨all⟩) (i:=i) (rest:=Region.linearise.go md ⟨all⟩ fuel (t / (Region.ready md ⟨all⟩ listed).length) (listed.setIfInBounds i true) []) (by rw [hoa];simpa using hw.sound hF)
     rw [hoa] at hs
     simp only [Option.bind_some] at hs
     rw [<-hsk] at g1 g2 g3
     obtain ⟨a',w',σ',m1,m2,m3,m4,m5,m6⟩:=hrest _ w σ g1 g2 (by rw [g3,zn];exact hn)
     exact ⟨a',w',σ',.head hs m1,m2,m3,m4,m5.trans (zL _ _),m6.trans (zn _ _)⟩
theorem Ex.draw2 [za] {ks:List K}{Post:Fr->Prop}{id:Nat}(hS:YJ all anc)(hD:Dyn all all.length anc F its Fs)(hA:∀ (i:Nat) (o:Oper) (x:It),all[i]?=some o->its[i]?=some x->z7 P ⟨all⟩ (Fs i) o x)
 (h:Ex P (.r ⟨all⟩ []::ks) (Fs all.length) Post):Ex P (.c (.region id ⟨all⟩ true)::ks) F Post:=by
 intro J a w σ hfut hok hF hd hnf hn its' hi b cs
 obtain rfl:=ze (by intro b;simp) hi
 have hstep:=step_region_draw (P:=P) (b:=b) (a:=a) (k:=ks.map qP) (cs:=cs) (w:=w) (ops:=⟨all⟩) (id:=id)
 obtain ⟨md,t,hsch⟩:∃ md t,Region.schedule (P.follows .mixedOrders) ⟨all⟩ (w.tape w.drawn (.order b.fn id))=Region.linearise.go md ⟨all⟩ all.length t (Array.replicate all.length false) []:=by
  unfold Region.schedule
  split
  . exact ⟨.any,_,rfl⟩
  . exact ⟨_,_,rfl⟩
 rw [hsch] at hstep
 have hrep:∀ (i:Nat) (d:Bool),(Array.replicate all.length false).getD i false=false:=by
  intro i _
  simp only [Array.getD_eq_getD_getElem?,Array.getElem?_replicate]
  split<;>rfl
 have hF':FR F σ { w with drawn:=w.drawn+1 } (qC a):=hF.drawn _
 obtain ⟨a1,w1,σ1,k1,k2,k3,k4,k5,k6⟩:=qhU md hS hD hA hfut b (ks.map qP) cs all.length t (Array.replicate all.length false) F a { w with drawn:=w.drawn+1 } σ (by simp)
  (by
    rw [zw (g:=fun i=>decide (i<0)) _ (fun i _=>by rw [hrep i false];simp)]
    rw [Ku _ _ (Nat.zero_le _)]
    simp)
  (fun i o _ hi=>by rw [hrep i false] at hi;cases hi)
  (by
    have he:(fun j=>j<all.length/\(Array.replicate all.length false).getD j false=true)=(fun _=>False):=by
     funext j;rw [hrep j false];simp
    rw [he]
    exact Inv.start) hF' hd hn
 have hgo:qF w σ w1 σ1:=(qF.drawn w σ _).trans k4
 have hokr:okK (.r ⟨all⟩ []):=⟨by simp,by simp⟩
 have hit:(K.r ⟨all⟩ []::ks).map qP=.inRegion ⟨all⟩ []::ks.map qP:=by simp [qP]
 obtain ⟨F',a',w',σ',todo,m0,m1,m2,m3,m4,m5,m6,m7⟩:=h J a1 w1 σ1 hfut (zm hokr (zg hok)) k2 k3 (hnf.step hF.old hgo) (by rw [(zX hD all.length (Nat.le_refl _)).n];omega) _ (.inl rfl) b cs
 rw [hit] at m1
 exact ⟨F',a',w',σ',todo,m0,.head hstep (k1.trans m1),m2,m3,hgo.trans m4,m5.trans (zX hD all.length (Nat.le_refl _)).n,m6.trans k5,m7.trans k6⟩
end
end Go.Proofs.YtececadpjelanaaGreat.Ai
namespace Go.Proofs.YtececadpjelanaaGreat.Ai
open Go Go.RowKit
variable [qh]
def bsK (T:Nat->Option Ty)(d t len:Nat):Option It :=
 match T t with
 | some ⟨.sl e,_,_,_,_⟩=>(match T e with
   | some ty=>(match nq 0 len&&nle len 4096&&nlt 0 ty.size&&nle ty.size 4096 with
     | true=>some (d,[(rid d 0 0,.osl [])],rfV (rid d 0 0) len)
     | false=>none)
   | none=>none)
 | _=>none
def apK (M:Ops)(T:Nat->Option Ty)(F:Fr)(d:Nat)(x y:Operand)(t t':Nat):Option It :=
 match nq t t',T t with
 | true,some ⟨.sl e,_,_,_,_⟩=>(match T e with
   | some ty=>(match vQ M F (ev1 F x),Yl M (ev1 F y) with
     | true,some ys=>(match M.nLe (M.oLen ys) lim&&nle ty.bytes 4096&&nlt 0 ty.size&&nq (cnt ty.zero) ty.size&&M.oSz ty.size ys with
       | true=>some (d,[(rid d 0 0,.osl ys)],rfV (rid d 0 0) (M.oLen ys))
       | false=>none)
     | _,_=>none)
   | none=>none)
 | _,_=>none
def bsC (T:Nat->Option Ty)(d t len i:Nat)(x:Operand):Option It :=
 match T t with
 | some ⟨.sl e,_,_,_,_⟩=>(match T e,x with
   | some ty,.const (.int k n)=>(match nq 1 len&&nle len 4096&&nlt 0 ty.size&&nle ty.size 4096&&(nq i 0&&nq 1 ty.size) with
     | true=>some (d,[(rid d 0 0,.osl [[.fz (.int k n)]])],rfV (rid d 0 0) len)
     | false=>none)
   | _,_=>none)
 | _=>none
def mkC (M:Ops)(T:Nat->Option Ty)(d t:Nat)(l c:Operand):Option It :=
 match T t with
 | some ⟨.sl e,_,_,_,_⟩=>(match T e,l,c with
   | some ty,.const (.int _ n),.const (.int _ m)=>(match M.bEq n m&&nle ty.bytes 4096&&nlt 0 ty.size&&nq (cnt ty.zero) ty.size&&Q6 ty.zero with
     | true=>(match M.oRep n (zN false ty.zero) with
       | some ys=>some (d,[(rid d 0 0,.osl ys)],rfV (rid d 0 0) (M.oLen ys))
       | none=>none)
     | false=>none)
   | _,_,_=>none)
 | _=>none
def VE (M:Ops)(T:Nat->Option Ty)(F:Fr)(o:Oper):Option It :=
 match o.dst with
 | none=>none
 | some d=>(match zt F.n d with
   | true=>(match o.op with
     | .buildSlice t len ⟨[]⟩=>bsK T d t len
     | .buildSlice t len ⟨[(i,x)]⟩=>bsC T d t len i x
     | .makeSlice t l c=>mkC M T d t l c
     | .call ⟨.builtin .append,⟨[x,y]⟩,⟨[t,t']⟩⟩=>apK M T F d x y t t'
     | _=>none)
   | false=>none)
section
variable {P:Program} {T:Nat->Option Ty} {F G:Fr}
theorem qki {M:Ops}{x:A}(h:QX F G x.ids):vQ M G x=vQ M F x:=by
 cases x with
 | rf p off len =>
   obtain ⟨r,s⟩:=p
   cases s with
   | nil =>
     have e:G.at M (r,[])=F.at M (r,[]):=yd (M:=M) (p:=(r,[])) (h r (by simp [A.ids]))
     unfold vQ
     dsimp only
     rw [e]
   | cons y s=>rfl
 | fz c=>cases c<;>(unfold vQ;rfl)
 | _=>rfl
theorem qmh {M:Ops}{o:Oper}(hn:G.n=F.n)(h:jq F G (opL o.op)):VE M T G o=VE M T F o:=by
 unfold VE
 rw [hn]
 split
 . rfl
 . split
   . split
     . rfl
     . rfl
     . rfl
     . rename_i x y t t' hop
       rw [hop] at h
       obtain ⟨h1,h2⟩:=zT h (x:=x) (by intro t ht;simp [opL,Q5,ht])
       obtain ⟨h3,h4⟩:=zT h (x:=y) (by intro t ht;simp [opL,Q5,ht])
       unfold apK
       rw [h1,h3,qki h2]
     . rfl
   . rfl
theorem qY.of_madeF {o:Oper}{d:Nat}{F':Fr}(hdst:o.dst=some d)(hlt:zt F.n d=true)(h:∀ (J:qi) (a:Act) (w:World) (σ:Gh),J.fut=qh.fut->@FR J F σ w (qC a)->Dom F σ []->∃ v w' σ',@ZJ J P F σ w a d (execOp a.eval o) F' v w' σ'):qY P F o F':=by
 intro J a w σ hfut hF hd hn
 letI:=J
 obtain ⟨hlt1,hph⟩:=ZP hlt
 have hlt':d<a.tmps.size:=Nat.lt_of_lt_of_le hlt1 hn
 obtain ⟨v,w',σ',hm⟩:=h J a w σ hfut hF hd
 intro b k cs ops i rest hoi hw
 have hg:=stepG_op (P:=P) (b:=b) (k:=k) (cs:=cs) (w:=w) (rest:=rest) hoi hw
 have hfin:∀ v,(b.at a (.inRegion ops (i::rest)::k)).finish v=b.at (a.put o.dst v) (.inRegion ops rest::k):=by intro v;rw [Frame.finish_at,hoi];rfl
 refine ⟨a.put o.dst v,w',σ',.one (step_lone_go ?_),?_,hm.dom,hm.goes,hm.n,zL _ _,zn _ _⟩
 . rw [hg,<-hfin]
   simp [stepG.apply,hm.run]
 . rw [hdst,Ql hlt' hph];exact hm.fr
theorem qY.of_made {o:Oper}{d:Nat}{F':Fr}(hdst:o.dst=some d)(hlt:zt F.n d=true)(h:∀ (J:qi) (a:Act) (w:World) (σ:Gh),@FR J F σ w (qC a)->Dom F σ []->∃ v w' σ',@ZJ J P F σ w a d (execOp a.eval o) F' v w' σ'):qY P F o F' :=
 qY.of_madeF hdst hlt fun J a w σ _ hF hd=>h J a w σ hF hd
theorem Dom.put' [qi] {F:Fr}{σ:Gh}(h:Dom F σ [])(d:Nat)(x:TV A):Dom (F.put d x) σ []:=h
theorem qY.of_boxF {P:Program}{F:Fr}{o:Oper}{d:Nat}(hdst:o.dst=some d)(hlt:zt F.n d=true){e:TypeId}{x:Operand}(ho:o.op=.box e x){as:List C}(has:(ev F x).cells=some (fzL as))(hok:okL (fzL as)=true):qY P F o (F.put d (.v (false,[.fz (.ptr as)]))):=by
 refine qY.of_made hdst hlt fun J a w σ hF hd=>?_
 letI:=J
 obtain ⟨hl,hv⟩:=JN (zx hF x) has hok
 obtain ⟨h1,h2⟩:=Zp hF (.cells (a.eval x).cells e)
 have hsz:(w.alloc (.cells (a.eval x).cells e)).heap.size=w.heap.size+1:=by simp
 have hfree:jE σ w.heap.size:=⟨by
  cases hs:σ w.heap.size with
  | none=>rfl
  | some y=>exact absurd (hF.lt _ _ hs) (Nat.lt_irrefl _),fun hJ=>absurd (hF.old.lt _ hJ) (Nat.lt_irrefl _)⟩
 have hget:∀ (j:Nat) (c:C),as[j]?=some c->∃ u,(a.eval x).cells[j]?=some u/\qr w σ c u:=by
  intro j c hj
  obtain ⟨u,h3,h4⟩:=hv j (.fz c) (by rw [Vs,List.getElem?_map,hj];rfl)
  exact ⟨u,by simpa using h3,h4.fz_inv⟩
 have hrep:qr (w.alloc (.cells (a.eval x).cells e)) σ (.ptr as) (.pointer (some ⟨w.heap.size,0,none⟩)):=by
  refine .ptr as ⟨w.heap.size,0,none⟩ (fun j=>((a.eval x).cells[j]?).getD undef) rfl (by show w.heap.size<(w.alloc _).heap.size;omega) hfree ?_ ?_
  . intro j c hj
    obtain ⟨u,h3,_⟩:=hget j c hj
    rw [qU]
    simp only [World.cell?,heap_alloc_new,h3,Nat.zero_add,Option.getD_some]
    rfl
  . intro j c hj
    obtain ⟨u,h3,h4⟩:=hget j c hj
    simp only [h3,Option.getD_some]
    exact h4.move (by omega) h2.st
 refine ⟨.pointer (some ⟨w.heap.size,0,none⟩),_,σ,?_,h1.put (qj.fz _ _ hrep),hd.put' d _,h2,rfl⟩
 simp only [execOp,ho]
 simp only [Instr.box,newVar,newRow,Sem.run_bind,Sem.run_pure]
 rfl
theorem qY.of_asgP {P:Program}{F:Fr}{o:Oper}{d:Nat}(hdst:o.dst=some d)(hlt:zt F.n d=true){x:Operand}(ho:o.op=.assign x):qY P F o (F.put d (ev F x)):=by
 refine qY.of_made hdst hlt fun J a w σ hF hd=>?_
 letI:=J
 exact ⟨a.eval x,w,σ,by simp [execOp,ho],hF.put (zx hF x),hd.put' d _,qF.refl w σ,rfl⟩
def qg4:A->Bool
 | .fz (.sl _)=>true
 | .fz .nilsl=>true
 | .rf _ _ _=>true
 | _=>false
theorem qhT [qi] {w:World}{σ:Gh}{x:A}{v:Value}(h:qg4 x=true)(hx:qj w σ x v):∃ a l c,v=.slice a l c/\∀ xs,x=.fz (.sl xs)->a.isNone=true->xs=[]:=by
 unfold qg4 at h
 split at h
 . have:=hx.fz_inv
   cases this with
   | sl xs sz a cap us hc hs ha hm hr =>
     refine ⟨_,_,_,rfl,fun xs' e hn=>?_⟩
     injection e with e
     injection e with e
     subst e
     refine Classical.byContradiction fun hne=>?_
     obtain ⟨ad,rfl,_⟩:=ha hne
     cases hn
 . exact ⟨_,_,_,hx.fz_inv.nil_inv,fun xs e=>by cases e⟩
 . cases hx with
   | rf=>exact ⟨_,_,_,rfl,fun xs e=>by cases e⟩
   | rz=>exact ⟨_,_,_,rfl,fun xs e=>by cases e⟩
 . cases h
theorem Ex.op_nil [za] {ks:List K}{Post:Fr->Prop}{all:Array Oper}{o:Oper}{l:List Oper}{d t e tn:Nat}{g1:Bool}{g2 g3:Nat}{g4:List C}{x:Operand}(hT:ka P T)(ht:T t=some ⟨.sl e,g1,g2,g3,g4⟩)(hw:zV F all o true)(hd:o.dst=some d)(hlt:zt F.n d=true)
 (hop:o.op=.binOp .eql t x (.const (.slice none 0 0)) tn) (hx:qg4 (ev1 F x)=true) (h:∀ b,(b=true->∀ xs,ev1 F x=.fz (.sl xs)->xs=[])->Ex P (.r all l::ks) (F.put d (.v (false,[.fz (.bool b)]))) Post):Ex P (.r all (o::l)::ks) F Post:=by
 intro J a w σ hfut hok hF hdm hnf hn its hi b cs
 letI:=J
 obtain rfl:=ze (by intro b;simp) hi
 obtain ⟨h1,h2,h3⟩:=qgT (hok _ List.mem_cons_self)
 obtain ⟨hlt1,hph⟩:=ZP hlt
 have hlt':d<a.tmps.size:=Nat.lt_of_lt_of_le hlt1 hn
 obtain ⟨i,u,z,hti,htu,htz,hty⟩:=qz (hT _ _ ht)
 injection hty with hk _ _ _ _
 have hu':=ja hk.symm
 subst hu'
 obtain ⟨ad,ln,cp,hv,hnil⟩:=qhT hx (qt hF x)
 have hrun:(execOp a.eval o).run P w=.ok (.value (.bool ad.isNone)) w:=by
  have hev:a.eval (.const (.slice none 0 0))=.slice none 0 0:=rfl
  have hbin:(do eqGuard .eql t x (.const (.slice none 0 0)) (a.eval x) (.slice none 0 0);binOp .eql t (a.eval x) (.slice none 0 0):Sem Value).run P w=.ok (.bool ad.isNone) w:=by
   rw [hv]
   have h5:(binOp .eql t (.slice ad ln cp) (.slice none 0 0)).run P w=.ok (.bool ad.isNone) w:=by
    simp only [binOp]
    simp [run_equal_slice_nil w t _ ad ln cp htu]
   simp [jH .eql t x (.const (.slice none 0 0)) (u:=.slice ad ln cp) rfl,h5]
  obtain ⟨dst,op,type,pos,after,guard⟩:=o
  dsimp only at hop
  subst hop
  simp only [execOp,hev]
  exact zO hbin
 have hF1:FR (F.put d (.v (false,[.fz (.bool ad.isNone)]))) σ w (upd (qC a) d (.bool ad.isNone)):=hF.put (qj.fz _ _ (.bool _))
 have hg:=stepG_op (P:=P) (b:=b) (k:=ks.map qP) (cs:=cs) (w:=w) (rest:=List.range' (all.size-l.length) l.length) h2 (hw.sound hF)
 have hfin:∀ v,(b.at a (.inRegion all ((all.size-(l.length+1))::List.range' (all.size-l.length) l.length)::ks.map qP)).finish v=b.at (a.put o.dst v) (.inRegion all (List.range' (all.size-l.length) l.length)::ks.map qP):=by intro v;rw [Frame.finish_at,h2];rfl
 rw [qgh h3]
 have hF2:FR (F.put d (.v (false,[.fz (.bool ad.isNone)]))) σ w (qC (a.put o.dst (.bool ad.isNone))):=by rw [hd,Ql hlt' hph];exact hF1
 obtain ⟨F',a',w',σ',todo,m0,m1,m2,m3,m4,m5,m6,m7⟩:=h ad.isNone (fun e xs hxs=>hnil xs hxs e) J (a.put o.dst (.bool ad.isNone)) w σ hfut (zm h1 (zg hok)) hF2 hdm hnf (by rw [zn];exact hn) _ (.inl rfl) b cs
 refine ⟨F',a',w',σ',todo,m0,.head (step_lone_go ?_) m1,m2,m3,m4,m5,m6.trans (zL _ _),m7.trans (zn _ _)⟩
 have e9:(K.r all l::ks).map qP=.inRegion all (List.range' (all.size-l.length) l.length)::ks.map qP:=rfl
 rw [hg,e9,<-hfin]
 simp [stepG.apply,hrun]
theorem z7.of_aopK (hT:ka P T){all:Array Oper}{o:Oper}{it:It}(hw:zV F all o true)(h:VE std T F o=some it):z7 P all F o it:=by
 intro G hn ha hf
 refine .inl ⟨Z3 hw ha,?_⟩
 have h':VE std T G o=some it:=(qmh (M:=std) (T:=T) hn (ha.mono (fun t ht=>by simp [lkT,ht]))).trans h
 unfold VE at h'
 split at h'
 . cases h'
 . rename_i d hd
   split at h'
   . rename_i hlt
     split at h'
     . rename_i t len hop
       unfold bsK at h'
       split at h'
       . rename_i e g1 g2 g3 g4 ht
         split at h'
         . rename_i ty hte
           split at h'
           . rename_i hok
             injection h' with h'
             subst h'
             have hfr:has G.tb (rid d 0 0)=false:=hf (rid d 0 0) (.osl []) List.mem_cons_self
             refine qY.of_opS hT (ora:=fun _ _=>none) (fun _ _ _ h=>by cases h) (kn:=false) ?_
             unfold opS
             simp only [hd,hlt,hop,wop,ht,hte,cnt,hok,QT,we hfr]
             rfl
           . cases h'
         . cases h'
       . cases h'
     . rename_i t len i x hop
       unfold bsC at h'
       split at h'
       . rename_i e g1 g2 g3 g4 ht
         split at h'
         . rename_i ty k n hte
           split at h'
           . rename_i hok
             injection h' with h'
             subst h'
             have hfr:has G.tb (rid d 0 0)=false:=hf (rid d 0 0) (.osl [[.fz (.int k n)]]) List.mem_cons_self
             rw [Bool.and_eq_true] at hok
             obtain ⟨hok,hb⟩:=hok
             rw [Bool.and_eq_true] at hb
             obtain ⟨hi,hs1⟩:=hb
             have hev:ev G (.const (.int k n))=.v (false,[.fz (.int k n)]):=rfl
             refine qY.of_opS hT (ora:=fun _ _=>none) (fun _ _ _ h=>by cases h) (kn:=false) ?_
             unfold opS
             simp only [hd,hlt,hop,wop,ht,hte,cnt,hok,QT,hi,hev,hs1,jl,idA,ZF,we hfr]
             rfl
           . cases h'
         . cases h'
       . cases h'
     . rename_i t l c hop
       unfold mkC at h'
       split at h'
       . rename_i e g1 g2 g3 g4 ht
         split at h'
         . rename_i ty k1 n k2 m hte
           split at h'
           . rename_i hok
             split at h'
             . rename_i ys hys
               injection h' with h'
               subst h'
               have hfr:has G.tb (rid d 0 0)=false:=hf (rid d 0 0) (.osl ys) List.mem_cons_self
               have hev1:ev1 G (.const (.int k1 n))=.fz (.int k1 n):=rfl
               have hev2:ev1 G (.const (.int k2 m))=.fz (.int k2 m):=rfl
               refine qY.of_opS hT (ora:=fun _ _=>none) (fun _ _ _ h=>by cases h) (kn:=false) ?_
               unfold opS
               simp only [hd,hlt,hop,wop,ht,hte,hev1,hev2,hok,hys,we hfr]
               rfl
             . cases h'
           . cases h'
         . cases h'
       . cases h'
     . rename_i x y t t' hop
       unfold apK at h'
       split at h'
       . rename_i e g1 g2 g3 g4 htt ht
         obtain rfl:=Nat.eq_of_beq_eq_true htt
         split at h'
         . rename_i ty hte
           split at h'
           . rename_i ys hb hy
             split at h'
             . rename_i hok
               injection h' with h'
               subst h'
               have hfr:has G.tb (rid d 0 0)=false:=hf (rid d 0 0) (.osl ys) List.mem_cons_self
               refine qY.of_made hd hlt (fun J a w σ hF hdm=>?_)
               letI:=J
               exact qdv hT hF hdm ht hte hfr hb hy hok hop
             . cases h'
           . cases h'
         . cases h'
       . cases h'
     . cases h'
   . cases h'
end
end Go.Proofs.YtececadpjelanaaGreat.Ai
namespace Go.Proofs.YtececadpjelanaaGreat.Ai
open Go Go.RowKit
variable [qh]
section
variable {P:Program} {all:List Oper} {anc:Nat->Nat->Prop} {F:Fr} {its:List It} {Fs:Nat->Fr} {s l:Nat}
end
end Go.Proofs.YtececadpjelanaaGreat.Ai
namespace Go.Proofs.YtececadpjelanaaGreat.Ai
open Go Go.RowKit
variable [qh]
structure YI (all:List Oper)(s:Nat)(ls:List Nat)(anc:Nat->Nat->Prop):Prop where
 s2:YJ all anc
 sl:s<all.length
 ll:∀ l∈ls,l<s
 suf:∀ i j,s<=i->i<all.length->j<i->j∉ls->anc i j
def ZV (o:Oper)(suf:List Nat):Bool:=(qS o).all fun e=>suf.all fun l=>!nq l e
def qh1 (P:Program)(all:List Oper)(Q:Nat->Fr->Prop):Nat->List Nat->Nat->Fr->Prop
 | _,[],j,F=>Q j F
 | 0,_::_,_,_=>False
 | n+1,l::r,j,F=>∀ m o,(m∈l::r\/m=j)->all[m]?=some o->ZV o (l::r)=true->∃ F',o.guard=none/\qY P F o F'/\qh1 P all Q n ((l::r).filter fun x=>!nq x m) (match nq m j with | true=>j+1 | false=>j) F'
def yW:List Nat->List (List Nat)
 | []=>[[]]
 | l::r=>yW r++(yW r).map (l::·)
theorem vN (p:Nat->Bool):∀ l:List Nat,l.filter p∈yW l
 | []=>by simp [yW]
 | l::r=>by
   have:=vN p r
   cases h:p l with
   | true=>rw [List.filter_cons_of_pos h];exact List.mem_append_right _ (List.mem_map.2 ⟨_,this,rfl⟩)
   | false=>rw [List.filter_cons_of_neg (by simp [h])];exact List.mem_append_left _ this
theorem W0:∀ {ls suf:List Nat},suf∈yW ls->∀ l∈suf,l∈ls
 | [],suf,h,l,hl=>by simp only [yW,List.mem_singleton] at h;subst h;cases hl
 | x::r,suf,h,l,hl=>by
   rcases List.mem_append.1 h with h | h
   . exact List.mem_cons_of_mem _ (W0 h l hl)
   . obtain ⟨s,hs,rfl⟩:=List.mem_map.1 h
     rcases List.mem_cons.1 hl with rfl | hl
     . exact List.mem_cons_self
     . exact List.mem_cons_of_mem _ (W0 hs l hl)
def wq (all:List Oper)(ls suf:List Nat):Bool:=ls.all fun m=>(suf.any fun l=>nq l m)||match all[m]? with | some o=>ZV o suf | none=>true
theorem ve {o:Oper}{suf:List Nat}:ZV o suf=true↔∀ e∈qS o,e∉suf:=by
 unfold ZV
 rw [List.all_eq_true]
 refine forall_congr' fun e=>forall_congr' fun _=>?_
 rw [List.all_eq_true]
 refine ⟨fun h hm=>?_,fun h l hl=>?_⟩
 . have:=h e hm
   simp [jh] at this
 . cases hq:nq l e with
   | false=>rfl
   | true=>exact absurd hl (by rw [Nat.eq_of_beq_eq_true hq];exact h)
def dOf (its:List It)(l:Nat):Nat:=match its[l]? with | some x=>x.1 | none=>0
def kJ (its:List It):List Nat->Fr->Fr
 | [],F=>F
 | l::r,F=>kJ its r (F.put (dOf its l) unT)
theorem vb (its:List It):∀ (ls:List Nat) (F:Fr),(kJ its ls F).tb=F.tb/\(kJ its ls F).n=F.n
 | [],_=>⟨rfl,rfl⟩
 | l::r,F=>by
   obtain ⟨h1,h2⟩:=vb its r (F.put (dOf its l) unT)
   exact ⟨h1,h2⟩
theorem Yk (its:List It):∀ (ls:List Nat) (F:Fr) (t:Nat),qa unT F.tm t=unT->qa unT (kJ its ls F).tm t=unT
 | [],_,_,h=>h
 | l::r,F,t,h=>Yk its r _ t (by
   show qa unT ((dOf its l,unT)::F.tm) t=unT
   rw [@qp qG]
   split
   . rfl
   . exact h)
theorem Yj (its:List It):∀ (ls:List Nat) (F:Fr) (t:Nat),(qa unT (kJ its ls F).tm t=unT/\∃ l∈ls,dOf its l=t)\/(qa unT (kJ its ls F).tm t=qa unT F.tm t/\∀ l∈ls,dOf its l≠t)
 | [],_,_=>.inr ⟨rfl,fun _ h=>by cases h⟩
 | l::r,F,t=>by
   by_cases e:dOf its l=t
   . exact .inl ⟨Yk its r _ t (by show qa unT ((dOf its l,unT)::F.tm) t=unT;rw [@qp qG,if_pos e]),l,List.mem_cons_self,e⟩
   . rcases Yj its r (F.put (dOf its l) unT) t with ⟨h1,m,h2,h3⟩ | ⟨h1,h2⟩
     . exact .inl ⟨h1,m,List.mem_cons_of_mem _ h2,h3⟩
     . refine .inr ⟨h1.trans ?_,fun m hm=>?_⟩
       . show qa unT ((dOf its l,unT)::F.tm) t=_
         rw [@qp qG,if_neg e]
       . rcases List.mem_cons.1 hm with rfl | hm
         . exact e
         . exact h2 m hm
section
variable {P:Program} {all:List Oper} {anc:Nat->Nat->Prop} {F:Fr} {its:List It} {Fs:Nat->Fr} {s:Nat} {ls:List Nat}
theorem qhG (hS:YI all s ls anc)(md:Region.Mode):∀ (m j t:Nat) (listed:Array Bool),j+m=all.length->s<j->listed.size=all.length->(∀ i d,i<all.length->listed.getD i d=decide (i<j))->Region.linearise.go md ⟨all⟩ m t listed []=List.range' j m:=by
 intro m
 induction m with
 | zero=>intro j t listed _ _ _ _;simp [Region.linearise.go]
 | succ m ih =>
   intro j t listed hj hk hsz hl
   have hjl:j<all.length:=by omega
   have hmem:∀ i,i∈Region.ready md ⟨all⟩ listed->i=j:=by
    intro i hi
    obtain ⟨h1,h2,o,ho,h3⟩:=Qs.1 hi
    rw [hl i true h1] at h2
    simp at h2
    rcases Nat.lt_or_ge j i with hlt | hge
    . exfalso
      have ha:=hS.suf i j (by omega) h1 hlt (fun hm=>by have:=hS.ll j hm;omega)
      have hdn:∀ (i:Nat) (o:Oper),all[i]?=some o->listed.getD i false=true->∀ e∈qS o,listed.getD e false=true:=by
       intro i' o' ho' hi' e he
       have hx2:=hS.s2.plain i' o' ho' e he
       have hi2:i'<all.length:=(List.getElem?_eq_some_iff.1 ho').1
       rw [hl i' false hi2] at hi'
       rw [hl e false (by omega)]
       simp at hi' ⊢
       omega
      have:=KE hS.s2 hdn i o ho (fun e he=>h3 e (QB he)) j ha
      rw [hl j false hjl] at this
      simp at this
    . omega
   have hne:Region.ready md ⟨all⟩ listed≠[]:=wh hsz hS.s2 ⟨j,hjl,by rw [hl j false hjl];simp⟩
   obtain ⟨i,hpi,hmi⟩:=Z7 hne t
   obtain rfl:=hmem i hmi
   rw [Qo,hpi]
   dsimp only
   rw [List.range'_succ]
   congr 1
   refine ih (i+1) _ _ (by omega) (by omega) (by simpa using hsz) ?_
   intro i' d hi'
   rw [zl (by omega),hl i' d hi']
   by_cases e:i'=i
   . simp [e]
   . rw [if_neg e];simp;omega
theorem qiE (hD:Dyn all s anc F its Fs){suf:List Nat}(hxr:∀ l∈suf,∀ x,its[l]?=some x->x.2.1=[]){J:qi}{σ:Gh}{w:World}{vt:Nat->Value}{G:Fr}(hI:Inv s F its (fun j=>j<s/\j∉suf) G)(hF:FR G σ w vt)(hd:Dom G σ []) :
 FR (kJ its suf (Fs s)) σ w vt/\Dom (kJ its suf (Fs s)) σ []:=by
 have hT:=zX hD s (Nat.le_refl _)
 have hlen:∀ {j:Nat} {y:It},its[j]?=some y->j<s:=fun {j y} hy=>by rw [<-hD.len];exact (List.getElem?_eq_some_iff.1 hy).1
 have hdo:∀ {l:Nat} {y:It},its[l]?=some y->dOf its l=y.1:=fun {l y} hy=>by unfold dOf;rw [hy]
 have htm:∀ t,(∀ l∈suf,dOf its l≠t)->qa unT (Fs s).tm t=qa unT G.tm t:=by
  intro t ht
  by_cases hj:∃ (j:Nat) (y:It),its[j]?=some y/\y.1=t
  . obtain ⟨j,y,hy,rfl⟩:=hj
    have hjl:j∉suf:=fun h=>ht j h (hdo hy)
    rw [hT.tm1 j y hy (hlen hy),hI.tm1 j y hy ⟨hlen hy,hjl⟩]
  . rw [hT.tm2 t (fun j y hy _ e=>hj ⟨j,y,hy,e⟩),hI.tm2 t (fun j y hy _ e=>hj ⟨j,y,hy,e⟩)]
 have htb:∀ id,qa .un (Fs s).tb id=qa .un G.tb id:=by
  intro id
  by_cases hj:∃ (j:Nat) (y:It),its[j]?=some y/\has y.2.1.reverse id=true
  . obtain ⟨j,y,hy,hh⟩:=hj
    have hjl:j∉suf:=fun h=>by rw [hxr j h y hy] at hh;simp [has] at hh
    rw [hT.tb1 j y hy (hlen hy) id hh,hI.tb1 j y hy ⟨hlen hy,hjl⟩ id hh]
  . have hno:∀ (j:Nat) (y:It),its[j]?=some y->has y.2.1.reverse id=false:=by
     intro j y hy
     cases hh:has y.2.1.reverse id with
     | false=>rfl
     | true=>exact absurd ⟨j,y,hy,hh⟩ hj
    rw [(hT.tb2 id (fun j y hy _=>hno j y hy)).1,(hI.tb2 id (fun j y hy _=>hno j y hy)).1]
 obtain ⟨g1,g2⟩:=vb its suf (Fs s)
 refine ⟨⟨hF.inj,hF.lt,hF.old,fun id=>?_,fun t=>?_⟩,fun g x hg=>?_⟩
 . show ∃ v,qo w σ (id,[]) (qa .un (kJ its suf (Fs s)).tb id) v
   rw [g1,htb];exact hF.tb id
 . rcases Yj its suf (Fs s) t with ⟨h1,_⟩ | ⟨h1,h2⟩
   . rw [h1];exact qj.un _
   . rw [h1,htm t h2];exact hF.tm t
 . rcases hd g x hg with h1 | h1
   . left
     have:(kJ its suf (Fs s)).at std x.p=G.at std x.p:=by
      show O.at std (qa .un (kJ its suf (Fs s)).tb x.p.1) x.p.2=O.at std (qa .un G.tb x.p.1) x.p.2
      rw [g1,htb]
     rw [this]
     exact h1
   . exact .inr h1
theorem V7 (o:Oper)(y:Nat->Option Bool)(h:o.guard=none):Region.wanted o y=true:=by unfold Region.wanted;rw [h]
theorem WP {all:List Oper}{L:Array Bool}{n i:Nat}(hL:L.size=all.length)(hi:i<all.length)(h0:L.getD i false=false)(hn:n+1=kU all.length (fun j=>L.getD j false)):n=kU all.length (fun j=>(L.setIfInBounds i true).getD j false):=by
 have h1:=Qh (f:=fun j=>L.getD j false) all.length hi h0
 have h2:kU all.length (fun j=>(L.setIfInBounds i true).getD j false)=kU all.length (fun j=>if j=i then true else L.getD j false) :=
  zw _ (fun j _=>zl (by omega) _)
 omega
theorem YK (md:Region.Mode)(hS:YI all s ls anc){Q:Nat->Fr->Prop}(b:Frame)(ks:List Item)(cs:List Frame)(j:Nat)(hsj:s<j)(hjl:j<=all.length)(fuel t:Nat)(listed:Array Bool)(G:Fr){J:qi}(a:Act)(w:World)(σ:Gh)(hsz:listed.size=all.length)(hfu:fuel=kU all.length (fun i=>listed.getD i false))
 (hch:∀ i,i<all.length->(listed.getD i false=true↔i<j/\i∉([]:List Nat))) (hC:Q j G) (hF:FR G σ w (qC a)) (hd:Dom G σ []) :
 ∃ a' w' σ' j' Fe,(s<j'/\j'<=all.length)/\Q j' Fe/\Steps P (lone (b.at a (.inRegion ⟨all⟩ (Region.linearise.go md ⟨all⟩ fuel t listed [])::ks)) cs w) (lone (b.at a' (.inRegion ⟨all⟩ (List.range' j' (all.length-j'))::ks)) cs w') ∧
  FR Fe σ' w' (qC a')/\Dom Fe σ' []/\qF w σ w' σ'/\a'.defers=a.defers/\a'.tmps.size=a.tmps.size/\Fe.n=G.n:=by
 have hL:∀ i d,i<all.length->listed.getD i d=decide (i<j):=by
  intro i d hi
  have hd':listed.getD i d=listed.getD i false:=by
   simp only [Array.getD_eq_getD_getElem?,Array.getElem?_eq_getElem (show i<listed.size by omega),Option.getD_some]
  rw [hd',Bool.eq_iff_iff,hch i hi]
  simp
 have hfl:fuel=all.length-j:=by
  rw [hfu,zw (g:=fun i=>decide (i<j)) _ (fun i hi=>hL i false hi),Ku _ _ hjl]
 rw [qhG hS md fuel j _ _ (by omega) (by omega) hsz hL,hfl]
 exact ⟨a,w,σ,j,G,⟨hsj,hjl⟩,hC,.refl _ _,hF,hd,qF.refl _ _,rfl,rfl,rfl⟩
theorem qjl (md:Region.Mode)(hS:YI all s ls anc){Q:Nat->Fr->Prop}{J:qi}(hfut:J.fut=qh.fut)(b:Frame)(ks:List Item)(cs:List Frame) :
 ∀ (n:Nat) (suf:List Nat) (j:Nat),(∀ l∈suf,l∈ls)->s<j->j<=all.length->∀ (fuel t:Nat) (listed:Array Bool) (G:Fr) (a:Act) (w:World) (σ:Gh),listed.size=all.length->fuel=kU all.length (fun i=>listed.getD i false) →
  (∀ i,i<all.length->(listed.getD i false=true↔i<j/\i∉suf))->(∀ (i:Nat) (o:Oper),all[i]?=some o->listed.getD i false=true->∀ e∈qS o,listed.getD e false=true) →
  qh1 P all Q n suf j G->FR G σ w (qC a)->Dom G σ []->G.n<=a.tmps.size →
  ∃ a' w' σ' j' Fe,(s<j'/\j'<=all.length)/\Q j' Fe/\Steps P (lone (b.at a (.inRegion ⟨all⟩ (Region.linearise.go md ⟨all⟩ fuel t listed [])::ks)) cs w) (lone (b.at a' (.inRegion ⟨all⟩ (List.range' j' (all.length-j'))::ks)) cs w') ∧
   FR Fe σ' w' (qC a')/\Dom Fe σ' []/\qF w σ w' σ'/\a'.defers=a.defers/\a'.tmps.size=a.tmps.size/\Fe.n=G.n:=by
 intro n
 induction n with
 | zero =>
   intro suf j hsu hsj hjl fuel t listed G a w σ hsz hfu hch hdn hC hF hd hn
   cases suf with
   | nil=>exact YK md hS b ks cs j hsj hjl fuel t listed G a w σ hsz hfu hch hC hF hd
   | cons l r=>exact hC.elim
 | succ n ih =>
   intro suf j hsu hsj hjl fuel t listed G a w σ hsz hfu hch hdn hC hF hd hn
   cases suf with
   | nil=>exact YK md hS b ks cs j hsj hjl fuel t listed G a w σ hsz hfu hch hC hF hd
   | cons l r =>
     have hll:l<s:=hS.ll l (hsu l List.mem_cons_self)
     have hsl:=hS.sl
     have hlal:l<all.length:=by omega
     have hl0:listed.getD l false=false:=by
      cases h:listed.getD l false with
      | false=>rfl
      | true=>exact absurd List.mem_cons_self ((hch l hlal).1 h).2
     obtain ⟨fuel1,rfl⟩:∃ f,fuel=f+1:=by
      have:=Qh (f:=fun j=>listed.getD j false) all.length hlal hl0
      exact ⟨fuel-1,by omega⟩
     have hne:Region.ready md ⟨all⟩ listed≠[]:=wh hsz hS.s2 ⟨l,hlal,hl0⟩
     obtain ⟨m,hpm,hmm⟩:=Z7 hne t
     obtain ⟨hm1,hm2,o,ho,hed'⟩:=Qs.1 hmm
     have hm2:listed.getD m false=false:=by
      have:listed.getD m true=listed.getD m false:=by
       simp only [Array.getD_eq_getD_getElem?,Array.getElem?_eq_getElem (show m<listed.size by omega),Option.getD_some]
      rw [<-this];exact hm2
     have hedP:∀ e∈qS o,listed.getD e false=true:=fun e he=>hed' e (QB he)
     have hfree:ZV o (l::r)=true:=ve.2 fun e he hm=>by
      have h1:=hedP e he
      have h2:e<all.length:=by have:=hS.ll e (hsu e hm);omega
      exact ((hch e h2).1 h1).2 hm
     have hml:m∈l::r\/m=j:=by
      rcases Nat.lt_or_ge m j with h | h
      . refine .inl ?_
        by_cases hin:m∈l::r
        . exact hin
        . rw [(hch m hm1).2 ⟨h,hin⟩] at hm2;cases hm2
      . rcases Nat.lt_or_eq_of_le h with h | h
        . exfalso
          have hjs:j∉ls:=fun hm=>by have:=hS.ll j hm;omega
          have ha:=hS.suf m j (by omega) hm1 h hjs
          have:=KE hS.s2 hdn m o ho hedP j ha
          have:=(hch j (by omega)).1 this
          omega
        . exact .inr h.symm
     obtain ⟨F',hg,hop,hC⟩:=hC m o hml ho hfree
     rw [Qo,hpm]
     dsimp only
     have hoa:(⟨all⟩:Array Oper)[m]?=some o:=by simpa using ho
     obtain ⟨a1,w1,σ1,k1,k2,k3,k4,k5,k6,k7⟩:=hop J a w σ hfut hF hd hn b ks cs ⟨all⟩ m (Region.linearise.go md ⟨all⟩ fuel1 (t / (Region.ready md ⟨all⟩ listed).length) (listed.setIfInBounds m true) []) hoa (V7 _ _ hg)
     have hmem:∀ i,i∈((l::r).filter fun x=>!nq x m)↔i∈l::r/\i≠m:=fun i=>by
      rw [List.mem_filter]
      refine and_congr_right fun _=>?_
      cases hq:nq i m with
      | true=>have:=Nat.eq_of_beq_eq_true hq;simp [this]
      | false=>simp only [Bool.not_false,true_iff];intro e;rw [e,jh] at hq;cases hq
     have hj':∃ j2,(match nq m j with | true=>j+1 | false=>j)=j2/\s<j2/\j2<=all.length/\∀ i,i<all.length->i≠m->((i<j2/\i∉(l::r).filter fun x=>!nq x m)↔(i<j/\i∉l::r)):=by
      rcases hml with h | h
      . have hmj:m<j:=by have:=hS.ll m (hsu m h);omega
        have hq:nq m j=false:=by
         cases hq:nq m j with
         | false=>rfl
         | true=>have:=Nat.eq_of_beq_eq_true hq;omega
        refine ⟨j,by rw [hq],hsj,hjl,fun i _ hne=>?_⟩
        rw [hmem]
        simp [hne]
      . refine ⟨j+1,by rw [h,jh],by omega,by omega,fun i _ hne=>?_⟩
        rw [hmem]
        constructor
        . rintro ⟨h1,h2⟩;exact ⟨by omega,fun h3=>h2 ⟨h3,hne⟩⟩
        . rintro ⟨h1,h2⟩;exact ⟨by omega,fun h3=>h2 h3.1⟩
     obtain ⟨j2,hj2,hs2,hl2,hi2⟩:=hj'
     rw [hj2] at hC
     have hmj2:m<j2:=by
      rcases hml with h | h
      . have:=hS.ll m (hsu m h);omega
      . have:j+1=j2:=by rw [<-hj2,h,jh]
        omega
     obtain ⟨a2,w2,σ2,j',Fe,jj,j0,j1,j2,j3,j4,j5,j6,j7⟩:=ih _ _ (fun x hx=>hsu x ((hmem x).1 hx).1) hs2 hl2 fuel1 (t / (Region.ready md ⟨all⟩ listed).length) (listed.setIfInBounds m true) F' a1 w1 σ1 (by simpa using hsz) (WP hsz hm1 hm2 hfu)
      (by
        intro i hi
        rw [zl (by omega)]
        by_cases e:i=m
        . rw [if_pos e,e]
          exact ⟨fun _=>⟨hmj2,fun h=>((hmem m).1 h).2 rfl⟩,fun _=>rfl⟩
        . rw [if_neg e,hch i hi,hi2 i hi e])
      (by
        intro j o' ho' hj e he
        rw [zl (by omega)] at hj ⊢
        split
        . rfl
        . split at hj
          . rename_i hji
            subst hji
            rw [ho] at ho'
            injection ho' with ho'
            subst ho'
            exact hedP e he
          . exact hdn j o' ho' hj e he) hC k2 k3 (by rw [k5,k7];exact hn)
     exact ⟨a2,w2,σ2,j',Fe,jj,j0,k1.trans j1,j2,j3,k4.trans j4,j5.trans k6,j6.trans k7,j7.trans k5⟩
theorem qhH (md:Region.Mode)(hS:YI all s ls anc)(hD:Dyn all s anc F its Fs)(hA:∀ (i:Nat) (o:Oper) (x:It),all[i]?=some o->its[i]?=some x->z7 P ⟨all⟩ (Fs i) o x)
 {os:Oper} (hos:all[s]?=some os) (hgs:os.guard=none) (hxr:∀ l∈ls,∀ x,its[l]?=some x->x.2.1=[]) {Q:Nat->Fr->Prop} {n0:Nat}
 (hV:∀ suf∈yW ls,wq all ls suf=true->ZV os suf=true->∃ FB,qY P (kJ its suf (Fs s)) os FB/\qh1 P all Q n0 suf (s+1) FB) {J:qi} (hfut:J.fut=qh.fut) (b:Frame) (ks:List Item) (cs:List Frame) :
 ∀ (fuel t:Nat) (listed:Array Bool) (G:Fr) (a:Act) (w:World) (σ:Gh),listed.size=all.length->fuel=kU all.length (fun i=>listed.getD i false)->(∀ i,s<=i->listed.getD i false=false) →
  (∀ (i:Nat) (o:Oper),all[i]?=some o->listed.getD i false=true->∀ e∈qS o,listed.getD e false=true)->Inv s F its (fun j=>j<s/\listed.getD j false=true) G->FR G σ w (qC a)->Dom G σ []->G.n<=a.tmps.size →
  ∃ a' w' σ' j' Fe,(s<j'/\j'<=all.length)/\Q j' Fe/\Steps P (lone (b.at a (.inRegion ⟨all⟩ (Region.linearise.go md ⟨all⟩ fuel t listed [])::ks)) cs w) (lone (b.at a' (.inRegion ⟨all⟩ (List.range' j' (all.length-j'))::ks)) cs w') ∧
   FR Fe σ' w' (qC a')/\Dom Fe σ' []/\qF w σ w' σ'/\a'.defers=a.defers/\a'.tmps.size=a.tmps.size/\Fe.n=F.n:=by
 intro fuel
 induction fuel with
 | zero =>
   intro t listed G a w σ hsz hfu hsuf hdn hI hF hd hn
   have:=Qh (f:=fun i=>listed.getD i false) all.length hS.sl (hsuf s (Nat.le_refl _))
   omega
 | succ fuel ih =>
   intro t listed G a w σ hsz hfu hsuf hdn hI hF hd hn
   have hgd:∀ i,i<all.length->listed.getD i true=listed.getD i false:=by
    intro i hi
    simp only [Array.getD_eq_getD_getElem?,Array.getElem?_eq_getElem (show i<listed.size by omega),Option.getD_some]
   have hne:Region.ready md ⟨all⟩ listed≠[]:=wh hsz hS.s2 ⟨s,hS.sl,hsuf s (Nat.le_refl _)⟩
   obtain ⟨i,hpi,hmi⟩:=Z7 hne t
   obtain ⟨hil,hiu,o,ho,hed⟩:=Qs.1 hmi
   rw [hgd i hil] at hiu
   have hedP:∀ e∈qS o,listed.getD e false=true:=fun e he=>hed e (QB he)
   have hanc:=KE hS.s2 hdn i o ho hedP
   have hdn1:∀ (j:Nat) (o':Oper),all[j]?=some o'->(listed.setIfInBounds i true).getD j false=true->∀ e∈qS o',(listed.setIfInBounds i true).getD e false=true:=by
    intro j o' ho' hj e he
    rw [zl (by omega)] at hj ⊢
    split
    . rfl
    . split at hj
      . rename_i hji
        subst hji
        rw [ho] at ho'
        injection ho' with ho'
        subst ho'
        exact hedP e he
      . exact hdn j o' ho' hj e he
   rcases Nat.lt_trichotomy i s with hlt | rfl | hgt
   ·
    obtain ⟨itx,hix⟩:∃ x,its[i]?=some x:=⟨its[i]'(by rw [hD.len];exact hlt),List.getElem?_eq_getElem _⟩
    have hancE:∀ j,anc i j->j<s/\listed.getD j false=true:=by
     intro j hj
     have h1:=hanc j hj
     refine ⟨?_,h1⟩
     rcases Nat.lt_or_ge j s with h | h
     . exact h
     . rw [hsuf j h] at h1;cases h1
    have hag:=yn hD hI hlt ho hancE
    have hnE:¬(i<s/\listed.getD i false=true):=by rw [hiu];simp
    have hfr:=Vd hD hI hix hnE
    have hGn:G.n=(Fs i).n:=by rw [hI.n,(zX hD i (Nat.le_of_lt hlt)).n]
    have hst:=hA i o _ ho hix G hGn hag hfr
    have hI':=hI.step hD hix hnE
    have hE:(fun j=>j=i\/j<s/\listed.getD j false=true)=(fun j=>j<s/\(listed.setIfInBounds i true).getD j false=true):=by
     funext j
     rw [zl (by omega)]
     refine propext ⟨?_,?_⟩
     . rintro (rfl | ⟨h1,h2⟩)
       . exact ⟨hlt,by simp⟩
       . refine ⟨h1,?_⟩
         split
         . rfl
         . exact h2
     . rintro ⟨h1,h2⟩
       split at h2
       . exact .inl (by assumption)
       . exact .inr ⟨h1,h2⟩
    rw [hE] at hI'
    have hrest:=fun a1 w1 σ1=>ih (t / (Region.ready md ⟨all⟩ listed).length) (listed.setIfInBounds i true) (G.ap itx) a1 w1 σ1 (by simpa using hsz) (WP hsz hil hiu hfu)
     (by intro j hj;rw [zl (by omega),if_neg (by omega)];exact hsuf j hj) hdn1 hI'
    rw [Qo,hpi]
    dsimp only
    have hoa:(⟨all⟩:Array Oper)[i]?=some o:=by simpa using ho
    rcases hst with ⟨hw,hop⟩ | ⟨hw,hsk⟩
    . obtain ⟨a1,w1,σ1,k1,k2,k3,k4,k5,k6,k7⟩:=hop J a w σ hfut hF hd hn b ks cs ⟨all⟩ i _ hoa (hw.sound hF)
      obtain ⟨a',w',σ',j',Fe,mm,m0,m1,m2,m3,m4,m5,m6,m7⟩:=hrest a1 w1 σ1 k2 k3 (by omega)
      exact ⟨a',w',σ',j',Fe,mm,m0,k1.trans m1,m2,m3,k4.trans m4,m5.trans k6,m6.trans k7,m7⟩
    . obtain ⟨g1,g2,g3⟩:=Ze hF hd o
      have hs:=step_op_skip (P:=P) (b:=b) (a:=a) (k:=ks) (cs:=cs) (w:=w) (ops:=⟨all⟩) (i:=i) (rest:=Region.linearise.go md ⟨all⟩ fuel (t / (Region.ready md ⟨all⟩ listed).length) (listed.setIfInBounds i true) []) (by rw [hoa];simpa using hw.sound hF)
      rw [hoa] at hs
      simp only [Option.bind_some] at hs
      rw [<-hsk] at g1 g2 g3
      obtain ⟨a',w',σ',j',Fe,mm,m0,m1,m2,m3,m4,m5,m6,m7⟩:=hrest _ w σ g1 g2 (by rw [g3,zn];exact hn)
      exact ⟨a',w',σ',j',Fe,mm,m0,.head hs m1,m2,m3,m4,m5.trans (zL _ _),m6.trans (zn _ _),m7⟩
   ·
    rw [hos] at ho
    injection ho with ho
    subst ho
    have hbut:∀ j,j<i->j∉ls->listed.getD j false=true:=fun j hj hjl=>hanc j (hS.suf i j (Nat.le_refl _) hil hj hjl)
    have hoa:(⟨all⟩:Array Oper)[i]?=some os:=by simpa using hos
    rw [Qo,hpi]
    dsimp only
    have hTn:=(zX hD i (Nat.le_refl _)).n
    obtain ⟨suf,hsuf'⟩:∃ suf,suf=ls.filter fun l=>!listed.getD l false:=⟨_,rfl⟩
    have hms:∀ l,l∈suf↔l∈ls/\listed.getD l false=false:=fun l=>by rw [hsuf',List.mem_filter];simp
    have hsub:∀ l∈suf,l∈ls:=fun l hl=>((hms l).1 hl).1
    have hclo:wq all ls suf=true:=by
     unfold wq
     rw [List.all_eq_true]
     intro m hm
     cases hlm:listed.getD m false with
     | false =>
       have:(suf.any fun l=>nq l m)=true:=List.any_eq_true.2 ⟨m,(hms m).2 ⟨hm,hlm⟩,jh m⟩
       rw [this];rfl
     | true =>
       rw [Bool.or_eq_true]
       refine .inr ?_
       have hml:m<all.length:=by have:=hS.ll m hm;omega
       have hmo:all[m]?=some all[m]:=List.getElem?_eq_getElem hml
       rw [hmo]
       exact ve.2 fun e he hme=>by
        have:=hdn m _ hmo hlm e he
        rw [((hms e).1 hme).2] at this
        cases this
    have hfro:ZV os suf=true:=ve.2 fun e he hme=>by
     have:=hedP e he
     rw [((hms e).1 hme).2] at this
     cases this
    obtain ⟨FB,hB,hC⟩:=hV suf (by rw [hsuf'];exact vN _ _) hclo hfro
    have hiff:∀ j,j<i->(listed.getD j false=true↔j∉suf):=by
     intro j hj
     refine ⟨(fun h hm=>by rw [((hms j).1 hm).2] at h;cases h),fun h=>?_⟩
     by_cases hjl:j∈ls
     . cases hlj:listed.getD j false with
       | true=>rfl
       | false=>exact absurd ((hms j).2 ⟨hjl,hlj⟩) h
     . exact hbut j hj hjl
    have he:(fun j=>j<i/\listed.getD j false=true)=(fun j=>j<i/\j∉suf):=by
     funext j
     refine propext ⟨fun h=>⟨h.1,(hiff j h.1).1 h.2⟩,fun h=>⟨h.1,(hiff j h.1).2 h.2⟩⟩
    rw [he] at hI
    obtain ⟨h1,h2⟩:=qiE hD (fun l hl=>hxr l (hsub l hl)) hI hF hd
    have hfn:=(vb its suf (Fs i)).2
    obtain ⟨a1,w1,σ1,k1,k2,k3,k4,k5,k6,k7⟩:=hB J a w σ hfut h1 h2 (by rw [hfn,hTn,<-hI.n];exact hn) b ks cs ⟨all⟩ i (Region.linearise.go md ⟨all⟩ fuel (t / (Region.ready md ⟨all⟩ listed).length) (listed.setIfInBounds i true) []) hoa (V7 _ _ hgs)
    obtain ⟨a2,w2,σ2,j',Fe,jj,j0,j1,j2,j3,j4,j5,j6,j7⟩:=qjl (P:=P) md hS hfut b ks cs n0 suf (i+1) hsub (Nat.lt_succ_self _) hil fuel (t / (Region.ready md ⟨all⟩ listed).length) (listed.setIfInBounds i true) FB a1 w1 σ1 (by simpa using hsz) (WP hsz hil hiu hfu)
     (by
       intro j hj
       rw [zl (by omega)]
       by_cases e:j=i
       . rw [if_pos e,e]
         exact ⟨fun _=>⟨by omega,fun h=>absurd (hS.ll i (hsub i h)) (Nat.lt_irrefl _)⟩,fun _=>rfl⟩
       . rw [if_neg e]
         rcases Nat.lt_or_ge j i with h | h
         . rw [hiff j h]
           exact ⟨fun h3=>⟨by omega,h3⟩,fun h3=>h3.2⟩
         . rw [hsuf j h]
           exact ⟨(fun h3=>by cases h3),(fun h3=>by omega)⟩) hdn1 hC k2 k3 (by rw [k5,k7,hfn,hTn,<-hI.n];exact hn)
    exact ⟨a2,w2,σ2,j',Fe,jj,j0,k1.trans j1,j2,j3,k4.trans j4,j5.trans k6,j6.trans k7,j7.trans (k5.trans (hfn.trans hTn))⟩
   ·
    have h1:=hanc s (hS.suf i s (by omega) hil hgt (fun hm=>by have:=hS.ll s hm;omega))
    rw [hsuf s (Nat.le_refl _)] at h1
    cases h1
theorem Ex.draw4 [za] {ks:List K}{Post:Fr->Prop}{id:Nat}(hS:YI all s ls anc)(hD:Dyn all s anc F its Fs)(hA:∀ (i:Nat) (o:Oper) (x:It),all[i]?=some o->its[i]?=some x->z7 P ⟨all⟩ (Fs i) o x)
 {os:Oper} (hos:all[s]?=some os) (hgs:os.guard=none) (hxr:∀ l∈ls,∀ x,its[l]?=some x->x.2.1=[])
 {n0:Nat} (hV:∀ suf∈yW ls,wq all ls suf=true->ZV os suf=true->∃ FB,qY P (kJ its suf (Fs s)) os FB/\qh1 P all (fun j G=>Ex P (.r ⟨all⟩ (all.drop j)::ks) G Post) n0 suf (s+1) FB):Ex P (.c (.region id ⟨all⟩ true)::ks) F Post:=by
 intro J a w σ hfut hok hF hd hnf hn its' hi b cs
 obtain rfl:=ze (by intro b;simp) hi
 have hstep:=step_region_draw (P:=P) (b:=b) (a:=a) (k:=ks.map qP) (cs:=cs) (w:=w) (ops:=⟨all⟩) (id:=id)
 obtain ⟨md,t,hsch⟩:∃ md t,Region.schedule (P.follows .mixedOrders) ⟨all⟩ (w.tape w.drawn (.order b.fn id))=Region.linearise.go md ⟨all⟩ all.length t (Array.replicate all.length false) []:=by
  unfold Region.schedule
  split
  . exact ⟨.any,_,rfl⟩
  . exact ⟨_,_,rfl⟩
 rw [hsch] at hstep
 have hrep:∀ (i:Nat) (d:Bool),(Array.replicate all.length false).getD i false=false:=by
  intro i _
  simp only [Array.getD_eq_getD_getElem?,Array.getElem?_replicate]
  split<;>rfl
 have hF':FR F σ { w with drawn:=w.drawn+1 } (qC a):=hF.drawn _
 obtain ⟨a1,w1,σ1,j,Fe,⟨kk0,kk⟩,k0,k1,k2,k3,k4,k5,k6,k7⟩:=qhH md hS hD hA hos hgs hxr hV hfut b (ks.map qP) cs all.length t (Array.replicate all.length false) F a { w with drawn:=w.drawn+1 } σ (by simp)
  (by
    rw [zw (g:=fun i=>decide (i<0)) _ (fun i _=>by rw [hrep i false];simp)]
    rw [Ku _ _ (Nat.zero_le _)]
    simp)
  (fun i _=>hrep i false) (fun i o _ hi=>by rw [hrep i false] at hi;cases hi)
  (by
    have he:(fun j=>j<s/\(Array.replicate all.length false).getD j false=true)=(fun _=>False):=by
     funext j;rw [hrep j false];simp
    rw [he]
    exact Inv.start) hF' hd hn
 have hgo:qF w σ w1 σ1:=(qF.drawn w σ _).trans k4
 have hsl:=hS.sl
 have hokr:okK (.r ⟨all⟩ (all.drop j)):=by
  refine ⟨by simp,?_⟩
  simp only [List.length_drop]
  rw [show (⟨all⟩:Array Oper).size-(all.length-j)=j by simp;omega]
 have hit:(K.r ⟨all⟩ (all.drop j)::ks).map qP=.inRegion ⟨all⟩ (List.range' j (all.length-j))::ks.map qP:=by
  simp only [List.map_cons,qP,List.length_drop]
  rw [show (⟨all⟩:Array Oper).size-(all.length-j)=j by simp;omega]
 obtain ⟨F',a',w',σ',todo,m0,m1,m2,m3,m4,m5,m6,m7⟩:=k0 J a1 w1 σ1 hfut (zm hokr (zg hok)) k2 k3 (hnf.step hF.old hgo) (by omega) _ (.inl rfl) b cs
 rw [hit] at m1
 exact ⟨F',a',w',σ',todo,m0,.head hstep (k1.trans m1),m2,m3,hgo.trans m4,m5.trans k7,m6.trans k5,m7.trans k6⟩
end
end Go.Proofs.YtececadpjelanaaGreat.Ai
namespace Go.Proofs.YtececadpjelanaaGreat.Ai
open Go Go.RowKit
variable [qh]
section
variable {P:Program} {T:Nat->Option Ty} {F:Fr}
theorem JJ {g:Zz}{es:Array MapEntry}{c:Nat}(h:kW g (.map es c)):∀ x∈es.toList,MapKept.IsKey .string x.key:=by
 intro x hx
 obtain ⟨k,h1,_⟩:=h x hx
 rw [h1]
 trivial
theorem qcM {g:Zz}{o:Obj}(h:kW g o):∃ es c,o=.map es c:=by
 cases o<;>first | exact h.elim | exact ⟨_,_,rfl⟩
theorem qY.of_makeMap {o:Oper}{d:Nat}(hdst:o.dst=some d)(hlt:zt F.n d=true){t:TypeId}(ho:o.op=.makeMap t none){g:Zz}(hg:qh.fut=some g):qY P F o (F.put d (.v (false,[.fz (.mp g)]))):=by
 refine qY.of_madeF hdst hlt fun J a w σ hfut hF hd=>?_
 letI:=J
 obtain ⟨h1,h2⟩:=Zp hF (.map #[] 0)
 have hfree:jE σ w.heap.size:=⟨by
  cases hs:σ w.heap.size with
  | none=>rfl
  | some y=>exact absurd (hF.lt _ _ hs) (Nat.lt_irrefl _),fun hJ=>absurd (hF.old.lt _ hJ) (Nat.lt_irrefl _)⟩
 have hm:qi.memo w.heap.size=some g:=by
  unfold qi.memo
  rw [if_neg (by have:=hF.old.lo;omega)]
  exact hfut.trans hg
 have hgood:kW g (.map #[] 0):=fun e he=>by simp at he
 have hrep:qr (w.alloc (.map #[] 0)) σ (.mp g) (.map (some w.heap.size)) :=
  .mp g w.heap.size (.map #[] 0) hm (heap_alloc_new _ _) hgood hfree
 refine ⟨.map (some w.heap.size),w.alloc (.map #[] 0),σ,?_,h1.put (qj.fz _ _ hrep),hd.put' d _,h2,rfl⟩
 simp [execOp,ho,Instr.makeMap,Result.andThen]
theorem qY.of_nilCheck {o:Oper}{d:Nat}(hdst:o.dst=some d)(hlt:zt F.n d=true){x:Operand}(ho:o.op=.nilCheck x){cs:List C}(hx:ev1 F x=.fz (.ptr cs)):qY P F o (F.put d (.v (false,[.fz (.ptr cs)]))):=by
 refine qY.of_made hdst hlt fun J a w σ hF hd=>?_
 letI:=J
 have hv:=qt hF x
 rw [hx] at hv
 obtain ⟨ad,hae⟩:∃ ad,a.eval x=.pointer (some ad):=by
  generalize a.eval x=v at hv
  cases hv.fz_inv
  exact ⟨_,rfl⟩
 rw [hae] at hv
 exact ⟨a.eval x,w,σ,by simp [execOp,ho,hae],hF.put (by rw [hae];exact hv),hd.put' d _,qF.refl w σ,rfl⟩
theorem z7.of_nil {all:Array Oper}{o:Oper}{d:Nat}(hw:zV F all o true)(hd:o.dst=some d)(hlt:zt F.n d=true){x:Operand}(hop:o.op=.nilCheck x){cs:List C}(hx:ev1 F x=.fz (.ptr cs)):z7 P all F o (d,[],.v (false,[.fz (.ptr cs)])):=by
 intro G hn ha hf
 refine .inl ⟨Z3 hw ha,?_⟩
 have h':ev1 G x=.fz (.ptr cs):=(zT ha (fun t ht=>by simp [lkT,hop,opL,ht])).1.trans hx
 exact qY.of_nilCheck hd (by rw [hn];exact hlt) hop h'
theorem qjR [qi] {w:World}{σ:Gh}{g:Zz}{v:Value}(h:qr w σ (.mp g) v):∃ b es c,v=.map (some b)/\qi.memo b=some g/\w.heap[b]?=some (.map es c)/\kW g (.map es c)/\jE σ b:=by
 cases h with
 | mp _ b o hg hh ho hn =>
   obtain ⟨es,c,rfl⟩:=qcM ho
   exact ⟨b,es,c,rfl,hg,hh,ho,hn⟩
theorem Ex.op_look [za] {ks:List K}{Post:Fr->Prop}{all:Array Oper}{o:Oper}{l:List Oper}{d t kt et:Nat}{ty tk te:Ty}{x ix:Operand}(hT:ka P T)(ht:T t=some ty)(htk:ty.kind=.mp kt et)(hk:T kt=some tk)(hkk:tk.kind=.str)(he:T et=some te)
 (hw:zV F all o true) (hd:o.dst=some d) (hlt:zt F.n d=true) (hop:o.op=.lookup t x ix true) {g:Zz} {s:ByteArray} (hx:ev1 F x=.fz (.mp g)) (hi:ev1 F ix=.fz (.str s))
 (hy:Ex P (.r all l::ks) (F.put d (.tup [(false,[.fz (.bool (g s))]),(false,[.fz (.bool true)])])) Post) (hno:Ex P (.r all l::ks) (F.put d (.tup [(false,[.un]),(false,[.fz (.bool false)])])) Post):Ex P (.r all (o::l)::ks) F Post:=by
 intro J a w σ hfut hok hF hdm hnf hn its hi' b cs
 letI:=J
 obtain rfl:=ze (by intro b;simp) hi'
 obtain ⟨h1,h2,h3⟩:=qgT (hok _ List.mem_cons_self)
 obtain ⟨hlt1,hph⟩:=ZP hlt
 have hlt':d<a.tmps.size:=Nat.lt_of_lt_of_le hlt1 hn
 obtain ⟨i1,u1,z1,hti,htu,htz,hty⟩:=qz (hT _ _ ht)
 obtain ⟨i2,u2,z2,hki,hku,hkz,hkty⟩:=qz (hT _ _ hk)
 obtain ⟨i3,u3,z3,hei,heu,hez,hety⟩:=qz (hT _ _ he)
 subst hty hkty hety
 dsimp only at htk hkk
 obtain rfl:=qf9 htk
 obtain rfl:=jI hkk
 have hxv:=qt hF x
 rw [hx] at hxv
 obtain ⟨r,es,clock,hav,hmem,hb,hgood,hfree⟩:=qjR hxv.fz_inv
 have hiv:=qt hF ix
 rw [hi] at hiv
 have hiv:=hiv.fz_inv.str_inv
 have hzero:(zeroValue et).run P w=.ok z3 w:=by simp [zeroValue,typeInfo,hei,hez,Result.andThen]
 obtain ⟨y,u,hyE,hyR,hrun⟩:∃ (y:TV A) (u:Value),Ex P (.r all l::ks) (F.put d y) Post/\qN (fun _ _=>qj w σ) y u/\(execOp a.eval o).run P w=.ok (.value u) w:=by
  rcases MapKept.findNow_spec (k:=.string s) (d:=.string) trivial es.toList 0 (JJ hgood) with ⟨hf,_⟩ | ⟨j,e,hf,hj,hkey⟩
  . refine ⟨_,.tuple #[z3,.bool false],hno,⟨_,rfl,rfl,fun k y hk=>?_⟩,?_⟩
    . match k,hk with
      | 0,hk=>simp at hk;subst hk;exact ⟨_,rfl,qj.un _⟩
      | 1,hk=>simp at hk;subst hk;exact ⟨_,rfl,qj.fz _ _ (.bool _)⟩
    . simp [execOp,hop,hav,hiv,Instr.lookup,run_underlying htu,MapKept.run_getObj_map hb,MapKept.run_checkKey hku (k:=.string s) trivial,MapKept.run_findKey hku hf,hzero,Result.andThen]
  . obtain ⟨k,hk1,hk2⟩:=hgood e (List.mem_of_getElem? hj)
    rw [hkey] at hk1
    injection hk1 with hk1
    subst hk1
    rw [hk2] at hf
    refine ⟨_,.tuple #[.bool (g s),.bool true],hy,⟨_,rfl,rfl,fun k y hk=>?_⟩,?_⟩
    . match k,hk with
      | 0,hk=>simp at hk;subst hk;exact ⟨_,rfl,qj.fz _ _ (.bool _)⟩
      | 1,hk=>simp at hk;subst hk;exact ⟨_,rfl,qj.fz _ _ (.bool _)⟩
    . simp [execOp,hop,hav,hiv,Instr.lookup,run_underlying htu,MapKept.run_getObj_map hb,MapKept.run_checkKey hku (k:=.string s) trivial,MapKept.run_findKey hku hf,Result.andThen]
 have hF1:FR (F.put d y) σ w (upd (qC a) d u):=hF.put hyR
 have hg:=stepG_op (P:=P) (b:=b) (k:=ks.map qP) (cs:=cs) (w:=w) (rest:=List.range' (all.size-l.length) l.length) h2 (hw.sound hF)
 have hfin:∀ v,(b.at a (.inRegion all ((all.size-(l.length+1))::List.range' (all.size-l.length) l.length)::ks.map qP)).finish v=b.at (a.put o.dst v) (.inRegion all (List.range' (all.size-l.length) l.length)::ks.map qP):=by intro v;rw [Frame.finish_at,h2];rfl
 rw [qgh h3]
 have hF2:FR (F.put d y) σ w (qC (a.put o.dst u)):=by rw [hd,Ql hlt' hph];exact hF1
 obtain ⟨F',a',w',σ',todo,m0,m1,m2,m3,m4,m5,m6,m7⟩:=hyE J (a.put o.dst u) w σ hfut (zm h1 (zg hok)) hF2 hdm hnf (by rw [zn];exact hn) _ (.inl rfl) b cs
 refine ⟨F',a',w',σ',todo,m0,.head (step_lone_go ?_) m1,m2,m3,m4,m5,m6.trans (zL _ _),m7.trans (zn _ _)⟩
 have e9:(K.r all l::ks).map qP=.inRegion all (List.range' (all.size-l.length) l.length)::ks.map qP:=rfl
 rw [hg,e9,<-hfin]
 simp [stepG.apply,hrun]
theorem qY.of_mapUpdate (hT:ka P T){o:Oper}{t kt et:Nat}{ty tk:Ty}(ht:T t=some ty)(htk:ty.kind=.mp kt et)(hk:T kt=some tk)(hkk:tk.kind=.str)(hdst:o.dst=none){m k x:Operand}(hop:o.op=.mapUpdate t m k x){g:Zz}{s:ByteArray}(hm:ev1 F m=.fz (.mp g))(hks:ev1 F k=.fz (.str s))(hx:ev1 F x=.fz (.bool (g s))):qY P F o F:=by
 intro J a w σ hfut hF hd hn b kk cs ops i rest hoi hw
 letI:=J
 obtain ⟨i1,u1,z1,hti,htu,htz,hty⟩:=qz (hT _ _ ht)
 obtain ⟨i2,u2,z2,hki,hku,hkz,hkty⟩:=qz (hT _ _ hk)
 subst hty hkty
 dsimp only at htk hkk
 obtain rfl:=qf9 htk
 obtain rfl:=jI hkk
 have h1:=qt hF m
 rw [hm] at h1
 obtain ⟨r,es,clock,hav,hmem,hb,hgood,hfree⟩:=qjR h1.fz_inv
 have h2:=qt hF k
 rw [hks] at h2
 have h2:=h2.fz_inv.str_inv
 have h3:=qt hF x
 rw [hx] at h3
 have h3:=h3.fz_inv.bool_inv
 have hlt:=(Array.getElem?_eq_some_iff.1 hb).1
 obtain ⟨o',hrun,ho'⟩:∃ o',(execOp a.eval o).run P w=.ok .skip { w with heap:=w.heap.setIfInBounds r o' }/\kW g o':=by
  rcases MapKept.findNow_spec (k:=.string s) (d:=.string) trivial es.toList 0 (JJ hgood) with ⟨hf,_⟩ | ⟨j,e,hf,hj,hkey⟩
  . refine ⟨.map (es.push { key:=.string s,val:=.bool (g s),born:=clock }) (clock+1),?_,fun e he=>?_⟩
    . simp [execOp,hop,hav,h2,h3,Instr.mapUpdate,run_underlying htu,MapKept.run_getObj_map hb,MapKept.run_checkKey hku (k:=.string s) trivial,MapKept.run_findKey hku hf,MapKept.run_setObj_map _ hb,Result.andThen]
    . simp only [Array.toList_push,List.mem_append,List.mem_singleton] at he
      rcases he with he | rfl
      . exact hgood e he
      . exact ⟨s,rfl,rfl⟩
  . have hj':es[j]?=some e:=by simpa using hj
    rw [Nat.zero_add] at hf
    refine ⟨.map (es.modify j fun e=>{ e with key:=.string s,val:=.bool (g s) }) clock,?_,fun y hy=>?_⟩
    . simp [execOp,hop,hav,h2,h3,Instr.mapUpdate,run_underlying htu,MapKept.run_getObj_map hb,MapKept.run_checkKey hku (k:=.string s) trivial,MapKept.run_findKey hku hf,hj',hkey,Instr.keyThatStays,Instr.sameBits,(MapKept.bytes_beq s s).2 rfl,MapKept.run_setObj_map _ hb,Result.andThen]
    . obtain ⟨n,hn'⟩:=List.getElem?_of_mem hy
      simp only [Array.getElem?_toList,Array.getElem?_modify] at hn'
      split at hn'
      . cases hz:es[n]? with
        | none=>rw [hz] at hn';cases hn'
        | some z=>rw [hz] at hn';simp at hn';subst hn';exact ⟨s,rfl,rfl⟩
      . exact hgood y (by simpa using Array.mem_of_getElem? hn')
 have hK:kg w { w with heap:=w.heap.setIfInBounds r o' }:=⟨rfl,rfl,rfl,by simp,fun b' hb'=>by
  by_cases e:b'=r
  . subst e
    exact .inr ⟨g,_,o',hmem,hb,by simp [hlt],hgood,ho'⟩
  . exact .inl (by simp [Ne.symm e])⟩
 have hF':FR F σ { w with heap:=w.heap.setIfInBounds r o' } (qC a):=hF.growK hK (fun _ _=>rfl) hF.inj (fun g x hx=>by simpa using hF.lt g x hx)
 have hgo:qF w σ { w with heap:=w.heap.setIfInBounds r o' } σ:=⟨⟨fun _ _ h=>h,fun b hb _=>hK.heap b hb⟩,hK.size,rfl,rfl,rfl⟩
 have hg:=stepG_op (P:=P) (b:=b) (k:=kk) (cs:=cs) (w:=w) (rest:=rest) hoi hw
 have hfin:∀ v,(b.at a (.inRegion ops (i::rest)::kk)).finish v=b.at (a.put o.dst v) (.inRegion ops rest::kk):=by intro v;rw [Frame.finish_at,hoi];rfl
 have hput:∀ v,a.put o.dst v=a:=by intro v;rw [hdst];rfl
 refine ⟨a,_,σ,.one (step_lone_go ?_),hF',hd,hgo,rfl,rfl,rfl⟩
 have hf:=hfin undef
 rw [hput] at hf
 rw [hg,<-hf]
 simp [stepG.apply,hrun]
end
end Go.Proofs.YtececadpjelanaaGreat.Ai
namespace Go.Proofs.YtececadpjelanaaGreat.Ai
open Go Go.RowKit
section
variable [qi] {P:Program} {T:Nat->Option Ty} {w w':World} {σ σ':Gh} {F:Fr} {vt:Nat->Value} {a:Act}
theorem qiR {g:Bool}{as:List A}{v:Value}(h:qN (fun _ _=>qj w σ) (.v (g,as)) v):∃ vs:List Value,vs.length=as.length/\(∀ (k:Nat) (y:A),as[k]?=some y->∃ u,vs[k]?=some u/\qj w σ y u) ∧
 ∀ (os:List O) (R:Nat->O->Value->Prop),os.length=as.length->(∀ (k:Nat) (o:O),os[k]?=some o->∃ u,vs[k]?=some u/\R k o u)->qQ R (g,os) v:=by
 cases g with
 | true =>
   obtain ⟨cs,rfl,h1,h2⟩:=h
   refine ⟨cs.toList,by simpa using h1,fun k y hk=>?_,fun os R hl hr=>⟨cs,rfl,by rw [h1,hl],fun j o hj=>?_⟩⟩
   . obtain ⟨u,h3,h4⟩:=h2 k y hk
     exact ⟨u,by simpa using h3,h4⟩
   . obtain ⟨u,h3,h4⟩:=hr j o hj
     exact ⟨u,by simpa using h3,h4⟩
 | false =>
   match as,h with
   | [y],h =>
     have h':qj w σ y v:=h
     refine ⟨[v],rfl,fun k z hk=>?_,fun os R hl hr=>?_⟩
     . cases k with
       | zero=>simp at hk;subst hk;exact ⟨v,rfl,h'⟩
       | succ k=>simp at hk
     . match os,hl with
       | [o],_ =>
         obtain ⟨u,h3,h4⟩:=hr 0 o rfl
         simp at h3
         subst h3
         exact h4
def RV (P:Program)(w:World)(vt:Nat->Value):ResultVar->Value->Prop
 | .tmp t,v=>t<PH/\v=vt t
 | .cell a t,v=>a<PH/\∃ ad,vt a=.pointer (some ad)/\(loadVar t ad).run P w=.ok v w
structure qoH (P:Program)(w:World)(vt:Nat->Value)(k:Nat)(F:Fr)(σ:Gh)(pend:List (qg×O))(rs:List ResultVar)(xs:List (V1 O))(F':Fr)(σ':Gh)(pend':List (qg×O)):Prop where
 fr:FR F' σ' w vt
 dom:Dom F' σ' pend'
 goes:qF w σ w σ'
 rep:∀ (i:Nat) (x:V1 O),xs[i]?=some x->∃ t v,rs[i]?=some t/\RV P w vt t v/\x.2.length<=64/\qQ (fun j o v=>qo w σ' (qA,[(k+i,j)]) o v) x v
 pnd:∀ q' o',(q',o')∈pend'->(q',o')∈pend\/∃ (i j:Nat) (x:V1 O),xs[i]?=some x/\x.2[j]?=some o'/\q'=(qA,[(k+i,j)])
 old:∀ (p:qg) (o:O) (v:Value),p.1=qA->qo w σ p o v->qo w σ' p o v
 tbl:qa .un F'.tb qA=qa .un F.tb qA
 nm:∀ x∈xs,QD x.2=true
theorem Jl (hT:ka P T)(hF:FR F σ w vt){r:ResultVar}{x:TV A}(h:qba std T F r=some x):∃ v,RV P w vt r v/\qN (fun _ _=>qj w σ) x v:=by
 cases r with
 | tmp t =>
   simp only [qba] at h
   split at h
   . rename_i ht
     simp only [Option.some.injEq] at h
     subst h
     exact ⟨_,⟨j8.1 ht,rfl⟩,hF.tm t⟩
   . cases h
 | cell c t =>
   simp only [qba] at h
   split at h
   . rename_i ty hph ht
     split at h
     . rename_i as has
       obtain ⟨hl,ad,he,hc⟩:=QH hF has (wS (hF.tm c))
       obtain ⟨v,h1,h2⟩:=V5 (hT t ty ht) hc hl h
       exact ⟨v,⟨j8.1 hph,ad,he,h1⟩,h2⟩
     . cases h
   . cases h
theorem qdJ (hT:ka P T){kn:Bool}:∀ (rs:List ResultVar) (k:Nat) (F:Fr) (σ:Gh) (pend:List (qg×O)) (xs:List (V1 O)),JW std T kn k F rs=some xs->FR F σ w vt->Dom F σ pend->(∀ q' o',(q',o')∈pend->q'.1=qA)->(∀ k' j,k<=k'->ke σ (qA,[(k',j)])) →
 xs.length=rs.length/\∃ F' σ' pend',qoH P w vt k F σ pend rs xs F' σ' pend':=by
 intro rs
 induction rs with
 | nil =>
   intro k F σ pend xs h hF hd hp hb
   simp [JW] at h
   subst h
   exact ⟨rfl,F,σ,pend,hF,hd,qF.refl _ _,fun i x hk=>by simp at hk,fun q' o' h=>.inl h,fun p o v _ h=>h,rfl,fun x hx=>by cases hx⟩
 | cons rv rs ih =>
   intro k F σ pend xs h hF hd hp hb
   . simp only [JW] at h
     split at h
     . rename_i tv0 hres
       obtain ⟨v0,hrv,hv0⟩:=Jl hT hF hres
       split at h
       . rename_i x F1 hx1
         split at h
         . rename_i xs2 hrec
           simp at h
           subst h
           unfold qms at hx1
           split at hx1
           . rename_i g as
             split at hx1
             . rename_i hc
               rw [kf] at hc
               have hc:=qv hc
               split at hx1
               . rename_i os F2 hconv
                 obtain ⟨hnm,hx1⟩:QD os=true/\((g,os),F2)=(x,F1):=by
                  split at hx1
                  . rename_i hnm;exact ⟨hnm,by simpa using hx1⟩
                  . cases hx1
                 simp at hx1
                 obtain ⟨rfl,rfl⟩:=hx1
                 have hv:=hv0
                 obtain ⟨vs,hl,hvs,hfin⟩:=qiR hv
                 obtain ⟨hlen,σ1,pend1,hC⟩:=QF (Jx qA [] k) as 0 _ _ σ pend vs os F2 hconv hF hd hp (fun j _ _=>hb k j (Nat.le_refl _)) hvs
                 have hp1:∀ q' o',(q',o')∈pend1->q'.1=qA:=by
                  intro q' o' hm
                  rcases hC.pnd q' o' hm with h | ⟨i,_,h⟩
                  . exact hp q' o' h
                  . rw [h];rfl
                 have hb1:∀ k' j,k+1<=k'->ke σ1 (qA,[(k',j)]):=by
                  intro k' j hk
                  refine hC.bare _ rfl ?_ (hb k' j (by omega))
                  rintro m _ _ s ⟨_,t,ht⟩
                  simp [qAt] at ht
                  omega
                 obtain ⟨h1,F',σ2,pend2,hE⟩:=ih (k+1) F2 σ1 pend1 xs2 hrec hC.fr hC.dom hp1 hb1
                 refine ⟨by simp [h1],F',σ2,pend2,hE.fr,hE.dom,hC.goes.trans hE.goes,?_,?_,fun p o v hp h=>hE.old p o v hp (hC.old p o v hp h),hE.tbl.trans hC.tbl,fun x hx=>(List.mem_cons.1 hx).elim (fun e=>by rw [e];exact hnm) (hE.nm x)⟩
                 . intro i x hi
                   cases i with
                   | zero =>
                     simp at hi
                     subst hi
                     refine ⟨_,v0,rfl,hrv,by dsimp only;omega,?_⟩
                     refine hfin os _ hlen ?_
                     intro j o hj
                     obtain ⟨u,h3,h4⟩:=hC.rep j o hj
                     refine ⟨u,h3,?_⟩
                     have h5:=hE.old _ _ _ rfl h4
                     simpa [qAt] using h5
                   | succ i =>
                     obtain ⟨t',v',h3,h3',h4,h5⟩:=hE.rep i x (by simpa using hi)
                     refine ⟨t',v',by simpa using h3,h3',h4,?_⟩
                     rw [show k+(i+1)=k+1+i by omega]
                     exact h5
                 . intro q' o' hm
                   rcases hE.pnd q' o' hm with h | ⟨i,j,x,h3,h4,h5⟩
                   . rcases hC.pnd q' o' h with h | ⟨j,h3,h4⟩
                     . exact .inl h
                     . exact .inr ⟨0,j,(g,os),rfl,h3,by rw [h4];simp [qAt]⟩
                   . exact .inr ⟨i+1,j,x,by simpa using h3,h4,by rw [h5,show k+(i+1)=k+1+i by omega]⟩
               . cases hx1
             . cases hx1
           . cases hx1
         . cases h
       . cases h
     . cases h
def qmy:List Value->Value
 | [v]=>v
 | vs=>.tuple vs.toArray
theorem ZX {ac:Act}{fn:Func}{rs:List ResultVar}(hrs:fn.results=⟨rs⟩){vs:List Value}{w:World}(hl:vs.length=rs.length)
 (h:∀ (i:Nat) (v:Value),vs[i]?=some v->∃ t,rs[i]?=some t/\RV P w (qC ac) t v) :
 (results fn ac.tmps).run P w=.ok (qmy vs) w:=by
 have key:∀ (rs:List ResultVar) (vs:List Value),vs.length=rs.length->(∀ (i:Nat) (v:Value),vs[i]?=some v->∃ t,rs[i]?=some t/\RV P w (qC ac) t v) →
  (List.mapM (m:=Sem) (fun x:ResultVar=>match x with | .tmp t=>pure (ac.tmps.getD t undef) | .cell a t=>do loadVar t (← asAddr (ac.tmps.getD a undef))) rs).run P w=.ok vs w:=by
  intro rs
  induction rs with
  | nil =>
    intro vs hl _
    have:vs=[]:=List.length_eq_zero_iff.1 hl
    subst this
    simp
  | cons r rs ih =>
    intro vs hl hv
    cases vs with
    | nil=>simp at hl
    | cons v vs =>
      obtain ⟨t,h1,h2⟩:=hv 0 v rfl
      simp at h1
      subst h1
      have hrec:=ih vs (by simpa using hl) (fun i v hi=>by
       obtain ⟨t,h1,h2⟩:=hv (i+1) v (by simpa using hi)
       exact ⟨t,by simpa using h1,h2⟩)
      simp only [List.mapM_cons,Sem.run_bind]
      cases r with
      | tmp t =>
        obtain ⟨hph,h2⟩:=h2
        rw [Zx hph] at h2
        subst h2
        simp only [Sem.run_pure,Result.andThen_ok,hrec]
      | cell c t =>
        obtain ⟨hph,ad,h3,h4⟩:=h2
        rw [Zx hph] at h3
        have h5:(asAddr (ac.tmps.getD c undef)).run P w=.ok ad w:=by rw [h3];exact Sem.run_pure ..
        simp only [Sem.run_bind,h5,Sem.run_pure,Result.andThen_ok,h4,hrec]
 unfold results
 rw [hrs]
 simp only [List.mapM_toArray,Sem.run_bind,Sem.run_map]
 refine (congrArg (fun z=>(Result.andThen (Result.andThen z _) _)) (key rs vs hl h)).trans ?_
 simp only [Result.andThen_ok]
 match vs with
 | []=>rfl
 | [t]=>rfl
 | t::t'::ts=>rfl
theorem qh3:∀ (xs:List (V1 O)) (k:Nat) (rs:List ResultVar),xs.length=rs.length →
 (∀ (i:Nat) (x:V1 O),xs[i]?=some x->∃ t v,rs[i]?=some t/\RV P w vt t v/\x.2.length<=64/\qQ (fun j o v=>qo w σ' (qA,[(k+i,j)]) o v) x v)->∃ vs:List Value,vs.length=rs.length ∧
 (∀ (i:Nat) (v:Value),vs[i]?=some v->∃ t,rs[i]?=some t/\RV P w vt t v) ∧
 ∀ (i:Nat) (x:V1 O),xs[i]?=some x->∃ v,vs[i]?=some v/\x.2.length<=64/\qQ (fun j o v=>qo w σ' (qA,[(k+i,j)]) o v) x v:=by
 intro xs
 induction xs with
 | nil =>
   intro k rs hl _
   exact ⟨[],by simpa using hl,fun i v h=>by simp at h,fun i x h=>by simp at h⟩
 | cons x xs ih =>
   intro k rs hl h
   match rs,hl with
   | r::rs,hl =>
     obtain ⟨t,v,h1,h2,h3,h4⟩:=h 0 x rfl
     simp at h1
     subst h1
     obtain ⟨vs,h5,h6,h7⟩:=ih (k+1) rs (by simpa using hl) (fun i x hi=>by
      obtain ⟨t,v,h1,h2,h3,h4⟩:=h (i+1) x (by simpa using hi)
      refine ⟨t,v,by simpa using h1,h2,h3,?_⟩
      rw [show k+1+i=k+(i+1) by omega]
      exact h4)
     refine ⟨v::vs,by simp [h5],fun i u hi=>?_,fun i y hi=>?_⟩
     . cases i with
       | zero=>simp at hi;subst hi;exact ⟨r,rfl,h2⟩
       | succ i =>
         obtain ⟨t,h8,h9⟩:=h6 i u (by simpa using hi)
         exact ⟨t,by simpa using h8,h9⟩
     . cases i with
       | zero=>simp at hi;subst hi;exact ⟨v,rfl,h3,h4⟩
       | succ i =>
         obtain ⟨u,h8,h9,h10⟩:=h7 i y (by simpa using hi)
         refine ⟨u,by simpa using h8,h9,?_⟩
         rw [show k+(i+1)=k+1+i by omega]
         exact h10
theorem YW:∀ (args:List (V1 C)) (i t:Nat),qa unT (Qy i args) t=if i<=t then (match args[t-i]? with | some x=>.v (x.1,fzL x.2) | none=>unT) else unT:=by
 intro args
 induction args with
 | nil=>intro i t;simp [Qy,qa]
 | cons x args ih =>
   intro i t
   simp only [Qy]
   rw [qp,ih]
   by_cases e:i=t
   . subst e;simp
   . rw [if_neg e]
     by_cases h:i<=t
     . rw [if_pos h,if_pos (by omega)]
       have:t-i=(t-(i+1))+1:=by omega
       rw [this,List.getElem?_cons_succ]
     . rw [if_neg h,if_neg (by omega)]
theorem qbv {vals:Array Value}{args:List (V1 C)}(hold:Jh w)(hsz:vals.size=args.length)(hph:args.length<=PH)(hr:∀ (k:Nat) (x:V1 C),args[k]?=some x->∃ u,vals[k]?=some u/\qQ (fun _=>qr w (fun _=>none)) x u)(n:Nat)(m:Nat) :
 FR (enter n args) (fun _=>none) w (qC { tmps:=vals++Array.replicate m undef,defers:=[] }):=by
 refine ⟨fun g g' x y h=>by (cases h),fun g x h=>by (cases h),hold,fun id=>⟨.bool false,.un _ _ rfl⟩,fun t=>?_⟩
 show qN _ (qa unT (Qy 0 args) t) _
 rw [YW,if_pos (Nat.zero_le _),Nat.sub_zero]
 cases hx:args[t]? with
 | none=>exact qj.un _
 | some x =>
   obtain ⟨u,h1,h2⟩:=hr t x hx
   have hv:qC { tmps:=vals++Array.replicate m undef,defers:=[] } t=u:=by
    have hlt:t<vals.size:=(Array.getElem?_eq_some_iff.1 h1).1
    rw [Zx (by omega)]
    dsimp only
    rw [Array.getD_eq_getD_getElem?,Array.getElem?_append_left hlt,h1]
    rfl
   rw [hv]
   have:=qQ.map (S:=fun _=>qj w (fun _=>none)) (f:=A.fz) (fun _ c v h=>qj.fz c v h) h2
   dsimp only
   rw [Vs]
   exact this
theorem qiU (n:Nat)(args:List (V1 C)):Dom (enter n args) (fun _=>none) []:=fun _ _ h=>by cases h
end
theorem qd0:∀ {l:List O},QD l=true->∀ (j:Nat) (o:O),l[j]?=some o->nzO o=none:=by
 intro l
 induction l with
 | nil=>intro _ j o h;simp at h
 | cons a l ih =>
   intro h j o hj
   simp only [QD] at h
   split at h
   . rename_i ha
     cases j with
     | zero=>simp at hj;subst hj;exact ha
     | succ j=>exact ih h j o (by simpa using hj)
   . cases h
theorem qQ.mem {α:Type}{R S:Nat->α->Value->Prop}{x:V1 α}{v:Value}(h:qQ R x v)(hf:∀ (j:Nat) (a:α) (u:Value),x.2[j]?=some a->R j a u->S j a u):qQ S x v:=by
 obtain ⟨g,as⟩:=x
 cases g with
 | true =>
   obtain ⟨cs,h1,h2,h3⟩:=h
   exact ⟨cs,h1,h2,fun j a hj=>by obtain ⟨u,h4,h5⟩:=h3 j a hj;exact ⟨u,h4,hf j a u hj h5⟩⟩
 | false =>
   match as,h,hf with
   | [a],h,hf=>exact hf 0 a v rfl h
theorem qc3 {n:Nat}{P:Program}{T:Nat->Option Ty}{J:qi}{w:World}{σ:Gh}{F:Fr}{vt:Nat->Value}(hT:ka P T)(hF:FR F σ w vt)(hn:∀ g x,σ g=some x->n<=g):∀ {rs:List ResultVar} {xs:List (V1 O)},J8 std T F rs=some xs->xs.length=rs.length/\∃ vs:List Value,vs.length=rs.length ∧
 (∀ (i:Nat) (v:Value),vs[i]?=some v->∃ t,rs[i]?=some t/\RV P w vt t v)/\∀ (i:Nat) (x:V1 O),xs[i]?=some x->∃ v,vs[i]?=some v/\qQ (fun j o v=>w4 n w (fun _=>none) (qA,[(i,j)]) o v) x v:=by
 intro rs
 induction rs with
 | nil =>
   intro xs h
   simp only [J8,Option.some.injEq] at h
   subst h
   exact ⟨rfl,[],rfl,fun i v h=>by simp at h,fun i x h=>by simp at h⟩
 | cons rv rs ih =>
   intro xs h
   simp only [J8] at h
   split at h
   . rename_i g as hres
     split at h
     . rename_i os hos
       split at h
       . rename_i xs' hrec
         simp only [Option.some.injEq] at h
         subst h
         obtain ⟨v,h1,h2⟩:=Jl hT hF hres
         obtain ⟨h3,vs,h4,h5,h6⟩:=ih hrec
         obtain ⟨hl,hget⟩:=qhZ hos
         refine ⟨by simp [h3],v::vs,by simp [h4],fun i u hi=>?_,fun i x hi=>?_⟩
         . cases i with
           | zero=>simp at hi;subst hi;exact ⟨rv,rfl,h1⟩
           | succ i=>obtain ⟨t,h7,h8⟩:=h5 i u (by simpa using hi);exact ⟨t,by simpa using h7,h8⟩
         . cases i with
           | zero =>
             simp at hi
             subst hi
             refine ⟨v,rfl,?_⟩
             cases g with
             | true =>
               obtain ⟨cs,e1,e2,e3⟩:=h2
               refine ⟨cs,e1,by rw [e2,hl],fun j o hj=>?_⟩
               obtain ⟨x,k1,k2⟩:=hget j o hj
               obtain ⟨u,k3,k4⟩:=e3 j x k1
               exact ⟨u,k3,(Vp hF hn k4 k2).1 _⟩
             | false =>
               match as,os,hl,h2,hget with
               | [x],[o],_,h2,hget =>
                 obtain ⟨x',k1,k2⟩:=hget 0 o rfl
                 simp at k1
                 subst k1
                 exact (Vp hF hn h2 k2).1 _
           | succ i =>
             obtain ⟨u,h7,h8⟩:=h6 i x (by simpa using hi)
             refine ⟨u,by simpa using h7,qQ.imp (fun j o v h=>?_) h8⟩
             unfold w4 at h ⊢
             split
             . rename_i c hc;rw [hc] at h;exact h
             . rename_i hc
               rw [hc] at h
               exact h.move (Nat.le_refl _) ⟨fun _ _ h=>h,fun _ _ _=>.inl rfl⟩ _ (fun g s n cap sz hg=>by (cases hg))
       . cases h
     . cases h
   . cases h
theorem kM.of_Ex [qh] [za] {P : Program} {T : Nat → Option Ty} (hT : ka P T) {g : FuncId} {fn : Func} {c : Code} {args : List (V1 C)} {r : TV O} {kn : Bool} (hf : P.funcs[g]? = some fn) (hb : fn.body = some c) (hnm : (fn.name == "runtime.NumGoroutine") = false) (h1 : args.length ≤ fn.ntmps) (hph : args.length ≤ PH)
 (hx:Ex P [.c c] (enter fn.ntmps args) (fun F'=>Qb std T kn F' fn.results=some r\/(∃ xs,J8 std T F' fn.results.toList=some xs/\qf8 xs=r)\/∃ t r0 n xs,qgG F' t r0 n xs/\Qb std T kn (F'.shr std t r0 n xs) fn.results=some r)):kM P g args r:=by
 refine ⟨⟨fn,c,hf,hb,hnm⟩,?_⟩
 intro J w vals hfut hold hsz hargs cs
 letI:=J
 let a0:Act:={ tmps:=vals++Array.replicate (fn.ntmps-vals.size) undef,defers:=[] }
 let b0:Frame:={ (default:Frame) with fn:=g,kind:=.normal }
 have henter:Frame.enter P g vals .normal=b0.at a0 [.code c]:=by simp [Frame.enter,Frame.at,hf,hb,b0,a0]
 have hF0:=qbv hold hsz hph hargs fn.ntmps (fn.ntmps-vals.size)
 have hsize:(enter fn.ntmps args).n<=a0.tmps.size:=by simp [enter,a0];omega
 obtain ⟨F',a',w',σ',todo,h,k1,k2,k3,k4,k5,k6,k7⟩:=hx J a0 w (fun _=>none) hfut (fun k hk=>by simp at hk;subst hk;trivial) hF0 (qiU _ _) (fun _ g x hx=>by cases hx) hsize [.code c] (.inl rfl) b0 cs
 obtain ⟨F',σ',k2,k3,k4,h⟩:∃ F'' σ'',FR F'' σ'' w' (qC a')/\Dom F'' σ'' []/\qF w (fun _=>none) w' σ''/\(Qb std T kn F'' fn.results=some r\/∃ xs,J8 std T F'' fn.results.toList=some xs/\qf8 xs=r):=by
  rcases h with h | h | ⟨t,r0,n,xs,hs,h⟩
  . exact ⟨F',σ',k2,k3,k4,.inl h⟩
  . exact ⟨F',σ',k2,k3,k4,.inr h⟩
  . obtain ⟨σ2,h1,h2,h3⟩:=qhv k2 k3 hs
    exact ⟨_,σ2,h1,h2,k4.trans h3,.inl h⟩
 rcases h with h | ⟨xs,hxs,hpk⟩
 case inr =>
  obtain ⟨hxl,vs,hvl,hvr,hrep⟩:=qc3 (n:=w.heap.size) hT k2 (fun g x hx=>by
   rcases Nat.lt_or_ge g w.heap.size with hlt | hge
   . have:=k4.st.none_ g hlt rfl
     rw [hx] at this
     cases this
   . exact hge) hxs
  have hrun:=ZX (P:=P) (ac:=a') (w:=w') (fn:=fn) (rs:=fn.results.toList) rfl hvl hvr
  have hbelow:kg w w':=⟨k4.os,k4.tape,k4.output,k4.size,fun k hk=>k4.st.heap_ k hk rfl⟩
  refine ⟨.returned (qmy vs),w',{ b0.at a' todo with mode:=.returning },⟨_,rfl,⟨hbelow,fun _=>none,fun g x hx=>by (cases hx),fun g g' x y hx=>by (cases hx),?_,fun g x hx=>by (cases hx)⟩⟩,?_,rfl,?_⟩
  . subst hpk
    have htl:vs.length=xs.length:=by rw [hxl,hvl]
    match xs,vs,htl,hrep with
    | [],[],_,_=>exact ⟨#[],rfl,rfl,fun k x hk=>by simp at hk⟩
    | [x],[t],_,hrep =>
      obtain ⟨t',h2,h4⟩:=hrep 0 x rfl
      simp at h2
      subst h2
      exact h4
    | x::y::xs,t::t'::ts,hl,hrep =>
      refine ⟨_,rfl,by simp at hl ⊢;omega,?_⟩
      intro k z hk
      obtain ⟨t0,h2,h4⟩:=hrep k z hk
      refine ⟨t0,?_,h4⟩
      simp only [List.getElem?_toArray,h2]
  . rw [henter];exact k1
  . exact ⟨rfl,k6,rfl,fn,hf,hrun⟩
 unfold Qb at h
 obtain ⟨rs,hrs⟩:∃ rs,fn.results=⟨rs⟩:=⟨fn.results.toList,rfl⟩
 rw [hrs] at h
 dsimp only at h
 split at h
 . rename_i hlen64
   rw [kf] at hlen64
   have hlen64:=qv hlen64
   obtain ⟨xs,hxs,hr⟩:∃ xs,JW std T (kn) 0 (F'.drop std (qA,[])) rs=some xs/\(match xs with | [x]=>TV.v x | xs=>.tup xs)=r:=by
    cases hx:JW std T (kn) 0 (F'.drop std (qA,[])) rs with
    | none=>rw [hx] at h;cases h
    | some xs =>
      rw [hx] at h
      refine ⟨xs,rfl,?_⟩
      match xs,h with
      | [],h=>simpa using h
      | [x],h=>simpa using h
      | x::y::xs,h=>simpa using h
   have hFd:=k2.drop (qA,[])
   have hdd:=k3.drop (qA,[])
   obtain ⟨hxl,F2,σ2,pend,hE⟩:=qdJ hT rs 0 _ _ [] xs hxs hFd hdd (fun _ _ h=>by cases h) (fun k' j _ g x hx hu=>Qe (qA,[]) g x hx ⟨hu.1,x.p.2,rfl⟩)
   obtain ⟨vs,hvl,hvr,hrep⟩:=qh3 xs 0 rs hxl hE.rep
   have hrun:=ZX (P:=P) (ac:=a') (w:=w') hrs hvl hvr
   have hgo:qF w (fun _=>none) w' σ2:=(k4.trans jD).trans hE.goes
   have htbl:qa .un F2.tb qA=.un:=by
    rw [hE.tbl]
    show qa .un (del F'.tb qA) qA=.un
    rw [qM,if_pos rfl]
   have hbelow:kg w w':=⟨hgo.os,hgo.tape,hgo.output,hgo.size,fun k hk=>hgo.st.heap_ k hk rfl⟩
   let σr:Gh:=fun g=>match σ2 g with | some x=>if x.p.1=qA then some x else none | none=>none
   have hr1:∀ g x,σ2 g=some x->x.p.1=qA->σr g=some x:=fun g x hx hp=>by simp only [σr,hx,if_pos hp]
   have hr2:∀ g x,σr g=some x->σ2 g=some x/\x.p.1=qA:=by
    intro g x hx
    simp only [σr] at hx
    split at hx
    . rename_i y hy
      split at hx
      . rename_i hp;injection hx with hx;subst hx;exact ⟨hy,hp⟩
      . cases hx
    . cases hx
   have hst:kD w' σ2 w' σr:=⟨fun b _ h0=>by simp only [σr,h0],fun _ _ _=>.inl rfl⟩
   have hmv:∀ k j o v,qo w' σ2 (qA,[(k,j)]) o v->qo w' σr (qA,[(k,j)]) o v:=fun k j o v h =>
    h.move (Nat.le_refl _) hst _ (fun g s n cap sz hg _=>⟨rfl,hr1 g _ hg rfl⟩)
   have hrep':∀ (i:Nat) (x:V1 O),xs[i]?=some x->∃ t,vs[i]?=some t/\x.2.length<=64/\qQ (fun j o v=>w4 w.heap.size w' σr (qA,[(i,j)]) o v) x t:=by
    intro i x hx
    obtain ⟨t,h2,h3,h4⟩:=hrep i x hx
    refine ⟨t,h2,h3,?_⟩
    have h5:qQ (fun j o v=>qo w' σ2 (qA,[(0+i,j)]) o v) x t:=h4
    rw [Nat.zero_add] at h5
    refine qQ.mem h5 fun j o u hj h=>?_
    unfold w4
    rw [qd0 (hE.nm x (List.mem_of_getElem? hx)) j o hj]
    exact hmv i j o u h
   have htl:vs.length=xs.length:=by rw [hxl,hvl]
   refine ⟨.returned (qmy vs),w',{ b0.at a' todo with mode:=.returning },⟨_,rfl,⟨hbelow,σr,?_,?_,?_,?_⟩⟩,?_,rfl,?_⟩
   . intro g x hx
     obtain ⟨h2,_⟩:=hr2 g x hx
     refine ⟨?_,hE.fr.lt g x h2⟩
     rcases Nat.lt_or_ge g w.heap.size with hlt | hge
     . have:=hgo.st.none_ g hlt rfl
       rw [h2] at this
       cases this
     . exact hge
   . intro g g' x y hx hy he
     exact hE.fr.inj g g' x y (hr2 g x hx).1 (hr2 g' y hy).1 he
   . subst hr
     match xs,vs,htl,hrep' with
     | [],[],_,_=>exact ⟨#[],rfl,rfl,fun k x hk=>by simp at hk⟩
     | [x],[t],_,hrep' =>
       obtain ⟨t',h2,_,h4⟩:=hrep' 0 x rfl
       simp at h2
       subst h2
       exact h4
     | x::y::xs,t::t'::ts,hl,hrep' =>
       refine ⟨_,rfl,by simp at hl ⊢;omega,?_⟩
       intro k z hk
       obtain ⟨t0,h2,_,h4⟩:=hrep' k z hk
       refine ⟨t0,?_,h4⟩
       simp only [List.getElem?_toArray,h2]
   . intro g x hx
     obtain ⟨h2,h3⟩:=hr2 g x hx
     rcases hE.dom g x h2 with h4 | ⟨q',o',s,h4,h5,h6⟩
     . unfold Fr.at at h4
       rw [h3,htbl,kv] at h4
       exact h4.elim
     . rcases hE.pnd q' o' h4 with h7 | ⟨i,j,z,h7,h8,h9⟩
       . cases h7
       . obtain ⟨_,_,hz,_⟩:=hrep i z h7
         have hi:i<64:=by
          have:=(List.getElem?_eq_some_iff.1 h7).1
          omega
         have hj:j<64:=by
          have:=(List.getElem?_eq_some_iff.1 h8).1
          omega
         refine ⟨i,j,o',s,?_,hi,hj,by rw [h5,h9];simp,h6⟩
         subst hr
         match xs,h7 with
         | [x],h7 =>
           cases i with
           | zero=>simp at h7;subst h7;simpa [TV.cell] using h8
           | succ i=>simp at h7
         | x::y::xs,h7=>simp only [TV.cell,h7,Option.bind_some];exact h8
   . rw [henter];exact k1
   . exact ⟨rfl,k6,rfl,fn,hf,hrun⟩
 . cases h
end Go.Proofs.YtececadpjelanaaGreat.Ai
namespace Go.Proofs.YtececadpjelanaaGreat.Ai
open Go Go.RowKit
structure kK [qi] (w:World)(σ:Gh)(tb:List (Nat×O))(ph:List A):Prop where
 inj:∀ g g' x y,σ g=some x->σ g'=some y->x.p=y.p->g=g'
 lt:∀ g x,σ g=some x->g<w.heap.size
 tbl:∀ id,∃ v,qo w σ (id,[]) (qa .un tb id) v
 ph:∀ (i:Nat) (x:A),ph[i]?=some x->qj w σ x (qi.ph i)
 dom:Dom ⟨0,[],tb⟩ σ []
structure qgZ [qi] (w:World)(σ:Gh)(r:TV A)(v:Value)(tb:List (Nat×O))(ph:List A)(w':World)(σ':Gh):Prop where
 goes:qF w σ w' σ'
 back:kK w' σ' tb ph
 res:qN (fun _ _=>qj w' σ') r v
def vM [qh] (P:Program)(g:FuncId)(args:List (V1 A))(tb:List (Nat×O))(ph:List A)(r:TV A)(tb':List (Nat×O))(ph':List A):Prop :=
 (∃ fn c, P.funcs[g]? = some fn ∧ fn.body = some c ∧ (fn.name == "runtime.NumGoroutine") = false) ∧
 ∀ (J:qi) (w:World) (σ:Gh) (vals:Array Value),J.fut=qh.fut->@Jh J w->vals.size=args.length->(∀ (k:Nat) (x:V1 A),args[k]?=some x->∃ u,vals[k]?=some u/\qQ (fun _=>@qj J w σ) x u)->@kK J w σ tb ph →
  Calls P g vals w fun e w'=>∃ v σ',e=.returned v/\@qgZ J w σ r v tb' ph' w' σ'
def Qp:Nat->List (V1 A)->List (Nat×TV A)
 | _,[]=>[]
 | i,x::r=>(i,.v x)::Qp (i+1) r
def qbH:Nat->List A->List (Nat×TV A)
 | _,[]=>[]
 | i,x::r=>(PH+i,.v (false,[x]))::qbH (i+1) r
def Jk (n:Nat)(args:List (V1 A))(ph:List A)(tb:List (Nat×O)):Fr:=⟨n,Qp 0 args++qbH 0 ph,tb⟩
def vw (T:Nat->Option Ty)(F:Fr):List ResultVar->Option (List (V1 A))
 | []=>some []
 | rv::r=>match qba std T F rv with
   | some (.v x)=>(match vw T F r with | some l=>some (x::l) | none=>none)
   | _=>none
def qke:List (V1 A)->TV A
 | [x]=>.v x
 | xs=>.tup xs
section
variable [qi] {P:Program} {T:Nat->Option Ty} {w w':World} {σ σ':Gh} {F:Fr} {vt:Nat->Value} {a:Act}
theorem qcD:∀ (args:List (V1 A)) (i t:Nat),qa unT (Qp i args) t=if i<=t then (match args[t-i]? with | some x=>.v x | none=>unT) else unT:=by
 intro args
 induction args with
 | nil=>intro i t;simp [Qp,qa]
 | cons x args ih =>
   intro i t
   simp only [Qp]
   rw [qp,ih]
   by_cases e:i=t
   . subst e;simp
   . rw [if_neg e]
     by_cases h:i<=t
     . rw [if_pos h,if_pos (by omega)]
       have:t-i=(t-(i+1))+1:=by omega
       rw [this,List.getElem?_cons_succ]
     . rw [if_neg h,if_neg (by omega)]
theorem qfJ:∀ (args:List (V1 A)) (i t:Nat),has (Qp i args) t=decide (i<=t/\t<i+args.length):=by
 intro args
 induction args with
 | nil=>intro i t;simp [Qp,has]
 | cons x args ih =>
   intro i t
   simp only [Qp,has]
   by_cases e:i=t
   . subst e;simp
   . rw [Zw e,cond_false,ih]
     simp only [List.length_cons]
     exact decide_eq_decide.2 (by omega)
theorem qiX:∀ (ph:List A) (i t:Nat),qa unT (qbH i ph) t=if PH+i<=t then (match ph[t-(PH+i)]? with | some x=>.v (false,[x]) | none=>unT) else unT:=by
 intro ph
 induction ph with
 | nil=>intro i t;simp [qbH,qa]
 | cons x ph ih =>
   intro i t
   simp only [qbH]
   rw [qp,ih]
   by_cases e:PH+i=t
   . rw [if_pos e,if_pos (by omega),show t-(PH+i)=0 by omega];rfl
   . rw [if_neg e]
     by_cases h:PH+i<=t
     . rw [if_pos h,if_pos (by omega)]
       have:t-(PH+i)=(t-(PH+(i+1)))+1:=by omega
       rw [this,List.getElem?_cons_succ]
     . rw [if_neg h,if_neg (by omega)]
theorem qa8 {vals:Array Value}{args:List (V1 A)}{tb:List (Nat×O)}{ph:List A}(hold:Jh w)(hsz:vals.size=args.length)(hph:args.length<=PH)
 (hr:∀ (k:Nat) (x:V1 A),args[k]?=some x->∃ u,vals[k]?=some u/\qQ (fun _=>qj w σ) x u) (hin:kK w σ tb ph) (n m:Nat) :
 FR (Jk n args ph tb) σ w (qC { tmps:=vals++Array.replicate m undef,defers:=[] }):=by
 refine ⟨hin.inj,hin.lt,hold,hin.tbl,fun t=>?_⟩
 show qN _ (qa unT (Qp 0 args++qbH 0 ph) t) _
 rw [ko,qfJ]
 by_cases h:t<args.length
 . rw [decide_eq_true (by omega),if_pos rfl,qcD,if_pos (Nat.zero_le _),Nat.sub_zero]
   obtain ⟨u,h1,h2⟩:=hr t args[t] (List.getElem?_eq_getElem h)
   rw [List.getElem?_eq_getElem h,Zx (by omega)]
   dsimp only
   have hlt:t<vals.size:=by omega
   rw [Array.getD_eq_getD_getElem?,Array.getElem?_append_left hlt,h1]
   exact h2
 . rw [decide_eq_false (by omega),if_neg (by simp),qiX]
   by_cases h2:PH+0<=t
   . rw [if_pos h2]
     cases hx:ph[t-(PH+0)]? with
     | none=>exact qj.un _
     | some x =>
       have:=hin.ph _ x hx
       show qj w σ x _
       unfold qC
       rw [if_neg (by omega)]
       exact this
   . rw [if_neg h2];exact qj.un _
theorem qcU (hT:ka P T)(hF:FR F σ w vt):∀ {rs:List ResultVar} {xs:List (V1 A)},vw T F rs=some xs->xs.length=rs.length/\∃ vs:List Value,vs.length=rs.length ∧
 (∀ (i:Nat) (v:Value),vs[i]?=some v->∃ t,rs[i]?=some t/\RV P w vt t v)/\∀ (i:Nat) (x:V1 A),xs[i]?=some x->∃ v,vs[i]?=some v/\qQ (fun _=>qj w σ) x v:=by
 intro rs
 induction rs with
 | nil =>
   intro xs h
   simp only [vw,Option.some.injEq] at h
   subst h
   exact ⟨rfl,[],rfl,fun i v h=>by simp at h,fun i x h=>by simp at h⟩
 | cons rv rs ih =>
   intro xs h
   simp only [vw] at h
   split at h
   . rename_i x hx
     split at h
     . rename_i l hl
       simp only [Option.some.injEq] at h
       subst h
       obtain ⟨v,h1,h2⟩:=Jl hT hF hx
       obtain ⟨h3,vs,h4,h5,h6⟩:=ih hl
       refine ⟨by simp [h3],v::vs,by simp [h4],fun i u hi=>?_,fun i y hi=>?_⟩
       . cases i with
         | zero=>simp at hi;subst hi;exact ⟨rv,rfl,h1⟩
         | succ i=>obtain ⟨t,h7,h8⟩:=h5 i u (by simpa using hi);exact ⟨t,by simpa using h7,h8⟩
       . cases i with
         | zero=>simp at hi;subst hi;exact ⟨v,rfl,h2⟩
         | succ i=>obtain ⟨u,h7,h8⟩:=h6 i y (by simpa using hi);exact ⟨u,by simpa using h7,h8⟩
     . cases h
   . cases h
end
theorem vM.of_Ex [qh] {P : Program} {T : Nat → Option Ty} (hT : ka P T) {g : FuncId} {fn : Func} {c : Code} {args : List (V1 A)} {tb tb' : List (Nat × O)} {ph ph' : List A} {r : TV A} (hf : P.funcs[g]? = some fn) (hb : fn.body = some c) (hnm : (fn.name == "runtime.NumGoroutine") = false)
 (h1:args.length<=fn.ntmps) (hph:args.length<=PH)
 (hx:@Ex _ qmk P [.c c] (Jk fn.ntmps args ph tb) (fun F'=>∃ l,(∃ xs,vw T (F'.keep l) fn.results.toList=some xs/\qke xs=r)/\(∀ (i:Nat) (x:A),ph'[i]?=some x->qa unT (F'.keep l).tm (PH+i)=.v (false,[x]))/\(F'.keep l).tb=tb')):vM P g args tb ph r tb' ph':=by
 refine ⟨⟨fn,c,hf,hb,hnm⟩,?_⟩
 intro J w σ vals hfut hold hsz hargs hin cs
 letI:=J
 let a0:Act:={ tmps:=vals++Array.replicate (fn.ntmps-vals.size) undef,defers:=[] }
 let b0:Frame:={ (default:Frame) with fn:=g,kind:=.normal }
 have henter:Frame.enter P g vals .normal=b0.at a0 [.code c]:=by simp [Frame.enter,Frame.at,hf,hb,b0,a0]
 have hF0:=qa8 hold hsz hph hargs hin fn.ntmps (fn.ntmps-vals.size)
 have hsize:(Jk fn.ntmps args ph tb).n<=a0.tmps.size:=by simp [Jk,a0];omega
 have hd0:Dom (Jk fn.ntmps args ph tb) σ []:=hin.dom
 obtain ⟨F0,a',w',σ0,todo,⟨l,⟨xs,hxs,hr⟩,hp,htb⟩,k1,k2',k3',k4',k5,k6,k7⟩:=hx J a0 w σ hfut (fun k hk=>by simp at hk;subst hk;trivial) hF0 hd0 (fun h=>by cases h) hsize [.code c] (.inl rfl) b0 cs
 obtain ⟨σ',k2,k3,k4''⟩:=Qj k2' k3' l
 have k4:=k4'.trans k4''
 generalize F0.keep l=F' at k2 k3 hxs hp htb
 obtain ⟨hxl,vs,hvl,hvr,hrep⟩:=qcU hT k2 hxs
 have hrun:=ZX (P:=P) (ac:=a') (fn:=fn) (rs:=fn.results.toList) (w:=w') rfl hvl hvr
 refine ⟨.returned (qmy vs),w',{ b0.at a' todo with mode:=.returning },⟨_,σ',rfl,⟨k4,⟨k2.inj,k2.lt,fun id=>by rw [<-htb];exact k2.tb id,fun i x hi=>?_,?_⟩,?_⟩⟩,?_,rfl,?_⟩
 . have:=k2.tm (PH+i)
   rw [hp i x hi] at this
   have h2:qj w' σ' x (qC a' (PH+i)):=this
   unfold qC at h2
   rw [if_neg (by omega),show PH+i-PH=i by omega] at h2
   exact h2
 . intro g' x hx'
   rcases k3 g' x hx' with h | ⟨_,_,_,h,_⟩
   . left
     unfold Fr.at at h ⊢
     dsimp only
     rw [<-htb]
     exact h
   . cases h
 . subst hr
   match xs,vs,hxl.trans hvl.symm,hrep with
   | [],[],_,_=>exact ⟨#[],rfl,rfl,fun k x hk=>by simp at hk⟩
   | [x],[v],_,hrep =>
     obtain ⟨u,h2,h3⟩:=hrep 0 x rfl
     simp at h2
     subst h2
     exact h3
   | x::y::xs,v::v'::vs,hl,hrep =>
     refine ⟨_,rfl,by simp at hl ⊢;omega,?_⟩
     intro k z hk
     obtain ⟨u,h2,h3⟩:=hrep k z hk
     exact ⟨u,by simp only [List.getElem?_toArray,h2],h3⟩
 . rw [henter];exact k1
 . exact ⟨rfl,k6,rfl,fn,hf,hrun⟩
end Go.Proofs.YtececadpjelanaaGreat.Ai
namespace Go.Proofs.YtececadpjelanaaGreat.Ai
open Go Go.RowKit
theorem Za (p:qg):Und p p:=⟨rfl,[],by simp⟩
theorem zo (p:qg)(s:List (Nat×Nat)):Und p (p.1,p.2++s):=⟨rfl,s,rfl⟩
theorem y7 {p q r:qg}(h:Und p q)(k:Und q r):Und p r:=by
 obtain ⟨h1,s,h2⟩:=h
 obtain ⟨k1,t,k2⟩:=k
 exact ⟨k1.trans h1,s++t,by rw [k2,h2,List.append_assoc]⟩
theorem qgj {p q x:qg}(h:Und p x)(k:Und q x):Und p q\/Und q p:=by
 obtain ⟨h1,s,h2⟩:=h
 obtain ⟨k1,t,k2⟩:=k
 have h3:p.2++s=q.2++t:=h2.symm.trans k2
 rcases List.append_eq_append_iff.1 h3 with ⟨r,h4,_⟩ | ⟨r,h4,_⟩
 . exact .inl ⟨k1.symm.trans h1,r,h4⟩
 . exact .inr ⟨h1.symm.trans k1,r,h4⟩
theorem wd {p:qg}{x:Nat×Nat}{s:List (Nat×Nat)}:p≠(p.1,p.2++x::s):=fun h=>by
 have:=congrArg (fun y:qg=>y.2.length) h
 simp at this
abbrev Pt:=qg->Option (O×O)
inductive q8 (pt:Pt):qg->O->O->Prop
 | at (p:qg) (o z:O) (h:pt p=some (o,z)):q8 pt p o z
 | un (p:qg) (h:pt p=none):q8 pt p .un .un
 | fz (p:qg) (c:C) (h:pt p=none):q8 pt p (.fz c) (.fz c)
 | osl (p:qg) (xs xs':List (List O)) (h:pt p=none) (hl:xs.length=xs'.length) (hs:∀ (i:Nat) (y y':List O),xs[i]?=some y->xs'[i]?=some y'->y.length=y'.length)
  (hr:∀ (i j:Nat) (y y':List O) (o o':O),xs[i]?=some y->xs'[i]?=some y'->y[j]?=some o->y'[j]?=some o'->q8 pt (p.1,p.2++[(i,j)]) o o'):q8 pt p (.osl xs) (.osl xs')
 | obx (p:qg) (cs cs':List O) (h:pt p=none) (hl:cs.length=cs'.length)
  (hr:∀ (j:Nat) (o o':O),cs[j]?=some o->cs'[j]?=some o'->q8 pt (p.1,p.2++[(0,j)]) o o'):q8 pt p (.obx cs) (.obx cs')
theorem q8.mono {pt pt':Pt}{p:qg}{o o':O}(h:q8 pt p o o'):(∀ x,Und p x->pt' x=pt x)->q8 pt' p o o':=by
 induction h with
 | «at» p o z h=>exact fun hx=>.at p o z ((hx p (Za p)).trans h)
 | un p h=>exact fun hx=>.un p ((hx p (Za p)).trans h)
 | fz p c h=>exact fun hx=>.fz p c ((hx p (Za p)).trans h)
 | osl p xs xs' h hl hs hr ih =>
   exact fun hx=>.osl p xs xs' ((hx p (Za p)).trans h) hl hs (fun i j y y' o o' h1 h2 h3 h4=>ih i j y y' o o' h1 h2 h3 h4 (fun x hu=>hx x (y7 (zo p _) hu)))
 | obx p cs cs' h hl hr ih =>
   exact fun hx=>.obx p cs cs' ((hx p (Za p)).trans h) hl (fun j o o' h1 h2=>ih j o o' h1 h2 (fun x hu=>hx x (y7 (zo p _) hu)))
section
variable [qi] {P:Program} {T:Nat->Option Ty} {w w':World} {σ σ':Gh} {F:Fr} {vt:Nat->Value} {a:Act}
theorem q8.refl {p:qg}{o:O}{v:Value}(h:qo w σ p o v):q8 (fun _=>none) p o o:=by
 induction h with
 | un p v h=>exact .un p rfl
 | fz p c v h=>exact .fz p c rfl
 | oslz p a=>exact .osl p [] [] rfl rfl (fun i y y' h=>by simp at h) (fun i j y y' o o' h=>by simp at h)
 | osl p xs e sz g cap cur us hh hc hcm hl hs hg hm hr ih =>
   refine .osl p xs xs rfl rfl (fun i y y' h1 h2=>by rw [h1] at h2;injection h2 with h2;rw [h2]) (fun i j y y' o o' h1 h2 h3 h4=>?_)
   rw [h1] at h2;injection h2 with h2;subst h2
   rw [h3] at h4;injection h4 with h4;subst h4
   exact ih i j y o h1 h3
 | obx p cs g e cells us n cap sz hh hl hg hm hr ih =>
   refine .obx p cs cs rfl rfl (fun j o o' h1 h2=>?_)
   rw [h1] at h2;injection h2 with h2;subst h2
   exact ih j o h1
theorem qo.patch {σ1:Gh}{pt:Pt}(hst:kD w σ w' σ1)(hsz:w.heap.size<=w'.heap.size)
 (h1:∀ g x,σ g=some x->(∀ q z,pt q=some z->¬Und q x.p)->w'.heap[g]?=w.heap[g]?/\σ1 g=some x)
 (h3:∀ q o z v,pt q=some (o,z)->qo w σ q o v->qo w' σ1 q z v) {p:qg} {o:O} {v:Value} (h:qo w σ p o v) :
 ∀ z,(∀ q y,pt q=some y->Und q p->q=p)->q8 pt p o z->qo w' σ1 p z v:=by
 have top:∀ {p:qg} {q:qg} {y:O×O},(∀ q y,pt q=some y->Und q p->q=p)->pt p=none->pt q=some y->¬Und q p:=by
  intro p q y hq hn hy hu
  obtain rfl:=hq q y hy hu
  rw [hn] at hy;cases hy
 have down:∀ {p:qg} (i j:Nat),(∀ q y,pt q=some y->Und q p->q=p)->pt p=none->∀ q y,pt q=some y->Und q (p.1,p.2++[(i,j)])->q=(p.1,p.2++[(i,j)]):=by
  intro p i j hq hn q y hy hu
  rcases qgj hu (zo p [(i,j)]) with h | h
  . exact absurd h (top hq hn hy)
  . obtain ⟨k1,s,k2⟩:=h
    obtain ⟨_,t,k4⟩:=hu
    have h5:p.2++[(i,j)]=p.2++(s++t):=by rw [<-List.append_assoc,<-k2];exact k4
    have h6:=List.append_cancel_left h5
    cases s with
    | nil =>
      exfalso
      have:q=p:=Prod.ext k1 (by simpa using k2)
      rw [this,hn] at hy
      cases hy
    | cons a s =>
      simp only [List.cons_append,List.cons.injEq] at h6
      obtain ⟨e1,e2⟩:=h6
      have:s=[]:=by cases s with | nil=>rfl | cons _ _=>simp at e2
      subst this
      refine Prod.ext k1 ?_
      rw [k2,e1]
 induction h with
 | un p v h =>
   intro z hq hp
   cases hp with
   | «at» _ _ _ he=>exact h3 _ _ _ _ he (.un p v h)
   | un=>exact .un p v h
 | fz p c v h =>
   intro z hq hp
   cases hp with
   | «at» _ _ _ he=>exact h3 _ _ _ _ he (.fz p c v h)
   | fz=>exact .fz p c v (h.move hsz hst)
 | oslz p b =>
   intro z hq hp
   cases hp with
   | «at» _ _ _ he=>exact h3 _ _ _ _ he (.oslz p b)
   | osl _ _ xs' _ hl =>
     have:xs'=[]:=List.length_eq_zero_iff.1 hl.symm
     subst this
     exact .oslz p b
 | osl p xs e sz g cap cur us hh hc hcm hl hs hg hm hr ih =>
   intro z hq hp
   cases hp with
   | «at» _ _ _ he=>exact h3 _ _ _ _ he (.osl p xs e sz g cap cur us hh hc hcm hl hs hg hm hr)
   | osl _ _ xs' hn hl' hs' hr' =>
     obtain ⟨k1,k2⟩:=h1 g _ hg (fun q y hy=>top hq hn hy)
     have old:∀ {i:Nat} {y':List O},xs'[i]?=some y'->∃ y,xs[i]?=some y/\y.length=y'.length:=by
      intro i y' hi
      have:i<xs.length:=by rw [hl'];exact (List.getElem?_eq_some_iff.1 hi).1
      exact ⟨xs[i],List.getElem?_eq_getElem this,hs' i _ _ (List.getElem?_eq_getElem this) hi⟩
     have cell:∀ {i j:Nat} {y':List O} {o':O},xs'[i]?=some y'->y'[j]?=some o'->∃ y o,xs[i]?=some y/\y[j]?=some o:=by
      intro i j y' o' hi hj
      obtain ⟨y,h4,h5⟩:=old hi
      have:j<y.length:=by rw [h5];exact (List.getElem?_eq_some_iff.1 hj).1
      exact ⟨y,y[j],h4,List.getElem?_eq_getElem this⟩
     rw [hl'] at hg hc ⊢
     rw [hl'] at k2
     refine .osl p xs' e sz g cap cur us (k1.trans hh) hc hcm hl (fun y' hy'=>?_) k2 ?_ ?_
     . obtain ⟨i,hi⟩:=List.getElem?_of_mem hy'
       obtain ⟨y,h4,h5⟩:=old hi
       rw [<-h5];exact hs y (List.mem_of_getElem? h4)
     . intro i j y' o' hi hj
       obtain ⟨y,o,h4,h5⟩:=cell hi hj
       exact hm i j y o h4 h5
     . intro i j y' o' hi hj
       obtain ⟨y,o,h4,h5⟩:=cell hi hj
       exact ih i j y o h4 h5 o' (down i j hq hn) (hr' i j y y' o o' h4 hi h5 hj)
 | obx p cs g e cells us n cap sz hh hl hg hm hr ih =>
   intro z hq hp
   cases hp with
   | «at» _ _ _ he=>exact h3 _ _ _ _ he (.obx p cs g e cells us n cap sz hh hl hg hm hr)
   | obx _ _ cs' hn hl' hr' =>
     obtain ⟨k1,k2⟩:=h1 g _ hg (fun q y hy=>top hq hn hy)
     have cell:∀ {j:Nat} {o':O},cs'[j]?=some o'->∃ o,cs[j]?=some o:=by
      intro j o' hj
      have:j<cs.length:=by rw [hl'];exact (List.getElem?_eq_some_iff.1 hj).1
      exact ⟨cs[j],List.getElem?_eq_getElem this⟩
     refine .obx p cs' g e cells us n cap sz (k1.trans hh) (by rw [hl,hl']) k2 ?_ ?_
     . intro j o' hj
       obtain ⟨o,h4⟩:=cell hj
       exact hm j o h4
     . intro j o' hj
       obtain ⟨o,h4⟩:=cell hj
       exact ih j o h4 o' (down 0 j hq hn) (hr' j o o' h4 hj)
end
def Pt.add (pt:Pt)(q:qg)(y:O×O):Pt:=fun x=>if x=q then some y else pt x
theorem q8.set {pt:Pt}{z:O}:∀ (s:List (Nat×Nat)) (p:qg) (o o1:O),q8 pt p o o1->(∀ q y,pt q=some y->¬Und q (p.1,p.2++s)/\¬Und (p.1,p.2++s) q)->o.at std s≠.un →
 q8 (pt.add (p.1,p.2++s) (o.at std s,z)) p o (o1.set std s z):=by
 intro s
 induction s with
 | nil =>
   intro p o o1 h hq hne
   have:O.set std o1 [] z=z:=by cases o1<;>rfl
   rw [this]
   have h2:o.at std []=o:=by cases o<;>rfl
   rw [h2]
   exact .at p o z (by unfold Pt.add;rw [if_pos (by simp)])
 | cons x s ih =>
   obtain ⟨i,j⟩:=x
   intro p o o1 h hq hne
   have hpne:(pt.add (p.1,p.2++(i,j)::s) (o.at std ((i,j)::s),z)) p=pt p:=by
    unfold Pt.add;rw [if_neg wd]
   have epath:((p.1,p.2++[(i,j)]).1,(p.1,p.2++[(i,j)]).2++s)=(p.1,p.2++(i,j)::s):=by simp
   have off:∀ (i' j':Nat),(i',j')≠(i,j)->∀ x,Und (p.1,p.2++[(i',j')]) x->(pt.add (p.1,p.2++(i,j)::s) (o.at std ((i,j)::s),z)) x=pt x:=by
    intro i' j' hij x hu
    unfold Pt.add
    rw [if_neg]
    rintro rfl
    obtain ⟨_,t,ht⟩:=hu
    simp only [List.append_assoc,List.singleton_append] at ht
    have:=List.append_cancel_left ht
    injection this with h1 _
    exact hij h1.symm
   cases h with
   | «at» _ _ _ he=>exact absurd (zo p _) (hq p _ he).1
   | un=>exact absurd (@kv qG _) hne
   | fz _ c=>exact absurd rfl hne
   | osl _ xs xs' hn hl hs hr =>
     have hget:∃ y c,xs[i]?=some y/\y[j]?=some c/\(O.osl xs).at std ((i,j)::s)=c.at std s:=by
      have e:(O.osl xs).at std ((i,j)::s)=(match xs[i]? with | some y=>(match nth y j with | some o=>o.at std s | none=>.un) | none=>.un):=rfl
      cases h1:xs[i]? with
      | none=>rw [e,h1] at hne;exact absurd rfl hne
      | some y =>
        cases h2:y[j]? with
        | none=>rw [e,h1] at hne;dsimp only at hne;rw [qq,h2] at hne;exact absurd rfl hne
        | some c=>exact ⟨y,c,rfl,h2,by rw [e,h1];dsimp only;rw [qq,h2]⟩
     obtain ⟨y,c,h1,h2,h3⟩:=hget
     have hi':i<xs'.length:=by rw [<-hl];exact (List.getElem?_eq_some_iff.1 h1).1
     obtain ⟨y',h1'⟩:∃ y',xs'[i]?=some y':=⟨xs'[i],List.getElem?_eq_getElem hi'⟩
     have hly:=hs i y y' h1 h1'
     have hj':j<y'.length:=by rw [<-hly];exact (List.getElem?_eq_some_iff.1 h2).1
     obtain ⟨c',h2'⟩:∃ c',y'[j]?=some c':=⟨y'[j],List.getElem?_eq_getElem hj'⟩
     have eset:(O.osl xs').set std ((i,j)::s) z=.osl (xs'.set i (y'.set j (c'.set std s z))):=by
      show (match xs'[i]? with | some y=>(match nth y j with | some o=>O.osl (xs'.set i (Vy y j (o.set std s z))) | none=>.osl xs') | none=>.osl xs')=_
      rw [h1'];dsimp only;rw [qq,h2'];dsimp only;rw [q9]
     have hrec:=ih (p.1,p.2++[(i,j)]) c c' (hr i j y y' c c' h1 h1' h2 h2') (by rw [epath];exact hq) (by rw [<-h3];exact hne)
     rw [epath,<-h3] at hrec
     rw [eset]
     refine .osl p xs _ (hpne.trans hn) (by simpa using hl) ?_ ?_
     . intro i2 y2 y2' g1 g2
       by_cases e:i2=i
       . subst e
         rw [List.getElem?_set_self hi'] at g2
         injection g2 with g2
         subst g2
         rw [h1] at g1;injection g1 with g1;subst g1
         simpa using hly
       . rw [List.getElem?_set_ne (Ne.symm e)] at g2
         exact hs i2 y2 y2' g1 g2
     . intro i2 j2 y2 y2' o2 o2' g1 g2 g3 g4
       by_cases e:i2=i
       . subst e
         rw [List.getElem?_set_self hi'] at g2
         injection g2 with g2
         subst g2
         rw [h1] at g1;injection g1 with g1;subst g1
         by_cases e':j2=j
         . subst e'
           rw [List.getElem?_set_self hj'] at g4
           injection g4 with g4
           subst g4
           rw [h2] at g3;injection g3 with g3;subst g3
           exact hrec
         . rw [List.getElem?_set_ne (Ne.symm e')] at g4
           exact (hr i2 j2 y y' o2 o2' h1 h1' g3 g4).mono (off i2 j2 (by simp [e']))
       . rw [List.getElem?_set_ne (Ne.symm e)] at g2
         exact (hr i2 j2 y2 y2' o2 o2' g1 g2 g3 g4).mono (off i2 j2 (by simp [e]))
   | obx _ cs cs' hn hl hr =>
     cases i with
     | succ i=>exact absurd rfl hne
     | zero =>
       have hget:∃ c,cs[j]?=some c/\(O.obx cs).at std ((0,j)::s)=c.at std s:=by
        have e:(O.obx cs).at std ((0,j)::s)=(match nth cs j with | some o=>o.at std s | none=>.un):=rfl
        cases h2:cs[j]? with
        | none=>rw [e,qq,h2] at hne;exact absurd rfl hne
        | some c=>exact ⟨c,rfl,by rw [e,qq,h2]⟩
       obtain ⟨c,h2,h3⟩:=hget
       have hj':j<cs'.length:=by rw [<-hl];exact (List.getElem?_eq_some_iff.1 h2).1
       obtain ⟨c',h2'⟩:∃ c',cs'[j]?=some c':=⟨cs'[j],List.getElem?_eq_getElem hj'⟩
       have eset:(O.obx cs').set std ((0,j)::s) z=.obx (cs'.set j (c'.set std s z)):=by
        show (match nth cs' j with | some o=>O.obx (Vy cs' j (o.set std s z)) | none=>.obx cs')=_
        rw [qq,h2'];dsimp only;rw [q9]
       have hrec:=ih (p.1,p.2++[(0,j)]) c c' (hr j c c' h2 h2') (by rw [epath];exact hq) (by rw [<-h3];exact hne)
       rw [epath,<-h3] at hrec
       rw [eset]
       refine .obx p cs _ (hpne.trans hn) (by simpa using hl) ?_
       intro j2 o2 o2' g3 g4
       by_cases e':j2=j
       . subst e'
         rw [List.getElem?_set_self hj'] at g4
         injection g4 with g4
         subst g4
         rw [h2] at g3;injection g3 with g3;subst g3
         exact hrec
       . rw [List.getElem?_set_ne (Ne.symm e')] at g4
         exact (hr j2 o2 o2' g3 g4).mono (off 0 j2 (by simp [e']))
theorem q8.there {pt:Pt}:∀ (s:List (Nat×Nat)) (p:qg) (o o1:O) {y z:O},q8 pt p o o1->pt (p.1,p.2++s)=some (y,z)->(∀ q x,pt q=some x->Und q (p.1,p.2++s)->q=(p.1,p.2++s))->o.at std s≠.un->o1.at std s=z:=by
 intro s
 induction s with
 | nil =>
   intro p o o1 y z h hz hq hne
   have e1:o1.at std []=o1:=by cases o1<;>rfl
   rw [e1]
   have hz:pt p=some (y,z):=by simpa using hz
   cases h with
   | «at» _ _ _ he=>rw [he] at hz;injection hz with hz;injection hz
   | _=>simp_all
 | cons x s ih =>
   obtain ⟨i,j⟩:=x
   intro p o o1 y z h hz hq hne
   have epath:((p.1,p.2++[(i,j)]).1,(p.1,p.2++[(i,j)]).2++s)=(p.1,p.2++(i,j)::s):=by simp
   cases h with
   | «at» _ _ _ he=>exact absurd (hq p _ he (zo p _)) wd
   | un=>exact absurd (@kv qG _) hne
   | fz _ c=>exact absurd rfl hne
   | osl _ xs xs' hn hl hs hr =>
     have e:(O.osl xs).at std ((i,j)::s)=(match xs[i]? with | some y=>(match nth y j with | some o=>o.at std s | none=>.un) | none=>.un):=rfl
     cases h1:xs[i]? with
     | none=>rw [e,h1] at hne;exact absurd rfl hne
     | some yy =>
       cases h2:yy[j]? with
       | none=>rw [e,h1] at hne;dsimp only at hne;rw [qq,h2] at hne;exact absurd rfl hne
       | some c =>
         rw [e,h1] at hne;dsimp only at hne;rw [qq,h2] at hne
         have hi':i<xs'.length:=by rw [<-hl];exact (List.getElem?_eq_some_iff.1 h1).1
         have h1':xs'[i]?=some xs'[i]:=List.getElem?_eq_getElem hi'
         have hly:=hs i yy _ h1 h1'
         have hj':j<xs'[i].length:=by rw [<-hly];exact (List.getElem?_eq_some_iff.1 h2).1
         have h2':xs'[i][j]?=some xs'[i][j]:=List.getElem?_eq_getElem hj'
         have:=ih (p.1,p.2++[(i,j)]) c _ (hr i j yy _ c _ h1 h1' h2 h2') (by rw [epath];exact hz) (by rw [epath];exact hq) hne
         rw [<-this]
         show (match xs'[i]? with | some y=>(match nth y j with | some o=>o.at std s | none=>.un) | none=>.un)=_
         rw [h1'];dsimp only;rw [qq,h2']
   | obx _ cs cs' hn hl hr =>
     cases i with
     | succ i=>exact absurd rfl hne
     | zero =>
       have e:(O.obx cs).at std ((0,j)::s)=(match nth cs j with | some o=>o.at std s | none=>.un):=rfl
       cases h2:cs[j]? with
       | none=>rw [e,qq,h2] at hne;exact absurd rfl hne
       | some c =>
         rw [e,qq,h2] at hne
         have hj':j<cs'.length:=by rw [<-hl];exact (List.getElem?_eq_some_iff.1 h2).1
         have h2':cs'[j]?=some cs'[j]:=List.getElem?_eq_getElem hj'
         have:=ih (p.1,p.2++[(0,j)]) c _ (hr j c _ h2 h2') (by rw [epath];exact hz) (by rw [epath];exact hq) hne
         rw [<-this]
         show (match nth cs' j with | some o=>o.at std s | none=>.un)=_
         rw [qq,h2']
theorem q8.fit {pt:Pt}:∀ (t:List (Nat×Nat)) (p:qg) (o o1:O) {n:Nat},q8 pt p o o1->(∀ q x,pt q=some x->¬Und q (p.1,p.2++t))->Fit (o.at std t) n->Fit (o1.at std t) n:=by
 intro t
 induction t with
 | nil =>
   intro p o o1 n h hq hf
   have e0:o.at std []=o:=by cases o<;>rfl
   have e1:o1.at std []=o1:=by cases o1<;>rfl
   rw [e0] at hf
   rw [e1]
   cases h with
   | «at» _ _ _ he=>exact absurd (zo p _) (hq p _ he)
   | un=>exact hf
   | fz=>exact hf
   | osl _ xs xs' _ hl=>exact ⟨hl▸hf.1,hf.2⟩
   | obx=>trivial
 | cons x t ih =>
   obtain ⟨i,j⟩:=x
   intro p o o1 n h hq hf
   have epath:((p.1,p.2++[(i,j)]).1,(p.1,p.2++[(i,j)]).2++t)=(p.1,p.2++(i,j)::t):=by simp
   cases h with
   | «at» _ _ _ he=>exact absurd (zo p _) (hq p _ he)
   | un=>exact hf
   | fz=>exact hf
   | osl _ xs xs' hn hl hs hr =>
     have e:(O.osl xs).at std ((i,j)::t)=(match xs[i]? with | some y=>(match nth y j with | some o=>o.at std t | none=>.un) | none=>.un):=rfl
     cases h1:xs[i]? with
     | none=>rw [e,h1] at hf;exact hf.elim
     | some yy =>
       cases h2:yy[j]? with
       | none=>rw [e,h1] at hf;dsimp only at hf;rw [qq,h2] at hf;exact hf.elim
       | some c =>
         rw [e,h1] at hf;dsimp only at hf;rw [qq,h2] at hf
         have hi':i<xs'.length:=by rw [<-hl];exact (List.getElem?_eq_some_iff.1 h1).1
         have h1':xs'[i]?=some xs'[i]:=List.getElem?_eq_getElem hi'
         have hly:=hs i yy _ h1 h1'
         have hj':j<xs'[i].length:=by rw [<-hly];exact (List.getElem?_eq_some_iff.1 h2).1
         have h2':xs'[i][j]?=some xs'[i][j]:=List.getElem?_eq_getElem hj'
         have:=ih (p.1,p.2++[(i,j)]) c _ (hr i j yy _ c _ h1 h1' h2 h2') (by rw [epath];exact hq) hf
         show Fit (match xs'[i]? with | some y=>(match nth y j with | some o=>o.at std t | none=>.un) | none=>.un) n
         rw [h1'];dsimp only;rw [qq,h2']
         exact this
   | obx _ cs cs' hn hl hr =>
     cases i with
     | succ i=>exact hf
     | zero =>
       have e:(O.obx cs).at std ((0,j)::t)=(match nth cs j with | some o=>o.at std t | none=>.un):=rfl
       cases h2:cs[j]? with
       | none=>rw [e,qq,h2] at hf;exact hf.elim
       | some c =>
         rw [e,qq,h2] at hf
         have hj':j<cs'.length:=by rw [<-hl];exact (List.getElem?_eq_some_iff.1 h2).1
         have h2':cs'[j]?=some cs'[j]:=List.getElem?_eq_getElem hj'
         have:=ih (p.1,p.2++[(0,j)]) c _ (hr j c _ h2 h2') (by rw [epath];exact hq) hf
         show Fit (match nth cs' j with | some o=>o.at std t | none=>.un) n
         rw [qq,h2']
         exact this
end Go.Proofs.YtececadpjelanaaGreat.Ai
namespace Go.Proofs.YtececadpjelanaaGreat.Ai
open Go Go.RowKit
def ren:List (qg×qg)->qg->Option qg
 | [],_=>none
 | (p,q)::L,x=>match nq x.1 p.1 with
   | true=>(match pre std p.2 x.2 with | some s=>some (q.1,q.2++s) | none=>ren L x)
   | false=>ren L x
theorem WB:∀ {L:List (qg×qg)} {x y:qg},ren L x=some y->∃ (i:Nat) (p q:qg) (s:List (Nat×Nat)),L[i]?=some (p,q)/\x=(p.1,p.2++s)/\y=(q.1,q.2++s):=by
 intro L
 induction L with
 | nil=>intro x y h;cases h
 | cons z L ih =>
   obtain ⟨p,q⟩:=z
   intro x y h
   have later:ren L x=some y->∃ (i:Nat) (p' q':qg) (s:List (Nat×Nat)),((p,q)::L)[i]?=some (p',q')/\x=(p'.1,p'.2++s)/\y=(q'.1,q'.2++s):=fun h=>by
    obtain ⟨i,p',q',s,h1,h2,h3⟩:=ih h
    exact ⟨i+1,p',q',s,by simpa using h1,h2,h3⟩
   simp only [ren] at h
   split at h
   . rename_i he
     have he:=Qr.1 he
     split at h
     . rename_i s hs
       simp only [Option.some.injEq] at h
       exact ⟨0,p,q,s,rfl,Prod.ext he (Jy hs),h.symm⟩
     . exact later h
   . exact later h
theorem qc0:∀ {L:List (qg×qg)} {x:qg},ren L x=none->∀ p q,(p,q)∈L->¬Und p x:=by
 intro L
 induction L with
 | nil=>intro x _ p q h;cases h
 | cons z L ih =>
   obtain ⟨p0,q0⟩:=z
   intro x h p q hm
   simp only [ren] at h
   split at h
   . split at h
     . cases h
     . rename_i hs
       rcases List.mem_cons.1 hm with e | hm
       . injection e with e1 e2
         subst e1 e2
         rintro ⟨_,s,h2⟩
         rw [h2,jt] at hs
         cases hs
       . exact ih h p q hm
   . rename_i he
     rcases List.mem_cons.1 hm with e | hm
     . injection e with e1 e2
       subst e1 e2
       rintro ⟨h1,_⟩
       rw [h1,jh] at he
       cases he
     . exact ih h p q hm
def kF (ps:List qg):Prop:=∀ (i j:Nat) (p p':qg),ps[i]?=some p->ps[j]?=some p'->Und p p'->i=j
theorem kF.cmp {ps:List qg}(h:kF ps){i j:Nat}{p p' x:qg}(hi:ps[i]?=some p)(hj:ps[j]?=some p')(h1:Und p x)(h2:Und p' x):i=j:=by
 rcases qgj h1 h2 with h3 | h3
 . exact h i j p p' hi hj h3
 . exact (h j i p' p hj hi h3).symm
theorem qgt {L:List (qg×qg)}(hA:kF (L.map Prod.fst)){i:Nat}{p q:qg}(h:L[i]?=some (p,q))(s:List (Nat×Nat)):ren L (p.1,p.2++s)=some (q.1,q.2++s):=by
 cases hr:ren L (p.1,p.2++s) with
 | none=>exact absurd (zo p s) (qc0 hr p q (List.mem_of_getElem? h))
 | some y =>
   obtain ⟨j,p',q',s',h1,h2,h3⟩:=WB hr
   have hij:i=j:=hA.cmp (x:=(p.1,p.2++s)) (by rw [List.getElem?_map,h];rfl) (by rw [List.getElem?_map,h1];rfl) (zo p s) (by rw [h2];exact zo p' s')
   subst hij
   rw [h] at h1
   injection h1 with h1
   injection h1 with e1 e2
   subst e1 e2
   have:s=s':=by
    have:=congrArg Prod.snd h2
    exact List.append_cancel_left this
   rw [h3,this]
inductive LK where
 | sl (n:Nat)
 | bx
def jp:LK->qg->A
 | .sl n,p=>.rf p 0 n
 | .bx,p=>.pp p 0 0
structure qZ where
 q:qg
 k:LK
 o:O
 r:qg
 z:O
def LK.ok:LK->O->O->Prop
 | .sl n,.osl xs,.osl xs'=>xs.length=n/\xs'.length=n/\∀ y∈xs,∀ y'∈xs',y.length=y'.length
 | .bx,.obx _,.obx _=>True
 | _,_,_=>False
theorem LK.ok_ne {k:LK}{o z:O}(h:k.ok o z):o≠.un/\z≠.un:=by
 cases k<;>cases o<;>cases z<;>first | exact h.elim | exact ⟨by simp,by simp⟩
def lrt (i:Nat):Nat:=41000000+i
def inL:Nat->List qZ->List (qg×qg)
 | _,[]=>[]
 | i,l::L=>(l.q,(lrt i,[]))::inL (i+1) L
def JY:List qZ->List (qg×qg)
 | []=>[]
 | l::L=>(l.r,l.q)::JY L
def tbL:Nat->List qZ->List (Nat×O)
 | _,[]=>[]
 | i,l::L=>(lrt i,l.o)::tbL (i+1) L
def phL:Nat->List qZ->List A
 | _,[]=>[]
 | i,l::L=>jp l.k (lrt i,[])::phL (i+1) L
def phR:List qZ->List A
 | []=>[]
 | l::L=>jp l.k l.r::phR L
theorem WO:∀ (L:List qZ) (k i:Nat),(inL k L)[i]?=(L[i]?).map fun l=>(l.q,(lrt (k+i),[])):=by
 intro L
 induction L with
 | nil=>intro k i;simp [inL]
 | cons l L ih =>
   intro k i
   cases i with
   | zero=>simp [inL]
   | succ i=>simp only [inL,List.getElem?_cons_succ,ih];rw [show k+1+i=k+(i+1) by omega]
theorem qbC (L:List qZ)(i:Nat):(JY L)[i]?=(L[i]?).map fun l=>(l.r,l.q):=by
 induction L generalizing i with
 | nil=>simp [JY]
 | cons l L ih=>cases i<;>simp [JY,ih]
theorem qma:∀ (L:List qZ) (k i:Nat),(phL k L)[i]?=(L[i]?).map fun l=>jp l.k (lrt (k+i),[]):=by
 intro L
 induction L with
 | nil=>intro k i;simp [phL]
 | cons l L ih =>
   intro k i
   cases i with
   | zero=>simp [phL]
   | succ i=>simp only [phL,List.getElem?_cons_succ,ih];rw [show k+1+i=k+(i+1) by omega]
theorem qlQ (L:List qZ)(i:Nat):(phR L)[i]?=(L[i]?).map fun l=>jp l.k l.r:=by
 induction L generalizing i with
 | nil=>simp [phR]
 | cons l L ih=>cases i<;>simp [phR,ih]
theorem qlO (L:List qZ)(k:Nat):(inL k L).map Prod.fst=L.map (·.q):=by
 induction L generalizing k with
 | nil=>rfl
 | cons l L ih=>simp [inL,ih]
theorem qkO (L:List qZ):(JY L).map Prod.fst=L.map (·.r):=by
 induction L with
 | nil=>rfl
 | cons l L ih=>simp [JY,ih]
theorem qdq [qi]:∀ (L:List qZ) (k id:Nat),(∃ i l,L[i]?=some l/\id=lrt (k+i)/\qa .un (tbL k L) id=l.o)\/((∀ i l,L[i]?=some l->id≠lrt (k+i))/\qa .un (tbL k L) id=.un):=by
 intro L
 induction L with
 | nil=>intro k id;exact .inr ⟨fun i l h=>by simp at h,rfl⟩
 | cons l L ih =>
   intro k id
   simp only [tbL]
   rw [qp]
   by_cases e:lrt k=id
   . exact .inl ⟨0,l,rfl,by simpa using e.symm,by rw [if_pos e]⟩
   . rw [if_neg e]
     rcases ih (k+1) id with ⟨i,l',h1,h2,h3⟩ | ⟨h1,h2⟩
     . exact .inl ⟨i+1,l',by simpa using h1,by rw [h2,show k+1+i=k+(i+1) by omega],h3⟩
     . refine .inr ⟨fun i l' h=>?_,h2⟩
       cases i with
       | zero=>simpa using fun h=>e h.symm
       | succ i=>rw [show k+(i+1)=k+1+i by omega];exact h1 i l' (by simpa using h)
theorem qge {i j:Nat}(h:lrt i=lrt j):i=j:=by unfold lrt at h;omega
theorem qlK [qi] {L:List qZ}{i:Nat}{l:qZ}(h:L[i]?=some l):qa .un (tbL 0 L) (lrt i)=l.o:=by
 rcases qdq L 0 (lrt i) with ⟨j,l',h1,h2,h3⟩ | ⟨h1,_⟩
 . have:=qge h2
   rw [Nat.zero_add] at this
   subst this
   rw [h] at h1
   injection h1 with h1
   rw [h3,h1]
 . exact absurd (by rw [Nat.zero_add]) (h1 i l h)
theorem qjT {τ:qg->Option qg}{k:LK}{p q:qg}(h:τ p=some q):(jp k p).tr τ=jp k q:=by
 cases k<;>simp [jp,A.tr,h]
section
variable [qi] {P:Program} {T:Nat->Option Ty} {w w':World} {σ σ':Gh} {F:Fr} {vt:Nat->Value} {a:Act}
@[reducible] def qJ (σ:Gh) (u:Nat->Value):qi:=⟨fun b=>qi.J b\/σ b≠none,u,qi.lo,qi.mg,qi.fut⟩
end
theorem qj.swapJ {J1 J2:qi}{w:World}{σa σb:Gh}{x:A}{v:Value}(h:@qj J1 w σa x v)(hb:∀ g y,σa g=some y->σb g=some y)(hf:∀ b,b<w.heap.size->@jE J1 σa b->@jE J2 σb b)(hme:∀ b,b<w.heap.size->@qi.memo J1 b=@qi.memo J2 b:=by exact fun _ _=>rfl):@qj J2 w σb x v:=by
 induction h with
 | un v=>exact @qj.un J2 _ _ v
 | ud=>exact @qj.ud J2 _ _
 | fz c v h=>exact @qj.fz J2 _ _ c v (h.swap hf hme)
 | rf p off len g n cap sz hg hl hn=>exact @qj.rf J2 _ _ p off len g n cap sz (hb _ _ hg) hl hn
 | rz p off b=>exact @qj.rz J2 _ _ p off b
 | pp p i j g n cap sz hg=>exact @qj.pp J2 _ _ p i j g n cap sz (hb _ _ hg)
 | clo f caps vs us hl hm hr ih=>exact @qj.clo J2 _ _ f caps vs us hl hm ih
section
variable [qi] {P:Program} {T:Nat->Option Ty} {w w':World} {σ σ':Gh} {F:Fr} {vt:Nat->Value} {a:Act}
theorem qcQ (hF:FR F σ w vt){u:Nat->Value}:@Jh (qJ σ u) w:=@Jh.mk (qJ σ u) _ (fun b hb=>hb.elim (hF.old.lt b) fun hne=>by
 cases hs:σ b with
 | none=>exact absurd hs hne
 | some x=>exact hF.lt b x hs) hF.old.lo
theorem wT {u:Nat->Value}:∀ b,b<w.heap.size->jE σ b->@jE (qJ σ u) σ b:=fun _ _ h=>⟨h.1,fun hh=>hh.elim h.2 (fun hne=>hne h.1)⟩
theorem qlU (hF:FR F σ w vt)(hd:Dom F σ []){L:List qZ}(hA:kF (L.map (·.q)))(hL:∀ l∈L,F.at std l.q=l.o){u:Nat->Value}(hu:∀ i l,L[i]?=some l->qj w σ (jp l.k l.q) (u i)) :
 @kK (qJ σ u) w (σ.tr (ren (inL 0 L))) (tbL 0 L) (phL 0 L):=by
 have hA':kF ((inL 0 L).map Prod.fst):=by rw [qlO];exact hA
 have hit:∀ {i:Nat} {l:qZ},L[i]?=some l->∀ s,ren (inL 0 L) (l.q.1,l.q.2++s)=some (lrt i,s):=by
  intro i l h s
  have:=qgt hA' (i:=i) (p:=l.q) (q:=(lrt i,[])) (by rw [WO,h];simp) s
  simpa using this
 have inv:∀ {x y:qg},ren (inL 0 L) x=some y->∃ i l s,L[i]?=some l/\x=(l.q.1,l.q.2++s)/\y=(lrt i,s):=by
  intro x y h
  obtain ⟨i,p,q,s,h1,h2,h3⟩:=WB h
  rw [WO] at h1
  cases hl:L[i]? with
  | none=>rw [hl] at h1;simp at h1
  | some l =>
    rw [hl] at h1
    simp only [Option.map_some,Option.some.injEq,Prod.mk.injEq,Nat.zero_add] at h1
    obtain ⟨rfl,rfl⟩:=h1
    exact ⟨i,l,s,hl,h2,by simpa using h3⟩
 refine @kK.mk (qJ σ u) _ _ _ _ (fun g g' x y hx hy he=>?_) (fun g x hx=>?_) (fun id=>?_) (fun i x hx=>?_) (fun g x hx=>?_)
 . obtain ⟨x0,h1,h2,_⟩:=kH hx
   obtain ⟨y0,h4,h5,_⟩:=kH hy
   obtain ⟨i,l,s,k1,k2,k3⟩:=inv h2
   obtain ⟨i',l',s',m1,m2,m3⟩:=inv h5
   rw [k3,m3] at he
   injection he with e1 e2
   obtain rfl:=qge e1
   rw [k1] at m1
   injection m1 with m1
   subst m1 e2
   exact hF.inj g g' x0 y0 h1 h4 (k2.trans m2.symm)
 . obtain ⟨x0,h1,_,_⟩:=kH hx
   exact hF.lt g x0 h1
 . rcases qdq L 0 id with ⟨i,l,h1,h2,h3⟩ | ⟨_,h2⟩
   . rw [h3]
     rw [Nat.zero_add] at h2
     subst h2
     obtain ⟨v,hv⟩:=zf hF l.q
     rw [hL l (List.mem_of_getElem? h1)] at hv
     have hv':@qo (qJ σ u) w σ l.q l.o v:=hv.swap (J2:=qJ σ u) (.inr wT) (fun _ _=>rfl) l.q (fun g s n cap sz h=>h)
     refine ⟨v,@qo.move (qJ σ u) _ _ _ _ (Nat.le_refl _) (@jg (qJ σ u) _ _ _) _ _ _ hv' (lrt i,[]) ?_⟩
     intro g s n cap sz hg _
     exact ⟨rfl,by rw [zp hg (hit h1 s)];simp⟩
   . rw [h2];exact ⟨.bool false,@qo.un (qJ σ u) _ _ _ _ rfl⟩
 . rw [qma] at hx
   cases hl:L[i]? with
   | none=>rw [hl] at hx;simp at hx
   | some l =>
     rw [hl] at hx
     simp only [Option.map_some,Option.some.injEq,Nat.zero_add] at hx
     subst hx
     have h1:=(hu i l hl).swapJ (J2:=qJ σ u) (fun g y h=>h) wT
     have h2:=@qj.tr (qJ σ u) _ _ (ren (inL 0 L)) _ _ h1
     rw [qjT (by have:=hit hl [];simpa using this)] at h2
     exact h2
 . obtain ⟨x0,h1,h2,h3⟩:=kH hx
   obtain ⟨i,l,s,k1,k2,k3⟩:=inv h2
   left
   rcases hd g x0 h1 with h4 | ⟨_,_,_,h4,_⟩
   . have:x.n=x0.n:=by rw [h3]
     rw [k3,this]
     unfold Fr.at
     dsimp only
     rw [qlK k1,<-hL l (List.mem_of_getElem? k1),W5,<-k2]
     exact h4
   . cases h4
end
end Go.Proofs.YtececadpjelanaaGreat.Ai
namespace Go.Proofs.YtececadpjelanaaGreat.Ai
open Go Go.RowKit
def kd (M:Ops)(F:Fr):List qZ->Fr
 | []=>F
 | l::L=>(kd M F L).setAt M l.q l.z
def qdy:List qZ->Pt
 | []=>fun _=>none
 | l::L=>(qdy L).add l.q (l.o,l.z)
theorem ZS:∀ {L:List qZ} {x:qg} {y:O×O},qdy L x=some y->∃ (i:Nat) (l:qZ),L[i]?=some l/\l.q=x/\y=(l.o,l.z):=by
 intro L
 induction L with
 | nil=>intro x y h;cases h
 | cons l L ih =>
   intro x y h
   simp only [qdy,Pt.add] at h
   split at h
   . rename_i e
     simp only [Option.some.injEq] at h
     exact ⟨0,l,rfl,e.symm,h.symm⟩
   . obtain ⟨i,l',h1,h2,h3⟩:=ih h
     exact ⟨i+1,l',by simpa using h1,h2,h3⟩
theorem kF.tail {p:qg}{ps:List qg}(h:kF (p::ps)):kF ps:=fun i j x y hi hj hu=>by
 have:=h (i+1) (j+1) x y (by simpa using hi) (by simpa using hj) hu
 omega
theorem qbT {L:List qZ}(hA:kF (L.map (·.q))){i:Nat}{l:qZ}(h:L[i]?=some l):qdy L l.q=some (l.o,l.z):=by
 have ex:∀ {L:List qZ} {i:Nat} {l:qZ},L[i]?=some l->∃ y,qdy L l.q=some y:=by
  intro L
  induction L with
  | nil=>intro i l h;simp at h
  | cons a L ih =>
    intro i l h
    simp only [qdy,Pt.add]
    split
    . exact ⟨_,rfl⟩
    . cases i with
      | zero=>simp at h;subst h;rename_i hne;exact absurd rfl hne
      | succ i=>exact ih (by simpa using h)
 obtain ⟨y,hy⟩:=ex h
 obtain ⟨j,l',h1,h2,h3⟩:=ZS hy
 have:i=j:=hA i j l.q l'.q (by rw [List.getElem?_map,h];rfl) (by rw [List.getElem?_map,h1];rfl) (by rw [h2];exact Za _)
 subst this
 rw [h] at h1
 injection h1 with h1
 rw [hy,h3,h1]
def jV:List qZ->qg->Option qg
 | [],x=>some x
 | l::L,x=>match nq x.1 l.q.1 with
   | true=>(match pre std l.q.2 x.2 with
     | some []=>some x
     | some (_::_)=>none
     | none=>jV L x)
   | false=>jV L x
theorem qin:∀ {L:List qZ},kF (L.map (·.q))->∀ {x y:qg},jV L x=some y->y=x/\∀ l∈L,Und l.q x->l.q=x:=by
 intro L
 induction L with
 | nil=>intro _ x y h;simp only [jV,Option.some.injEq] at h;exact ⟨h.symm,fun l hl=>by cases hl⟩
 | cons l L ih =>
   intro hA x y h
   have hA':kF (L.map (·.q)):=kF.tail hA
   simp only [jV] at h
   split at h
   . rename_i he
     have he:=Qr.1 he
     split at h
     . rename_i hp
       simp only [Option.some.injEq] at h
       have hx:x=l.q:=Prod.ext he (by have:=Jy hp;simpa using this)
       refine ⟨h.symm,fun l' hl' hu=>?_⟩
       rcases List.mem_cons.1 hl' with e | hm
       . rw [e,hx]
       . exfalso
         obtain ⟨i,hi⟩:=List.getElem?_of_mem hm
         have:=hA (i+1) 0 l'.q l.q (by simp [hi]) (by simp) (by rw [<-hx];exact hu)
         omega
     . cases h
     . rename_i hp
       obtain ⟨h1,h2⟩:=ih hA' h
       refine ⟨h1,fun l' hl' hu=>?_⟩
       rcases List.mem_cons.1 hl' with e | hm
       . subst e
         obtain ⟨_,s,hs⟩:=hu
         rw [hs,jt] at hp
         cases hp
       . exact h2 l' hm hu
   . rename_i he
     obtain ⟨h1,h2⟩:=ih hA' h
     refine ⟨h1,fun l' hl' hu=>?_⟩
     rcases List.mem_cons.1 hl' with e | hm
     . subst e
       rw [hu.1,jh] at he
       cases he
     . exact h2 l' hm hu
theorem WT (F:Fr):∀ L:List qZ,(kd std F L).n=F.n/\(kd std F L).tm=F.tm
 | []=>⟨rfl,rfl⟩
 | l::L=>WT F L
section
variable [qi] {P:Program} {T:Nat->Option Ty} {w w':World} {σ σ':Gh} {F:Fr} {vt:Nat->Value} {a:Act}
theorem Vu (hF:FR F σ w vt):∀ {L:List qZ},kF (L.map (·.q))->(∀ l∈L,F.at std l.q=l.o/\l.o≠.un)->∀ id,q8 (qdy L) (id,[]) (qa .un F.tb id) (qa .un (kd std F L).tb id):=by
 intro L
 induction L with
 | nil =>
   intro _ _ id
   obtain ⟨v,hv⟩:=hF.tb id
   exact q8.refl hv
 | cons l L ih =>
   intro hA hL id
   have hA':kF (L.map (·.q)):=kF.tail hA
   have ih:=ih hA' (fun l' h=>hL l' (List.mem_cons_of_mem _ h)) id
   obtain ⟨h1,h2⟩:=hL l List.mem_cons_self
   have etb:qa .un (kd std F (l::L)).tb id=if l.q.1=id then (qa .un (kd std F L).tb l.q.1).set std l.q.2 l.z else qa .un (kd std F L).tb id:=by
    show qa .un ((l.q.1,(qa .un (kd std F L).tb l.q.1).set std l.q.2 l.z)::del (kd std F L).tb l.q.1) id=_
    rw [qp,qM]
    by_cases e:l.q.1=id
    . rw [if_pos e,if_pos e]
    . rw [if_neg e,if_neg e,if_neg e]
   rw [etb]
   by_cases e:l.q.1=id
   . rw [if_pos e]
     subst e
     have hat:(qa .un F.tb l.q.1).at std l.q.2=l.o:=h1
     have:=ih.set (z:=l.z) l.q.2 (l.q.1,[]) _ _ (by
      intro q y hy
      obtain ⟨i,l',k1,k2,_⟩:=ZS hy
      have e0:((l.q.1,([]:List (Nat×Nat))).1,(l.q.1,([]:List (Nat×Nat))).2++l.q.2)=l.q:=by simp
      rw [e0]
      subst k2
      refine ⟨fun hu=>?_,fun hu=>?_⟩
      . have:=hA (i+1) 0 l'.q l.q (by simp [k1]) (by simp) hu
        omega
      . have:=hA 0 (i+1) l.q l'.q (by simp) (by simp [k1]) hu
        omega) (by rw [hat];exact h2)
     have e0:((l.q.1,([]:List (Nat×Nat))).1,(l.q.1,([]:List (Nat×Nat))).2++l.q.2)=l.q:=by simp
     rw [e0,hat] at this
     exact this
   . rw [if_neg e]
     refine ih.mono fun x hu=>?_
     show ((qdy L).add l.q (l.o,l.z)) x=_
     unfold Pt.add
     rw [if_neg]
     rintro rfl
     exact e hu.1
open Classical in
noncomputable def jo (σ σ':Gh)(L:List qZ):Gh:=fun g=>match σ g with
 | some x=>if ∃ l∈L,l.q=x.p then some x else (match ren (inL 0 L) x.p with | none=>some x | some _=>(σ'.tr (ren (JY L))) g)
 | none=>(σ'.tr (ren (JY L))) g
variable {L:List qZ} {u:Nat->Value} {r:TV A} {v:Value} {tb':List (Nat×O)}
structure zb [qi] (F:Fr)(σ:Gh)(w:World)(vt:Nat->Value)(L:List qZ)(u:Nat->Value)(r:TV A)(v:Value)(tb':List (Nat×O))(w':World)(σ':Gh):Prop where
 fr:FR F σ w vt
 dom:Dom F σ []
 aq:kF (L.map (·.q))
 ar:kF (L.map (·.r))
 old:∀ l∈L,F.at std l.q=l.o/\l.k.ok l.o l.z
 val:∀ i l,L[i]?=some l->qj w σ (jp l.k l.q) (u i)
 out:@qgZ (qJ σ u) w (σ.tr (ren (inL 0 L))) r v tb' (phR L) w' σ'
 new:∀ l∈L,(Fr.mk 0 [] tb').at std l.r=l.z
theorem zb.goes (h:zb F σ w vt L u r v tb' w' σ'):qF w (σ.tr (ren (inL 0 L))) w' σ':=by
 obtain ⟨h1,_,_⟩:=h.out
 exact h1.swap fun _=>rfl
theorem zb.back (h:zb F σ w vt L u r v tb' w' σ'):@kK (qJ σ u) w' σ' tb' (phR L):=by
 obtain ⟨_,h1,_⟩:=h.out
 exact h1
theorem zb.res (h:zb F σ w vt L u r v tb' w' σ'):qN (fun _ _=>@qj (qJ σ u) w' σ') r v:=by
 obtain ⟨_,_,h1⟩:=h.out
 exact h1
theorem zb.none_ (h:zb F σ w vt L u r v tb' w' σ'){g:Nat}(hg:g<w.heap.size)(h0:σ g=none):σ' g=none :=
 h.goes.st.none_ g hg (J4 h0)
theorem qhm (hF:FR F σ w vt)(hd:Dom F σ []){g:Nat}{x:Own}(hx:σ g=some x):∃ c e f,w.heap[g]?=some (.cells c e f):=by
 obtain ⟨v,hv⟩:=zf hF x.p
 rcases hd g x hx with h | ⟨_,_,_,h,_⟩
 . generalize ho:F.at std x.p=o at h hv
   cases hv with
   | un=>exact h.elim
   | fz=>exact h.elim
   | oslz=>obtain ⟨h1,h2⟩:=h;simp at h1;omega
   | osl _ _ e sz g' cap cur us hh hc hcm hl hs hg hm hr =>
     obtain rfl:=hF.inj _ _ _ _ hg hx rfl
     exact ⟨_,_,_,hh⟩
   | obx _ _ g' e cells us n cap sz hh hl hg hm hr =>
     obtain rfl:=hF.inj _ _ _ _ hg hx rfl
     exact ⟨_,_,_,hh⟩
 . cases h
theorem zb.off (h:zb F σ w vt L u r v tb' w' σ'){g:Nat}{x:Own}(hx:σ g=some x)(hn:ren (inL 0 L) x.p=none):σ' g=none/\w'.heap[g]?=w.heap[g]?:=by
 have h0:σ.tr (ren (inL 0 L)) g=none:=by unfold Gh.tr;rw [hx];dsimp only;rw [hn]
 obtain ⟨c,e,f,hc⟩:=qhm h.fr h.dom hx
 have h2:=h.goes.st.heap_ g (h.fr.lt g x hx) h0
 rw [hc] at h2
 exact ⟨h.goes.st.none_ g (h.fr.lt g x hx) h0,by rw [hc];exact h2.cells⟩
theorem zb.callee (h:zb F σ w vt L u r v tb' w' σ'):@FR (qJ σ u) ⟨0,[],tb'⟩ σ' w' (fun _=>undef) :=
 @FR.mk (qJ σ u) _ _ _ _ (@kK.inj (qJ σ u) _ _ _ _ h.back) (@kK.lt (qJ σ u) _ _ _ _ h.back) (@Jh.grow (qJ σ u) _ _ (qcQ h.fr) h.goes.size) (@kK.tbl (qJ σ u) _ _ _ _ h.back) (fun _=>@qj.un (qJ σ u) _ _ _)
theorem zb.same (h:zb F σ w vt L u r v tb' w' σ'){i:Nat}{l:qZ}(hl:L[i]?=some l){g n cap sz:Nat}(hg:σ g=some ⟨l.q,n,cap,sz⟩) :
 ∃ y,σ' g=some y/\y.p=l.r/\(∀ m,l.k=.sl m->y=⟨l.r,n,cap,sz⟩):=by
 have hm:=List.mem_of_getElem? hl
 obtain ⟨hat,hok⟩:=h.old l hm
 have hz:=h.new l hm
 have hval:=h.val i l hl
 have hph:=@kK.ph (qJ σ u) _ _ _ _ h.back i (jp l.k l.r) (by rw [qlQ,hl];rfl)
 have hfit:Fit l.o n:=by
  rcases h.dom g _ hg with h1 | ⟨_,_,_,h1,_⟩
  . rw [<-hat];exact h1
  . cases h1
 obtain ⟨q,k,o,r0,z⟩:=l
 dsimp only at *
 cases k with
 | bx =>
   have h1:qj w σ (.pp q 0 0) (u i):=hval
   have h2:@qj (qJ σ u) w' σ' (.pp r0 0 0) (u i):=hph
   generalize u i=v0 at h1 h2
   cases h1 with
   | pp _ _ _ g0 n0 cap0 sz0 hg0 =>
     have e0:g0=g:=h.fr.inj _ _ _ _ hg0 hg rfl
     subst e0
     generalize hv0:Value.pointer (some ⟨g0,0 * sz0+0,none⟩)=v0 at h2
     cases h2 with
     | pp _ _ _ g1 n1 cap1 sz1 hg1 =>
       simp only [Value.pointer.injEq,Option.some.injEq,Addr.mk.injEq] at hv0
       obtain ⟨e1,_⟩:=hv0
       subst e1
       exact ⟨_,hg1,rfl,fun m hm=>by cases hm⟩
 | sl m =>
   have h1:qj w σ (.rf q 0 m) (u i):=hval
   have h2:@qj (qJ σ u) w' σ' (.rf r0 0 m) (u i):=hph
   cases o with
   | osl xs =>
     cases z with
     | osl xs' =>
       obtain ⟨k1,k2,k3⟩:=hok
       obtain ⟨f1,f2⟩:=hfit
       have hm0:m≠0:=by omega
       generalize u i=v0 at h1 h2
       cases h1 with
       | rz=>exact absurd rfl hm0
       | rf _ _ _ g0 n0 cap0 sz0 hg0 hl0 hn0 =>
         have e0:g0=g:=h.fr.inj _ _ _ _ hg0 hg rfl
         subst e0
         rw [hg] at hg0
         injection hg0 with hg0
         injection hg0 with _ e1 e2 e3
         subst e1 e2 e3
         generalize hv0:Value.slice (some ⟨g0,0 * sz,none⟩) m (cap-0)=v0 at h2
         cases h2 with
         | rz=>exact absurd rfl hm0
         | rf _ _ _ g1 n1 cap1 sz1 hg1 hl1 hn1 =>
           have hv0:=hv0
           simp only [Value.slice.injEq,Option.some.injEq,Addr.mk.injEq,Nat.zero_mul,true_and,Nat.sub_zero] at hv0
           obtain ⟨⟨e4,_⟩,e5⟩:=hv0
           subst e4 e5
           have hfit1:Fit (.osl xs') n1:=by
            rcases @kK.dom (qJ σ u) _ _ _ _ h.back _ _ hg1 with h3 | ⟨_,_,_,h3,_⟩
            . rw [<-hz];exact h3
            . cases h3
           obtain ⟨v1,hv1⟩:=zf h.fr q
           rw [hat] at hv1
           have hsz:∀ y∈xs,y.length=sz:=by
            cases hv1 with
            | oslz=>simp at k1;omega
            | osl _ _ e' sz' g' cap' cur us hh hc hcm hl' hs hg' hm' hr' =>
              have e6:=h.fr.inj _ _ _ _ hg' hg rfl
              subst e6
              rw [hg] at hg'
              injection hg' with hg'
              injection hg' with _ _ _ e7
              intro y hy
              rw [hs y hy,e7]
           obtain ⟨v2,hv2⟩:=@zf (qJ σ u) _ _ _ _ h.callee r0
           rw [hz] at hv2
           have hsz1:∀ y∈xs',y.length=sz1:=by
            cases hv2 with
            | oslz=>simp at k2;omega
            | osl _ _ e' sz' g' cap' cur us hh hc hcm hl' hs hg' hm' hr' =>
              have e6:=@FR.inj (qJ σ u) _ _ _ _ h.callee _ _ _ _ hg' hg1 rfl
              subst e6
              rw [hg1] at hg'
              injection hg' with hg'
              injection hg' with _ _ _ e7
              intro y hy
              rw [hs y hy,e7]
           have e8:sz1=sz:=by
            have hx0:0<xs.length:=by omega
            have hx1:0<xs'.length:=by omega
            have a1:=hsz xs[0] (List.getElem_mem hx0)
            have a2:=hsz1 xs'[0] (List.getElem_mem hx1)
            have a3:=k3 xs[0] (List.getElem_mem hx0) xs'[0] (List.getElem_mem hx1)
            omega
           have e9:n1=n:=by have:=hfit1.1;omega
           subst e8 e9
           exact ⟨_,hg1,rfl,fun _ _=>rfl⟩
     | _=>exact hok.elim
   | _=>exact hok.elim
end
end Go.Proofs.YtececadpjelanaaGreat.Ai
namespace Go.Proofs.YtececadpjelanaaGreat.Ai
open Go Go.RowKit
theorem qj.swapFz {J1 J2:qi}{w:World}{σa σb:Gh}{x:A}{v:Value}(h:@qj J1 w σa x v)(hf:∀ b,b<w.heap.size->@jE J1 σa b->@jE J2 σb b)(hme:∀ b,b<w.heap.size->@qi.memo J1 b=@qi.memo J2 b:=by exact fun _ _=>rfl):x.isFz=true->@qj J2 w σb x v:=by
 induction h with
 | un v=>intro hz;cases hz
 | ud=>intro hz;cases hz
 | fz c v h=>exact fun _=>@qj.fz J2 _ _ c v (h.swap hf hme)
 | rf p off len g n cap sz hg hl hn=>intro hz;cases hz
 | rz p off b=>intro hz;cases hz
 | pp p i j g n cap sz hg=>intro hz;cases hz
 | clo f caps vs us hl hm hr ih =>
   intro hz
   have all:∀ {l:List A},ZG l=true->∀ (j:Nat) (x:A),l[j]?=some x->x.isFz=true:=by
    intro l
    induction l with
    | nil=>intro _ j x h;simp at h
    | cons a l ih =>
      intro h j x hj
      simp only [ZG] at h
      cases ha:a.isFz with
      | false=>rw [ha] at h;cases h
      | true =>
        rw [ha] at h
        cases j with
        | zero=>simp at hj;subst hj;exact ha
        | succ j=>exact ih h j x (by simpa using hj)
   exact @qj.clo J2 _ _ f caps vs us hl hm (fun j c hj=>ih j c hj (all hz j c hj))
section
variable [qi] {P:Program} {T:Nat->Option Ty} {w w':World} {σ σ':Gh} {F:Fr} {vt:Nat->Value} {a:Act} {L:List qZ} {u:Nat->Value} {r:TV A} {v:Value} {tb':List (Nat×O)}
theorem qgc {x y:qg}(h:ren (inL 0 L) x=some y):∃ (i:Nat) (l:qZ) (s:List (Nat×Nat)),L[i]?=some l/\x=(l.q.1,l.q.2++s)/\y=(lrt i,s):=by
 obtain ⟨i,p,q,s,h1,h2,h3⟩:=WB h
 rw [WO] at h1
 cases hl:L[i]? with
 | none=>rw [hl] at h1;simp at h1
 | some l =>
   rw [hl] at h1
   simp only [Option.map_some,Option.some.injEq,Prod.mk.injEq,Nat.zero_add] at h1
   obtain ⟨rfl,rfl⟩:=h1
   exact ⟨i,l,s,hl,h2,by simpa using h3⟩
theorem qkK {x:qg}(h:ren (inL 0 L) x=none):∀ l∈L,¬Und l.q x:=fun l hl=>by
 obtain ⟨i,hi⟩:=List.getElem?_of_mem hl
 exact qc0 h l.q (lrt i,[]) (List.mem_of_getElem? (i:=i) (by rw [WO,hi];simp))
theorem qjV {x y:qg}(h:ren (JY L) x=some y):∃ (i:Nat) (l:qZ) (s:List (Nat×Nat)),L[i]?=some l/\x=(l.r.1,l.r.2++s)/\y=(l.q.1,l.q.2++s):=by
 obtain ⟨i,p,q,s,h1,h2,h3⟩:=WB h
 rw [qbC] at h1
 cases hl:L[i]? with
 | none=>rw [hl] at h1;simp at h1
 | some l =>
   rw [hl] at h1
   simp only [Option.map_some,Option.some.injEq,Prod.mk.injEq] at h1
   obtain ⟨rfl,rfl⟩:=h1
   exact ⟨i,l,s,hl,h2,h3⟩
theorem qkU (hA:kF (L.map (·.r))){i:Nat}{l:qZ}(h:L[i]?=some l)(s:List (Nat×Nat)):ren (JY L) (l.r.1,l.r.2++s)=some (l.q.1,l.q.2++s) :=
 qgt (by rw [qkO];exact hA) (i:=i) (p:=l.r) (q:=l.q) (by rw [qbC,h];rfl) s
theorem Kn {g:Nat}(h:σ g=none):jo σ σ' L g=(σ'.tr (ren (JY L))) g:=by unfold jo;rw [h]
theorem Wq {g:Nat}{x:Own}(hx:σ g=some x){l:qZ}(hl:l∈L)(he:l.q=x.p):jo σ σ' L g=some x:=by
 unfold jo;rw [hx];dsimp only;rw [if_pos ⟨l,hl,he⟩]
theorem VT {g:Nat}{x:Own}(hx:σ g=some x)(hn:ren (inL 0 L) x.p=none):jo σ σ' L g=some x:=by
 unfold jo;rw [hx];dsimp only
 split
 . rfl
 . rw [hn]
theorem qgB {g:Nat}{x:Own}(hx:σ g=some x)(hne:¬∃ l∈L,l.q=x.p){y:qg}(hn:ren (inL 0 L) x.p=some y):jo σ σ' L g=(σ'.tr (ren (JY L))) g:=by
 unfold jo;rw [hx];dsimp only;rw [if_neg hne,hn]
theorem Q3 {g:Nat}{x:Own}(hx:jo σ σ' L g=some x) :
 (σ g=some x/\∀ l∈L,¬Und l.q x.p)\/(σ g=some x/\∃ (i:Nat) (l:qZ),L[i]?=some l/\x.p=l.q) ∨
 (∃ (i:Nat) (l:qZ) (s:List (Nat×Nat)) (y:Own),L[i]?=some l/\σ' g=some y/\y.p=(l.r.1,l.r.2++s)/\x={ y with p:=(l.q.1,l.q.2++s) }):=by
 have key:(σ'.tr (ren (JY L))) g=some x->∃ (i:Nat) (l:qZ) (s:List (Nat×Nat)) (y:Own),L[i]?=some l/\σ' g=some y/\y.p=(l.r.1,l.r.2++s)/\x={ y with p:=(l.q.1,l.q.2++s) }:=by
  intro h
  obtain ⟨y,h1,h2,h3⟩:=kH h
  obtain ⟨i,l,s,k1,k2,k3⟩:=qjV h2
  exact ⟨i,l,s,y,k1,h1,k2,by rw [h3,k3]⟩
 cases h0:σ g with
 | none=>rw [Kn h0] at hx;exact .inr (.inr (key hx))
 | some x0 =>
   by_cases he:∃ l∈L,l.q=x0.p
   . obtain ⟨l,hl,he⟩:=he
     rw [Wq h0 hl he] at hx
     injection hx with hx
     subst hx
     obtain ⟨i,hi⟩:=List.getElem?_of_mem hl
     exact .inr (.inl ⟨rfl,i,l,hi,he.symm⟩)
   . cases hn:ren (inL 0 L) x0.p with
     | none =>
       rw [VT h0 hn] at hx
       injection hx with hx
       subst hx
       exact .inl ⟨rfl,qkK hn⟩
     | some y=>rw [qgB h0 he hn] at hx;exact .inr (.inr (key hx))
theorem zb.back_free (h:zb F σ w vt L u r v tb' w' σ'):∀ b,@jE (qJ σ u) σ' b->jE (jo σ σ' L) b:=by
 intro b hb
 have h1:σ b=none:=by
  cases hs:σ b with
  | none=>rfl
  | some x=>exact absurd (.inr (by rw [hs];simp)) hb.2
 exact ⟨by rw [Kn h1,J4 hb.1],fun hj=>hb.2 (.inl hj)⟩
theorem zb.bk (h:zb F σ w vt L u r v tb' w' σ'){i:Nat}{l:qZ}(hl:L[i]?=some l){g n cap sz:Nat}{s:List (Nat×Nat)}(hs:s≠[])(hg:σ' g=some ⟨(l.r.1,l.r.2++s),n,cap,sz⟩):jo σ σ' L g=some ⟨(l.q.1,l.q.2++s),n,cap,sz⟩:=by
 have htr:(σ'.tr (ren (JY L))) g=some ⟨(l.q.1,l.q.2++s),n,cap,sz⟩:=zp hg (qkU h.ar hl s)
 cases h0:σ g with
 | none=>rw [Kn h0];exact htr
 | some x =>
   by_cases he:∃ l∈L,l.q=x.p
   . exfalso
     obtain ⟨l',hl',he⟩:=he
     obtain ⟨j,hj⟩:=List.getElem?_of_mem hl'
     obtain ⟨y,h1,h2,_⟩:=h.same hj (g:=g) (n:=x.n) (cap:=x.cap) (sz:=x.sz) (by rw [h0,he])
     rw [hg] at h1
     injection h1 with h1
     subst h1
     have hu:Und l.r l'.r:=by rw [<-h2];exact zo l.r s
     have:=h.ar i j l.r l'.r (by rw [List.getElem?_map,hl];rfl) (by rw [List.getElem?_map,hj];rfl) hu
     subst this
     rw [hl] at hj
     injection hj with hj
     subst hj
     cases s with
     | nil=>exact hs rfl
     | cons a s=>exact wd h2.symm
   . cases hn:ren (inL 0 L) x.p with
     | none=>rw [(h.off h0 hn).1] at hg;cases hg
     | some y=>rw [qgB h0 he hn];exact htr
theorem zb.stays (h:zb F σ w vt L u r v tb' w' σ'):kD w σ w' (jo σ σ' L) :=
 ⟨fun b hb h0=>by rw [Kn h0,J4 (h.none_ hb h0)],fun b hb h0=>h.goes.st.heap_ b hb (J4 h0)⟩
theorem zb.place (h:zb F σ w vt L u r v tb' w' σ'){i:Nat}{l:qZ}(hl:L[i]?=some l){x:Value}(hx:qo w σ l.q l.o x):qo w' (jo σ σ' L) l.q l.z x:=by
 have hm:=List.mem_of_getElem? hl
 obtain ⟨_,hok⟩:=h.old l hm
 obtain ⟨x',hx'⟩:=@zf (qJ σ u) _ _ _ _ h.callee l.r
 rw [h.new l hm] at hx'
 have hsame:=fun {g n cap sz}=>h.same hl (g:=g) (n:=n) (cap:=cap) (sz:=sz)
 have hbk:=fun {g n cap sz s}=>h.bk hl (g:=g) (n:=n) (cap:=cap) (sz:=sz) (s:=s)
 have hat:∀ {g n cap sz},σ g=some ⟨l.q,n,cap,sz⟩->jo σ σ' L g=some ⟨l.q,n,cap,sz⟩:=fun hg=>Wq hg hm rfl
 have child:∀ {ij:Nat×Nat} {o:O} {y:Value},@qo (qJ σ u) w' σ' (l.r.1,l.r.2++[ij]) o y->qo w' (jo σ σ' L) (l.q.1,l.q.2++[ij]) o y:=by
  intro ij o y hy
  refine @qo.swap (qJ σ u) _ _ _ _ _ _ _ hy (.inr fun b _ hb=>h.back_free b hb) (fun _ _=>rfl) _ ?_
  intro g s n cap sz hg
  have:=hbk (s:=ij::s) (by simp) (g:=g) (n:=n) (cap:=cap) (sz:=sz) (by simpa using hg)
  simpa using this
 have hinj:=@FR.inj (qJ σ u) _ _ _ _ h.callee
 obtain ⟨q,k,o,r0,z⟩:=l
 dsimp only at *
 cases k with
 | sl m =>
   cases o with
   | osl xs =>
     cases z with
     | osl xs' =>
       obtain ⟨k1,k2,k3⟩:=hok
       cases hx with
       | oslz =>
         have:xs'=[]:=List.length_eq_zero_iff.1 (by simp at k1;omega)
         subst this
         exact .oslz q _
       | osl _ _ e sz g cap cur us hh hc hcm hl' hs hg hm' hr' =>
         obtain ⟨y,h1,h2,h3⟩:=hsame hg
         have h3:=h3 m rfl
         subst h3
         cases hx' with
         | oslz=>simp at k2;omega
         | osl _ _ e2 sz2 g2 cap2 cur2 us2 hh2 hc2 hcm2 hl2 hs2 hg2 hm2 hr2 =>
           have e3:=hinj _ _ _ _ hg2 h1 rfl
           subst e3
           rw [h1] at hg2
           injection hg2 with hg2
           injection hg2 with _ e4 e5 e6
           subst e5 e6
           have hw:=hat hg
           rw [show xs.length=xs'.length by omega] at hw ⊢
           exact .osl q xs' e2 sz g2 cap cur2 us2 hh2 hc2 hcm2 hl2 hs2 hw hm2 (fun i j y o h4 h5=>child (hr2 i j y o h4 h5))
     | _=>exact hok.elim
   | _=>exact hok.elim
 | bx =>
   cases o with
   | obx cs =>
     cases z with
     | obx cs' =>
       cases hx with
       | obx _ _ g e cells us n cap sz hh hl' hg hm' hr' =>
         obtain ⟨y,h1,h2,_⟩:=hsame hg
         cases hx' with
         | obx _ _ g2 e2 cells2 us2 n2 cap2 sz2 hh2 hl2 hg2 hm2 hr2 =>
           have e3:=hinj _ _ _ _ hg2 h1 h2.symm
           subst e3
           exact .obx q cs' g2 e2 cells2 us2 n cap sz hh2 hl2 (hat hg) hm2 (fun j o h4=>child (hr2 j o h4))
     | _=>exact hok.elim
   | _=>exact hok.elim
inductive wo (L:List qZ):A->A->Prop
 | fz (x:A) (h:x.isFz=true):wo L x x
 | rf (i:Nat) (l:qZ) (m off len:Nat) (hl:L[i]?=some l) (hk:l.k=.sl m) (hle:off+len<=m):wo L (.rf l.r off len) (.rf l.q off len)
def qg2 (L:List qZ)(x y:V1 A):Prop:=x.1=y.1/\x.2.length=y.2.length/\∀ (j:Nat) (a b:A),x.2[j]?=some a->y.2[j]?=some b->wo L a b
def qjZ (L:List qZ):TV A->TV A->Prop
 | .v x,.v y=>qg2 L x y
 | .tup xs,.tup ys=>xs.length=ys.length/\∀ (k:Nat) (x y:V1 A),xs[k]?=some x->ys[k]?=some y->qg2 L x y
 | _,_=>False
theorem zb.refBack (h:zb F σ w vt L u r v tb' w' σ'){i:Nat}{l:qZ}(hl:L[i]?=some l){m off len:Nat}(hk:l.k=.sl m)(hle:off+len<=m){x:Value}(hx:@qj (qJ σ u) w' σ' (.rf l.r off len) x):qj w' (jo σ σ' L) (.rf l.q off len) x:=by
 have hm:=List.mem_of_getElem? hl
 have hok:=(h.old l hm).2
 have hz:=h.new l hm
 cases hx with
 | rz _ _ b=>exact .rz _ _ b
 | rf _ _ _ g n cap sz hg h1 h2 =>
   have hval:=h.val i l hl
   rw [hk] at hval hok
   have hval:qj w σ (.rf l.q 0 m) (u i):=hval
   have hfit:Fit l.z n:=by
    rcases @kK.dom (qJ σ u) _ _ _ _ h.back _ _ hg with h3 | ⟨_,_,_,h3,_⟩
    . rw [<-hz];exact h3
    . cases h3
   have hmn:m=n/\0<n:=by
    generalize l.o=o at hok
    generalize l.z=z at hok hfit
    cases o<;>cases z<;>first | exact hok.elim | skip
    obtain ⟨k1,k2,_⟩:=hok
    obtain ⟨f1,f2⟩:=hfit
    omega
   generalize u i=x0 at hval
   cases hval with
   | rz=>omega
   | rf _ _ _ g0 n0 cap0 sz0 hg0 _ _ =>
     obtain ⟨y,k1,k2,k3⟩:=h.same hl hg0
     have k3:=k3 m hk
     subst k3
     have e:=@FR.inj (qJ σ u) _ _ _ _ h.callee _ _ _ _ hg k1 rfl
     subst e
     rw [hg] at k1
     injection k1 with k1
     injection k1 with _ e1 e2 e3
     subst e1 e2 e3
     exact .rf _ _ _ g n cap sz (Wq hg0 hm rfl) h1 h2
theorem zb.frame (h:zb F σ w vt L u r v tb' w' σ'){r':TV A}(hrz:qjZ L r r') :
 FR ((kd std F L).tr (jV L)) (jo σ σ' L) w' vt/\Dom ((kd std F L).tr (jV L)) (jo σ σ' L) []/\qF w σ w' (jo σ σ' L)/\qN (fun _ _=>qj w' (jo σ σ' L)) r' v:=by
 have hg:=h.goes
 have hst:=h.stays
 have hne:∀ l∈L,F.at std l.q=l.o/\l.o≠.un:=fun l hl=>⟨(h.old l hl).1,(LK.ok_ne (h.old l hl).2).1⟩
 have hpat:=Vu h.fr h.aq hne
 have hatz:∀ {i:Nat} {l:qZ},L[i]?=some l->(kd std F L).at std l.q=l.z:=by
  intro i l hl
  have hm:=List.mem_of_getElem? hl
  have e0:((l.q.1,([]:List (Nat×Nat))).1,(l.q.1,([]:List (Nat×Nat))).2++l.q.2)=l.q:=by simp
  refine (hpat l.q.1).there l.q.2 (l.q.1,[]) _ _ (y:=l.o) (z:=l.z) (by rw [e0];exact qbT h.aq hl) ?_ ?_
  . intro q y hy hu
    rw [e0] at hu ⊢
    obtain ⟨j,l',k1,k2,_⟩:=ZS hy
    subst k2
    have:=h.aq j i l'.q l.q (by rw [List.getElem?_map,k1];rfl) (by rw [List.getElem?_map,hl];rfl) hu
    subst this
    rw [hl] at k1
    injection k1 with k1
    rw [k1]
  . have:(qa .un F.tb l.q.1).at std l.q.2=l.o:=(hne l hm).1
    rw [this]
    exact (hne l hm).2
 refine ⟨⟨?_,?_,h.fr.old.grow hg.size,?_,?_⟩,?_,⟨hst,hg.size,hg.os,hg.tape,hg.output⟩,?_⟩
 . intro g g' x y hx hy he
   rcases Q3 hx with ⟨a1,a2⟩ | ⟨a1,i,l,a2,a3⟩ | ⟨i,l,s,x0,a1,a2,a3,a4⟩
   . rcases Q3 hy with ⟨b1,b2⟩ | ⟨b1,j,l',b2,b3⟩ | ⟨j,l',s',y0,b1,b2,b3,b4⟩
     . exact h.fr.inj _ _ _ _ a1 b1 he
     . exact h.fr.inj _ _ _ _ a1 b1 he
     . exfalso
       refine a2 l' (List.mem_of_getElem? b1) ?_
       rw [he,b4];exact zo _ _
   . rcases Q3 hy with ⟨b1,b2⟩ | ⟨b1,j,l',b2,b3⟩ | ⟨j,l',s',y0,b1,b2,b3,b4⟩
     . exact h.fr.inj _ _ _ _ a1 b1 he
     . exact h.fr.inj _ _ _ _ a1 b1 he
     . rw [a3,b4] at he
       have he:l.q=(l'.q.1,l'.q.2++s'):=he
       have hij:=h.aq j i l'.q l.q (by rw [List.getElem?_map,b1];rfl) (by rw [List.getElem?_map,a2];rfl) (by rw [he];exact zo _ _)
       subst hij
       rw [a2] at b1
       injection b1 with b1
       subst b1
       obtain ⟨z,c1,c2,_⟩:=h.same a2 (g:=g) (n:=x.n) (cap:=x.cap) (sz:=x.sz) (by rw [a1,<-a3])
       refine @FR.inj (qJ σ u) _ _ _ _ h.callee g g' z y0 c1 b2 ?_
       rw [c2,b3]
       cases s' with
       | nil=>simp
       | cons a s'=>exact absurd he wd
   . rcases Q3 hy with ⟨b1,b2⟩ | ⟨b1,j,l',b2,b3⟩ | ⟨j,l',s',y0,b1,b2,b3,b4⟩
     . exfalso
       refine b2 l (List.mem_of_getElem? a1) ?_
       rw [<-he,a4];exact zo _ _
     . rw [a4,b3] at he
       have he:(l.q.1,l.q.2++s)=l'.q:=he
       have hij:=h.aq i j l.q l'.q (by rw [List.getElem?_map,a1];rfl) (by rw [List.getElem?_map,b2];rfl) (by rw [<-he];exact zo _ _)
       subst hij
       rw [a1] at b2
       injection b2 with b2
       subst b2
       obtain ⟨z,c1,c2,_⟩:=h.same a1 (g:=g') (n:=y.n) (cap:=y.cap) (sz:=y.sz) (by rw [b1,<-b3])
       refine @FR.inj (qJ σ u) _ _ _ _ h.callee g g' x0 z a2 c1 ?_
       rw [c2,a3]
       cases s with
       | nil=>simp
       | cons a s=>exact absurd he.symm wd
     . rw [a4,b4] at he
       have he:(l.q.1,l.q.2++s)=(l'.q.1,l'.q.2++s'):=he
       have hij:=h.aq.cmp (i:=i) (j:=j) (p:=l.q) (p':=l'.q) (x:=(l.q.1,l.q.2++s)) (by rw [List.getElem?_map,a1];rfl) (by rw [List.getElem?_map,b1];rfl) (zo _ _) (by rw [he];exact zo _ _)
       subst hij
       rw [a1] at b1
       injection b1 with b1
       subst b1
       have:s=s':=List.append_cancel_left (congrArg Prod.snd he)
       subst this
       exact @FR.inj (qJ σ u) _ _ _ _ h.callee g g' x0 y0 a2 b2 (a3.trans b3.symm)
 . intro g x hx
   rcases Q3 hx with ⟨a1,_⟩ | ⟨a1,_⟩ | ⟨i,l,s,x0,a1,a2,a3,a4⟩
   . exact Nat.lt_of_lt_of_le (h.fr.lt _ _ a1) hg.size
   . exact Nat.lt_of_lt_of_le (h.fr.lt _ _ a1) hg.size
   . exact @FR.lt (qJ σ u) _ _ _ _ h.callee g x0 a2
 . intro id
   show ∃ x,qo w' (jo σ σ' L) (id,[]) (qa .un (kd std F L).tb id) x
   obtain ⟨x,hx⟩:=h.fr.tb id
   refine ⟨x,qo.patch hst hg.size ?_ ?_ hx _ ?_ (hpat id)⟩
   . intro g y hy hq
     have hn:ren (inL 0 L) y.p=none:=by
      cases hr:ren (inL 0 L) y.p with
      | none=>rfl
      | some p =>
        obtain ⟨i,l,s,k1,k2,_⟩:=qgc hr
        exact absurd (by rw [k2];exact zo _ _) (hq l.q _ (qbT h.aq k1))
     exact ⟨(h.off hy hn).2,VT hy hn⟩
   . intro q o z x hpq hx
     obtain ⟨i,l,k1,k2,k3⟩:=ZS hpq
     injection k3 with k3 k4
     subst k2 k3 k4
     exact h.place k1 hx
   . intro q y hy hu
     obtain ⟨h1,s,h2⟩:=hu
     refine Prod.ext h1.symm ?_
     have h2:([]:List (Nat×Nat))=q.2++s:=h2
     cases hq:q.2 with
     | nil=>rfl
     | cons a t=>rw [hq] at h2;cases h2
 . intro t
   show qN _ (qa unT (QS (jV L) (kd std F L).tm) t) _
   rw [zY,(WT F L).2]
   have key:∀ {x:A} {y:Value},qj w σ x y->qj w' (jo σ σ' L) (x.tr (jV L)) y:=by
    intro x y hx
    have ref:∀ {p q:qg} {g n cap sz:Nat},jV L p=some q->σ g=some ⟨p,n,cap,sz⟩->q=p/\jo σ σ' L g=some ⟨p,n,cap,sz⟩:=by
     intro p q g n cap sz hk hgp
     obtain ⟨e1,e2⟩:=qin h.aq hk
     refine ⟨e1,?_⟩
     cases hr:ren (inL 0 L) p with
     | none=>exact VT hgp hr
     | some y =>
       obtain ⟨i,l,s,k1,k2,_⟩:=qgc hr
       have hm:=List.mem_of_getElem? k1
       exact Wq hgp hm (e2 l hm (by rw [k2];exact zo _ _))
    induction hx with
    | un v=>exact .un v
    | ud=>exact .ud
    | fz c v h0=>exact .fz c v (h0.move hg.size hst)
    | rf p off len g n cap sz h1 h2 h3 =>
      simp only [A.tr]
      split
      . rename_i q hk
        obtain ⟨e1,e2⟩:=ref hk h1
        subst e1
        exact .rf _ off len g n cap sz e2 h2 h3
      . exact .un _
    | rz p off b =>
      simp only [A.tr]
      split
      . exact .rz _ off b
      . exact .un _
    | pp p i j g n cap sz h1 =>
      simp only [A.tr]
      split
      . rename_i q hk
        obtain ⟨e1,e2⟩:=ref hk h1
        subst e1
        exact .pp _ i j g n cap sz e2
      . exact .un _
    | clo f caps vs us hl hm hr ih =>
      simp only [A.tr,ju]
      refine .clo f _ vs us (by simpa using hl) ?_ ?_
      . intro j c hj
        rw [List.getElem?_map] at hj
        cases hc:caps[j]? with
        | none=>rw [hc] at hj;simp at hj
        | some y=>exact hm j y hc
      . intro j c hj
        rw [List.getElem?_map] at hj
        cases hc:caps[j]? with
        | none=>rw [hc] at hj;simp at hj
        | some y=>rw [hc] at hj;simp at hj;subst hj;exact ih j y hc
   have hx:=h.fr.tm t
   generalize qa unT F.tm t=x at hx
   have keyV:∀ {x:V1 A} {y:Value},qQ (fun _=>qj w σ) x y->qQ (fun _=>qj w' (jo σ σ' L)) (trV (jV L) x) y:=by
    intro x y hx
    unfold trV
    rw [ju]
    exact qQ.map (fun _ _ _ h=>key h) hx
   cases x with
   | v x=>exact keyV hx
   | tup xs =>
     obtain ⟨vs,h1,h2,h3⟩:=hx
     refine ⟨vs,h1,by simp [jc,h2],fun k y hk=>?_⟩
     rw [jc,List.getElem?_map] at hk
     cases hc:xs[k]? with
     | none=>rw [hc] at hk;simp at hk
     | some z =>
       rw [hc] at hk
       simp at hk
       subst hk
       obtain ⟨u,h4,h5⟩:=h3 k z hc
       exact ⟨u,h4,keyV h5⟩
 . intro g x hx
   left
   show Fit ((kd std F L).at std x.p) x.n
   rcases Q3 hx with ⟨a1,a2⟩ | ⟨a1,i,l,a2,a3⟩ | ⟨i,l,s,x0,a1,a2,a3,a4⟩
   . rcases h.dom g x a1 with h1 | ⟨_,_,_,h1,_⟩
     . refine (hpat x.p.1).fit x.p.2 (x.p.1,[]) _ _ ?_ h1
       intro q y hy hu
       obtain ⟨i,l,k1,k2,_⟩:=ZS hy
       subst k2
       exact a2 l (List.mem_of_getElem? k1) (by simpa using hu)
     . cases h1
   . rw [a3,hatz a2]
     have hm:=List.mem_of_getElem? a2
     obtain ⟨h3,h4⟩:=h.old l hm
     rcases h.dom g x a1 with h1 | ⟨_,_,_,h1,_⟩
     . rw [a3,h3] at h1
       generalize l.o=o at h1 h4
       generalize l.z=z at h4
       generalize l.k=k at h4
       cases k<;>cases o<;>cases z<;>first | exact h4.elim | trivial | (obtain ⟨k1,k2,_⟩:=h4;exact ⟨by have:=h1.1;omega,h1.2⟩)
     . cases h1
   . have hm:=List.mem_of_getElem? a1
     rcases @kK.dom (qJ σ u) _ _ _ _ h.back g x0 a2 with h1 | ⟨_,_,_,h1,_⟩
     . rw [a4]
       dsimp only
       rw [<-W5,hatz a1,<-h.new l hm,W5,<-a3]
       exact h1
     . cases h1
 . have h1:=h.res
   have hfree:∀ b,b<w'.heap.size->@jE (qJ σ u) σ' b->jE (jo σ σ' L) b:=fun b _ hb=>h.back_free b hb
   have key:∀ {a b:A} {y:Value},wo L a b->@qj (qJ σ u) w' σ' a y->qj w' (jo σ σ' L) b y:=by
    intro a b y hb hx
    cases hb with
    | fz _ hz=>exact hx.swapFz hfree (fun _ _=>rfl) hz
    | rf i l m off len hl hk hle=>exact h.refBack hl hk hle hx
   have keyV:∀ {x x':V1 A} {y:Value},qg2 L x x'->qQ (fun _=>@qj (qJ σ u) w' σ') x y->qQ (fun _=>qj w' (jo σ σ' L)) x' y:=by
    intro x x' y hz hx
    obtain ⟨g,as⟩:=x
    obtain ⟨g',bs⟩:=x'
    obtain ⟨e1,e2,e3⟩:=hz
    dsimp only at e1 e2 e3
    subst e1
    cases g with
    | true =>
      obtain ⟨cs,e,h3,h4⟩:=hx
      refine ⟨cs,e,by rw [h3,e2],fun j b hj=>?_⟩
      have hlt:j<as.length:=by rw [e2];exact (List.getElem?_eq_some_iff.1 hj).1
      obtain ⟨uu,h5,h6⟩:=h4 j as[j] (List.getElem?_eq_getElem hlt)
      exact ⟨uu,h5,key (e3 j _ _ (List.getElem?_eq_getElem hlt) hj) h6⟩
    | false =>
      match as,bs,hx,e2,e3 with
      | [x],[x'],hx,_,e3 =>
        have hx':@qj (qJ σ u) w' σ' x y:=hx
        exact key (e3 0 x x' rfl rfl) hx'
   cases r with
   | v x=>cases r' with
     | v x'=>exact keyV hrz h1
     | tup _=>exact hrz.elim
   | tup xs=>cases r' with
     | v _=>exact hrz.elim
     | tup ys =>
       obtain ⟨vs,e,h3,h4⟩:=h1
       obtain ⟨k1,k2⟩:=hrz
       refine ⟨vs,e,by rw [h3,k1],fun k y hk=>?_⟩
       have hlt:k<xs.length:=by rw [k1];exact (List.getElem?_eq_some_iff.1 hk).1
       obtain ⟨uu,h5,h6⟩:=h4 k xs[k] (List.getElem?_eq_getElem hlt)
       exact ⟨uu,h5,keyV (k2 k _ _ (List.getElem?_eq_getElem hlt) hk) h6⟩
end
end Go.Proofs.YtececadpjelanaaGreat.Ai
namespace Go.Proofs.YtececadpjelanaaGreat.Ai
open Go Go.RowKit
variable [qh]
def Kq (F:Fr)(f:Operand):Option (FuncId×List A):=match ev1 F f with
 | .fz (.fn g caps)=>some (g,fzL caps)
 | .clo g caps=>some (g,caps)
 | _=>none
def WY (F:Fr):List Operand->Option (List (V1 A))
 | []=>some []
 | x::r=>match ev F x with
   | .v y=>(match WY F r with | some l=>some (y::l) | none=>none)
   | .tup _=>none
def ZH:List A->List (V1 A)
 | []=>[]
 | c::r=>(false,[c])::ZH r
theorem qbt (l:List A):ZH l=l.map fun c=>(false,[c]):=by induction l with | nil=>rfl | cons a l ih=>simp [ZH,ih]
section
variable [qi] {P:Program} {T:Nat->Option Ty} {w w':World} {σ σ':Gh} {F:Fr} {vt:Nat->Value} {a:Act}
theorem qcT (hF:FR F σ w (qC a)):∀ {xs:List Operand} {ys:List (V1 A)},WY F xs=some ys->ys.length=xs.length/\∀ (k:Nat) (y:V1 A),ys[k]?=some y->∃ u,(xs.map a.eval)[k]?=some u/\qQ (fun _=>qj w σ) y u:=by
 intro xs
 induction xs with
 | nil=>intro ys h;simp only [WY,Option.some.injEq] at h;subst h;exact ⟨rfl,fun k y h=>by simp at h⟩
 | cons x xs ih =>
   intro ys h
   simp only [WY] at h
   split at h
   . rename_i y hy
     split at h
     . rename_i l hl
       simp only [Option.some.injEq] at h
       subst h
       obtain ⟨h1,h2⟩:=ih hl
       refine ⟨by simp [h1],fun k z hk=>?_⟩
       cases k with
       | zero =>
         simp at hk
         subst hk
         have:=zx hF x
         rw [hy] at this
         exact ⟨a.eval x,rfl,this⟩
       | succ k=>obtain ⟨u,h3,h4⟩:=h2 k z (by simpa using hk);exact ⟨u,by simpa using h3,h4⟩
     . cases h
   . cases h
theorem yE (hF:FR F σ w (qC a)){f:Operand}{g:FuncId}{caps:List A}(h:Kq F f=some (g,caps)):∃ vs:Array Value,a.eval f=.func (.func g) #[] vs/\vs.size=caps.length ∧
 ∀ (k:Nat) (c:A),caps[k]?=some c->∃ u,vs[k]?=some u/\qj w σ c u:=by
 have hf:=qt hF f
 unfold Kq at h
 split at h
 . rename_i g' caps' he
   simp only [Option.some.injEq,Prod.mk.injEq] at h
   obtain ⟨rfl,rfl⟩:=h
   rw [he] at hf
   have hf:=hf.fz_inv
   generalize a.eval f=v at hf
   cases hf with
   | fn _ _ vs us hl hm hr =>
     refine ⟨vs,rfl,by rw [Vs];simpa using hl,fun k c hk=>?_⟩
     rw [Vs,List.getElem?_map] at hk
     cases hc:caps'[k]? with
     | none=>rw [hc] at hk;simp at hk
     | some y=>rw [hc] at hk;simp at hk;subst hk;exact ⟨us k,hm k y hc,.fz _ _ (hr k y hc)⟩
 . rename_i g' caps' he
   simp only [Option.some.injEq,Prod.mk.injEq] at h
   obtain ⟨rfl,rfl⟩:=h
   rw [he] at hf
   generalize a.eval f=v at hf
   cases hf with
   | clo _ _ vs us hl hm hr=>exact ⟨vs,rfl,hl,fun k c hk=>⟨us k,hm k c hk,hr k c hk⟩⟩
 . cases h
structure qnW (F:Fr)(all:List (V1 A))(L:List qZ)(tb':List (Nat×O)):Prop where
 aq:kF (L.map (·.q))
 ar:kF (L.map (·.r))
 old:∀ l∈L,F.at std l.q=l.o/\l.k.ok l.o l.z
 new:∀ l∈L,(Fr.mk 0 [] tb').at std l.r=l.z
 val:∀ l∈L,∃ (k:Nat) (x:V1 A) (j:Nat),all[k]?=some x/\x.2[j]?=some (jp l.k l.q)
end
theorem qY.of_callW {P:Program}{F:Fr}{o:Oper}{d:Nat}(hdst:o.dst=some d)(hok:zt F.n d=true){f:Operand}{args:List Operand}{ts:Array TypeId}(ho:o.op=.call ⟨.value f,⟨args⟩,ts⟩)
 {g:FuncId} {caps:List A} {as:List (V1 A)} (hcal:Kq F f=some (g,caps)) (has:WY F args=some as) {L:List qZ} {r r':TV A} {tb':List (Nat×O)} (hrz:qjZ L r r') (hl:qnW F (as++ZH caps) L tb')
 (hc:vM P g ((as++ZH caps).map (trV (ren (inL 0 L)))) (tbL 0 L) (phL 0 L) r tb' (phR L)):qY P F o (((kd std F L).tr (jV L)).put d r'):=by
 intro J a w σ hfut hF hd hn b k cs ops i rest hoi hw
 letI:=J
 obtain ⟨hlt1,hph⟩:=ZP hok
 have hlt:d<a.tmps.size:=Nat.lt_of_lt_of_le hlt1 hn
 obtain ⟨⟨fn,c,hf,hb,hnm⟩,hcall⟩:=hc
 obtain ⟨vs,hfv,hvl,hvs⟩:=yE hF hcal
 obtain ⟨hal,hav⟩:=qcT hF has
 have hrun:(execOp a.eval o).run P w=.ok (.enter g ((args.map a.eval).toArray++vs)) w:=by
  have hnm' : ¬ fn.name = "runtime.NumGoroutine" := by simpa using hnm
  simp [execOp,ho,resolve,hfv,Deferred.ofValue,invoke,callFunc,hf,hb]
  exact hnm'
 have hsz:((args.map a.eval).toArray++vs).size=(as++ZH caps).length:=by simp [hal,hvl,qbt]
 have hall:∀ (k:Nat) (x:V1 A),(as++ZH caps)[k]?=some x->∃ u,((args.map a.eval).toArray++vs)[k]?=some u/\qQ (fun _=>qj w σ) x u:=by
  intro k x hk
  by_cases hk':k<as.length
  . rw [List.getElem?_append_left hk'] at hk
    obtain ⟨u,h3,h4⟩:=hav k x hk
    refine ⟨u,?_,h4⟩
    rw [Array.getElem?_append_left (by simp;omega)]
    simpa using h3
  . rw [List.getElem?_append_right (by omega),qbt,List.getElem?_map] at hk
    cases hc:caps[k-as.length]? with
    | none=>rw [hc] at hk;simp at hk
    | some y =>
      rw [hc] at hk
      simp at hk
      subst hk
      obtain ⟨u,h3,h4⟩:=hvs _ y hc
      refine ⟨u,?_,h4⟩
      rw [Array.getElem?_append_right (by simp;omega)]
      simpa [hal] using h3
 have hval:∃ u:Nat->Value,∀ (i:Nat) (l:qZ),L[i]?=some l->qj w σ (jp l.k l.q) (u i):=by
  have one:∀ (i:Nat) (l:qZ),L[i]?=some l->∃ x,qj w σ (jp l.k l.q) x:=by
   intro i l hi
   obtain ⟨k,x,j,h1,h2⟩:=hl.val l (List.mem_of_getElem? hi)
   obtain ⟨u,_,h3⟩:=hall k x h1
   obtain ⟨gg,as0⟩:=x
   cases gg with
   | true =>
     obtain ⟨cs',_,_,h4⟩:=h3
     obtain ⟨uu,_,h5⟩:=h4 j _ h2
     exact ⟨uu,h5⟩
   | false =>
     match as0,h3,h2 with
     | [y],h3,h2 =>
       cases j with
       | zero=>simp at h2;subst h2;exact ⟨u,h3⟩
       | succ j=>simp at h2
  have:∀ i:Nat,∃ x,∀ l:qZ,L[i]?=some l->qj w σ (jp l.k l.q) x:=by
   intro i
   cases hi:L[i]? with
   | none=>exact ⟨.bool false,fun l h=>by cases h⟩
   | some l=>obtain ⟨x,hx⟩:=one i l hi;exact ⟨x,fun l' h=>by injection h with h;subst h;exact hx⟩
  exact ⟨fun i=>Classical.choose (this i),fun i l h=>Classical.choose_spec (this i) l h⟩
 obtain ⟨u,hu⟩:=hval
 have hin:=qlU hF hd hl.aq (fun l hm=>(hl.old l hm).1) hu
 have hargs:∀ (k:Nat) (x:V1 A),((as++ZH caps).map (trV (ren (inL 0 L))))[k]?=some x->∃ y,((args.map a.eval).toArray++vs)[k]?=some y/\qQ (fun _=>@qj (qJ σ u) w (σ.tr (ren (inL 0 L)))) x y:=by
  intro k x hk
  rw [List.getElem?_map] at hk
  cases hx:(as++ZH caps)[k]? with
  | none=>rw [hx] at hk;simp at hk
  | some z =>
    rw [hx] at hk
    simp at hk
    subst hk
    obtain ⟨y,h1,h2⟩:=hall k z hx
    refine ⟨y,h1,?_⟩
    unfold trV
    rw [ju]
    exact qQ.map (fun _ x v h=>@qj.tr (qJ σ u) _ _ _ _ _ (h.swapJ (J2:=qJ σ u) (fun g y h=>h) wT)) h2
 have hcalls:=hcall (qJ σ u) w (σ.tr (ren (inL 0 L))) _ hfut (qcQ hF) (by rw [List.length_map];exact hsz) hargs hin
 have hg:=stepG_op (P:=P) (b:=b) (k:=k) (cs:=cs) (w:=w) (rest:=rest) hoi hw
 obtain ⟨e,w',fr,⟨v,σ',he,hout⟩,hsteps,_,hleave⟩:=hcalls (b.at a (.inRegion ops (i::rest)::k)::cs)
 subst he
 have henter:step P (lone (b.at a (.inRegion ops (i::rest)::k)) cs w)=.next (lone (Frame.enter P g ((args.map a.eval).toArray++vs) .normal) (b.at a (.inRegion ops (i::rest)::k)::cs) w) :=
  step_lone_go (by rw [hg];simp [stepG.apply,hrun,Frame.at])
 have hfin:(b.at a (.inRegion ops (i::rest)::k)).finish v=b.at (a.put o.dst v) (.inRegion ops rest::k):=by rw [Frame.finish_at,hoi];rfl
 have hlo:zb F σ w (qC a) L u r v tb' w' σ':=⟨hF,hd,hl.aq,hl.ar,hl.old,hu,hout,hl.new⟩
 obtain ⟨h1,h2,h3,h4⟩:=hlo.frame hrz
 refine ⟨a.put o.dst v,w',jo σ σ' L,.head henter (Steps.trans hsteps (.one ?_)),?_,h2,h3,?_,zL _ _,zn _ _⟩
 . rw [<-hfin];exact step_leave_returned hleave
 . rw [hdst,Ql hlt hph]
   exact h1.put h4
 . exact (WT F L).1
end Go.Proofs.YtececadpjelanaaGreat.Ai
namespace Go.Proofs.YtececadpjelanaaGreat.Ai
open Go
structure Cue where
 name:ByteArray
 after:Int
 atEnd:Bool
 low:Int
 high:Int
 min:Int
 max:Int
 free:Bool
 cond:Int
 watch:Int
 device:Int
structure Tie where
 src:Int
 dst:Int
 low:Int
 high:Int
 free:Bool
structure Edge where
 src:Int
 dst:Int
 w:Int
structure jT where
 src:Int
 dst:Int
 low:Int
 high:Int
structure qf where
 name:ByteArray
 label:List Int
 watch:Int
def Cue.z:Cue:=⟨⟨#[]⟩,0,false,0,0,0,0,false,0,0,0⟩
def Tie.z:Tie:=⟨0,0,0,0,false⟩
def Edge.z:Go.Proofs.YtececadpjelanaaGreat.Ai.Edge:=⟨0,0,0⟩
def jT.z:jT:=⟨0,0,0,0⟩
def qf.z:qf:=⟨⟨#[]⟩,[],0⟩
inductive LL where
 | i (l:List Int)
 | u (l:List Int)
 | b (l:List Bool)
 | s (l:List ByteArray)
 | cue (l:List Cue)
 | tie (l:List Tie)
 | edge (l:List Go.Proofs.YtececadpjelanaaGreat.Ai.Edge)
 | link (l:List jT)
 | node (o:Bool) (h:Option Nat) (l:List qf)
 | ii (o:Bool) (h:Option Nat) (l:List (List Int))
inductive D where
 | un
 | int (k:IntKind) (n:Int)
 | bool (known:Bool) (b:Bool)
 | str (s:ByteArray)
 | nilsl
 | sl (x:LL)
 | ptr (cs:List D)
 | fn (f:FuncId) (caps:List D)
 | mp (g:Zz)
inductive W where
 | un
 | fz (d:D)
 | osl (x:LL)
 | onil
 | obx (cs:List W)
abbrev SP:=Nat×List ((Bool×Nat)×Nat)
inductive B where
 | un
 | ud
 | fz (d:D)
 | rf (p:SP) (whole:Bool) (off len:Nat)
 | pp (p:SP) (i:Bool×Nat) (j:Nat)
 | clo (f:FuncId) (caps:List B)
def Jf {α:Type}(d:α)(l:List α)(n:Nat)(f:α->α):List α:=l.set n (f (l.getD n d))
theorem wH {α:Type}(d:α)(l:List α)(n:Nat)(f g:α->α):Jf d (Jf d l n f) n g=Jf d l n (fun x=>g (f x)):=by
 unfold Jf
 by_cases h:n<l.length
 . simp [List.getD_eq_getElem?_getD,h]
 . rw [List.set_eq_of_length_le (by simp;omega),List.set_eq_of_length_le (by omega),List.set_eq_of_length_le (by omega)]
theorem qeo {α:Type}(d:α)(l:List α)(n:Nat)(x:α):Jf d l n (fun _=>x)=l.set n x:=rfl
@[simp] theorem QA {α:Type} (d:α) (l:List α) (n:Nat) (f:α->α):(Jf d l n f).length=l.length:=by simp [Jf]
structure MB where
 iAdd:IntKind->Int->Int->Int
 iSub:IntKind->Int->Int->Int
 iMul:IntKind->Int->Int->Int
 iQuo:IntKind->Int->Int->Int
 iRem:Int->Int->Int
 iAnd:IntKind->Int->Int->Int
 iOr:IntKind->Int->Int->Int
 iXor:IntKind->Int->Int->Int
 iShl:IntKind->Int->Int->Int
 iShr:Int->Int->IntKind->Int
 iWrap:IntKind->Int->Int
 iMax:Int->Int->Int
 iMin:Int->Int->Int
 bEq:Int->Int->Bool
 bLt:Int->Int->Bool
 bLe:Int->Int->Bool
 bNot:Bool->Bool
 bEqB:Bool->Bool->Bool
 sEq:ByteArray->ByteArray->Bool
 sCat:ByteArray->ByteArray->ByteArray
 sLen:ByteArray->Nat
 sCut:ByteArray->Nat->Nat->ByteArray
 sAt:ByteArray->Nat->Int
 sOf:List Int->ByteArray
 nI:Nat->Int
 toN:Int->Nat
 nAdd:Nat->Nat->Nat
 nSub:Nat->Nat->Nat
 len:{α:Type}->List α->Nat
 get:{α:Type}->α->List α->Nat->α
 set:{α:Type}->List α->Nat->α->List α
 mod:{α:Type}->α->List α->Nat->(α->α)->List α
 app:{α:Type}->List α->List α->List α
 cut:{α:Type}->List α->Nat->Nat->List α
 rep:{α:Type}->Nat->α->List α
 zap:{α:Type}->List α->Nat->Nat->α->List α
 pAnd:Prop->Prop->Prop
 pImp:Bool->Prop->Prop
 pIx:Int->Nat->Prop
 pEqN:Nat->Nat->Prop
 pLeN:Nat->Nat->Prop
 pLtN:Nat->Nat->Prop
 pEqI:Int->Int->Prop
 pGeZ:Int->Prop
 pNeZ:Int->Prop
 pLeLim:Nat->Prop
 pRep:Int->Prop
 pStr:ByteArray->ByteArray->Prop
 pByte:List Int->Prop
 pNo:Nat->Prop
 zCue:Cue
 zTie:Tie
 zEdge:Go.Proofs.YtececadpjelanaaGreat.Ai.Edge
 zLink:jT
 zNode:qf
 zS:ByteArray
def Cue.d (q:Cue):List D:=[.str q.name,.int .i64 q.after,.bool false q.atEnd,.int .i64 q.low,.int .i64 q.high,.int .i64 q.min,.int .i64 q.max,.bool false q.free,.int .i64 q.cond,.int .i64 q.watch,.int .i64 q.device]
def Tie.d (t:Tie):List D:=[.int .i64 t.src,.int .i64 t.dst,.int .i64 t.low,.int .i64 t.high,.bool false t.free]
def Edge.d (t:Go.Proofs.YtececadpjelanaaGreat.Ai.Edge):List D:=[.int .i64 t.src,.int .i64 t.dst,.int .i64 t.w]
def jT.d (t:jT):List D:=[.int .i64 t.src,.int .i64 t.dst,.int .i64 t.low,.int .i64 t.high]
def qf.d (t:qf):List D:=[.str t.name,.sl (.i t.label),.int .i64 t.watch]
def fzW:List D->List W
 | []=>[]
 | d::r=>.fz d::fzW r
def qnL (o:Bool)(l:List Int):W:=match o with
 | true=>.osl (.i l)
 | false=>.fz (.sl (.i l))
def qf.w (o:Bool)(t:qf):List W:=[.fz (.str t.name),qnL o t.label,.fz (.int .i64 t.watch)]
def LL.len (M:MB):LL->Nat
 | .i l=>M.len l
 | .u l=>M.len l
 | .b l=>M.len l
 | .s l=>M.len l
 | .cue l=>M.len l
 | .tie l=>M.len l
 | .edge l=>M.len l
 | .link l=>M.len l
 | .node _ _ l=>M.len l
 | .ii _ _ l=>M.len l
def LL.sz:LL->Nat
 | .cue _=>11
 | .tie _=>5
 | .edge _=>3
 | .link _=>4
 | .node _ _ _=>3
 | _=>1
def LL.atD (M:MB)(n:Nat):LL->List D
 | .i l=>[.int .i64 (M.get 0 l n)]
 | .u l=>[.int .u8 (M.get 0 l n)]
 | .b l=>[.bool false (M.get false l n)]
 | .s l=>[.str (M.get M.zS l n)]
 | .cue l=>(M.get M.zCue l n).d
 | .tie l=>(M.get M.zTie l n).d
 | .edge l=>(M.get M.zEdge l n).d
 | .link l=>(M.get M.zLink l n).d
 | .node _ _ l=>(M.get M.zNode l n).d
 | .ii _ _ l=>[.sl (.i (M.get [] l n))]
def LL.atW (M:MB)(n:Nat):LL->Option (List W)
 | .i l=>some [.fz (.int .i64 (M.get 0 l n))]
 | .u l=>some [.fz (.int .u8 (M.get 0 l n))]
 | .b l=>some [.fz (.bool false (M.get false l n))]
 | .s l=>some [.fz (.str (M.get M.zS l n))]
 | .cue l=>some (fzW (M.get M.zCue l n).d)
 | .tie l=>some (fzW (M.get M.zTie l n).d)
 | .edge l=>some (fzW (M.get M.zEdge l n).d)
 | .link l=>some (fzW (M.get M.zLink l n).d)
 | .node o none l=>some ((M.get M.zNode l n).w o)
 | .ii o none l=>some [qnL o (M.get [] l n)]
 | _=>none
def LL.atJ (M:MB)(n j:Nat):LL->Option W
 | .node _ (some _) l=>match j with
   | 0=>some (.fz (.str (M.get M.zNode l n).name))
   | 2=>some (.fz (.int .i64 (M.get M.zNode l n).watch))
   | _=>none
 | x=>match x.atW M n with
   | some cs=>nth cs j
   | none=>none
def qgf:W->Option (List Int)
 | .osl (.i l)=>some l
 | .onil=>some []
 | _=>none
def kEq:IntKind->IntKind->Bool
 | .i64,.i64 | .u8,.u8=>true
 | _,_=>false
def LL.set1 (M:MB)(n:Nat)(j:Nat)(c:W):LL->Option LL
 | .i l=>match j,c with | 0,.fz (.int .i64 a)=>some (.i (M.set l n a)) | _,_=>none
 | .u l=>match j,c with | 0,.fz (.int .u8 a)=>some (.u (M.set l n a)) | _,_=>none
 | .b l=>match j,c with | 0,.fz (.bool _ a)=>some (.b (M.set l n a)) | _,_=>none
 | .s l=>match j,c with | 0,.fz (.str a)=>some (.s (M.set l n a)) | _,_=>none
 | .cue l=>match j,c with
   | 0,.fz (.str a)=>some (.cue (M.mod M.zCue l n (fun q=>{ q with name:=a })))
   | 1,.fz (.int .i64 a)=>some (.cue (M.mod M.zCue l n (fun q=>{ q with after:=a })))
   | 2,.fz (.bool _ a)=>some (.cue (M.mod M.zCue l n (fun q=>{ q with atEnd:=a })))
   | 3,.fz (.int .i64 a)=>some (.cue (M.mod M.zCue l n (fun q=>{ q with low:=a })))
   | 4,.fz (.int .i64 a)=>some (.cue (M.mod M.zCue l n (fun q=>{ q with high:=a })))
   | 5,.fz (.int .i64 a)=>some (.cue (M.mod M.zCue l n (fun q=>{ q with min:=a })))
   | 6,.fz (.int .i64 a)=>some (.cue (M.mod M.zCue l n (fun q=>{ q with max:=a })))
   | 7,.fz (.bool _ a)=>some (.cue (M.mod M.zCue l n (fun q=>{ q with free:=a })))
   | 8,.fz (.int .i64 a)=>some (.cue (M.mod M.zCue l n (fun q=>{ q with cond:=a })))
   | 9,.fz (.int .i64 a)=>some (.cue (M.mod M.zCue l n (fun q=>{ q with watch:=a })))
   | 10,.fz (.int .i64 a)=>some (.cue (M.mod M.zCue l n (fun q=>{ q with device:=a })))
   | _,_=>none
 | .tie l=>match j,c with
   | 0,.fz (.int .i64 a)=>some (.tie (M.mod M.zTie l n (fun q=>{ q with src:=a })))
   | 1,.fz (.int .i64 a)=>some (.tie (M.mod M.zTie l n (fun q=>{ q with dst:=a })))
   | 2,.fz (.int .i64 a)=>some (.tie (M.mod M.zTie l n (fun q=>{ q with low:=a })))
   | 3,.fz (.int .i64 a)=>some (.tie (M.mod M.zTie l n (fun q=>{ q with high:=a })))
   | 4,.fz (.bool _ a)=>some (.tie (M.mod M.zTie l n (fun q=>{ q with free:=a })))
   | _,_=>none
 | .edge l=>match j,c with
   | 0,.fz (.int .i64 a)=>some (.edge (M.mod M.zEdge l n (fun q=>{ q with src:=a })))
   | 1,.fz (.int .i64 a)=>some (.edge (M.mod M.zEdge l n (fun q=>{ q with dst:=a })))
   | 2,.fz (.int .i64 a)=>some (.edge (M.mod M.zEdge l n (fun q=>{ q with w:=a })))
   | _,_=>none
 | .link l=>match j,c with
   | 0,.fz (.int .i64 a)=>some (.link (M.mod M.zLink l n (fun q=>{ q with src:=a })))
   | 1,.fz (.int .i64 a)=>some (.link (M.mod M.zLink l n (fun q=>{ q with dst:=a })))
   | 2,.fz (.int .i64 a)=>some (.link (M.mod M.zLink l n (fun q=>{ q with low:=a })))
   | 3,.fz (.int .i64 a)=>some (.link (M.mod M.zLink l n (fun q=>{ q with high:=a })))
   | _,_=>none
 | .node o none l=>match j,c,o with
   | 0,.fz (.str a),_=>some (.node o none (M.mod M.zNode l n (fun q=>{ q with name:=a })))
   | 2,.fz (.int .i64 a),_=>some (.node o none (M.mod M.zNode l n (fun q=>{ q with watch:=a })))
   | 1,.un,true=>some (.node o (some n) l)
   | 1,.osl (.i a),true=>some (.node o none (M.mod M.zNode l n (fun q=>{ q with label:=a })))
   | 1,.fz (.sl (.i a)),false=>some (.node o none (M.mod M.zNode l n (fun q=>{ q with label:=a })))
   | _,_,_=>none
 | .ii o none l=>match j,c,o with
   | 0,.un,true=>some (.ii o (some n) l)
   | 0,.osl (.i a),true=>some (.ii o none (M.set l n a))
   | 0,.fz (.sl (.i a)),false=>some (.ii o none (M.set l n a))
   | _,_,_=>none
 | _=>none
def LL.back (M:MB)(n:Nat)(j:Nat)(c:W):LL->Option (List Prop×LL)
 | .node true (some m) l=>match j with
   | 0=>(match c with | .fz (.str a)=>some ([],.node true (some m) (M.set l n { M.get M.zNode l n with name:=a })) | _=>none)
   | 1=>(match qgf c with
     | some a=>some ([M.pEqN n m],.node true none (M.set l n { M.get M.zNode l n with label:=a }))
     | none=>none)
   | 2=>(match c with | .fz (.int .i64 a)=>some ([],.node true (some m) (M.set l n { M.get M.zNode l n with watch:=a })) | _=>none)
   | _=>none
 | .ii true (some m) l=>match j,qgf c with
   | 0,some a=>some ([M.pEqN n m],.ii true none (M.set l n a))
   | _,_=>none
 | x=>match x.set1 M n j c with
   | some y=>some ([],y)
   | none=>none
def LL.app (M:MB):LL->LL->Option LL
 | .i l,.i r=>some (.i (M.app l r))
 | .u l,.u r=>some (.u (M.app l r))
 | .b l,.b r=>some (.b (M.app l r))
 | .s l,.s r=>some (.s (M.app l r))
 | .cue l,.cue r=>some (.cue (M.app l r))
 | .tie l,.tie r=>some (.tie (M.app l r))
 | .edge l,.edge r=>some (.edge (M.app l r))
 | .link l,.link r=>some (.link (M.app l r))
 | .node true none l,.node true none r=>some (.node true none (M.app l r))
 | .node false none l,.node false none r=>some (.node false none (M.app l r))
 | .ii true none l,.ii true none r=>some (.ii true none (M.app l r))
 | .ii false none l,.ii false none r=>some (.ii false none (M.app l r))
 | _,_=>none
def LL.cut (M:MB)(a n:Nat):LL->Option LL
 | .i l=>some (.i (M.cut l a n))
 | .u l=>some (.u (M.cut l a n))
 | .b l=>some (.b (M.cut l a n))
 | .s l=>some (.s (M.cut l a n))
 | .cue l=>some (.cue (M.cut l a n))
 | .tie l=>some (.tie (M.cut l a n))
 | .edge l=>some (.edge (M.cut l a n))
 | .link l=>some (.link (M.cut l a n))
 | .node o none l=>some (.node o none (M.cut l a n))
 | .ii o none l=>some (.ii o none (M.cut l a n))
 | _=>none
def LL.here:LL->Bool
 | .node _ (some _) _=>false
 | .ii _ (some _) _=>false
 | _=>true
def LL.thaw:LL->LL
 | .node _ _ l=>.node false none l
 | .ii _ _ l=>.ii false none l
 | x=>x
def LL.flat:LL->Bool
 | .node true _ _=>false
 | .ii true _ _=>false
 | _=>true
def LL.some1:LL->Bool
 | .node _ none (_::_)=>true
 | .ii _ none (_::_)=>true
 | _=>false
def LL.clean:LL->Bool
 | .node o h _=>match h with | none=>o | some _=>false
 | .ii o h _=>match h with | none=>o | some _=>false
 | _=>true
inductive EK where
 | i | u | b | s | cue | tie | edge | link | node | ii
def LL.one (k:EK)(cs:List W):Option LL:=match k with
 | .i=>(match cs with | [.fz (.int .i64 a)]=>some (.i [a]) | _=>none)
 | .u=>(match cs with | [.fz (.int .u8 a)]=>some (.u [a]) | _=>none)
 | .b=>(match cs with | [.fz (.bool _ a)]=>some (.b [a]) | _=>none)
 | .s=>(match cs with | [.fz (.str a)]=>some (.s [a]) | _=>none)
 | .cue=>(match cs with
   | [.fz (.str x1),.fz (.int .i64 x2),.fz (.bool _ x3),.fz (.int .i64 x4),.fz (.int .i64 x5),.fz (.int .i64 x6),.fz (.int .i64 x7),.fz (.bool _ x8),.fz (.int .i64 x9),.fz (.int .i64 x10),.fz (.int .i64 x11)]=>some (.cue [⟨x1,x2,x3,x4,x5,x6,x7,x8,x9,x10,x11⟩])
   | _=>none)
 | .tie=>(match cs with
   | [.fz (.int .i64 x1),.fz (.int .i64 x2),.fz (.int .i64 x3),.fz (.int .i64 x4),.fz (.bool _ x5)]=>some (.tie [⟨x1,x2,x3,x4,x5⟩])
   | _=>none)
 | .edge=>(match cs with | [.fz (.int .i64 x1),.fz (.int .i64 x2),.fz (.int .i64 x3)]=>some (.edge [⟨x1,x2,x3⟩]) | _=>none)
 | .link=>(match cs with | [.fz (.int .i64 x1),.fz (.int .i64 x2),.fz (.int .i64 x3),.fz (.int .i64 x4)]=>some (.link [⟨x1,x2,x3,x4⟩]) | _=>none)
 | .node=>(match cs with
   | [.fz (.str a),.osl (.i l),.fz (.int .i64 c)]=>some (.node true none [⟨a,l,c⟩])
   | [.fz (.str a),.fz (.sl (.i l)),.fz (.int .i64 c)]=>some (.node false none [⟨a,l,c⟩])
   | [.fz (.str a),.onil,.fz (.int .i64 c)]=>some (.node true none [⟨a,[],c⟩])
   | _=>none)
 | .ii=>(match cs with
   | [.osl (.i l)]=>some (.ii true none [l])
   | [.fz (.sl (.i l))]=>some (.ii false none [l])
   | [.onil]=>some (.ii true none [[]])
   | _=>none)
def LL.rep (M:MB)(n:Nat):LL->Option LL
 | .i [a]=>some (.i (M.rep n a))
 | .u [a]=>some (.u (M.rep n a))
 | .b [a]=>some (.b (M.rep n a))
 | .s [a]=>some (.s (M.rep n a))
 | .cue [a]=>some (.cue (M.rep n a))
 | .tie [a]=>some (.tie (M.rep n a))
 | .edge [a]=>some (.edge (M.rep n a))
 | .link [a]=>some (.link (M.rep n a))
 | .node o none [a]=>some (.node o none (M.rep n a))
 | .ii o none [a]=>some (.ii o none (M.rep n a))
 | _=>none
def rcI (l:List Int):List (List C):=l.map fun n=>[.int .i64 n]
def roI (l:List Int):List (List O):=l.map fun n=>[.fz (.int .i64 n)]
def qf.rc (t:qf):List C:=[.str t.name,.sl (rcI t.label),.int .i64 t.watch]
def Cue.rc (q:Cue):List C:=[.str q.name,.int .i64 q.after,.bool q.atEnd,.int .i64 q.low,.int .i64 q.high,.int .i64 q.min,.int .i64 q.max,.bool q.free,.int .i64 q.cond,.int .i64 q.watch,.int .i64 q.device]
def Tie.rc (t:Tie):List C:=[.int .i64 t.src,.int .i64 t.dst,.int .i64 t.low,.int .i64 t.high,.bool t.free]
def Edge.rc (t:Go.Proofs.YtececadpjelanaaGreat.Ai.Edge):List C:=[.int .i64 t.src,.int .i64 t.dst,.int .i64 t.w]
def jT.rc (t:jT):List C:=[.int .i64 t.src,.int .i64 t.dst,.int .i64 t.low,.int .i64 t.high]
def LL.rc:LL->List (List C)
 | .i l=>rcI l
 | .u l=>l.map fun n=>[.int .u8 n]
 | .b l=>l.map fun n=>[.bool n]
 | .s l=>l.map fun n=>[.str n]
 | .cue l=>l.map Cue.rc
 | .tie l=>l.map Tie.rc
 | .edge l=>l.map Edge.rc
 | .link l=>l.map jT.rc
 | .node _ _ l=>l.map qf.rc
 | .ii _ _ l=>l.map fun x=>[.sl (rcI x)]
def KN (o:Bool)(l:List Int):O:=match o with
 | true=>.osl (roI l)
 | false=>.fz (.sl (rcI l))
def qf.ro (o:Bool)(t:qf):List O:=[.fz (.str t.name),KN o t.label,.fz (.int .i64 t.watch)]
def qR (h:Option Nat)(j:Nat)(xs:List (List O)):List (List O):=match h with
 | none=>xs
 | some m=>xs.modify m (fun y=>y.set j .un)
def LL.ro:LL->List (List O)
 | .i l=>roI l
 | .u l=>l.map fun n=>[.fz (.int .u8 n)]
 | .b l=>l.map fun n=>[.fz (.bool n)]
 | .s l=>l.map fun n=>[.fz (.str n)]
 | .cue l=>l.map fun q=>q.rc.map .fz
 | .tie l=>l.map fun q=>q.rc.map .fz
 | .edge l=>l.map fun q=>q.rc.map .fz
 | .link l=>l.map fun q=>q.rc.map .fz
 | .node o h l=>qR h 1 (l.map (qf.ro o))
 | .ii o h l=>qR h 0 (l.map fun x=>[KN o x])
mutual
def D.er:D->C
 | .un=>.un
 | .int k n=>.int k n
 | .bool _ b=>.bool b
 | .str s=>.str s
 | .nilsl=>.nilsl
 | .sl x=>.sl x.rc
 | .ptr cs=>.ptr (D.erL cs)
 | .fn f caps=>.fn f (D.erL caps)
 | .mp g=>.mp g
def D.erL:List D->List C
 | []=>[]
 | d::r=>d.er::D.erL r
end
mutual
def W.er:W->O
 | .un=>.un
 | .fz d=>.fz d.er
 | .osl x=>.osl x.ro
 | .onil=>.osl []
 | .obx cs=>.obx (W.erL cs)
def W.erL:List W->List O
 | []=>[]
 | d::r=>d.er::W.erL r
end
def ixs:List ((Bool×Nat)×Nat)->List (Nat×Nat)
 | []=>[]
 | ((_,i),j)::r=>(i,j)::ixs r
def SP.er (p:SP):qg:=(p.1,ixs p.2)
mutual
def B.er:B->A
 | .un=>.un
 | .ud=>.ud
 | .fz d=>.fz d.er
 | .rf p _ off len=>.rf p.er off len
 | .pp p i j=>.pp p.er i.2 j
 | .clo f caps=>.clo f (B.erL caps)
def B.erL:List B->List A
 | []=>[]
 | d::r=>d.er::B.erL r
end
theorem D.erL_eq (l:List D):D.erL l=l.map D.er:=by induction l with | nil=>rfl | cons a r ih=>simp [D.erL,ih]
theorem W.erL_eq (l:List W):W.erL l=l.map W.er:=by induction l with | nil=>rfl | cons a r ih=>simp [W.erL,ih]
theorem B.erL_eq (l:List B):B.erL l=l.map B.er:=by induction l with | nil=>rfl | cons a r ih=>simp [B.erL,ih]
def qk:MB where
 iAdd k a b:=k.wrap (a+b)
 iSub k a b:=k.wrap (a-b)
 iMul k a b:=k.wrap (a * b)
 iQuo k a b:=k.wrap (a.tdiv b)
 iRem a b:=a.tmod b
 iAnd k a b:=k.wrap (BitVec.ofInt k.bits a &&& BitVec.ofInt k.bits b).toNat
 iOr k a b:=k.wrap (BitVec.ofInt k.bits a ||| BitVec.ofInt k.bits b).toNat
 iXor k a b:=k.wrap (BitVec.ofInt k.bits a ^^^ BitVec.ofInt k.bits b).toNat
 iShl k a b:=k.wrap (a * 2 ^ min b.toNat k.bits)
 iShr a b k:=a.fdiv (2 ^ min b.toNat k.bits)
 iWrap k a:=k.wrap a
 iMax a b:=if b > a then b else a
 iMin a b:=if b<a then b else a
 bEq a b:=a == b
 bLt a b:=decide (a<b)
 bLe a b:=decide (a<=b)
 bNot b:=!b
 bEqB a b:=a == b
 sEq a b:=a.toList == b.toList
 sCat a b:=a++b
 sLen s:=s.size
 sCut s l h:=s.extract l h
 sAt s n:=((s[n]?).getD 0).toNat
 sOf l:=⟨(l.map fun n=>UInt8.ofNat n.toNat).toArray⟩
 nI n:=n
 toN n:=n.toNat
 nAdd a b:=a+b
 nSub a b:=a-b
 len l:=l.length
 get d l n:=l.getD n d
 set l n x:=l.set n x
 mod d l n f:=Jf d l n f
 app l r:=l++r
 cut l a n:=(l.drop a).take n
 rep n x:=List.replicate n x
 zap:=ky
 pAnd a b:=a/\b
 pImp b a:=b=true->a
 pIx n len:=0<=n/\n<len
 pEqN a b:=a=b
 pLeN a b:=a<=b
 pLtN a b:=a<b
 pEqI a b:=a=b
 pGeZ a:=0<=a
 pNeZ a:=a≠0
 pLeLim n:=n<=lim
 pRep n:=0<=n/\n<=lim
 pStr a b:=a.size+b.size<=9223372036854775807
 pByte l:=∀ n∈l,0<=n/\n<256
 pNo _:=False
 zCue:=Cue.z
 zTie:=Tie.z
 zEdge:=Edge.z
 zLink:=jT.z
 zNode:=qf.z
 zS:=⟨#[]⟩
@[simp] theorem qom (l:List Int):(roI l).length=l.length:=by simp [roI]
@[simp] theorem qoo (l:List Int):(rcI l).length=l.length:=by simp [rcI]
@[simp] theorem qm4 (h:Option Nat) (j:Nat) (xs:List (List O)):(qR h j xs).length=xs.length:=by cases h<;>simp [qR]
theorem LL.len_rc (x:LL):x.rc.length=x.len qk:=by cases x<;>simp [LL.rc,LL.len,qk]
theorem LL.len_ro (x:LL):x.ro.length=x.len qk:=by cases x<;>simp [LL.ro,LL.len,qk]
theorem Cue.d_er (q:Cue):q.d.map D.er=q.rc:=rfl
theorem Tie.d_er (q:Tie):q.d.map D.er=q.rc:=rfl
theorem Edge.d_er (q:Go.Proofs.YtececadpjelanaaGreat.Ai.Edge):q.d.map D.er=q.rc:=rfl
theorem jT.d_er (q:jT):q.d.map D.er=q.rc:=rfl
theorem qf.d_er (q:qf):q.d.map D.er=q.rc:=rfl
theorem qm6 (l:List D):(fzW l).map W.er=(l.map D.er).map .fz:=by induction l with | nil=>rfl | cons a r ih=>simp [fzW,ih,W.er]
theorem qgC (o:Bool)(l:List Int):(qnL o l).er=KN o l:=by cases o<;>rfl
theorem qf.w_er (o:Bool)(t:qf):(t.w o).map W.er=t.ro o:=by simp [qf.w,qf.ro,qgC,W.er,D.er]
theorem LL.rc_get (x:LL)(n:Nat)(h:n<x.len qk):x.rc[n]?=some ((x.atD qk n).map D.er):=by
 cases x<;>simp only [LL.len,qk] at h<;>simp [LL.rc,LL.atD,qk,rcI,D.er,h,List.getD_eq_getElem?_getD,Cue.d_er,Tie.d_er,Edge.d_er,jT.d_er,qf.d_er]
theorem LL.ro_get (x:LL)(n:Nat){cs:List W}(hc:x.atW qk n=some cs)(h:n<x.len qk):x.ro[n]?=some (cs.map W.er):=by
 cases x<;>simp only [LL.len,qk] at h
 case node o hh l =>
  cases hh with
  | some m=>simp [LL.atW] at hc
  | none=>simp only [LL.atW,Option.some.injEq] at hc;subst hc;simp [LL.ro,qR,qk,qf.w_er,h,List.getD_eq_getElem?_getD]
 case ii o hh l =>
  cases hh with
  | some m=>simp [LL.atW] at hc
  | none=>simp only [LL.atW,Option.some.injEq] at hc;subst hc;simp [LL.ro,qR,qk,qgC,h,List.getD_eq_getElem?_getD]
 all_goals
  simp only [LL.atW,Option.some.injEq] at hc
  subst hc
  simp [LL.ro,qk,roI,D.er,W.er,h,List.getD_eq_getElem?_getD,qm6,Cue.d_er,Tie.d_er,Edge.d_er,jT.d_er]
theorem LL.ro_getJ (x:LL)(n j:Nat){o:W}(hc:x.atJ qk n j=some o)(h:n<x.len qk):∃ cs:List O,x.ro[n]?=some cs/\cs[j]?=some o.er:=by
 unfold LL.atJ at hc
 split at hc
 . rename_i g m l
   simp only [LL.len,qk] at h
   split at hc<;>first | (cases hc;done) | (
    simp only [Option.some.injEq] at hc
    subst hc
    refine ⟨_,by simp only [LL.ro,qR,List.getElem?_modify,List.getElem?_map,List.getElem?_eq_getElem h];rfl,?_⟩
    by_cases e:m=n<;>simp [e,qf.ro,qk,List.getD_eq_getElem?_getD,h,W.er,D.er])
 . split at hc
   . rename_i cs hcs
     refine ⟨_,LL.ro_get x n hcs h,?_⟩
     rw [qq] at hc
     simp [hc]
   . cases hc
theorem LL.rc_sz (x:LL):∀ y∈x.rc,y.length=x.sz:=by
 cases x<;>simp only [LL.rc,rcI,LL.sz,List.mem_map]<;>(rintro y ⟨z,_,rfl⟩;rfl)
theorem LL.ro_sz (x:LL):∀ y∈x.ro,y.length=x.sz:=by
 have key:∀ (h:Option Nat) (j n:Nat) (xs:List (List O)),(∀ y∈xs,y.length=n)->∀ y∈qR h j xs,y.length=n:=by
  intro h j n xs hx y hy
  cases h with
  | none=>exact hx y hy
  | some m =>
    obtain ⟨i,hi⟩:=List.mem_iff_getElem?.1 hy
    simp only [qR,List.getElem?_modify] at hi
    cases hz:xs[i]? with
    | none=>rw [hz] at hi;simp at hi
    | some z =>
      rw [hz] at hi
      have:=hx z (List.mem_of_getElem? hz)
      simp at hi
      split at hi<;>(subst hi;simpa using this)
 cases x
 case node o h l=>exact key h 1 3 _ (by intro y hy;simp at hy;obtain ⟨z,_,rfl⟩:=hy;rfl)
 case ii o h l=>exact key h 0 1 _ (by intro y hy;simp at hy;obtain ⟨z,_,rfl⟩:=hy;rfl)
 all_goals simp only [LL.ro,roI,LL.sz,List.mem_map]<;>(rintro y ⟨z,_,rfl⟩;rfl)
theorem LL.app_ro {x y z:LL}(h:x.app qk y=some z):z.ro=x.ro++y.ro:=by
 unfold LL.app at h
 split at h<;>first | (simp only [Option.some.injEq] at h;subst h;simp [LL.ro,roI,qk,qR];done) | cases h
theorem LL.cut_ro {x z:LL}{a n:Nat}(h:x.cut qk a n=some z):z.ro=(x.ro.drop a).take n:=by
 unfold LL.cut at h
 split at h<;>first | (simp only [Option.some.injEq] at h;subst h;simp [LL.ro,roI,qk,qR,List.map_drop,List.map_take];done) | cases h
theorem LL.cut_rc {x z:LL}{a n:Nat}(h:x.cut qk a n=some z):z.rc=(x.rc.drop a).take n:=by
 unfold LL.cut at h
 split at h<;>first | (simp only [Option.some.injEq] at h;subst h;simp [LL.rc,rcI,qk,List.map_drop,List.map_take];done) | cases h
theorem qoE (l:List Int):O.frzLL (roI l)=rcI l:=by simp [O.frzLL_eq,roI,rcI,O.frz]
theorem qdB (o:Bool)(l:List Int):(KN o l).frz=.sl (rcI l):=by cases o<;>simp [KN,O.frz,qoE]
theorem LL.frz_ro (x:LL)(h:x.here=true):O.frzLL x.ro=x.rc:=by
 cases x
 case node o hh l=>cases hh with | some _=>simp [LL.here] at h | none=>simp [LL.ro,LL.rc,qR,O.frzLL_eq,qf.ro,qf.rc,O.frz,qdB,Function.comp_def]
 case ii o hh l=>cases hh with | some _=>simp [LL.here] at h | none=>simp [LL.ro,LL.rc,qR,O.frzLL_eq,qdB,Function.comp_def]
 all_goals simp [LL.ro,LL.rc,roI,rcI,O.frzLL_eq,O.frz,Function.comp_def]
theorem LL.thaw_ro (x:LL):x.thaw.ro=x.rc.map (·.map .fz):=by
 cases x<;>simp [LL.thaw,LL.ro,LL.rc,roI,rcI,qR,qf.ro,qf.rc,KN,Function.comp_def]
theorem LL.flat_ro (x:LL)(h:x.flat=true)(hh:x.here=true):(x.ro.all fun y=>y.all O.isFz)=true:=by
 cases x
 case node o g l=>cases g with
  | some _=>simp [LL.here] at hh
  | none=>cases o with
    | true=>simp [LL.flat] at h
    | false=>simp [LL.ro,qR,qf.ro,KN,O.isFz]
 case ii o g l=>cases g with
  | some _=>simp [LL.here] at hh
  | none=>cases o with
    | true=>simp [LL.flat] at h
    | false=>simp [LL.ro,qR,KN,O.isFz]
 all_goals simp [LL.ro,roI,O.isFz]
theorem LL.some1_ro (x:LL)(h:x.some1=true)(hf:x.flat=false):(x.ro.all fun y=>y.all O.isFz)=false:=by
 cases x
 case node o g l =>
  cases g with
  | some _=>simp [LL.some1] at h
  | none=>cases l with
    | nil=>simp [LL.some1] at h
    | cons a r=>cases o with
      | false=>simp [LL.flat] at hf
      | true=>simp [LL.ro,qR,qf.ro,KN,O.isFz]
 case ii o g l =>
  cases g with
  | some _=>simp [LL.some1] at h
  | none=>cases l with
    | nil=>simp [LL.some1] at h
    | cons a r=>cases o with
      | false=>simp [LL.flat] at hf
      | true=>simp [LL.ro,qR,KN,O.isFz]
 all_goals simp [LL.some1] at h
theorem LL.clean_ro (x:LL)(h:x.clean=true):O.cleanLL x.ro=true:=by
 cases x
 case node o g l =>
  cases g with
  | some _=>simp [LL.clean] at h
  | none=>simp [LL.clean] at h;subst h;simp [LL.ro,qR,qf.ro,KN,O.cleanLL_eq,O.clean,C.flat,roI]
 case ii o g l =>
  cases g with
  | some _=>simp [LL.clean] at h
  | none=>simp [LL.clean] at h;subst h;simp [LL.ro,qR,KN,O.cleanLL_eq,O.clean,C.flat,roI]
 all_goals simp [LL.ro,roI,O.cleanLL_eq,O.clean,C.flat,Cue.rc,Tie.rc,Edge.rc,jT.rc]
theorem LL.one_ro {k:EK}{cs:List W}{x:LL}(h:LL.one k cs=some x):x.ro=[cs.map W.er]:=by
 unfold LL.one at h
 cases k<;>dsimp only at h<;>split at h<;>first | (injection h with h;subst h;rfl) | (cases h;done)
theorem LL.rep_ro {x z:LL}{n:Nat}(h:x.rep qk n=some z):∃ y,x.ro=[y]/\z.ro=List.replicate n y:=by
 unfold LL.rep at h
 split at h<;>first | (simp only [Option.some.injEq] at h;subst h;exact ⟨_,rfl,by simp [LL.ro,roI,qk,qR]⟩) | cases h
end Go.Proofs.YtececadpjelanaaGreat.Ai
namespace Go.Proofs.YtececadpjelanaaGreat.Ai
open Go
abbrev R (α:Type):=Option (List Prop×α)
def qkH:List Prop->List Prop->List Prop
 | [],r=>r
 | p::l,r=>p::qkH l r
def R.ok {α:Type}(a:α):R α:=some ([],a)
def R.bd {α β:Type}(x:R α)(f:α->R β):R β:=match x with
 | none=>none
 | some (ps,a)=>match f a with
   | none=>none
   | some (qs,b)=>some (qkH ps qs,b)
def R.req {α:Type}(ps:List Prop)(x:R α):R α:=match x with
 | none=>none
 | some (qs,b)=>some (qkH ps qs,b)
def Holds (ps:List Prop):Prop:=∀ p∈ps,p
def R.Sim {α:Type}(x:R α)(Q:α->Prop):Prop:=∀ ps a,x=some (ps,a)->Holds ps->Q a
theorem qgp (l r:List Prop):qkH l r=l++r:=by induction l with | nil=>rfl | cons a l ih=>simp [qkH,ih]
theorem R.Sim.ok {α:Type}{a:α}{Q:α->Prop}(h:Q a):(R.ok a).Sim Q:=by intro ps b hb _;injection hb with hb;injection hb with _ hb;subst hb;exact h
theorem R.Sim.none' {α:Type}{Q:α->Prop}:R.Sim (none:R α) Q:=by intro ps b hb;cases hb
theorem ya {α:Type}{Q:α->Prop}:R.Sim (none:R α) Q:=R.Sim.none'
theorem R.Sim.bd {α β:Type}{x:R α}{f:α->R β}{P:α->Prop}{Q:β->Prop}(h:x.Sim P)(hf:∀ a,P a->(f a).Sim Q):(x.bd f).Sim Q:=by
 intro ps b hb hp
 unfold R.bd at hb
 split at hb
 . cases hb
 . rename_i ps' a
   split at hb
   . cases hb
   . rename_i qs b' hfa
     injection hb with hb
     injection hb with h1 h2
     subst h1 h2
     rw [qgp] at hp
     exact hf a (h ps' a rfl (fun p hm=>hp p (List.mem_append.2 (.inl hm)))) qs _ hfa (fun p hm=>hp p (List.mem_append.2 (.inr hm)))
theorem R.Sim.req {α:Type}{ps:List Prop}{x:R α}{Q:α->Prop}(h:Holds ps->x.Sim Q):(R.req ps x).Sim Q:=by
 intro ps' b hb hp
 unfold R.req at hb
 split at hb
 . cases hb
 . rename_i qs b'
   injection hb with hb
   injection hb with h1 h2
   subst h1 h2
   rw [qgp] at hp
   exact h (fun p hm=>hp p (List.mem_append.2 (.inl hm))) qs _ rfl (fun p hm=>hp p (List.mem_append.2 (.inr hm)))
theorem R.Sim.mono {α:Type}{x:R α}{P Q:α->Prop}(h:x.Sim P)(hq:∀ a,P a->Q a):x.Sim Q:=fun ps a hx hp=>hq a (h ps a hx hp)
theorem Holds.one {p:Prop}(h:Holds [p]):p:=h p (by simp)
theorem Holds.two {p q:Prop}(h:Holds [p,q]):p/\q:=⟨h p (by simp),h q (by simp)⟩
theorem Holds.three {p q r:Prop}(h:Holds [p,q,r]):p/\q/\r:=⟨h p (by simp),h q (by simp),h r (by simp)⟩
structure SF where
 n:Nat
 tm:List (Nat×TV B)
 tb:List (Nat×W)
def unB:TV B:=.v (false,[.un])
def zZ {α β:Type}(f:List α->List β)(x:V1 α):V1 β:=(x.1,f x.2)
def qw {α β:Type}(f:List α->List β):List (V1 α)->List (V1 β)
 | []=>[]
 | x::r=>zZ f x::qw f r
def TV.er {α β:Type}(f:List α->List β):TV α->TV β
 | .v x=>.v (zZ f x)
 | .tup xs=>.tup (qw f xs)
def jF:List (Nat×TV B)->List (Nat×TV A)
 | []=>[]
 | (t,x)::r=>(t,x.er B.erL)::jF r
def zr:List (Nat×W)->List (Nat×O)
 | []=>[]
 | (t,x)::r=>(t,x.er)::zr r
def SF.er (F:SF):Fr:=⟨F.n,jF F.tm,zr F.tb⟩
theorem Qc (l:List (Nat×TV B))(t:Nat):qa unT (jF l) t=(qa unB l t).er B.erL:=by
 induction l with
 | nil=>rfl
 | cons x l ih=>obtain ⟨k,v⟩:=x;simp only [jF,qa];cases nq k t<;>simp [ih]
theorem Y5 (l:List (Nat×W))(t:Nat):qa .un (zr l) t=(qa .un l t).er:=by
 induction l with
 | nil=>rfl
 | cons x l ih=>obtain ⟨k,v⟩:=x;simp only [zr,qa];cases nq k t<;>simp [ih]
theorem qe0 (l:List (Nat×W))(t:Nat):has (zr l) t=has l t:=by
 induction l with
 | nil=>rfl
 | cons x l ih=>obtain ⟨k,v⟩:=x;simp only [zr,has,ih]
theorem qao (l:List (Nat×W))(t:Nat):del (zr l) t=zr (del l t):=by
 induction l with
 | nil=>rfl
 | cons x l ih=>obtain ⟨k,v⟩:=x;simp only [zr,del,ih];cases nq k t<;>rfl
theorem qjd {l:List W}{j:Nat}:(l.map W.er)[j]?=(l[j]?).map W.er:=by simp
theorem LL.set1_ro {x y:LL}{n j:Nat}{c:W}(h:x.set1 qk n j c=some y)(hn:n<x.len qk):∃ cs:List O,x.ro[n]?=some cs/\j<cs.length/\y.ro=x.ro.set n (cs.set j c.er):=by
 have key:∀ {α:Type} (l:List α) (f:α->List O) (d a:α) (cs':List O),n<l.length->f a=cs'->(l.set n a).map f=(l.map f).set n cs':=by
  intro α l f d a cs' _ he;rw [List.map_set,he]
 unfold LL.set1 at h
 split at h
 case h_9 o l =>
  split at h<;>first | (cases h;done) | (
   simp only [Option.some.injEq] at h
   subst h
   simp only [LL.len,qk] at hn
   simp only [LL.ro,qR,qk,Jf]
   refine ⟨_,by rw [List.getElem?_map,List.getElem?_eq_getElem hn];rfl,by simp [qf.ro],?_⟩
   first
    | (rw [List.map_set];simp [qf.ro,hn,List.getD_eq_getElem?_getD,W.er,D.er,KN,LL.ro,LL.rc];done)
    | (apply List.ext_getElem?;intro i;simp only [List.getElem?_modify,List.getElem?_set,List.getElem?_map,List.length_map];by_cases e:n=i
       . subst e;simp [hn,W.er]
       . simp [e]))
 case h_10 o l =>
  split at h<;>first | (cases h;done) | (
   simp only [Option.some.injEq] at h
   subst h
   simp only [LL.len,qk] at hn
   simp only [LL.ro,qR,qk,Jf]
   refine ⟨_,by rw [List.getElem?_map,List.getElem?_eq_getElem hn];rfl,by simp,?_⟩
   first
    | (rw [List.map_set];simp [hn,List.getD_eq_getElem?_getD,W.er,D.er,KN,LL.ro,LL.rc];done)
    | (apply List.ext_getElem?;intro i;simp only [List.getElem?_modify,List.getElem?_set,List.getElem?_map,List.length_map];by_cases e:n=i
       . subst e;simp [hn,W.er]
       . simp [e]))
 case h_11=>cases h
 all_goals
  split at h<;>first | (cases h;done) | (
   simp only [Option.some.injEq] at h
   subst h
   simp only [LL.len,qk] at hn
   simp only [LL.ro,roI,qk,Jf]
   refine ⟨_,by rw [List.getElem?_map,List.getElem?_eq_getElem hn];rfl,by simp [Cue.rc,Tie.rc,Edge.rc,jT.rc],?_⟩
   rw [List.map_set]
   simp [hn,List.getD_eq_getElem?_getD,W.er,D.er,Cue.rc,Tie.rc,Edge.rc,jT.rc])
theorem LL.back_ro {x y:LL}{n j:Nat}{c:W}{ps:List Prop}(h:x.back qk n j c=some (ps,y))(hp:Holds ps)(hn:n<x.len qk):∃ cs:List O,x.ro[n]?=some cs/\j<cs.length/\y.ro=x.ro.set n (cs.set j c.er):=by
 have hI:∀ a,qgf c=some a->c.er=.osl (roI a):=by
  intro a ha
  unfold qgf at ha
  split at ha<;>first | (simp only [Option.some.injEq] at ha;subst ha;rfl) | cases ha
 unfold LL.back at h
 split at h
 . rename_i m l
   split at h
   . split at h
     . rename_i a
       injection h with h
       injection h with h1 h2
       subst h1 h2
       simp only [LL.len,qk] at hn
       refine ⟨_,by simp only [LL.ro,qR,List.getElem?_modify,List.getElem?_map,List.getElem?_eq_getElem hn];rfl,by by_cases e:m=n<;>simp [e,qf.ro],?_⟩
       simp only [LL.ro,qR,qk]
       apply List.ext_getElem?
       intro i
       simp only [List.getElem?_modify,List.getElem?_set,List.getElem?_map,List.length_map,List.length_modify,List.length_set]
       by_cases e:n=i
       . subst e;by_cases e2:m=n<;>simp [hn,e2,qf.ro,List.getD_eq_getElem?_getD,W.er,D.er]
       . by_cases e2:m=i<;>simp [e,e2]
     . cases h
   . split at h
     . rename_i a ha
       injection h with h
       injection h with h1 h2
       subst h1 h2
       have e:n=m:=hp.one
       subst e
       simp only [LL.len,qk] at hn
       refine ⟨_,by simp only [LL.ro,qR,List.getElem?_modify,List.getElem?_map,List.getElem?_eq_getElem hn];simp;rfl,by simp [qf.ro],?_⟩
       rw [hI a ha]
       simp only [LL.ro,qR,qk]
       apply List.ext_getElem?
       intro i
       simp only [List.getElem?_modify,List.getElem?_set,List.getElem?_map,List.length_map,List.length_modify,List.length_set]
       by_cases e:n=i
       . subst e;simp [hn,qf.ro,KN,List.getD_eq_getElem?_getD]
       . simp [e]
     . cases h
   . split at h
     . rename_i a
       injection h with h
       injection h with h1 h2
       subst h1 h2
       simp only [LL.len,qk] at hn
       refine ⟨_,by simp only [LL.ro,qR,List.getElem?_modify,List.getElem?_map,List.getElem?_eq_getElem hn];rfl,by by_cases e:m=n<;>simp [e,qf.ro],?_⟩
       simp only [LL.ro,qR,qk]
       apply List.ext_getElem?
       intro i
       simp only [List.getElem?_modify,List.getElem?_set,List.getElem?_map,List.length_map,List.length_modify,List.length_set]
       by_cases e:n=i
       . subst e;by_cases e2:m=n<;>simp [hn,e2,qf.ro,List.getD_eq_getElem?_getD,W.er,D.er]
       . by_cases e2:m=i<;>simp [e,e2]
     . cases h
   . cases h
 . rename_i m l
   split at h
   . rename_i a ha
     injection h with h
     injection h with h1 h2
     subst h1 h2
     have e:n=m:=hp.one
     subst e
     simp only [LL.len,qk] at hn
     refine ⟨_,by simp only [LL.ro,qR,List.getElem?_modify,List.getElem?_map,List.getElem?_eq_getElem hn];simp;rfl,by simp,?_⟩
     rw [hI a ha]
     simp only [LL.ro,qR,qk]
     apply List.ext_getElem?
     intro i
     simp only [List.getElem?_modify,List.getElem?_set,List.getElem?_map,List.length_map,List.length_modify,List.length_set]
     by_cases e:n=i
     . subst e;simp [hn,KN]
     . simp [e]
   . cases h
 . split at h
   . rename_i y' hy
     injection h with h
     injection h with h1 h2
     subst h1 h2
     exact LL.set1_ro hy hn
   . cases h
abbrev kC:=List ((Bool×Nat)×Nat)
def W.atR (M:MB):W->kC->R W
 | o,[]=>R.ok o
 | .osl x,((_,i),j)::s=>match x.atJ M i j with
   | some o=>R.req [M.pLtN i (x.len M)] (W.atR M o s)
   | none=>none
 | .obx cs,((true,0),j)::s=>(match nth cs j with | some o=>W.atR M o s | none=>none)
 | _,_::_=>none
theorem W.atR_sim:∀ (s:kC) (o:W),(o.atR qk s).Sim fun w=>o.er.at std (ixs s)=w.er
 | [],o=>by cases o<;>exact R.Sim.ok rfl
 | ((k,i),j)::s,o=>by
   cases o with
   | osl x =>
     simp only [W.atR]
     cases hc:x.atJ qk i j with
     | none=>exact R.Sim.none'
     | some o' =>
       dsimp only
       refine R.Sim.req fun hp=>(W.atR_sim s o').mono fun w hw=>?_
       obtain ⟨cs,h1,h3⟩:=LL.ro_getJ x i j hc hp.one
       show O.at std (.osl x.ro) ((i,j)::ixs s)=_
       simp only [O.at]
       have h2:std.oGet x.ro i=some cs:=h1
       rw [h2]
       dsimp only
       rw [qq,h3]
       exact hw
   | obx cs =>
     cases k with
     | false=>exact R.Sim.none'
     | true =>
       cases i with
       | succ i=>exact R.Sim.none'
       | zero =>
         simp only [W.atR]
         cases hj:nth cs j with
         | none=>exact R.Sim.none'
         | some o' =>
           refine (W.atR_sim s o').mono fun w hw=>?_
           rw [qq] at hj
           show O.at std (.obx (W.erL cs)) ((0,j)::ixs s)=_
           simp only [O.at]
           rw [qq,W.erL_eq,qjd,hj]
           exact hw
   | _=>exact R.Sim.none'
def W.setR (M:MB):W->kC->W->R W
 | _,[],n=>R.ok n
 | .osl x,((_,i),j)::s,n=>(match s with
   | []=>R.req [M.pLtN i (x.len M)] (R.bd (x.back M i j n) fun y=>R.ok (.osl y))
   | _::_=>(match x.atJ M i j with
     | some o=>R.req [M.pLtN i (x.len M)] ((W.setR M o s n).bd fun o'=>R.bd (x.back M i j o') fun y=>R.ok (.osl y))
     | none=>none))
 | .obx cs,((true,0),j)::s,n=>(match nth cs j with | some o=>(W.setR M o s n).bd fun o'=>R.ok (.obx (Vy cs j o')) | none=>none)
 | _,_::_,_=>none
theorem qdF {x:LL}{n j:Nat}{c:W}(hn:n<x.len qk):R.Sim (x.back qk n j c) fun y=>∃ cs:List O,x.ro[n]?=some cs/\j<cs.length/\y.ro=x.ro.set n (cs.set j c.er) :=
 fun _ _ h hp=>LL.back_ro h hp hn
theorem W.setR_sim:∀ (s:kC) (o n:W),(o.setR qk s n).Sim fun w=>O.set std o.er (ixs s) n.er=w.er
 | [],o,n=>by cases o<;>exact R.Sim.ok (by simp [ixs,O.set])
 | ((k,i),j)::s,o,n=>by
   cases o with
   | osl x =>
     cases s with
     | nil =>
       simp only [W.setR]
       refine R.Sim.req fun hp=>R.Sim.bd (qdF hp.one) fun y ⟨cs,h1,h2,h3⟩=>R.Sim.ok ?_
       show O.set std (.osl x.ro) ((i,j)::[]) n.er=.osl y.ro
       simp only [O.set]
       have h4:std.oGet x.ro i=some cs:=h1
       rw [h4]
       dsimp only
       rw [qq,List.getElem?_eq_getElem h2]
       dsimp only
       rw [h3,q9]
       rfl
     | cons z s =>
       simp only [W.setR]
       cases hc:x.atJ qk i j with
       | none=>exact R.Sim.none'
       | some o' =>
         dsimp only
         refine R.Sim.req fun hp=>R.Sim.bd (W.setR_sim (z::s) o' n) fun o2 ho2=>R.Sim.bd (qdF hp.one) fun y ⟨cs',h1,h2,h3⟩=>R.Sim.ok ?_
         obtain ⟨cs,h0,hj⟩:=LL.ro_getJ x i j hc hp.one
         rw [h0] at h1
         injection h1 with h1
         subst h1
         show O.set std (.osl x.ro) ((i,j)::ixs (z::s)) n.er=.osl y.ro
         simp only [O.set]
         have h4:std.oGet x.ro i=some cs:=h0
         rw [h4]
         dsimp only
         rw [qq,hj]
         dsimp only
         rw [ho2,h3,q9]
         rfl
   | obx cs =>
     cases k with
     | false=>exact R.Sim.none'
     | true =>
       cases i with
       | succ i=>exact R.Sim.none'
       | zero =>
         simp only [W.setR]
         cases hj:nth cs j with
         | none=>exact R.Sim.none'
         | some o' =>
           refine R.Sim.bd (W.setR_sim s o' n) fun o2 ho2=>R.Sim.ok ?_
           rw [qq] at hj
           show O.set std (.obx (W.erL cs)) ((0,j)::ixs s) n.er=.obx (W.erL (Vy cs j o2))
           simp only [O.set]
           rw [qq,W.erL_eq,qjd,hj]
           dsimp only [Option.map_some]
           rw [ho2,q9,q9,W.erL_eq,List.map_set]
   | _=>exact R.Sim.none'
def SF.atR (M:MB)(F:SF)(p:SP):R W:=(qa .un F.tb p.1).atR M p.2
def SF.setR (M:MB)(F:SF)(p:SP)(o:W):R SF:=((qa .un F.tb p.1).setR M p.2 o).bd fun w=>R.ok { F with tb:=(p.1,w)::del F.tb p.1 }
theorem SF.atR_sim (F:SF)(p:SP):(F.atR qk p).Sim fun w=>F.er.at std p.er=w.er:=by
 refine (W.atR_sim p.2 _).mono fun w hw=>?_
 unfold Fr.at
 show (qa .un (zr F.tb) p.1).at std (ixs p.2)=_
 rw [Y5]
 exact hw
theorem SF.setR_sim (F:SF)(p:SP)(o:W):(F.setR qk p o).Sim fun G=>F.er.setAt std p.er o.er=G.er:=by
 refine R.Sim.bd (W.setR_sim p.2 _ o) fun w hw=>R.Sim.ok ?_
 unfold Fr.setAt SF.er
 show Fr.mk F.n (jF F.tm) ((p.1,(qa .un (zr F.tb) p.1).set std (ixs p.2) o.er)::del (zr F.tb) p.1)=_
 rw [Y5,hw,qao]
 rfl
def ixq (a b:Nat):Bool:=nq a b
@[cbv_eval] theorem qnO (a:Nat):ixq a a=true:=jh a
def JH:kC->kC->Option (Option kC)
 | [],s=>some (some s)
 | _::_,[]=>some none
 | ((k,a),b)::p,((k',c),d)::s=>match nq b d with
   | false=>some none
   | true=>(match k with
     | true=>(match k' with
       | true=>(match nq a c with | true=>JH p s | false=>some none)
       | false=>none)
     | false=>(match k' with
       | true=>none
       | false=>(match ixq a c with | true=>JH p s | false=>some none)))
def qfW (p x:SP):Option (Option SP):=match nq x.1 p.1 with
 | true=>(match JH p.2 x.2 with
   | some (some _)=>some none
   | some none=>some (some x)
   | none=>none)
 | false=>some (some x)
def qg5 (p q x:SP):Option (Option SP):=match nq x.1 p.1 with
 | true=>(match JH p.2 x.2 with
   | some (some s)=>some (some (q.1,q.2++s))
   | some none=>some (some x)
   | none=>none)
 | false=>some (some x)
theorem Jm (l r:kC):ixs (l++r)=ixs l++ixs r:=by
 induction l with
 | nil=>rfl
 | cons x l ih=>obtain ⟨⟨k,i⟩,j⟩:=x;simp [ixs,ih]
theorem ym (a b c d:Nat)(p s:List (Nat×Nat)):pre std ((a,b)::p) ((c,d)::s)=if a=c/\b=d then pre std p s else none:=by
 have h:(std.nEq a c&&std.nEq b d)=decide (a=c/\b=d):=by
  show ((a == c)&&(b == d))=_
  by_cases h1:a=c<;>by_cases h2:b=d<;>simp [h1,h2]
 simp only [pre,h]
 by_cases h1:a=c/\b=d
 . rw [if_pos h1];simp [h1]
 . rw [if_neg h1];simp only [h1,decide_false]
theorem zc:∀ (p s:kC) {r:Option kC},JH p s=some r->pre std (ixs p) (ixs s)=r.map ixs
 | [],s,r,h=>by simp only [JH,Option.some.injEq] at h;subst h;rfl
 | _::_,[],r,h=>by simp only [JH,Option.some.injEq] at h;subst h;rfl
 | ((k,a),b)::p,((k',c),d)::s,r,h=>by
   simp only [JH] at h
   cases hb:nq b d with
   | false =>
     rw [hb] at h
     simp only [Option.some.injEq] at h
     subst h
     have hne:¬b=d:=fun e=>by subst e;simp at hb
     simp [ym,ixs,hne]
   | true =>
     rw [hb] at h
     obtain rfl:=Nat.eq_of_beq_eq_true hb
     have fin:(match nq a c with | true=>JH p s | false=>some none)=some r->pre std (ixs (((k,a),b)::p)) (ixs (((k',c),b)::s))=r.map ixs:=by
      intro h2
      cases hac:nq a c with
      | false =>
        rw [hac] at h2
        simp only [Option.some.injEq] at h2
        subst h2
        have hne:¬a=c:=fun e=>by subst e;simp at hac
        simp [ym,ixs,hne]
      | true =>
        rw [hac] at h2
        obtain rfl:=Nat.eq_of_beq_eq_true hac
        have:=zc p s h2
        simpa [ym,ixs] using this
     cases k with
     | false =>
       cases k' with
       | true=>cases h
       | false=>exact fin h
     | true =>
       cases k' with
       | false=>cases h
       | true=>exact fin h
theorem vH {p x:SP}{r:Option SP}(h:qfW p x=some r):qV std p.er x.er=r.map SP.er:=by
 unfold qfW at h
 unfold qV
 show (match nq x.1 p.1 with | true=>(match pre std (ixs p.2) (ixs x.2) with | some _=>none | none=>some x.er) | false=>some x.er)=_
 split at h
 . rename_i e
   split at h
   . rename_i s hs
     rw [zc _ _ hs]
     simp only [Option.some.injEq] at h
     subst h
     rfl
   . rename_i hs
     rw [zc _ _ hs]
     simp only [Option.some.injEq] at h
     subst h
     rfl
   . cases h
 . rename_i e
   simp only [Option.some.injEq] at h
   subst h
   rfl
theorem vI {p q x:SP}{r:Option SP}(h:qg5 p q x=some r):jf std p.er q.er x.er=r.map SP.er:=by
 unfold qg5 at h
 unfold jf
 show (match nq x.1 p.1 with | true=>(match pre std (ixs p.2) (ixs x.2) with | some s=>some (q.er.1,q.er.2++s) | none=>some x.er) | false=>some x.er)=_
 split at h
 . rename_i e
   split at h
   . rename_i s hs
     rw [zc _ _ hs]
     simp only [Option.some.injEq] at h
     subst h
     simp [SP.er,Jm]
   . rename_i hs
     rw [zc _ _ hs]
     simp only [Option.some.injEq] at h
     subst h
     rfl
   . cases h
 . rename_i e
   simp only [Option.some.injEq] at h
   subst h
   rfl
mutual
def B.tr (τ:SP->Option (Option SP)):B->Option B
 | .un=>some .un
 | .ud=>some .ud
 | .fz d=>some (.fz d)
 | .rf p w off len=>match τ p with | some (some q)=>some (.rf q w off len) | some none=>some .un | none=>none
 | .pp p i j=>match τ p with | some (some q)=>some (.pp q i j) | some none=>some .un | none=>none
 | .clo f caps=>match B.trL τ caps with | some l=>some (.clo f l) | none=>none
def B.trL (τ:SP->Option (Option SP)):List B->Option (List B)
 | []=>some []
 | a::r=>match a.tr τ,B.trL τ r with | some x,some l=>some (x::l) | _,_=>none
end
def qi7 (τ:SP->Option (Option SP)):List (V1 B)->Option (List (V1 B))
 | []=>some []
 | x::r=>match B.trL τ x.2,qi7 τ r with | some y,some l=>some ((x.1,y)::l) | _,_=>none
def qnf (τ:SP->Option (Option SP)):TV B->Option (TV B)
 | .v x=>match B.trL τ x.2 with | some y=>some (.v (x.1,y)) | none=>none
 | .tup xs=>match qi7 τ xs with | some l=>some (.tup l) | none=>none
def qh0 (τ:SP->Option (Option SP)):List (Nat×TV B)->Option (List (Nat×TV B))
 | []=>some []
 | (t,x)::r=>match qnf τ x,qh0 τ r with | some y,some l=>some ((t,y)::l) | _,_=>none
section
variable {τ:SP->Option (Option SP)} {τ':qg->Option qg}
mutual
theorem B.tr_sound (ht:∀ x r,τ x=some r->τ' x.er=r.map SP.er):(x:B)->{y:B}->x.tr τ=some y->x.er.tr τ'=y.er
 | .un,y,h=>by simp only [B.tr,Option.some.injEq] at h;subst h;rfl
 | .ud,y,h=>by simp only [B.tr,Option.some.injEq] at h;subst h;rfl
 | .fz d,y,h=>by simp only [B.tr,Option.some.injEq] at h;subst h;rfl
 | .rf p w off len,y,h=>by
   simp only [B.tr] at h
   simp only [B.er,A.tr]
   split at h
   . rename_i q hq
     rw [ht p _ hq]
     simp only [Option.some.injEq] at h
     subst h
     rfl
   . rename_i hq
     rw [ht p _ hq]
     simp only [Option.some.injEq] at h
     subst h
     rfl
   . cases h
 | .pp p i j,y,h=>by
   simp only [B.tr] at h
   simp only [B.er,A.tr]
   split at h
   . rename_i q hq
     rw [ht p _ hq]
     simp only [Option.some.injEq] at h
     subst h
     rfl
   . rename_i hq
     rw [ht p _ hq]
     simp only [Option.some.injEq] at h
     subst h
     rfl
   . cases h
 | .clo f caps,y,h=>by
   simp only [B.tr] at h
   split at h
   . rename_i l hl
     simp only [Option.some.injEq] at h
     subst h
     simp only [B.er,A.tr,B.trL_sound ht caps hl]
   . cases h
theorem B.trL_sound (ht:∀ x r,τ x=some r->τ' x.er=r.map SP.er):(l:List B)->{r:List B}->B.trL τ l=some r->A.trL τ' (B.erL l)=B.erL r
 | [],r,h=>by simp only [B.trL,Option.some.injEq] at h;subst h;rfl
 | a::l,r,h=>by
   simp only [B.trL] at h
   split at h
   . rename_i x y hx hy
     simp only [Option.some.injEq] at h
     subst h
     simp only [B.erL,A.trL,B.tr_sound ht a hx,B.trL_sound ht l hy]
   . cases h
end
theorem K3 (ht:∀ x r,τ x=some r->τ' x.er=r.map SP.er):(l:List (V1 B))->{r:List (V1 B)}->qi7 τ l=some r->qiW τ' (qw B.erL l)=qw B.erL r
 | [],r,h=>by simp only [qi7,Option.some.injEq] at h;subst h;rfl
 | x::l,r,h=>by
   simp only [qi7] at h
   split at h
   . rename_i y z hy hz
     simp only [Option.some.injEq] at h
     subst h
     simp only [qw,qiW,zZ,trV,B.trL_sound ht x.2 hy,K3 ht l hz]
   . cases h
theorem qey (ht:∀ x r,τ x=some r->τ' x.er=r.map SP.er){x y:TV B}(h:qnf τ x=some y):(x.er B.erL).tr τ'=y.er B.erL:=by
 unfold qnf at h
 split at h
 . rename_i x
   split at h
   . rename_i z hz
     simp only [Option.some.injEq] at h
     subst h
     simp only [TV.er,TV.tr,zZ,trV,B.trL_sound ht _ hz]
   . cases h
 . split at h
   . rename_i l hl
     simp only [Option.some.injEq] at h
     subst h
     simp only [TV.er,TV.tr,K3 ht _ hl]
   . cases h
theorem Jj (ht:∀ x r,τ x=some r->τ' x.er=r.map SP.er):(l:List (Nat×TV B))->{r:List (Nat×TV B)}->qh0 τ l=some r->QS τ' (jF l)=jF r
 | [],r,h=>by simp only [qh0,Option.some.injEq] at h;subst h;rfl
 | (t,x)::l,r,h=>by
   simp only [qh0] at h
   split at h
   . rename_i y z hy hz
     simp only [Option.some.injEq] at h
     subst h
     simp only [jF,QS,qey ht hy,Jj ht l hz]
   . cases h
end
def oR {α:Type}:Option α->R α
 | some a=>some ([],a)
 | none=>none
theorem W4 {α:Type}{x:Option α}{Q:α->Prop}(h:∀ a,x=some a->Q a):(oR x).Sim Q:=by
 cases x with
 | none=>exact R.Sim.none'
 | some a=>exact R.Sim.ok (h a rfl)
def SF.trR (F:SF)(τ:SP->Option (Option SP)):R SF:=match qh0 τ F.tm with
 | some l=>R.ok { F with tm:=l }
 | none=>none
def SF.lessR (M:MB)(F:SF)(p:SP):R SF:=match p.2 with
 | []=>R.ok { F with tb:=del F.tb p.1 }
 | _::_=>F.setR M p .un
def SF.dropR (M:MB)(F:SF)(p:SP):R SF:=(F.lessR M p).bd fun G=>G.trR (qfW p)
def SF.liftR (M:MB)(F:SF)(p q:SP):R SF:=(F.lessR M p).bd fun G=>G.trR (qg5 p q)
def SF.clearR (M:MB)(F:SF)(id:Nat):R SF:=match has F.tb id with
 | true=>F.dropR M (id,[])
 | false=>R.ok F
def SF.put (F:SF)(d:Nat)(x:TV B):SF:={ F with tm:=(d,x)::F.tm }
def SF.root (F:SF)(id:Nat)(o:W):SF:={ F with tb:=(id,o)::F.tb }
theorem SF.trR_sim (F:SF){τ:SP->Option (Option SP)}{τ':qg->Option qg}(ht:∀ x r,τ x=some r->τ' x.er=r.map SP.er):(F.trR τ).Sim fun G=>F.er.tr τ'=G.er:=by
 unfold SF.trR
 split
 . rename_i l hl
   refine R.Sim.ok ?_
   simp only [Fr.tr,SF.er,Jj ht _ hl]
 . exact R.Sim.none'
theorem SF.lessR_sim (F:SF)(p:SP):(F.lessR qk p).Sim fun G=>F.er.less std p.er=G.er:=by
 obtain ⟨r,s⟩:=p
 cases s with
 | nil=>exact R.Sim.ok (by simp only [Fr.less,SP.er,ixs,SF.er,qao])
 | cons x s =>
   refine (SF.setR_sim F (r,x::s) .un).mono fun G h=>?_
   obtain ⟨⟨k,i⟩,j⟩:=x
   exact h
theorem SF.dropR_sim (F:SF)(p:SP):(F.dropR qk p).Sim fun G=>F.er.drop std p.er=G.er :=
 R.Sim.bd (F.lessR_sim p) fun G h=>(G.trR_sim (fun x r=>vH)).mono fun G' h'=>by unfold Fr.drop;rw [h,h']
theorem SF.liftR_sim (F:SF)(p q:SP):(F.liftR qk p q).Sim fun G=>F.er.lift std p.er q.er=G.er :=
 R.Sim.bd (F.lessR_sim p) fun G h=>(G.trR_sim (fun x r=>vI)).mono fun G' h'=>by unfold Fr.lift;rw [h,h']
theorem SF.clearR_sim (F:SF)(id:Nat):(F.clearR qk id).Sim fun G=>F.er.clear std id=G.er:=by
 unfold SF.clearR Fr.clear
 have h:has F.er.tb id=has F.tb id:=qe0 _ _
 rw [h]
 cases has F.tb id with
 | true=>exact F.dropR_sim (id,[])
 | false=>exact R.Sim.ok rfl
theorem SF.put_er (F:SF)(d:Nat)(x:TV B):(F.put d x).er=F.er.put d (x.er B.erL):=rfl
theorem SF.root_er (F:SF)(id:Nat)(o:W):(F.root id o).er=F.er.root id o.er:=rfl
end Go.Proofs.YtececadpjelanaaGreat.Ai
namespace Go.Proofs.YtececadpjelanaaGreat.Ai
open Go
def qa4:Value->B
 | .int k n=>.fz (.int k n)
 | .bool b=>.fz (.bool true b)
 | .string s=>.fz (.str s)
 | .slice none 0 0=>.fz .nilsl
 | _=>.un
def WG:List Value->List B
 | []=>[]
 | v::r=>qa4 v::WG r
def qaH:Value->TV B
 | .agg ⟨cs⟩=>.v (true,WG cs)
 | .tuple _=>unB
 | v=>.v (false,[qa4 v])
def evB (F:SF):Operand->TV B
 | .tmp t=>(match nlt t PH with | true=>qa unB F.tm t | false=>unB)
 | .const v=>qaH v
 | .func f=>.v (false,[.fz (.fn f [])])
 | .global _=>unB
def qhw:TV B->B
 | .v (false,[a])=>a
 | _=>.un
def zJ (F:SF)(x:Operand):B:=qhw (evB F x)
theorem Yw (v:Value):(qa4 v).er=jR v:=by
 unfold qa4 jR
 split<;>first | rfl | (split<;>simp_all [B.er,D.er])
theorem qff (l:List Value):B.erL (WG l)=l.map jR:=by induction l with | nil=>rfl | cons a r ih=>simp [WG,B.erL,Yw,ih]
theorem kz (F:SF)(x:Operand):(evB F x).er B.erL=ev F.er x:=by
 cases x with
 | tmp t =>
   show (match nlt t PH with | true=>qa unB F.tm t | false=>unB).er B.erL=(match nlt t PH with | true=>qa unT F.er.tm t | false=>unT)
   split
   . exact (Qc F.tm t).symm
   . rfl
 | const v =>
   show (qaH v).er B.erL=jP v
   cases v<;>first | rfl | (simp only [qaH,jP,TV.er,zZ,B.erL,Yw];done) | skip
   case agg cs=>obtain ⟨l⟩:=cs;simp only [qaH,jP,TV.er,zZ,qff]
 | func f=>rfl
 | global g=>rfl
theorem qbl (x:TV B):(qhw x).er=one (x.er B.erL):=by
 cases x with
 | tup xs=>rfl
 | v x =>
   obtain ⟨g,as⟩:=x
   cases g with
   | true=>rfl
   | false =>
     match as with
     | []=>rfl
     | [a]=>rfl
     | a::b::r=>rfl
theorem qE (F:SF)(x:Operand):(zJ F x).er=ev1 F.er x:=by unfold zJ ev1;rw [qbl,kz]
def qfw (M:MB)(op:BinOp)(k:IntKind)(a b:Int):R D :=
 match op with
 | .add=>R.ok (.int k (M.iAdd k a b))
 | .sub=>R.ok (.int k (M.iSub k a b))
 | .mul=>R.ok (.int k (M.iMul k a b))
 | .quo=>some ([M.pNeZ b],.int k (M.iQuo k a b))
 | .rem=>some ([M.pNeZ b],.int k (M.iRem a b))
 | .and=>R.ok (.int k (M.iAnd k a b))
 | .or=>R.ok (.int k (M.iOr k a b))
 | .xor=>R.ok (.int k (M.iXor k a b))
 | .eql=>R.ok (.bool false (M.bEq a b))
 | .neq=>R.ok (.bool false (M.bNot (M.bEq a b)))
 | .lss=>R.ok (.bool false (M.bLt a b))
 | .leq=>R.ok (.bool false (M.bLe a b))
 | .gtr=>R.ok (.bool false (M.bLt b a))
 | .geq=>R.ok (.bool false (M.bLe b a))
 | _=>none
theorem qe6 (op:BinOp)(k:IntKind)(a b:Int):(qfw qk op k a b).Sim fun d=>Yy std op k a b=some d.er:=by
 unfold qfw
 split<;>first
  | exact R.Sim.none'
  | (refine R.Sim.ok ?_;simp [Yy,D.er,std,qk];done)
  | (intro ps d h hp
     injection h with h
     injection h with h1 h2
     subst h1 h2
     have:b≠0:=hp.one
     simp [Yy,std,this,D.er,qk])
def qej (M:MB)(op:BinOp)(a b:ByteArray):R D :=
 match op with
 | .add=>some ([M.pStr a b],.str (M.sCat a b))
 | .eql=>R.ok (.bool false (M.sEq a b))
 | .neq=>R.ok (.bool false (M.bNot (M.sEq a b)))
 | _=>none
theorem qfz (op:BinOp)(a b:ByteArray):(qej qk op a b).Sim fun d=>qbu std op a b=some d.er:=by
 unfold qej
 split
 . intro ps d h hp
   injection h with h
   injection h with h1 h2
   subst h1 h2
   have:a.size+b.size<=9223372036854775807:=hp.one
   simp [qbu,std,this,D.er,qk]
 . exact R.Sim.ok rfl
 . exact R.Sim.ok (by simp [qbu,D.er,std,qk])
 . exact R.Sim.none'
def qgE (M:MB)(op:BinOp)(x y:D):R D :=
 match x,y with
 | .int k a,.int k' b=>(match op with
   | .shl=>some ([M.pGeZ b],.int k (M.iShl k a b))
   | .shr=>some ([M.pGeZ b],.int k (M.iShr a b k))
   | op=>(match Jb k k' with | true=>qfw M op k a b | false=>none))
 | .str a,.str b=>qej M op a b
 | _,_=>none
theorem YR (op:BinOp)(x y:D):(qgE qk op x y).Sim fun d=>qas std op x.er y.er=some d.er:=by
 unfold qgE
 split
 . rename_i k a k' b
   split
   . intro ps d h hp
     injection h with h
     injection h with h1 h2
     subst h1 h2
     have:¬b<0:=by have:=hp.one;simp only [qk] at this;omega
     simp [qas,std,this,D.er,qk]
   . intro ps d h hp
     injection h with h
     injection h with h1 h2
     subst h1 h2
     have:¬b<0:=by have:=hp.one;simp only [qk] at this;omega
     simp [qas,std,this,D.er,qk]
   . rename_i h1 h2
     split
     . rename_i hk
       refine (qe6 _ k a b).mono fun d hd=>?_
       cases op<;>first | exact (h1 rfl).elim | exact (h2 rfl).elim | (simp only [D.er,qas,hk];exact hd)
     . exact R.Sim.none'
 . exact (qfz op _ _).mono fun d hd=>by simpa only [D.er,qas] using hd
 . exact R.Sim.none'
def qlP (M:MB)(k:TK)(x y:B):R Bool :=
 match k with
 | .bool=>(match x,y with
   | .fz (.bool _ a),.fz (.bool _ b)=>R.ok (M.bEqB a b)
   | _,_=>none)
 | _=>none
def qnj (M:MB)(k:TK)(op:BinOp)(x y:B):R D :=
 match x,y with
 | .fz (.int i a),.fz (.int j b)=>qgE M op (.int i a) (.int j b)
 | .fz (.str a),.fz (.str b)=>qgE M op (.str a) (.str b)
 | x,y=>(match op with
   | .eql=>(qlP M k x y).bd fun b=>R.ok (.bool false b)
   | .neq=>(qlP M k x y).bd fun b=>R.ok (.bool false (M.bNot b))
   | _=>none)
theorem qdt (k:TK)(x y:B):(qlP qk k x y).Sim fun b=>∀ op,op=BinOp.eql\/op=.neq->qct std k op x.er y.er=some (.bool (match op with | .neq=>!b | _=>b)):=by
 unfold qlP
 split
 . split
   . refine R.Sim.ok fun op hop=>?_
     rcases hop with rfl | rfl<;>simp [B.er,D.er,qct,eqT,std,qk]
   . exact R.Sim.none'
 . exact R.Sim.none'
theorem qkD (k:TK)(op:BinOp)(x y:B):(qnj qk k op x y).Sim fun d=>qct std k op x.er y.er=some d.er:=by
 unfold qnj
 split
 . exact (YR op _ _).mono fun d hd=>by simpa only [B.er,D.er,qct] using hd
 . exact (YR op _ _).mono fun d hd=>by simpa only [B.er,D.er,qct] using hd
 . split
   . exact R.Sim.bd (qdt k x y) fun b hb=>R.Sim.ok (hb .eql (.inl rfl))
   . exact R.Sim.bd (qdt k x y) fun b hb=>R.Sim.ok (hb .neq (.inr rfl))
   . exact R.Sim.none'
def qnl (M:MB)(op:UnOp):B->R D
 | .fz (.int k n)=>(match op with
   | .neg=>R.ok (.int k (M.iSub k 0 n))
   | _=>none)
 | .fz (.bool kn b)=>(match op with
   | .not=>R.ok (.bool kn (match kn with | true=>qi5 b | false=>M.bNot b))
   | _=>none)
 | _=>none
theorem qkP (op:UnOp)(x:B):(qnl qk op x).Sim fun d=>unC std op x.er=some d.er:=by
 unfold qnl
 split
 . split
   . exact R.Sim.ok rfl
   . exact R.Sim.none'
 . split
   . refine R.Sim.ok ?_
     simp only [B.er,D.er,unC,qk]
     split<;>simp
   . exact R.Sim.none'
 . exact R.Sim.none'
def qnG (M:MB)(q:SP):W->B
 | .un=>.un
 | .fz d=>.fz d
 | .osl x=>.rf q true 0 (x.len M)
 | .onil=>.rf q true 0 0
 | .obx _=>.pp q (true,0) 0
def qce (M:MB)(r:Nat)(s:kC)(i:Bool×Nat):Nat->List W->List B
 | _,[]=>[]
 | j,o::rest=>qnG M (r,s++[(i,j)]) o::qce M r s i (j+1) rest
theorem qf5 (q:SP)(o:W):(qnG qk q o).er=qfu std q.er o.er:=by
 cases o with
 | osl x=>show A.rf q.er 0 (x.len qk)=A.rf q.er 0 (x.ro.length);rw [LL.len_ro]
 | _=>rfl
theorem ye (r:Nat)(s:kC)(i:Bool×Nat):∀ (l:List W) (j:Nat),B.erL (qce qk r s i j l)=VU std r (ixs s) i.2 j (W.erL l)
 | [],j=>rfl
 | o::l,j=>by simp only [qce,B.erL,VU,W.erL,qf5,ye r s i l];simp only [SP.er,Jm];rfl
def fzB:List D->List B
 | []=>[]
 | d::r=>.fz d::fzB r
theorem qdU (l:List D):B.erL (fzB l)=fzL (D.erL l):=by induction l with | nil=>rfl | cons a r ih=>simp [fzB,B.erL,fzL,D.erL,B.er,ih]
theorem Kz {α β:Type}(f:α->β):∀ (l:List α) (j n:Nat),cut (l.map f) j n=(cut l j n).map (·.map f)
 | [],0,0=>rfl
 | [],0,n+1=>rfl
 | [],j+1,n=>by cases n<;>rfl
 | a::l,0,0=>rfl
 | a::l,j+1,0=>by simp only [List.map_cons,cut];exact Kz f l j 0
 | a::l,j+1,n+1=>by simp only [List.map_cons,cut];exact Kz f l j (n+1)
 | a::l,0,n+1=>by
   simp only [List.map_cons,cut,Kz f l 0 n]
   cases cut l 0 n<;>rfl
def qaZ (M:MB)(F:SF)(n:Nat):B->R (List B)
 | .pp p i j=>(F.atR M p).bd fun o=>(match o with
   | .osl x=>(match x.atW M i.2 with
     | some cs=>(match cut cs j n with
       | some l=>some ([M.pLtN i.2 (x.len M)],qce M p.1 p.2 i j l)
       | none=>none)
     | none=>none)
   | .obx cs=>(match i with
     | (true,0)=>oR (match cut cs j n with | some l=>some (qce M p.1 p.2 (true,0) j l) | none=>none)
     | _=>none)
   | _=>none)
 | .fz (.ptr cs)=>oR (match cut cs 0 n with | some l=>some (fzB l) | none=>none)
 | _=>none
theorem WV (F:SF)(n:Nat)(x:B):(qaZ qk F n x).Sim fun l=>zQ std F.er n x.er=some (B.erL l):=by
 unfold qaZ
 split
 . rename_i p i j
   refine R.Sim.bd (F.atR_sim p) fun o ho=>?_
   simp only [B.er,zQ,ho]
   split
   . rename_i x
     split
     . rename_i cs hc
       split
       . rename_i l hl
         intro ps d h hp
         injection h with h
         injection h with h1 h2
         subst h1 h2
         have h1:std.oGet x.ro i.2=some (cs.map W.er):=LL.ro_get x i.2 hc hp.one
         simp only [W.er,h1,Kz,hl,Option.map_some]
         rw [ye,W.erL_eq]
         rfl
       . exact R.Sim.none'
     . exact R.Sim.none'
   . rename_i cs
     split
     . refine W4 fun a ha=>?_
       split at ha
       . rename_i l hl
         simp only [Option.some.injEq] at ha
         subst ha
         simp only [W.er,W.erL_eq,Kz,hl,Option.map_some]
         rw [ye,W.erL_eq]
         rfl
       . cases ha
     . exact R.Sim.none'
   . exact R.Sim.none'
 . refine W4 fun a ha=>?_
   split at ha
   . rename_i l hl
     simp only [Option.some.injEq] at ha
     subst ha
     simp only [B.er,D.er,zQ,D.erL_eq,Kz,hl,Option.map_some,qdU]
   . cases ha
 . exact R.Sim.none'
def qlM (agg:Bool)(as:List B):Option (TV B) :=
 match agg with
 | true=>some (.v (true,as))
 | false=>match as with
   | [a]=>some (.v (false,[a]))
   | _=>none
theorem qfU {agg:Bool}{as:List B}{x:TV B}(h:qlM agg as=some x):mkV agg (B.erL as)=some (x.er B.erL):=by
 unfold qlM at h
 split at h
 . simp only [Option.some.injEq] at h;subst h;rfl
 . split at h
   . simp only [Option.some.injEq] at h;subst h;rfl
   . cases h
def W.frzR:W->Option D
 | .fz d=>some d
 | .osl x=>match x.here with | true=>some (.sl x) | false=>none
 | .un=>some .un
 | _=>none
def qbZ:List W->Option (List D)
 | []=>some []
 | o::r=>match o.frzR,qbZ r with | some d,some l=>some (d::l) | _,_=>none
theorem W.frzR_er {o:W}{d:D}(h:o.frzR=some d):o.er.frz=d.er:=by
 unfold W.frzR at h
 split at h
 . simp only [Option.some.injEq] at h;subst h;rfl
 . rename_i x
   split at h
   . rename_i hh
     simp only [Option.some.injEq] at h
     subst h
     simp only [W.er,O.frz,D.er,LL.frz_ro x hh]
   . cases h
 . simp only [Option.some.injEq] at h;subst h;rfl
 . cases h
theorem qdA:∀ (l:List W) {r:List D},qbZ l=some r->O.frzL (W.erL l)=D.erL r
 | [],r,h=>by simp only [qbZ,Option.some.injEq] at h;subst h;rfl
 | o::l,r,h=>by
   simp only [qbZ] at h
   split at h
   . rename_i d l' hd hl
     simp only [Option.some.injEq] at h
     subst h
     simp only [W.erL,O.frzL,D.erL,W.frzR_er hd,qdA l hl]
   . cases h
theorem Yt {α β:Type}(f:α->β)(l:List α)(n:Nat):jX (l.map f) n=(jX l n).map f:=by simp [kV,List.map_drop]
mutual
def qk9 (M:MB)(F:SF):B->R D
 | .un=>R.ok .un
 | .ud=>R.ok .un
 | .fz d=>R.ok d
 | .rf p w off len=>(F.atR M p).bd fun o=>(match o with
   | .osl x=>(match x.here with
     | true=>(match w with
       | true=>some ([M.pEqN off 0,M.pEqN len (x.len M)],.sl x)
       | false=>(match x.cut M off len with
         | some y=>some ([M.pLeN (M.nAdd off len) (x.len M)],.sl y)
         | none=>none))
     | false=>none)
   | .onil=>some ([M.pEqN off 0,M.pEqN len 0],.sl (.i []))
   | _=>none)
 | .pp p i j=>(F.atR M p).bd fun o=>(match o with
   | .osl x=>(match x.here with
     | true=>some ([M.pLtN i.2 (x.len M)],.ptr (jX (x.atD M i.2) j))
     | false=>none)
   | .obx cs=>(match i with
     | (true,0)=>oR (match qbZ (jX cs j) with | some l=>some (.ptr l) | none=>none)
     | _=>none)
   | _=>none)
 | .clo f caps=>(Yp M F caps).bd fun l=>R.ok (.fn f l)
def Yp (M:MB)(F:SF):List B->R (List D)
 | []=>R.ok []
 | a::r=>(qk9 M F a).bd fun d=>(Yp M F r).bd fun l=>R.ok (d::l)
end
theorem qlN (a b:Nat):std.nLe a b=decide (a<=b):=rfl
mutual
theorem qjW (F:SF):(x:B)->(qk9 qk F x).Sim fun d=>ZM std F.er x.er=d.er
 | .un=>R.Sim.ok rfl
 | .ud=>R.Sim.ok rfl
 | .fz d=>R.Sim.ok rfl
 | .rf p w off len=>by
   simp only [qk9]
   refine R.Sim.bd (F.atR_sim p) fun o ho=>?_
   simp only [B.er,ZM,ho]
   split
   . rename_i x
     split
     . rename_i hh
       split
       . intro ps d h hp
         injection h with h
         injection h with h1 h2
         subst h1 h2
         obtain ⟨h1,h2⟩:=hp.two
         have h1:off=0:=h1
         have h2:len=x.len qk:=h2
         subst h1 h2
         have h3:x.len qk=x.ro.length:=(LL.len_ro x).symm
         simp only [W.er,qlN,D.er]
         show (match decide (0+x.len qk<=x.ro.length) with | true=>C.sl (O.frzLL ((x.ro.drop 0).take (x.len qk))) | false=>.un)=_
         rw [h3]
         simp [LL.frz_ro x hh]
       . split
         . rename_i y hy
           intro ps d h hp
           injection h with h
           injection h with h1 h2
           subst h1 h2
           have h1:off+len<=x.len qk:=hp.one
           simp only [W.er,D.er]
           show (match decide (off+len<=x.ro.length) with | true=>C.sl (O.frzLL ((x.ro.drop off).take len)) | false=>.un)=_
           rw [LL.len_ro,<-LL.cut_ro hy]
           simp only [h1,decide_true]
           have hy':y.here=true:=by
            unfold LL.cut at hy
            split at hy<;>first | (simp only [Option.some.injEq] at hy;subst hy;rfl) | cases hy
           rw [LL.frz_ro y hy']
         . exact R.Sim.none'
     . exact R.Sim.none'
   . intro ps d h hp
     injection h with h
     injection h with h1 h2
     subst h1 h2
     obtain ⟨h1,h2⟩:=hp.two
     have h1:off=0:=h1
     have h2:len=0:=h2
     subst h1 h2
     rfl
   . exact R.Sim.none'
 | .pp p i j=>by
   simp only [qk9]
   refine R.Sim.bd (F.atR_sim p) fun o ho=>?_
   simp only [B.er,ZM,ho]
   split
   . rename_i x
     split
     . rename_i hh
       intro ps d h hp
       injection h with h
       injection h with h1 h2
       subst h1 h2
       have h1:i.2<x.len qk:=hp.one
       have h2:i.2<x.ro.length:=by rw [LL.len_ro];exact h1
       have h3:std.oGet x.ro i.2=some x.ro[i.2]:=List.getElem?_eq_getElem h2
       simp only [W.er,h3,D.er]
       have h4:=congrArg (fun l:List (List C)=>l[i.2]?) (LL.frz_ro x hh)
       simp only [O.frzLL_eq,List.getElem?_map,List.getElem?_eq_getElem h2,LL.rc_get x i.2 h1,Option.map_some,Option.some.injEq] at h4
       rw [O.frzL_eq,kV,List.map_drop,h4,<-List.map_drop,<-kV,D.erL_eq]
     . exact R.Sim.none'
   . split
     . refine W4 fun a ha=>?_
       split at ha
       . rename_i l hl
         simp only [Option.some.injEq] at ha
         subst ha
         simp only [W.er,W.erL_eq,Yt,D.er]
         rw [<-W.erL_eq,qdA _ hl]
       . cases ha
     . exact R.Sim.none'
   . exact R.Sim.none'
 | .clo f caps=>by
   simp only [qk9]
   refine R.Sim.bd (Ks F caps) fun l hl=>R.Sim.ok ?_
   simp only [B.er,ZM,hl,D.er]
theorem Ks (F:SF):(l:List B)->(Yp qk F l).Sim fun d=>Qi std F.er (B.erL l)=D.erL d
 | []=>R.Sim.ok rfl
 | a::r=>by
   simp only [Yp]
   exact R.Sim.bd (qjW F a) fun d hd=>R.Sim.bd (Ks F r) fun l hl=>R.Sim.ok (by simp only [B.erL,Qi,D.erL,hd,hl])
end
end Go.Proofs.YtececadpjelanaaGreat.Ai
