/- The law's proof, part 2 of 10: what of its author's texts it needs; no condition. -/
import Derived.Deep.AppendSrc
import Derived.Deep.Upon
import Derived.Test.YtececadpjelanaaGreatZeA
set_option linter.unusedSectionVars false
set_option linter.unusedSimpArgs false
set_option linter.unusedVariables false
namespace Go.Proofs.YtececadpjelanaaGreat.Ai
open Go Go.RowKit
section
variable [qi] {P:Program} {T:Nat->Option Ty} {w w':World} {σ σ':Gh} {F:Fr} {vt:Nat->Value} {a:Act}
def Q2 (us:Nat->Nat->Value)(len sz:Nat):List Value:=(List.range (len * sz)).map fun m=>us (m / sz) (m % sz)
theorem jm (us:Nat->Nat->Value)(len sz:Nat):(Q2 us len sz).length=len * sz:=by simp [Q2]
theorem wr (us:Nat->Nat->Value){len sz i j:Nat}(hi:i<len)(hj:j<sz):(Q2 us len sz)[i * sz+j]?=some (us i j):=by
 have hlt:i * sz+j<len * sz:=by
  have:(i+1) * sz<=len * sz:=Nat.mul_le_mul_right _ hi
  rw [Nat.add_mul] at this;omega
 have h1:(i * sz+j) / sz=i:=by
  rw [Nat.add_comm,Nat.add_mul_div_right _ _ (by omega),Nat.div_eq_of_lt hj];omega
 have h2:(i * sz+j) % sz=j:=by rw [Nat.add_comm,Nat.add_mul_mod_self_right,Nat.mod_eq_of_lt hj]
 simp [Q2,hlt,h1,h2]
theorem Q1 (us:Nat->Nat->Value){len sz m:Nat}{u:Value}(h:(Q2 us len sz)[m]?=some u):∃ i j,i<len/\j<sz/\m=i * sz+j/\u=us i j:=by
 have hlt:m<len * sz:=by
  rcases Nat.lt_or_ge m (len * sz) with h' | h'
  . exact h'
  . rw [List.getElem?_eq_none (by rw [jm];exact h')] at h;cases h
 have hsz:0<sz:=by
  rcases Nat.eq_zero_or_pos sz with h' | h'
  . subst h';simp at hlt
  . exact h'
 refine ⟨m / sz,m % sz,?_,Nat.mod_lt _ hsz,?_,?_⟩
 . exact (Nat.div_lt_iff_lt_mul hsz).2 hlt
 . rw [Nat.mul_comm];exact (Nat.div_add_mod m sz).symm
 . simp [Q2,hlt] at h
   exact h.symm
theorem ki {α:Type}{l:List α}{i:Nat}(h:i<l.length):∃ y,l[i]?=some y:=⟨l[i],List.getElem?_eq_getElem h⟩
theorem qnN {xs:List (List C)}{v:Value}(hx:qr w σ (.sl xs) v){size:Nat}(hs:∀ y∈xs,y.length=size){t e:TypeId}(ht:P.underlying t=some (.slice e)) :
 ∃ news,Src P size t v xs.length news w/\∀ (i j:Nat) (y:List C) (c:C),xs[i]?=some y->y[j]?=some c->∃ u,news[i * size+j]?=some u/\qr w σ c u:=by
 obtain ⟨us,b,cap,rfl,h1,h2,h3⟩:∃ (us:Nat->Nat->Value) (b:Option Addr) (cap:Nat),v=.slice b xs.length cap/\(xs≠[]->∃ ad,b=some ad/\ad.spot=none) ∧
  (∀ ad,b=some ad->∀ i j y c,xs[i]?=some y->y[j]?=some c->w.cell? (ad.add (i * size+j))=some (us i j))/\(∀ i j y c,xs[i]?=some y->y[j]?=some c->qr w σ c (us i j)):=by
  cases hx with
  | sl _ sz b cap us hc hs' ha hm hr =>
    refine ⟨us,b,cap,rfl,fun hne=>?_,?_,hr⟩
    . obtain ⟨ad,h1,h2,_⟩:=ha hne
      exact ⟨ad,h1,h2⟩
    . intro ad hb i j y c hi hj
      have hy:=List.mem_of_getElem? hi
      have:sz=size:=by rw [<-hs' y hy,hs y hy]
      subst this
      exact hm ad hb i j y c hi hj
 refine ⟨Q2 us xs.length size,?_,?_⟩
 . by_cases hne:xs=[]
   . subst hne
     cases b with
     | none=>simpa [Q2] using Src.ofNil (size:=size) w ht cap
     | some ad=>exact Src.ofSlice w ht ad 0 cap _ (by simp [Q2]) (fun j u h=>by simp [Q2] at h) (fun u h=>by simp [Q2] at h)
   . obtain ⟨ad,rfl,_⟩:=h1 hne
     refine Src.ofSlice w ht ad xs.length cap _ (jm _ _ _) ?_ ?_
     . intro m u hm
       obtain ⟨i,j,hi,hj,rfl,rfl⟩:=Q1 us hm
       obtain ⟨y,hy⟩:=ki hi
       obtain ⟨c,hc⟩:=ki (l:=y) (i:=j) (by rw [hs y (List.mem_of_getElem? hy)];exact hj)
       exact h2 ad rfl i j y c hy hc
     . intro u hu
       obtain ⟨m,hm⟩:=List.mem_iff_getElem?.1 hu
       obtain ⟨i,j,hi,hj,rfl,rfl⟩:=Q1 us hm
       obtain ⟨y,hy⟩:=ki hi
       obtain ⟨c,hc⟩:=ki (l:=y) (i:=j) (by rw [hs y (List.mem_of_getElem? hy)];exact hj)
       exact (h3 i j y c hy hc).one
 . intro i j y c hi hj
   have hi':i<xs.length:=by
    rcases Nat.lt_or_ge i xs.length with h | h
    . exact h
    . rw [List.getElem?_eq_none h] at hi;cases hi
   have hj':j<size:=by
    rw [<-hs y (List.mem_of_getElem? hi)]
    rcases Nat.lt_or_ge j y.length with h | h
    . exact h
    . rw [List.getElem?_eq_none h] at hj;cases hj
   exact ⟨_,wr us hi' hj',h3 i j y c hi hj⟩
theorem ql1 (hF:FR F σ w vt){p:qg}{off len:Nat}{xs:List (List O)}(hp:F.at std p=.osl xs)(hl:off+len<=xs.length){v:Value}(hx:qj w σ (.rf p off len) v){size:Nat}(hs:∀ y∈xs,y.length=size)
 {t e:TypeId} (ht:P.underlying t=some (.slice e)) :
 ∃ news,Src P size t v len news w/\∀ (i j:Nat) (y:List O) (o:O),i<len->xs[off+i]?=some y->y[j]?=some o->∃ u,news[i * size+j]?=some u/\qo w σ (p.1,p.2++[(off+i,j)]) o u:=by
 obtain ⟨u,hu⟩:=zf hF p
 rw [hp] at hu
 cases hx with
 | rz _ _ b =>
   refine ⟨[],?_,fun i j y o h=>by omega⟩
   cases b with
   | none=>exact Src.ofNil w ht 0
   | some ad=>exact Src.ofSlice w ht ad 0 0 _ (by simp) (fun j u h=>by simp at h) (fun u h=>by simp at h)
 | rf _ _ _ g n cap sz hg hl' hn =>
   cases hu with
   | oslz =>
     simp at hl
     obtain ⟨rfl,rfl⟩:=hl
     exact ⟨[],Src.ofSlice w ht _ 0 _ _ (by simp) (fun j u h=>by simp at h) (fun u h=>by simp at h),fun i j y o h=>by omega⟩
   | osl _ _ e' sz' g' cap' cur us hh hc' hcm hl2 hs' hg' hm hr =>
     obtain rfl:=hF.inj _ _ _ _ hg hg' rfl
     rw [hg] at hg'
     simp only [Option.some.injEq,Own.mk.injEq] at hg'
     obtain ⟨_,rfl,rfl,rfl⟩:=hg'
     have hz:sz=size:=by
      cases xs with
      | nil=>simp at hc'
      | cons y r=>rw [<-hs' y List.mem_cons_self,hs y List.mem_cons_self]
     subst hz
     have hcell:∀ i j,i<len->j<sz->∃ y o,xs[off+i]?=some y/\y[j]?=some o/\w.cell? ⟨g,off * sz+(i * sz+j),none⟩=some (us (off+i) j):=by
      intro i j hi hj
      obtain ⟨y,hy⟩:=ki (l:=xs) (i:=off+i) (by omega)
      obtain ⟨o,ho⟩:=ki (l:=y) (i:=j) (by rw [hs y (List.mem_of_getElem? hy)];exact hj)
      refine ⟨y,o,hy,ho,?_⟩
      rw [cell_of_row w g _ cur e' (0,0) hh]
      have:=hm (off+i) j y o hy ho
      rw [Nat.add_mul] at this
      rw [<-Nat.add_assoc,this]
     refine ⟨Q2 (fun i j=>us (off+i) j) len sz,Src.ofSlice w ht _ len _ _ (jm _ _ _) ?_ ?_,?_⟩
     . intro m u hm'
       obtain ⟨i,j,hi,hj,rfl,rfl⟩:=Q1 _ hm'
       obtain ⟨y,o,h1,h2,h3⟩:=hcell i j hi hj
       rw [qU]
       exact h3
     . intro u hu
       obtain ⟨m,hm'⟩:=List.mem_iff_getElem?.1 hu
       obtain ⟨i,j,hi,hj,rfl,rfl⟩:=Q1 _ hm'
       obtain ⟨y,o,h1,h2,h3⟩:=hcell i j hi hj
       exact (hr _ _ y o h1 h2).one
     . intro i j y o hi hy ho
       have hj':j<sz:=by
        rw [<-hs y (List.mem_of_getElem? hy)]
        rcases Nat.lt_or_ge j y.length with h | h
        . exact h
        . rw [List.getElem?_eq_none h] at ho;cases ho
       exact ⟨_,wr _ hi hj',hr _ _ y o hy ho⟩
end
end Go.Proofs.YtececadpjelanaaGreat.Ai
namespace Go.Proofs.YtececadpjelanaaGreat.Ai
open Go Go.RowKit
section
variable [qi] {P:Program} {T:Nat->Option Ty} {w w':World} {σ σ':Gh} {F:Fr} {vt:Nat->Value} {a:Act}
mutual
def A.nr (id:Nat):A->Prop
 | .rf p _ _=>p.1≠id
 | .pp p _ _=>p.1≠id
 | .clo _ caps=>A.nrL id caps
 | _=>True
def A.nrL (id:Nat):List A->Prop
 | []=>True
 | a::r=>a.nr id/\A.nrL id r
end
theorem qf2 {id:Nat}{l:List A}(h:A.nrL id l){j:Nat}{x:A}(hj:l[j]?=some x):x.nr id:=by
 induction l generalizing j with
 | nil=>simp at hj
 | cons y l ih =>
   cases j with
   | zero=>simp at hj;subst hj;exact h.1
   | succ j=>exact ih h.2 (by simpa using hj)
mutual
theorem tr_kill_nr (id:Nat):(x:A)->(x.tr (qV std (id,[]))).nr id
 | .un | .ud | .fz _=>trivial
 | .rf p off len=>by
   simp only [A.tr]
   by_cases hu:Und (id,[]) p
   . rw [kq hu];trivial
   . rw [zi hu];exact fun e=>hu ⟨e,p.2,rfl⟩
 | .pp p i j=>by
   simp only [A.tr]
   by_cases hu:Und (id,[]) p
   . rw [kq hu];trivial
   . rw [zi hu];exact fun e=>hu ⟨e,p.2,rfl⟩
 | .clo f caps=>Qw id caps
theorem Qw (id:Nat):(l:List A)->A.nrL id (A.trL (qV std (id,[])) l)
 | []=>trivial
 | x::l=>⟨tr_kill_nr id x,Qw id l⟩
end
mutual
theorem tr_nr {id:Nat}{τ:qg->Option qg}(hτ:∀ q q',τ q=some q'->q'=q):(x:A)->x.nr id->(x.tr τ).nr id
 | .un,_ | .ud,_ | .fz _,_=>trivial
 | .rf p off len,h=>by
   simp only [A.tr]
   cases e:τ p with
   | none=>trivial
   | some q=>rw [hτ _ _ e];exact h
 | .pp p i j,h=>by
   simp only [A.tr]
   cases e:τ p with
   | none=>trivial
   | some q=>rw [hτ _ _ e];exact h
 | .clo f caps,h=>qav hτ caps h
theorem qav {id:Nat}{τ:qg->Option qg}(hτ:∀ q q',τ q=some q'->q'=q):(l:List A)->A.nrL id l->A.nrL id (A.trL τ l)
 | [],_=>trivial
 | x::l,h=>⟨tr_nr hτ x h.1,qav hτ l h.2⟩
end
theorem WM {p q q':qg}(h:qV std p q=some q'):q'=q/\¬Und p q:=by
 by_cases hu:Und p q
 . rw [kq hu] at h;cases h
 . rw [zi hu] at h;injection h with h;exact ⟨h.symm,hu⟩
theorem qj.sub {τ τ':qg->Option qg}(hτ:∀ q q',τ' q=some q'->τ q=some q'){x:A}{v:Value}(h:qj w σ (x.tr τ) v):qj w σ (x.tr τ') v:=by
 revert v
 refine A.rec (motive_1:=fun x=>∀ {v},qj w σ (x.tr τ) v->qj w σ (x.tr τ') v) (motive_2:=fun l=>∀ (j:Nat) (y:A),l[j]?=some y->∀ {v},qj w σ (y.tr τ) v->qj w σ (y.tr τ') v) ?_ ?_ ?_ ?_ ?_ ?_ ?_ ?_ x
 . exact fun h=>h
 . exact fun h=>h
 . exact fun c v h=>h
 . intro p off len v h
   simp only [A.tr] at h ⊢
   cases e:τ' p with
   | none=>exact .un _
   | some q=>rw [hτ _ _ e] at h;exact h
 . intro p off len v h
   simp only [A.tr] at h ⊢
   cases e:τ' p with
   | none=>exact .un _
   | some q=>rw [hτ _ _ e] at h;exact h
 . intro f caps ih v h
   simp only [A.tr,ju] at h ⊢
   cases h with
   | clo _ _ vs us hl hm hr =>
     refine .clo _ _ vs us (by simpa using hl) ?_ ?_
     . intro j c hj
       rw [List.getElem?_map] at hj
       cases hc:caps[j]? with
       | none=>rw [hc] at hj;simp at hj
       | some y=>exact hm j (y.tr τ) (by rw [List.getElem?_map,hc];rfl)
     . intro j c hj
       rw [List.getElem?_map] at hj
       cases hc:caps[j]? with
       | none=>rw [hc] at hj;simp at hj
       | some y =>
         rw [hc] at hj
         simp at hj
         subst hj
         exact ih j y hc (hr j (y.tr τ) (by rw [List.getElem?_map,hc];rfl))
 . intro j y h;simp at h
 . intro x l hx hl j y hj
   cases j with
   | zero=>simp at hj;subst hj;exact hx
   | succ j=>exact hl j y (by simpa using hj)
theorem qN.sub {τ τ':qg->Option qg}(hτ:∀ q q',τ' q=some q'->τ q=some q'){x:TV A}{v:Value}(h:qN (fun _ _=>qj w σ) (x.tr τ) v):qN (fun _ _=>qj w σ) (x.tr τ') v:=by
 have key:∀ {y:V1 A} {v:Value},qQ (fun _=>qj w σ) (trV τ y) v->qQ (fun _=>qj w σ) (trV τ' y) v:=by
  intro y v h
  obtain ⟨g,as⟩:=y
  simp only [trV,ju] at h ⊢
  cases g with
  | true =>
    obtain ⟨cs,rfl,h1,h2⟩:=h
    refine ⟨cs,rfl,by simpa using h1,?_⟩
    intro j x hj
    rw [List.getElem?_map] at hj
    cases hc:as[j]? with
    | none=>rw [hc] at hj;simp at hj
    | some y =>
      rw [hc] at hj
      simp at hj
      subst hj
      obtain ⟨u,h3,h4⟩:=h2 j (y.tr τ) (by rw [List.getElem?_map,hc];rfl)
      exact ⟨u,h3,h4.sub hτ⟩
  | false =>
    match as,h with
    | [x],h =>
      have h':qj w σ (x.tr τ) v:=h
      exact h'.sub hτ
 cases x with
 | v x=>exact key h
 | tup xs =>
   obtain ⟨vs,rfl,h1,h2⟩:=h
   simp only [TV.tr,jc] at h1 h2 ⊢
   refine ⟨vs,rfl,by simpa using h1,?_⟩
   intro k x hk
   rw [List.getElem?_map] at hk
   cases hc:xs[k]? with
   | none=>rw [hc] at hk;simp at hk
   | some y =>
     rw [hc] at hk
     simp at hk
     subst hk
     obtain ⟨u,h3,h4⟩:=h2 k (trV τ y) (by rw [List.getElem?_map,hc];rfl)
     exact ⟨u,h3,key h4⟩
theorem FR.sub {τ τ':qg->Option qg}(hτ:∀ q q',τ' q=some q'->τ q=some q')(h:FR (F.tr τ) σ w vt):FR (F.tr τ') σ w vt:=by
 refine ⟨h.inj,h.lt,h.old,h.tb,fun t=>?_⟩
 have:=h.tm t
 show qN _ (qa unT (QS τ' F.tm) t) _
 rw [zY]
 have h':qN (fun _ _=>qj w σ) (qa unT (QS τ F.tm) t) (vt t):=this
 rw [zY] at h'
 exact qN.sub hτ h'
def TV.nr (id:Nat):TV A->Prop
 | .v x=>A.nrL id x.2
 | .tup xs=>∀ x∈xs,A.nrL id x.2
def Fr.nr (F:Fr)(id:Nat):Prop:=∀ t,(qa unT F.tm t).nr id
theorem TV.tr_kill_nr (id:Nat)(x:TV A):(x.tr (qV std (id,[]))).nr id:=by
 cases x with
 | v x=>exact Qw id _
 | tup xs =>
   intro x hx
   rw [jc] at hx
   obtain ⟨y,_,rfl⟩:=List.mem_map.1 hx
   exact Qw id _
theorem TV.tr_nr {id:Nat}{τ:qg->Option qg}(hτ:∀ q q',τ q=some q'->q'=q){x:TV A}(h:x.nr id):(x.tr τ).nr id:=by
 cases x with
 | v x=>exact qav hτ _ h
 | tup xs =>
   intro x hx
   rw [jc] at hx
   obtain ⟨y,hy,rfl⟩:=List.mem_map.1 hx
   exact qav hτ _ (h y hy)
theorem qmm (id:Nat):(F.drop std (id,[])).nr id:=by
 intro t
 show (qa unT (QS _ (F.less std _).tm) t).nr id
 rw [zY]
 exact TV.tr_kill_nr id _
theorem Fr.nr.drop {id:Nat}(h:F.nr id)(p:qg):(F.drop std p).nr id:=by
 intro t
 show (qa unT (QS _ (F.less std _).tm) t).nr id
 rw [zY,Kr]
 exact TV.tr_nr (fun q q' h=>(WM h).1) (h t)
theorem qj.off {id:Nat}(hk:∀ g y,σ g=some y->y.p.1≠id->σ' g=some y)(hst:kD w σ w' σ')(hsz:w.heap.size<=w'.heap.size){x:A}{v:Value}(h:qj w σ x v)(hn:x.nr id):qj w' σ' x v:=by
 induction h with
 | un v=>exact .un v
 | ud=>exact .ud
 | fz c v h=>exact .fz c v (h.move hsz hst)
 | rf p off len g n cap sz hg hl hc=>exact .rf p off len g n cap sz (hk _ _ hg hn) hl hc
 | rz p off b=>exact .rz p off b
 | pp p i j g n cap sz hg=>exact .pp p i j g n cap sz (hk _ _ hg hn)
 | clo f caps vs us hl hm hr ih=>exact .clo f caps vs us hl hm (fun j c hj=>ih j c hj (qf2 hn hj))
theorem qN.off {id:Nat}(hk:∀ g y,σ g=some y->y.p.1≠id->σ' g=some y)(hst:kD w σ w' σ')(hsz:w.heap.size<=w'.heap.size){x:TV A}{v:Value}(h:qN (fun _ _=>qj w σ) x v)(hn:x.nr id):qN (fun _ _=>qj w' σ') x v:=by
 have key:∀ {y:V1 A} {v:Value},A.nrL id y.2->qQ (fun _=>qj w σ) y v->qQ (fun _=>qj w' σ') y v:=by
  intro y v hy h
  obtain ⟨g,as⟩:=y
  cases g with
  | true =>
    obtain ⟨cs,rfl,h1,h2⟩:=h
    refine ⟨cs,rfl,h1,fun j x hj=>?_⟩
    obtain ⟨u,h3,h4⟩:=h2 j x hj
    exact ⟨u,h3,h4.off hk hst hsz (qf2 hy hj)⟩
  | false =>
    match as,h with
    | [x],h =>
      have h':qj w σ x v:=h
      exact h'.off hk hst hsz hy.1
 cases x with
 | v x=>exact key hn h
 | tup xs =>
   obtain ⟨vs,rfl,h1,h2⟩:=h
   refine ⟨vs,rfl,h1,fun k x hk'=>?_⟩
   obtain ⟨u,h3,h4⟩:=h2 k x hk'
   exact ⟨u,h3,key (hn x (List.mem_of_getElem? hk')) h4⟩
theorem FR.off {id:Nat}(h:FR F σ w vt)(hn:F.nr id)(hun:qa .un F.tb id=.un)(hk:∀ g y,σ g=some y->y.p.1≠id->σ' g=some y/\w'.heap[g]?=w.heap[g]?)(hst:kD w σ w' σ')(hsz:w.heap.size<=w'.heap.size)
 (hinj:∀ g g' x y,σ' g=some x->σ' g'=some y->x.p=y.p->g=g') (hlt:∀ g x,σ' g=some x->g<w'.heap.size):FR F σ' w' vt:=by
 refine ⟨hinj,hlt,h.old.grow hsz,fun t=>?_,fun t=>qN.off (fun g y h1 h2=>(hk g y h1 h2).1) hst hsz (h.tm t) (hn t)⟩
 by_cases e:id=t
 . subst e;rw [hun];exact ⟨.bool false,.un _ _ rfl⟩
 . obtain ⟨v,hv⟩:=h.tb t
   refine ⟨v,hv.move hsz hst _ ?_⟩
   intro g s n cap sz hg _
   obtain ⟨h1,h2⟩:=hk g _ hg (fun e'=>e e'.symm)
   exact ⟨h2,h1⟩
theorem yM (b:Nat)(e:TypeId):∀ (vs:List Value) (o:Nat) (w:World) (cur:Array Value),w.heap[b]?=some (.cells cur e (0,0))->o+vs.length<=cur.size →
 ∃ cur',(w.setCells b o vs).heap[b]?=some (.cells cur' e (0,0))/\cur'.size=cur.size/\∀ m,cur'[m]?=if o<=m/\m<o+vs.length then vs[m-o]? else cur[m]?:=by
 intro vs
 induction vs with
 | nil=>intro o w cur h _;exact ⟨cur,h,rfl,fun m=>by rw [if_neg];simp;try omega⟩
 | cons v vs ih =>
   intro o w cur h hl
   simp only [List.length_cons] at hl
   have h1:=heap_setCell_same w b o cur e v h
   obtain ⟨cur',h2,h3,h4⟩:=ih (o+1) (w.setCell ⟨b,o,none⟩ v) _ h1 (by simpa [Nat.add_assoc,Nat.add_comm 1] using hl)
   refine ⟨cur',h2,by rw [h3];simp,fun m=>?_⟩
   rw [h4 m]
   simp only [List.length_cons]
   by_cases e1:o+1<=m/\m<o+1+vs.length
   . rw [if_pos e1,if_pos (by omega)]
     have:m-o=(m-(o+1))+1:=by omega
     rw [this,List.getElem?_cons_succ]
   . rw [if_neg e1]
     by_cases e2:m=o
     . subst e2
       rw [if_pos (by omega),Nat.sub_self]
       have:m<cur.size:=by omega
       simp [Array.getElem?_setIfInBounds_self,this]
     . rw [if_neg (by omega),Array.getElem?_setIfInBounds_ne (by omega)]
theorem Z8 (b:Nat):∀ (vs:List Value) (o:Nat) (w:World) (k:Nat),k≠b->(w.setCells b o vs).heap[k]?=w.heap[k]?:=by
 intro vs
 induction vs with
 | nil=>intro o w k _;rfl
 | cons v vs ih=>intro o w k hk;rw [World.setCells,ih _ _ _ hk,heap_setCell_other w _ _ _ hk]
theorem KP (b:Nat):∀ (vs:List Value) (o:Nat) (w:World),(w.setCells b o vs).heap.size=w.heap.size/\(w.setCells b o vs).os=w.os/\(w.setCells b o vs).tape=w.tape/\(w.setCells b o vs).output=w.output:=by
 intro vs
 induction vs with
 | nil=>intro o w;exact ⟨rfl,rfl,rfl,rfl⟩
 | cons v vs ih =>
   intro o w
   obtain ⟨h1,h2,h3,h4⟩:=ih (o+1) (w.setCell ⟨b,o,none⟩ v)
   exact ⟨by rw [World.setCells,h1];simp,h2,h3,h4⟩
end
end Go.Proofs.YtececadpjelanaaGreat.Ai
namespace Go.Proofs.YtececadpjelanaaGreat.Ai
open Go Go.RowKit
section
variable [qi] {P:Program} {T:Nat->Option Ty} {w w':World} {σ σ':Gh} {F:Fr} {vt:Nat->Value} {a:Act}
theorem Zt {R:Nat}(h:qa .un F.tb R=.un)(s:List (Nat×Nat)):F.at std (R,s)=.un:=by
 unfold Fr.at;dsimp only;rw [h,kv]
theorem qgH {R:Nat}(h:qa .un F.tb R=.un){p:qg}{xs:List (List O)}(hp:F.at std p=.osl xs):p.1≠R:=by
 intro e
 have:=Zt h p.2
 rw [<-e] at this
 rw [show ((p.1,p.2):qg)=p from rfl,hp] at this
 cases this
structure ql6 (w:World)(vt:Nat->Value)(R:Nat)(xs:List (List O))(v:Value)(σ0:Gh)(n:Nat)(F:Fr)(σ:Gh):Prop where
 fr:FR F σ w vt
 nr:F.nr R
 un:qa .un F.tb R=.un
 rep:qo w σ (R,[]) (.osl xs) v
 dom:∀ g x,σ g=some x->Fit (F.at std x.p) x.n\/(x.p.1=R/\Fit ((O.osl xs).at std x.p.2) x.n)
 goes:qF w σ0 w σ
 n:F.n=n
theorem qd4 (hF:FR F σ w vt)(hd:Dom F σ []){R:Nat}(hb:ke σ (R,[]))(hn:F.nr R)(hun:qa .un F.tb R=.un){x:A}{v:Value}(hx:qj w σ x v){xs:List (List O)}{F1:Fr}(h:KR std F x=some (xs,F1)) :
 ∃ σ1,ql6 w vt R xs v σ F.n F1 σ1:=by
 unfold KR at h
 split at h
 . simp at h
   obtain ⟨rfl,rfl⟩:=h
   obtain rfl:=hx.fz_inv.nil_inv
   refine ⟨σ,hF,hn,hun,.oslz _ _,?_,qF.refl _ _,rfl⟩
   intro g x hx
   rcases hd g x hx with h | ⟨_,_,_,h,_⟩
   . exact .inl h
   . cases h
 . rename_i p off len
   split at h
   . rename_i xs' hxs
     split at h
     . rename_i hw
       simp [std] at hw
       obtain ⟨rfl,rfl⟩:=hw
       simp at h
       obtain ⟨rfl,rfl⟩:=h
       have hne:=qgH hun hxs
       have hwh:=ZR hF hd (fun _ _ h=>by cases h) hxs hx
       refine ⟨σ.tr (jf std p (R,[])),?_,hn.drop p,?_,hwh.lift,?_,jD,V9⟩
       . refine FR.sub (τ:=jf std p (R,[])) ?_ (hF.lift hb)
         intro q q' hq
         obtain ⟨rfl,hu⟩:=WM hq
         exact Q7 hu
       . show qa .un (F.less std p).tb R=.un
         rw [ku hne,hun]
       . intro g x hx
         rcases Dom.lift (p:=p) (q:=(R,[])) hd (fun _ _ h=>by cases h) g x hx with h | ⟨q',o',s,h1,h2,h3⟩
         . exact .inl h
         . simp at h1
           obtain ⟨rfl,rfl⟩:=h1
           right
           rw [hxs] at h3
           rw [h2]
           exact ⟨rfl,by simpa using h3⟩
     . cases h
   . cases h
 . cases h
def QL (r R n:Nat)(x:qg):Option qg:=if x.1=r then (match x.2 with | (i,j)::s=>some (R,(n+i,j)::s) | []=>none) else some x
theorem Jn {r R n:Nat}{x:qg}(h:¬Und (r,[]) x):QL r R n x=some x:=by
 unfold QL
 rw [if_neg (fun e=>h ⟨e,x.2,rfl⟩)]
theorem Zv {r R n:Nat}{x y:qg}(h:QL r R n x=some y):(∃ i j s,x=(r,(i,j)::s)/\y=(R,(n+i,j)::s))\/(x.1≠r/\y=x):=by
 unfold QL at h
 split at h
 . rename_i e
   split at h
   . rename_i i j s hs
     injection h with h
     exact .inl ⟨i,j,s,by rw [<-e,<-hs],h.symm⟩
   . cases h
 . rename_i e
   injection h with h
   exact .inr ⟨e,h.symm⟩
theorem qbf {xs:List (List O)}{i j:Nat}{s:List (Nat×Nat)}{n:Nat}(h:Fit ((O.osl xs).at std ((i,j)::s)) n):i<xs.length:=by
 rcases Nat.lt_or_ge i xs.length with h' | h'
 . exact h'
 . simp [O.at,std,List.getElem?_eq_none h',Fit] at h
theorem qkn {xs ys:List (List O)}{i j:Nat}{s:List (Nat×Nat)}{n:Nat}(h:Fit ((O.osl xs).at std ((i,j)::s)) n):Fit ((O.osl (xs++ys)).at std ((i,j)::s)) n:=by
 have hi:=qbf h
 simp only [O.at,std] at h ⊢
 rw [List.getElem?_append_left hi]
 exact h
theorem qir {xs ys:List (List O)}{i j:Nat}{s:List (Nat×Nat)}{n:Nat}(h:Fit ((O.osl ys).at std ((i,j)::s)) n):Fit ((O.osl (xs++ys)).at std ((xs.length+i,j)::s)) n:=by
 simp only [O.at,std] at h ⊢
 rw [List.getElem?_append_right (by omega),show xs.length+i-xs.length=i by omega]
 exact h
structure qlD (P:Program)(w:World)(vt:Nat->Value)(R:Nat)(xs ys:List (List O))(v:Value)(size t:Nat)(vy:Value)(σ0:Gh)(n:Nat)(F:Fr)(σ:Gh)(news:List Value):Prop where
 fr:FR F σ w vt
 nr:F.nr R
 un:qa .un F.tb R=.un
 rep:qo w σ (R,[]) (.osl xs) v
 src:Src P size t vy ys.length news w
 els:∀ (i j:Nat) (y:List O) (o:O),ys[i]?=some y->y[j]?=some o->∃ u,news[i * size+j]?=some u/\qo w σ (R,[(xs.length+i,j)]) o u
 dom:∀ g x,σ g=some x->Fit (F.at std x.p) x.n\/(x.p=(R,[])/\Fit (.osl xs) x.n)\/(x.p.1=R/\x.p.2≠[]/\Fit ((O.osl (xs++ys)).at std x.p.2) x.n)
 goes:qF w σ0 w σ
 n:F.n=n
theorem ql6.dom2 {R:Nat}{xs ys:List (List O)}{v:Value}{σ0:Gh}{n:Nat}(h:ql6 w vt R xs v σ0 n F σ):∀ g x,σ g=some x->Fit (F.at std x.p) x.n\/(x.p=(R,[])/\Fit (.osl xs) x.n)\/(x.p.1=R/\x.p.2≠[]/\Fit ((O.osl (xs++ys)).at std x.p.2) x.n):=by
 intro g x hx
 rcases h.dom g x hx with h1 | ⟨h1,h2⟩
 . exact .inl h1
 . right
   obtain ⟨⟨r,s⟩,n',cap,sz⟩:=x
   dsimp only at h1 h2 ⊢
   subst h1
   cases s with
   | nil=>exact .inl ⟨rfl,h2⟩
   | cons ij s=>obtain ⟨i,j⟩:=ij;exact .inr ⟨rfl,by simp,qkn h2⟩
theorem qeJ {R:Nat}{xs ys:List (List O)}{v vy:Value}{σ0:Gh}{n:Nat}(hB:ql6 w vt R xs v σ0 n F σ){y:A}(hy:qj w σ y vy){m:Option qg}(h:ZI std F y=some (ys,m)){size:Nat}(hs:∀ y∈ys,y.length=size){t e:TypeId}(ht:P.underlying t=some (.slice e)) :
 ∃ σ2 news,qlD P w vt R xs ys v size t vy σ0 n (YQ std F m) σ2 news:=by
 have hBn:=hB.n
 subst hBn
 unfold ZI at h
 split at h
 . simp at h
   obtain ⟨rfl,rfl⟩:=h
   obtain rfl:=hy.fz_inv.nil_inv
   exact ⟨σ,[],hB.fr,hB.nr,hB.un,hB.rep,Src.ofNil w ht 0,fun i j y o h=>by simp at h,hB.dom2,hB.goes,hB.n⟩
 . rename_i zs
   simp at h
   obtain ⟨rfl,rfl⟩:=h
   have hzs:∀ y∈zs,y.length=size:=by
    intro y hy
    have:=hs (y.map .fz) (by simp only [std];exact List.mem_map_of_mem hy)
    simpa using this
   obtain ⟨news,h1,h2⟩:=qnN hy.fz_inv hzs ht
   refine ⟨σ,news,hB.fr,hB.nr,hB.un,hB.rep,by simpa [std] using h1,?_,hB.dom2,hB.goes,hB.n⟩
   intro i j y o hi hj
   simp only [std,List.getElem?_map] at hi
   cases hz:zs[i]? with
   | none=>rw [hz] at hi;simp at hi
   | some z =>
     rw [hz] at hi
     simp at hi
     subst hi
     rw [List.getElem?_map] at hj
     cases hc:z[j]? with
     | none=>rw [hc] at hj;simp at hj
     | some c =>
       rw [hc] at hj
       simp at hj
       subst hj
       obtain ⟨u,h3,h4⟩:=h2 i j z c hz hc
       exact ⟨u,h3,.fz _ _ _ h4⟩
 . rename_i p off len
   split at h
   . rename_i ys0 hys0
     split at h
     . rename_i hle
       have hle':off+len<=ys0.length:=by simpa [std] using hle
       have hne:=qgH hB.un hys0
       have hsrc:∀ ys':List (List O),ys'=(ys0.drop off).take len->(∀ y∈ys',y.length=size)->∃ news,Src P size t vy ys'.length news w ∧
        ∀ (i j:Nat) (y:List O) (o:O),ys'[i]?=some y->y[j]?=some o->∃ u,news[i * size+j]?=some u/\qo w σ (p.1,p.2++[(off+i,j)]) o u:=by
        intro ys' e' hs'
        subst e'
        have hl:((ys0.drop off).take len).length=len:=by simp;omega
        rw [hl]
        by_cases h0:len=0
        . subst h0
          refine ⟨[],?_,fun i j y o h=>by simp at h⟩
          cases hy with
          | rz _ _ b =>
            cases b with
            | none=>exact Src.ofNil w ht 0
            | some ad=>exact Src.ofSlice w ht ad 0 0 _ (by simp) (fun j u h=>by simp at h) (fun u h=>by simp at h)
          | rf=>exact Src.ofSlice w ht _ 0 _ _ (by simp) (fun j u h=>by simp at h) (fun u h=>by simp at h)
        . have hall:∀ y∈ys0,y.length=size:=by
           obtain ⟨u,hu⟩:=zf hB.fr p
           rw [hys0] at hu
           cases hu with
           | oslz=>simp at hle';omega
           | osl _ _ _ sz _ _ _ _ _ _ _ _ hs0 _ _ _ =>
             obtain ⟨y0,hy0⟩:=ki (l:=ys0) (i:=off) (by omega)
             have:y0∈(ys0.drop off).take len:=by
              refine List.mem_of_getElem? (i:=0) ?_
              rw [List.getElem?_take,if_pos (by omega),List.getElem?_drop]
              simpa using hy0
             have h1:=hs' y0 this
             have h2:=hs0 y0 (List.mem_of_getElem? hy0)
             intro y hy
             rw [hs0 y hy,<-h2,h1]
          obtain ⟨news,h1,h2⟩:=ql1 hB.fr hys0 hle' hy hall ht
          refine ⟨news,h1,fun i j y o hi hj=>?_⟩
          obtain ⟨h3,h4⟩:=kG hi
          exact h2 i j y o h4 h3 hj
       split at h
       . rename_i hflat
         have hfl:∀ (i j:Nat) (y:List O) (o:O),ys0[i]?=some y->y[j]?=some o->∃ c,o=.fz c:=by
          intro i j y o hi hj
          simp only [std,List.all_eq_true] at hflat
          have:=hflat y (List.mem_of_getElem? hi) o (List.mem_of_getElem? hj)
          cases o<;>simp [O.isFz] at this
          exact ⟨_,rfl⟩
         have hfin:∀ ys':List (List O),ys'=(ys0.drop off).take len->(∀ y∈ys',y.length=size)->∃ σ2 news,qlD P w vt R xs ys' v size t vy σ0 F.n (YQ std F none) σ2 news:=by
          intro ys' e' hs'
          obtain ⟨news,h1,h2⟩:=hsrc ys' e' hs'
          refine ⟨σ,news,hB.fr,hB.nr,hB.un,hB.rep,h1,?_,hB.dom2,hB.goes,hB.n⟩
          intro i j y o hi hj
          obtain ⟨u,h3,h4⟩:=h2 i j y o hi hj
          subst e'
          obtain ⟨h5,h6⟩:=kG hi
          obtain ⟨c,rfl⟩:=hfl _ _ _ _ h5 hj
          cases h4 with
          | fz _ _ _ h=>exact ⟨u,h3,.fz _ _ _ h⟩
         split at h
         . rename_i hw
           simp [std] at hw
           obtain ⟨rfl,rfl⟩:=hw
           simp at h
           obtain ⟨rfl,rfl⟩:=h
           exact hfin _ (by simp) hs
         . simp at h
           obtain ⟨rfl,rfl⟩:=h
           exact hfin _ (by simp [std]) hs
       . split at h
         . rename_i hw hp2
           simp [std] at hw
           obtain ⟨rfl,rfl⟩:=hw
           simp at h
           obtain ⟨rfl,rfl⟩:=h
           obtain ⟨r,s⟩:=p
           dsimp only at hp2 hne
           subst hp2
           obtain ⟨news,h1,h2⟩:=hsrc ys0 (by simp) hs
           have hin:∀ g g' x y q,σ g=some x->σ g'=some y->QL r R xs.length x.p=some q->QL r R xs.length y.p=some q->x.p=y.p:=by
            have hsm:∀ g x i j s,σ g=some x->x.p=(R,(xs.length+i,j)::s)->False:=by
             intro g x i j s hx hp
             rcases hB.dom g x hx with h | ⟨_,h⟩
             . rw [hp,Zt hB.un] at h;exact h
             . rw [hp] at h
               have:=qbf h
               omega
            intro g g' x y q hx hy h3 h4
            rcases Zv h3 with ⟨i,j,s,e1,e2⟩ | ⟨e1,e2⟩
            . rcases Zv h4 with ⟨i',j',s',e3,e4⟩ | ⟨e3,e4⟩
              . rw [e2] at e4
                simp at e4
                obtain ⟨⟨rfl,rfl⟩,rfl⟩:=e4
                rw [e1,e3]
              . exact (hsm g' y i j s hy (by rw [<-e4,e2])).elim
            . rcases Zv h4 with ⟨i',j',s',e3,e4⟩ | ⟨e3,e4⟩
              . exact (hsm g x i' j' s' hx (by rw [<-e2,e4])).elim
              . rw [<-e2,<-e4]
           have hfr:=hB.fr.less (r,[]) (τ:=QL r R xs.length) (fun x=>Jn) hin
           refine ⟨σ.tr (QL r R xs.length),news,?_,hB.nr.drop _,?_,?_,h1,?_,?_,hB.goes.trans jD,?_⟩
           . refine FR.sub (τ:=QL r R xs.length) ?_ hfr
             intro q q' hq
             obtain ⟨rfl,hu⟩:=WM hq
             exact Jn hu
           . show qa .un (F.less std (r,[])).tb R=.un
             rw [ku (p:=(r,[])) hne,hB.un]
           . refine hB.rep.move (Nat.le_refl _) jg _ ?_
             intro g s n cap sz hg _
             exact ⟨rfl,zp hg (Jn fun hu=>hne hu.1.symm)⟩
           . intro i j y o hi hj
             obtain ⟨u,h3,h4⟩:=h2 i j y o hi hj
             refine ⟨u,h3,?_⟩
             refine h4.move (Nat.le_refl _) jg _ ?_
             intro g s n cap sz hg _
             refine ⟨rfl,zp hg ?_⟩
             simp [QL]
           . intro g x hx
             obtain ⟨x',h3,h4,h5⟩:=kH hx
             have hnn:x.n=x'.n:=by rw [h5]
             rcases Zv h4 with ⟨i,j,s,e1,e2⟩ | ⟨e1,e2⟩
             . right;right
               rw [e2,hnn]
               refine ⟨rfl,by simp,qir ?_⟩
               rcases hB.dom g x' h3 with h6 | ⟨h6,_⟩
               . rw [e1] at h6
                 have e3:F.at std (r,(i,j)::s)=(F.at std (r,[])).at std ((i,j)::s):=rfl
                 rw [e3,hys0] at h6
                 exact h6
               . rw [e1] at h6;exact absurd h6 hne
             . rw [e2,hnn]
               rcases hB.dom2 (ys:=ys0) g x' h3 with h6 | h6
               . exact .inl (Vt (fun hu=>e1 hu.1) h6)
               . exact .inr h6
           . exact V9
         . cases h
     . cases h
   . cases h
 . cases h
end
end Go.Proofs.YtececadpjelanaaGreat.Ai
namespace Go.Proofs.YtececadpjelanaaGreat.Ai
open Go Go.RowKit
section
variable [qi] {P:Program} {T:Nat->Option Ty} {w w':World} {σ σ':Gh} {F:Fr} {vt:Nat->Value} {a:Act}
def VN (σ:Gh)(R g':Nat)(x:Own):Gh:=fun k=>if k=g' then some x else match σ k with
 | some y=>if y.p=(R,[]) then none else some y
 | none=>none
theorem qh4 {R g':Nat}{x:Own}:VN σ R g' x g'=some x:=by simp [VN]
theorem Yn {R g' k:Nat}{x y:Own}(h:σ k=some y)(hk:k≠g')(hp:y.p≠(R,[])):VN σ R g' x k=some y:=by simp [VN,h,hk,hp]
theorem qhx {R g' k:Nat}{x:Own}(h:σ k=none)(hk:k≠g'):VN σ R g' x k=none:=by simp [VN,h,hk]
theorem ZT {R g' k:Nat}{x y:Own}(h:VN σ R g' x k=some y):(k=g'/\y=x)\/(k≠g'/\σ k=some y/\y.p≠(R,[])):=by
 unfold VN at h
 split at h
 . rename_i e;injection h with h;exact .inl ⟨e,h.symm⟩
 . rename_i e
   split at h
   . rename_i z hz
     split at h
     . cases h
     . rename_i hp;injection h with h;subst h;exact .inr ⟨e,hz,hp⟩
   . cases h
theorem qgY {R:Nat}{xs ys:List (List O)}{v vy:Value}{size t:Nat}{σ0:Gh}{n:Nat}{news:List Value}(hM:qlD P w (qC a) R xs ys v size t vy σ0 n F σ news)
 {g':Nat} {cells:Array Value} {e':TypeId} {cap:Nat} (hh:w'.heap[g']?=some (.cells cells e' (0,0))) (hown:g'<w.heap.size->∃ y,σ g'=some y/\y.p=(R,[])) (hkeep:∀ k,k<w.heap.size->k≠g'->w'.heap[k]?=w.heap[k]?)
 (hsz:w.heap.size<=w'.heap.size) (hos:w'.os=w.os) (htp:w'.tape=w.tape) (hout:w'.output=w.output)
 (hpos:0<(xs++ys).length) (hcap:(xs++ys).length<=cap) (hmax:cap<=maxLen) (hcs:cells.size=cap * size) (hys:∀ y∈xs++ys,y.length=size)
 (hel:∀ (i j:Nat) (y:List O) (o:O),(xs++ys)[i]?=some y->y[j]?=some o->∃ u,cells[i * size+j]?=some u/\qo w σ (R,[(i,j)]) o u)
 {d:Nat} {s:Sem Next} {w0:World} {σ00:Gh} (hg0:qF w0 σ00 w σ0) (hs:s.run P w0=.ok (.value (.slice (some ⟨g',0,none⟩) (xs++ys).length cap)) w') {F0:Fr} (hn:n=F0.n) :
 ∃ v w' σ',ZJ P F0 σ00 w0 a d s ((F.root R (.osl (xs++ys))).put d (rfV R (xs++ys).length)) v w' σ':=by
 have hst:kD w σ w' (VN σ R g' ⟨(R,[]),(xs++ys).length,cap,size⟩):=by
  refine ⟨fun b hb h0=>qhx h0 ?_,fun b hb h0=>.inl (hkeep b hb ?_)⟩
  . rintro rfl
    obtain ⟨y,hy,_⟩:=hown hb
    rw [h0] at hy;cases hy
  . rintro rfl
    obtain ⟨y,hy,_⟩:=hown hb
    rw [h0] at hy;cases hy
 have hoth:∀ g y,σ g=some y->y.p≠(R,[])->g≠g':=by
  rintro g y hy hp rfl
  obtain ⟨z,hz,hp'⟩:=hown (hM.fr.lt g y hy)
  rw [hy] at hz
  injection hz with hz
  exact hp (by rw [hz];exact hp')
 have hF3:FR F (VN σ R g' ⟨(R,[]),(xs++ys).length,cap,size⟩) w' (qC a):=by
  refine hM.fr.off hM.nr hM.un ?_ hst hsz ?_ ?_
  . intro g y hy hp
    have hp':y.p≠(R,[]):=fun e=>hp (by rw [e])
    have hne:=hoth g y hy hp'
    exact ⟨Yn hy hne hp',hkeep g (hM.fr.lt g y hy) hne⟩
  . intro g1 g2 x y hx hy he
    rcases ZT hx with ⟨e1,e2⟩ | ⟨e1,e2,e3⟩
    . rcases ZT hy with ⟨e4,e5⟩ | ⟨e4,e5,e6⟩
      . rw [e1,e4]
      . exact absurd (by rw [<-he,e2]) e6
    . rcases ZT hy with ⟨e4,e5⟩ | ⟨e4,e5,e6⟩
      . exact absurd (by rw [he,e5]) e3
      . exact hM.fr.inj g1 g2 x y e2 e5 he
  . intro g x hx
    rcases ZT hx with ⟨rfl,_⟩ | ⟨_,e2,_⟩
    . exact ji hh
    . have:=hM.fr.lt g x e2;omega
 have hrep:qo w' (VN σ R g' ⟨(R,[]),(xs++ys).length,cap,size⟩) (R,[]) (.osl (xs++ys)) (.slice (some ⟨g',0,none⟩) (xs++ys).length cap):=by
  refine .osl _ _ e' size g' cap cells (fun i j=>(cells[i * size+j]?).getD undef) hh ⟨hpos,hcap⟩ hmax hcs hys qh4 ?_ ?_
  . intro i j y o hi hj
    obtain ⟨u,h1,_⟩:=hel i j y o hi hj
    simp [h1]
  . intro i j y o hi hj
    obtain ⟨u,h1,h2⟩:=hel i j y o hi hj
    simp only [h1,Option.getD_some]
    refine h2.move hsz hst _ ?_
    intro g s n cap sz hg hlt
    have hp:(⟨(R,[(i,j)]++s),n,cap,sz⟩:Own).p≠(R,[]):=by simp
    have hne:=hoth g _ hg hp
    exact ⟨hkeep g hlt hne,Yn (by simpa using hg) hne (by simp)⟩
 refine ⟨_,_,_,hs,(hF3.addRoot hrep).put (Kv hrep),?_,hg0.trans (hM.goes.trans ⟨hst,hsz,hos,htp,hout⟩),hM.n.trans hn⟩
 intro g x hx
 left
 show Fit ((F.root R (.osl (xs++ys))).at std x.p) x.n
 rw [Qd]
 rcases ZT hx with ⟨rfl,rfl⟩ | ⟨e1,e2,e3⟩
 . rw [if_pos rfl];exact ⟨rfl,hpos⟩
 . rcases hM.dom g x e2 with h | ⟨h,_⟩ | ⟨h1,h2,h3⟩
   . by_cases e:R=x.p.1
     . exfalso
       have:=Zt hM.un x.p.2
       rw [e,show ((x.p.1,x.p.2):qg)=x.p from rfl] at this
       rw [this] at h
       exact h
     . rw [if_neg e];exact h
   . exact absurd h e3
   . rw [if_pos h1.symm];exact h3
theorem qjb {R:Nat}{v vy:Value}{size t:Nat}{σ0:Gh}{n:Nat}{news:List Value}(hM:qlD P w (qC a) R [] [] v size t vy σ0 n F σ news){b:Option Addr}
 {d:Nat} {s:Sem Next} {w0:World} {σ00:Gh} (hg0:qF w0 σ00 w σ0) (hs:s.run P w0=.ok (.value (.slice b 0 0)) w) {F0:Fr} (hn:n=F0.n) :
 ∃ v w' σ',ZJ P F0 σ00 w0 a d s ((F.root R (.osl [])).put d (rfV R 0)) v w' σ':=by
 have hd:Dom F σ []:=by
  intro g x hx
  left
  rcases hM.dom g x hx with h | ⟨h,h2⟩ | ⟨_,h2,h3⟩
  . exact h
  . exact absurd h2.2 (by rw [<-h2.1];simp)
  . exfalso
    cases hx:x.p.2 with
    | nil=>exact h2 hx
    | cons ij s=>obtain ⟨i,j⟩:=ij;rw [hx] at h3;have:=qbf h3;simp at this
 have hb:ke σ (R,[]):=by
  rintro g x hx ⟨h1,_⟩
  rcases hd g x hx with h | ⟨_,_,_,h,_⟩
  . have:=Zt hM.un x.p.2
    have e:(R,x.p.2)=x.p:=by rw [<-show x.p.1=R from h1]
    rw [e] at this
    rw [this] at h
    exact h
  . cases h
 obtain ⟨h1,h2⟩:=qbo hM.fr hd hb
 exact ⟨_,_,_,hs,h1.put (show qN _ _ _ from qj.rz _ _ _),h2,hg0.trans hM.goes,hM.n.trans hn⟩
theorem ZU (hT:ka P T)(hF:FR F σ w (qC a))(hd:Dom F σ []){d t e:Nat}{ty:Ty}{g1:Bool}{g2 g3:Nat}{g4:List C}(ht:T t=some ⟨.sl e,g1,g2,g3,g4⟩)(hte:T e=some ty){x y:Operand}{F':Fr}
 (h:ZB std ty d x y (F.drop std (rid d 0 0,[]))=some F') {o:Oper} (ho:o.op=.call ⟨.builtin .append,⟨[x,y]⟩,⟨[t,t]⟩⟩):∃ v w' σ',ZJ P F σ w a d (execOp a.eval o) F' v w' σ':=by
 obtain ⟨i,u,z,hi,hu,hz,hty⟩:=qz (hT _ _ ht)
 injection hty with hk _ _ _ _
 have hu':=ja hk.symm
 subst hu'
 obtain ⟨i',u',z',hi',hu',hz',rfl⟩:=qz (hT _ _ hte)
 have hF0:=hF.drop (rid d 0 0,[])
 have hd0:=hd.drop (rid d 0 0,[])
 have hun0:qa .un (F.drop std (rid d 0 0,[])).tb (rid d 0 0)=.un:=by
  show qa .un (del F.tb (rid d 0 0)) _=_
  rw [qM,if_pos rfl]
 unfold ZB at h
 split at h
 . rename_i xs F1 hbase
   obtain ⟨σ1,hB⟩:=qd4 hF0 hd0 (Qe _) (qmm _) hun0 (qt hF0 x) hbase
   split at h
   . rename_i ys m hmore
     split at h
     . rename_i hok
       simp only [Bool.and_eq_true] at hok
       obtain ⟨⟨⟨⟨⟨hlim,hby⟩,hpos⟩,hzl⟩,hsy⟩,hsx⟩:=hok
       simp at h
       subst h
       have hsy:=Y4 hsy
       have hsx:=Y4 hsx
       have hzl:z'.cells.size=i'.size:=by rw [kf] at hzl;simpa using Nat.eq_of_beq_eq_true hzl
       have hby:i'.bytes<=4096:=qv hby
       have hpos:0<i'.size:=qv hpos
       have hlim:xs.length+ys.length<=lim:=by simpa [std] using hlim
       have hlim':lim=34359738368:=rfl
       obtain ⟨σ2,news,hM⟩:=qeJ hB (qt hB.fr y) hmore hsy hu
       have hnl:=hM.src.newsLen
       have hcat:std.oCat xs ys=xs++ys:=rfl
       have hlen:std.oLen (xs++ys)=(xs++ys).length:=rfl
       rw [hcat,hlen]
       have hbytes:(xs.length+ys.length) * i'.bytes<=140737488355328:=by
        have:=Nat.mul_le_mul (show xs.length+ys.length<=34359738368 by omega) hby
        omega
       have hg0:qF w σ w (σ.tr (qV std (rid d 0 0,[]))):=jD
       have hall:∀ y∈xs++ys,y.length=i'.size:=fun y hy=>(List.mem_append.1 hy).elim (hsx y) (hsy y)
       have hop:∀ v' w',(Builtin.append_ #[t,t] o.type #[a.eval x,a.eval y]).run P w=.ok v' w'->(execOp a.eval o).run P w=.ok (.value v') w':=by
        intro v' w' hr
        simp only [execOp,ho,resolve,invoke,builtin,Sem.run_bind,Sem.run_pure,Result.andThen_ok,List.map_toArray,List.map_cons,List.map_nil,hr]
       have grow:∀ (base:Option Addr) (cap0:Nat) (olds:List Value),a.eval x=.slice base xs.length cap0->cap0<xs.length+ys.length->0<xs.length+ys.length->olds.length=xs.length * i'.size →
        (Builtin.firstCells i'.size xs.length (.slice base xs.length cap0)).run P w.drew=.ok olds.toArray w.drew →
        (∀ (i j:Nat) (y:List O) (o:O),xs[i]?=some y->y[j]?=some o->∃ u,olds[i * i'.size+j]?=some u/\qo w σ2 (rid d 0 0,[(i,j)]) o u) →
        ∃ v w' σ',ZJ P F σ w a d (execOp a.eval o) (((YQ std F1 m).root (rid d 0 0) (.osl (xs++ys))).put d (rfV (rid d 0 0) (xs++ys).length)) v w' σ':=by
        intro base cap0 olds hv hc hpos' hol hold hels
        have hfit:=growslice_fits hc hbytes
        have hr:=run_append_grow_src (P:=P) w t t o.type e i' z' hu hi' hz' base xs.length cap0 olds hold (a.eval y) ys.length news hM.src hc (by omega) hfit
        rw [<-hv] at hr
        have hge:=grownCap_ge w (xs.length+ys.length) cap0 e
        refine qgY (e':=e) (cap:=grownCap w (xs.length+ys.length) cap0 e) (g':=w.heap.size) hM (heap_alloc_new w.drew _) (fun h=>by omega) (fun k hk _=>heap_alloc_old w.drew _ k hk) (by simp) rfl rfl rfl
         (by simp only [List.length_append];exact hpos') (by simp only [List.length_append];exact hge) (grownCap_le_maxLen w _ _ _ (by simp only [maxLen];omega)) ?_ hall ?_ hg0 (by simp only [List.length_append];exact hop _ _ hr) rfl
        . simp only [Array.size_append,List.size_toArray,List.length_append,size_zeroCells,hzl,hol,hnl,<-Nat.add_mul]
          rw [show xs.length+ys.length+(grownCap w (xs.length+ys.length) cap0 e-(xs.length+ys.length))=grownCap w (xs.length+ys.length) cap0 e by omega]
        . intro i j y o hi hj
          have hj':j<i'.size:=by
           rw [<-hall y (List.mem_of_getElem? hi)]
           rcases Nat.lt_or_ge j y.length with h | h
           . exact h
           . rw [List.getElem?_eq_none h] at hj;cases hj
          rcases Nat.lt_or_ge i xs.length with hlt | hge'
          . rw [List.getElem?_append_left hlt] at hi
            obtain ⟨u,h1,h2⟩:=hels i j y o hi hj
            refine ⟨u,?_,h2⟩
            have hb:i * i'.size+j<olds.length:=by
             rw [hol]
             have:(i+1) * i'.size<=xs.length * i'.size:=Nat.mul_le_mul_right _ hlt
             rw [Nat.add_mul] at this;omega
            rw [Array.getElem?_append_left (by simp;omega)]
            simp [List.getElem?_append_left hb,h1]
          . rw [List.getElem?_append_right hge'] at hi
            obtain ⟨u,h1,h2⟩:=hM.els (i-xs.length) j y o hi hj
            rw [show xs.length+(i-xs.length)=i by omega] at h2
            refine ⟨u,?_,h2⟩
            have hb:(i-xs.length) * i'.size+j<news.length:=by
             rcases Nat.lt_or_ge ((i-xs.length) * i'.size+j) news.length with h | h
             . exact h
             . rw [List.getElem?_eq_none h] at h1;cases h1
            have he:i * i'.size+j=olds.length+((i-xs.length) * i'.size+j):=by
             rw [hol,Nat.sub_mul]
             have:xs.length * i'.size<=i * i'.size:=Nat.mul_le_mul_right _ hge'
             omega
            rw [he,Array.getElem?_append_left (by simp;omega)]
            simp only [List.getElem?_toArray]
            rw [List.getElem?_append_right (Nat.le_add_right _ _),Nat.add_sub_cancel_left]
            exact h1
       have hbv:=hM.rep
       generalize hvx:a.eval x=vx at hbv
       cases hbv with
       | oslz _ b =>
         by_cases hm0:ys.length=0
         . obtain rfl:ys=[]:=List.eq_nil_of_length_eq_zero hm0
           obtain rfl:news=[]:=List.eq_nil_of_length_eq_zero (by rw [hnl];simp)
           have hr:=run_append_nothing (P:=P) w t t o.type e i' hu hi' b 0 0 (Nat.le_refl _) (a.eval y) hM.src
           rw [<-hvx] at hr
           have:=qjb (d:=d) (s:=execOp a.eval o) hM hg0 (by rw [hop _ _ hr,hvx]) (F0:=F) rfl
           simpa using this
         . refine grow b 0 [] hvx (by simp;omega) (by simp;omega) (by simp) ?_ (fun i j y o h=>by simp at h)
           simp only [List.length_nil]
           cases b with
           | none=>exact run_firstCells_none w.drew i'.size 0 0 0
           | some ad=>exact run_firstCells_some w.drew i'.size 0 ad 0 0 [] (by simp) (fun j u h=>by simp at h)
       | osl _ _ e' sz g cap cur us hh hc hcm hl hs' hg hm hr =>
         have hsz:sz=i'.size:=by
          cases hxs:xs with
          | nil=>subst hxs;simp at hc
          | cons y0 r=>rw [<-hs' y0 (by rw [hxs];exact List.mem_cons_self),hsx y0 (by rw [hxs];exact List.mem_cons_self)]
         subst hsz
         by_cases hroom:xs.length+ys.length<=cap
         . have hfit:xs.length * i'.size+news.length<=cur.size:=by
            rw [hnl,hl,<-Nat.add_mul];exact Nat.mul_le_mul_right _ hroom
           have hra:=run_append_room_src (P:=P) w t t o.type e i' hu hi' g 0 xs.length cap (a.eval y) ys.length news hM.src hroom (by
            intro j hj
            rw [cell_of_row w g _ cur e' (0,0) hh,Nat.zero_add]
            simp [Array.getElem?_eq_getElem (show xs.length * i'.size+j<cur.size by omega)]) (fun j hj=>frozen_of_row w g _ cur e' hh)
           rw [<-hvx] at hra
           obtain ⟨cur',h1,h2,h3⟩:=yM g e' news (0+xs.length * i'.size) w cur hh (by omega)
           obtain ⟨h4,h5,h6,h7⟩:=KP g news (0+xs.length * i'.size) w
           refine qgY (e':=e') (cap:=cap) (g':=g) hM h1 (fun _=>⟨_,hg,rfl⟩) (fun k _ hk=>Z8 g news _ w k hk) (by omega) h5 h6 h7
            (by simp only [List.length_append];omega) (by simp only [List.length_append];exact hroom) hcm (by rw [h2,hl]) hall ?_ hg0 (by simp only [List.length_append];exact hop _ _ hra) rfl
           intro i j y o hi hj
           have hj':j<i'.size:=by
            rw [<-hall y (List.mem_of_getElem? hi)]
            rcases Nat.lt_or_ge j y.length with h | h
            . exact h
            . rw [List.getElem?_eq_none h] at hj;cases hj
           rcases Nat.lt_or_ge i xs.length with hlt | hge'
           . rw [List.getElem?_append_left hlt] at hi
             refine ⟨us i j,?_,hr i j y o hi hj⟩
             have:(i+1) * i'.size<=xs.length * i'.size:=Nat.mul_le_mul_right _ hlt
             rw [Nat.add_mul] at this
             rw [h3,if_neg (by omega)]
             exact hm i j y o hi hj
           . rw [List.getElem?_append_right hge'] at hi
             obtain ⟨u,h8,h9⟩:=hM.els (i-xs.length) j y o hi hj
             rw [show xs.length+(i-xs.length)=i by omega] at h9
             refine ⟨u,?_,h9⟩
             have hb:(i-xs.length) * i'.size+j<news.length:=by
              rcases Nat.lt_or_ge ((i-xs.length) * i'.size+j) news.length with h | h
              . exact h
              . rw [List.getElem?_eq_none h] at h8;cases h8
             have he:i * i'.size+j=xs.length * i'.size+((i-xs.length) * i'.size+j):=by
              rw [Nat.sub_mul]
              have:xs.length * i'.size<=i * i'.size:=Nat.mul_le_mul_right _ hge'
              omega
             rw [h3,if_pos (by omega),he,Nat.zero_add,Nat.add_sub_cancel_left]
             exact h8
         . have hex:∀ i j,i<xs.length->j<i'.size->∃ y o,xs[i]?=some y/\y[j]?=some o/\cur[i * i'.size+j]?=some (us i j):=by
            intro i j hi hj
            obtain ⟨y,hy⟩:=ki hi
            obtain ⟨o,ho⟩:=ki (l:=y) (i:=j) (by rw [hsx y (List.mem_of_getElem? hy)];exact hj)
            exact ⟨y,o,hy,ho,hm i j y o hy ho⟩
           refine grow (some ⟨g,0,none⟩) cap (Q2 us xs.length i'.size) hvx (by omega) (by omega) (jm _ _ _) ?_ ?_
           . refine run_firstCells_some w.drew i'.size xs.length ⟨g,0,none⟩ _ _ _ (jm _ _ _) ?_
             intro k u hk
             obtain ⟨i,j,hi,hj,rfl,rfl⟩:=Q1 us hk
             obtain ⟨y,o,_,_,h⟩:=hex i j hi hj
             rw [qU]
             simp only [World.cell?_drew]
             rw [cell_of_row w g _ cur e' (0,0) hh,Nat.zero_add]
             exact h
           . intro i j y o hi hj
             have hi':i<xs.length:=by
              rcases Nat.lt_or_ge i xs.length with h | h
              . exact h
              . rw [List.getElem?_eq_none h] at hi;cases hi
             have hj':j<i'.size:=by
              rw [<-hsx y (List.mem_of_getElem? hi)]
              rcases Nat.lt_or_ge j y.length with h | h
              . exact h
              . rw [List.getElem?_eq_none h] at hj;cases hj
             exact ⟨us i j,wr us hi' hj',hr i j y o hi hj⟩
     . cases h
   . cases h
 . cases h
end
end Go.Proofs.YtececadpjelanaaGreat.Ai
namespace Go.Proofs.YtececadpjelanaaGreat.Ai
open Go Go.RowKit
section
variable [qi] {P:Program} {T:Nat->Option Ty} {w w':World} {σ σ':Gh} {F:Fr} {vt:Nat->Value} {a:Act}
def zP:O->Nat->Nat->Prop
 | .osl xs,i,j=>∃ y,xs[i]?=some y/\j<y.length
 | .obx cs,i,j=>i=0/\j<cs.length
 | _,_,_=>False
theorem Y9 {o z:O}{i j:Nat}(h:zP o i j):(∃ xs y,o=.osl xs/\xs[i]?=some y/\j<y.length/\o.set std [(i,j)] z=.osl (xs.set i (y.set j z)))\/(∃ cs,o=.obx cs/\i=0/\j<cs.length/\o.set std [(i,j)] z=.obx (cs.set j z)):=by
 cases o with
 | un=>exact h.elim
 | fz c=>exact h.elim
 | osl xs =>
   obtain ⟨y,h1,h2⟩:=h
   left
   refine ⟨xs,y,rfl,h1,h2,?_⟩
   simp only [O.set,std,qq,q9,h1,List.getElem?_eq_getElem h2]
 | obx cs =>
   obtain ⟨rfl,h2⟩:=h
   right
   refine ⟨cs,rfl,rfl,h2,?_⟩
   simp only [O.set,qq,q9,List.getElem?_eq_getElem h2]
theorem qcB {o z:O}{i j j':Nat}(h:zP o i j)(h':zP o i j'):zP (o.set std [(i,j)] z) i j':=by
 rcases Y9 (z:=z) h with ⟨xs,y,rfl,h1,h2,h3⟩ | ⟨cs,rfl,rfl,h2,h3⟩
 . rw [h3]
   obtain ⟨y',h4,h5⟩:=h'
   rw [h1] at h4
   injection h4 with h4
   subst h4
   refine ⟨y.set j z,?_,by simpa using h5⟩
   rw [List.getElem?_set_self (List.getElem?_eq_some_iff.1 h1).1]
 . rw [h3]
   exact ⟨rfl,by simpa using h'.2⟩
theorem V0:∀ (s:List (Nat×Nat)) (o z:O) (x:Nat×Nat),(o.set std (s++[x]) z).at std s=(o.at std s).set std [x] z:=by
 intro s
 induction s with
 | nil=>intro o z x;rfl
 | cons ij s ih =>
   obtain ⟨i,j⟩:=ij
   intro o z x
   obtain ⟨x1,x2⟩:=x
   cases o with
   | un=>simp [O.set,O.at]
   | fz c=>simp [O.set,O.at]
   | osl xs =>
     simp only [List.cons_append,O.set,std,qq,q9]
     cases hi:xs[i]? with
     | none=>simp [O.at,std,hi,O.set]
     | some y =>
       cases hj:y[j]? with
       | none=>simp [O.at,std,hi,qq,hj,O.set]
       | some o =>
         have hilt:i<xs.length:=(List.getElem?_eq_some_iff.1 hi).1
         have hjlt:j<y.length:=(List.getElem?_eq_some_iff.1 hj).1
         simp only [hj]
         simp only [O.at,std,qq,hi,hj,List.getElem?_set_self hilt,List.getElem?_set_self hjlt]
         exact ih o z (x1,x2)
   | obx cs =>
     simp only [List.cons_append,O.set,qq,q9]
     cases i with
     | succ i=>simp [O.at,O.set]
     | zero =>
       cases hj:cs[j]? with
       | none=>simp [O.at,qq,hj,O.set]
       | some o =>
         have hjlt:j<cs.length:=(List.getElem?_eq_some_iff.1 hj).1
         simp only [O.at,qq,hj,List.getElem?_set_self hjlt]
         exact ih o z (x1,x2)
theorem qc7 {s:List (Nat×Nat)}{o z:O}{i j:Nat}(h:zP (o.at std s) i j)(t:List (Nat×Nat)):(o.set std (s++[(i,j)]) z).at std (s++[(i,j)]++t)=z.at std t:=by
 rw [List.append_assoc,KD,V0]
 rcases Y9 (z:=z) h with ⟨xs,y,h0,h1,h2,h3⟩ | ⟨cs,h0,rfl,h2,h3⟩
 . rw [h3]
   have hilt:i<xs.length:=(List.getElem?_eq_some_iff.1 h1).1
   simp only [List.cons_append,List.nil_append,O.at,std,qq,List.getElem?_set_self hilt,List.getElem?_set_self h2]
 . rw [h3]
   simp only [List.cons_append,List.nil_append,O.at,qq,List.getElem?_set_self h2]
theorem Kk {g k:Nat}{u:Value}{x:Own}(hg:σ g=some x){p:qg}{o:O}{v:Value}(h:qo w σ p o v)(hn:∀ t,x.p≠(p.1,p.2++t)):qo (w.setCell ⟨g,k,none⟩ u) σ p o v:=by
 refine h.move (by simp) ⟨fun _ _ h=>h,fun b _ h0=>.inl (heap_setCell_other w _ _ _ ?_)⟩ p ?_
 . rintro rfl;rw [hg] at h0;cases h0
 . intro g' s n cap sz hg' _
   refine ⟨heap_setCell_other w _ _ _ ?_,hg'⟩
   rintro rfl
   rw [hg] at hg'
   injection hg' with hg'
   exact hn s (by rw [hg'])
theorem qly (hinj:∀ g g' x y,σ g=some x->σ g'=some y->x.p=y.p->g=g'){g n cap sz i j:Nat}{o':O}{u:Value}:∀ (s:List (Nat×Nat)) (p:qg) (o:O) (v:Value),σ g=some ⟨(p.1,p.2++s),n,cap,sz⟩->qo w σ p o v->zP (o.at std s) i j →
 qo w σ (p.1,p.2++s++[(i,j)]) o' u->qo (w.setCell ⟨g,i * sz+j,none⟩ u) σ p (o.set std (s++[(i,j)]) o') v:=by
 intro s
 induction s with
 | nil =>
   intro p o v hg h hc hr'
   simp only [List.append_nil] at hg hr'
   have hnew:qo (w.setCell ⟨g,i * sz+j,none⟩ u) σ (p.1,p.2++[(i,j)]) o' u:=Kk hg hr' (by
    intro t e
    have:=congrArg (fun x:qg=>x.2.length) e
    simp at this)
   have hsib:∀ (i' j':Nat) (o'':O) (v'':Value),qo w σ (p.1,p.2++[(i',j')]) o'' v''->qo (w.setCell ⟨g,i * sz+j,none⟩ u) σ (p.1,p.2++[(i',j')]) o'' v'':=fun i' j' o'' v'' h=>Kk hg h (by
    intro t e
    have:=congrArg (fun x:qg=>x.2.length) e
    simp at this)
   replace hc:zP o i j:=hc
   rcases Y9 (z:=o') hc with ⟨xs,y,rfl,h1,h2,h3⟩ | ⟨cs,rfl,rfl,h2,h3⟩
   . simp only [List.nil_append]
     rw [h3]
     have hilt:i<xs.length:=(List.getElem?_eq_some_iff.1 h1).1
     cases h with
     | oslz=>simp at h1
     | osl _ _ e sz' g' cap' cur us hh hc' hcm hl hs hg' hm hr =>
       obtain rfl:=hinj _ _ _ _ hg hg' rfl
       rw [hg] at hg'
       simp only [Option.some.injEq,Own.mk.injEq] at hg'
       obtain ⟨_,rfl,rfl,rfl⟩:=hg'
       have hjs:j<sz:=by rw [<-hs y (List.mem_of_getElem? h1)];exact h2
       have hlen:(xs.set i (y.set j o')).length=xs.length:=by simp
       have hin:i * sz+j<cur.size:=by
        rw [hl]
        have:(i+1) * sz<=cap * sz:=Nat.mul_le_mul_right _ (by omega)
        rw [Nat.add_mul] at this;omega
       have hget:∀ i' j' y' o'',(xs.set i (y.set j o'))[i']?=some y'->y'[j']?=some o''->(i'=i/\j'=j/\o''=o')\/(¬(i'=i/\j'=j)/\∃ y'',xs[i']?=some y''/\y''[j']?=some o''):=by
        intro i' j' y' o'' h4 h5
        by_cases hii:i'=i
        . subst hii
          rw [List.getElem?_set_self hilt] at h4
          injection h4 with h4
          subst h4
          by_cases hjj:j'=j
          . subst hjj
            rw [List.getElem?_set_self h2] at h5
            injection h5 with h5
            exact .inl ⟨rfl,rfl,h5.symm⟩
          . rw [List.getElem?_set_ne (Ne.symm hjj)] at h5
            exact .inr ⟨by simp [hjj],y,h1,h5⟩
        . rw [List.getElem?_set_ne (Ne.symm hii)] at h4
          exact .inr ⟨by simp [hii],y',h4,h5⟩
       have:=qo.osl (w:=w.setCell ⟨g,i * sz+j,none⟩ u) (σ:=σ) p (xs.set i (y.set j o')) e sz g cap (cur.setIfInBounds (i * sz+j) u) (fun i' j'=>if i'=i/\j'=j then u else us i' j')
        (heap_setCell_same w g (i * sz+j) cur e u hh) (by omega) hcm (by simpa using hl) ?_ (by rw [hlen];exact hg) ?_ ?_
       . rw [hlen] at this;exact this
       . intro y' hy'
         rcases List.mem_or_eq_of_mem_set hy' with h | rfl
         . exact hs y' h
         . simpa using hs y (List.mem_of_getElem? h1)
       . intro i' j' y' o'' h4 h5
         rcases hget i' j' y' o'' h4 h5 with ⟨rfl,rfl,_⟩ | ⟨hne,y'',h6,h7⟩
         . rw [if_pos ⟨rfl,rfl⟩]
           simp [Array.getElem?_setIfInBounds_self,hin]
         . rw [if_neg hne]
           have hj's:j'<sz:=by
            rw [<-hs y'' (List.mem_of_getElem? h6)]
            exact (List.getElem?_eq_some_iff.1 h7).1
           rw [Array.getElem?_setIfInBounds_ne]
           . exact hm _ _ y'' o'' h6 h7
           . intro e
             refine hne ?_
             have h1:(i * sz+j) / sz=i:=by
              rw [Nat.add_comm,Nat.add_mul_div_right _ _ (by omega),Nat.div_eq_of_lt hjs];omega
             have h2:(i' * sz+j') / sz=i':=by
              rw [Nat.add_comm,Nat.add_mul_div_right _ _ (by omega),Nat.div_eq_of_lt hj's];omega
             have h3:i'=i:=by rw [<-h1,<-h2,e]
             subst h3
             exact ⟨rfl,by omega⟩
       . intro i' j' y' o'' h4 h5
         rcases hget i' j' y' o'' h4 h5 with ⟨rfl,rfl,rfl⟩ | ⟨hne,y'',h6,h7⟩
         . rw [if_pos ⟨rfl,rfl⟩];exact hnew
         . rw [if_neg hne];exact hsib _ _ _ _ (hr _ _ y'' o'' h6 h7)
   . simp only [List.nil_append]
     rw [h3]
     cases h with
     | obx _ _ g' e cells us n' cap' sz' hh hl hg' hm hr =>
       obtain rfl:=hinj _ _ _ _ hg hg' rfl
       simp only [Nat.zero_mul,Nat.zero_add] at hnew hsib ⊢
       refine .obx p _ g e (cells.setIfInBounds j u) (fun j'=>if j'=j then u else us j') n cap sz (heap_setCell_same w g j cells e u hh) (by simpa using hl) hg ?_ ?_
       . intro j' o'' h4
         by_cases hjj:j'=j
         . subst hjj
           rw [if_pos rfl]
           have:j'<cells.size:=by rw [hl];exact h2
           simp [Array.getElem?_setIfInBounds_self,this]
         . rw [if_neg hjj,Array.getElem?_setIfInBounds_ne (Ne.symm hjj)]
           rw [List.getElem?_set_ne (Ne.symm hjj)] at h4
           exact hm _ _ h4
       . intro j' o'' h4
         by_cases hjj:j'=j
         . subst hjj
           rw [if_pos rfl]
           rw [List.getElem?_set_self h2] at h4
           injection h4 with h4
           subst h4
           exact hnew
         . rw [if_neg hjj]
           rw [List.getElem?_set_ne (Ne.symm hjj)] at h4
           exact hsib _ _ _ _ (hr _ _ h4)
 | cons ab s ih =>
   obtain ⟨x1,x2⟩:=ab
   intro p o v hg h hc hr'
   have hsib:∀ (i' j':Nat) (o'':O) (v'':Value),¬(i'=x1/\j'=x2)->qo w σ (p.1,p.2++[(i',j')]) o'' v''->qo (w.setCell ⟨g,i * sz+j,none⟩ u) σ (p.1,p.2++[(i',j')]) o'' v'':=fun i' j' o'' v'' hne h=>Kk hg h (by
    intro t e
    simp at e
    exact hne ⟨e.1.1.symm,e.1.2.symm⟩)
   have hself:∀ {g':Nat} {x:Own},σ g'=some x->x.p=p->g'≠g:=by
    rintro g' x hx hp rfl
    rw [hg] at hx
    injection hx with hx
    subst hx
    have:=congrArg (fun x:qg=>x.2.length) hp
    simp at this
   cases h with
   | un _ v _=>simp [O.at,zP] at hc
   | fz _ c v _=>simp [O.at,zP] at hc
   | oslz=>simp [O.at,std,zP] at hc
   | osl _ xs e sz' g' cap' cur us hh hc' hcm hl hs hg' hm hr =>
     simp only [O.at,std,qq] at hc
     simp only [List.cons_append,O.set,std,qq,q9]
     cases hi:xs[x1]? with
     | none=>rw [hi] at hc;exact hc.elim
     | some y =>
       rw [hi] at hc
       dsimp only at hc ⊢
       cases hj:y[x2]? with
       | none=>rw [hj] at hc;exact hc.elim
       | some o1 =>
         rw [hj] at hc
         dsimp only at hc ⊢
         have hnew:=ih (p.1,p.2++[(x1,x2)]) o1 (us x1 x2) (by simpa using hg) (hr x1 x2 y o1 hi hj) hc (by simpa using hr')
         have hilt:x1<xs.length:=(List.getElem?_eq_some_iff.1 hi).1
         have hjlt:x2<y.length:=(List.getElem?_eq_some_iff.1 hj).1
         have hlen:(xs.set x1 (y.set x2 (o1.set std (s++[(i,j)]) o'))).length=xs.length:=by simp
         have hget:∀ i' j' y' o'',(xs.set x1 (y.set x2 (o1.set std (s++[(i,j)]) o')))[i']?=some y'->y'[j']?=some o'' →
          (i'=x1/\j'=x2/\o''=o1.set std (s++[(i,j)]) o')\/(¬(i'=x1/\j'=x2)/\∃ y'',xs[i']?=some y''/\y''[j']?=some o''):=by
          intro i' j' y' o'' h4 h5
          by_cases hii:i'=x1
          . subst hii
            rw [List.getElem?_set_self hilt] at h4
            injection h4 with h4
            subst h4
            by_cases hjj:j'=x2
            . subst hjj
              rw [List.getElem?_set_self hjlt] at h5
              injection h5 with h5
              exact .inl ⟨rfl,rfl,h5.symm⟩
            . rw [List.getElem?_set_ne (Ne.symm hjj)] at h5
              exact .inr ⟨by simp [hjj],y,hi,h5⟩
          . rw [List.getElem?_set_ne (Ne.symm hii)] at h4
            exact .inr ⟨by simp [hii],y',h4,h5⟩
         have hne:=hself hg' rfl
         have:=qo.osl (w:=w.setCell ⟨g,i * sz+j,none⟩ u) (σ:=σ) p (xs.set x1 (y.set x2 (o1.set std (s++[(i,j)]) o'))) e sz' g' cap' cur us
          ((heap_setCell_other w _ _ _ hne).trans hh) (by omega) hcm hl ?_ (by rw [hlen];exact hg') ?_ ?_
         . rw [hlen] at this;exact this
         . intro y' hy'
           rcases List.mem_or_eq_of_mem_set hy' with h | rfl
           . exact hs y' h
           . simpa using hs y (List.mem_of_getElem? hi)
         . intro i' j' y' o'' h4 h5
           rcases hget i' j' y' o'' h4 h5 with ⟨rfl,rfl,_⟩ | ⟨hne,y'',h6,h7⟩
           . exact hm _ _ y o1 hi hj
           . exact hm _ _ y'' o'' h6 h7
         . intro i' j' y' o'' h4 h5
           rcases hget i' j' y' o'' h4 h5 with ⟨rfl,rfl,rfl⟩ | ⟨hne,y'',h6,h7⟩
           . exact hnew
           . exact hsib _ _ _ _ hne (hr _ _ y'' o'' h6 h7)
   | obx _ cs g' e cells us n' cap' sz' hh hl hg' hm hr =>
     simp only [O.at,qq] at hc
     simp only [List.cons_append,O.set,qq,q9]
     cases x1 with
     | succ x1=>exact hc.elim
     | zero =>
       dsimp only at hc ⊢
       cases hj:cs[x2]? with
       | none=>rw [hj] at hc;exact hc.elim
       | some o1 =>
         rw [hj] at hc
         dsimp only at hc ⊢
         have hnew:=ih (p.1,p.2++[(0,x2)]) o1 (us x2) (by simpa using hg) (hr x2 o1 hj) hc (by simpa using hr')
         have hjlt:x2<cs.length:=(List.getElem?_eq_some_iff.1 hj).1
         have hne:=hself hg' rfl
         refine .obx p _ g' e cells us n' cap' sz' ((heap_setCell_other w _ _ _ hne).trans hh) (by simpa using hl) hg' ?_ ?_
         . intro j' o'' h4
           by_cases hjj:j'=x2
           . subst hjj;exact hm _ _ hj
           . rw [List.getElem?_set_ne (Ne.symm hjj)] at h4
             exact hm _ _ h4
         . intro j' o'' h4
           by_cases hjj:j'=x2
           . subst hjj
             rw [List.getElem?_set_self hjlt] at h4
             injection h4 with h4
             subst h4
             exact hnew
           . rw [List.getElem?_set_ne (Ne.symm hjj)] at h4
             exact hsib _ _ _ _ (by simp [hjj]) (hr _ _ h4)
end
end Go.Proofs.YtececadpjelanaaGreat.Ai
namespace Go.Proofs.YtececadpjelanaaGreat.Ai
open Go Go.RowKit
section
variable [qi] {P:Program} {T:Nat->Option Ty} {w w':World} {σ σ':Gh} {F:Fr} {vt:Nat->Value} {a:Act}
theorem Z0 {r:Nat}{s:List (Nat×Nat)}{o:O}(x:qg):(F.setAt std (r,s) o).at std x=if r=x.1 then ((qa .un F.tb r).set std s o).at std x.2 else F.at std x:=by
 unfold Fr.at Fr.setAt
 dsimp only
 rw [qp]
 by_cases e:r=x.1
 . rw [if_pos e,if_pos e]
 . rw [if_neg e,if_neg e,qM,if_neg e]
theorem FR.setCell (h:FR F σ w vt){r:Nat}{s:List (Nat×Nat)}{i j g n cap sz:Nat}(hg:σ g=some ⟨(r,s),n,cap,sz⟩)(hc:zP (F.at std (r,s)) i j){o:O}{u:Value}(hr:qo w σ (r,s++[(i,j)]) o u) :
 FR (F.setAt std (r,s++[(i,j)]) o) σ (w.setCell ⟨g,i * sz+j,none⟩ u) vt:=by
 have hst:kD w σ (w.setCell ⟨g,i * sz+j,none⟩ u) σ:=⟨fun _ _ h=>h,fun b _ h0=>.inl (heap_setCell_other w _ _ _ (by rintro rfl;rw [hg] at h0;cases h0))⟩
 refine ⟨h.inj,fun g x hx=>by simpa using h.lt g x hx,h.old.grow (by simp),fun t=>?_,fun t=>?_⟩
 . show ∃ v,qo _ σ (t,[]) (qa .un ((r,(qa .un F.tb r).set std (s++[(i,j)]) o)::del F.tb r) t) v
   rw [qp,qM]
   obtain ⟨v,hv⟩:=h.tb t
   by_cases e:r=t
   . subst e
     rw [if_pos rfl]
     exact ⟨v,qly h.inj s (r,[]) _ v (by simpa using hg) hv hc (by simpa using hr)⟩
   . rw [if_neg e,if_neg e]
     refine ⟨v,Kk hg hv ?_⟩
     intro t' e'
     exact e (congrArg Prod.fst e')
 . exact qN.imp (fun _ _ x v hx=>by
    induction hx with
    | un v=>exact .un v
    | ud=>exact .ud
    | fz c v h=>exact .fz c v (h.move (by simp) hst)
    | rf p off len g n cap sz hg hl hn=>exact .rf p off len g n cap sz hg hl hn
    | rz p off b=>exact .rz p off b
    | pp p i j g n cap sz hg=>exact .pp p i j g n cap sz hg
    | clo f caps vs us hl hm hr ih=>exact .clo f caps vs us hl hm ih) (h.tm t)
def WQ (q:Nat->qg):Nat->List O->List (qg×O)
 | _,[]=>[]
 | j,o::os=>(q j,o)::WQ q (j+1) os
theorem qhD {q:Nat->qg}{q':qg}{o':O}:∀ {os:List O} {j:Nat},(q',o')∈WQ q j os↔∃ k:Nat,os[k]?=some o'/\q'=q (j+k):=by
 intro os
 induction os with
 | nil=>intro j;simp [WQ]
 | cons o os ih =>
   intro j
   simp only [WQ,List.mem_cons,ih]
   constructor
   . rintro (h | ⟨k,h1,h2⟩)
     . injection h with h1 h2;exact ⟨0,by simp [h2],h1⟩
     . exact ⟨k+1,by simpa using h1,by rw [h2];congr 1;omega⟩
   . rintro ⟨k,h1,h2⟩
     cases k with
     | zero=>simp at h1;exact .inl (by rw [h2,h1];rfl)
     | succ k=>exact .inr ⟨k,by simpa using h1,by rw [h2];congr 1;omega⟩
theorem Dom.mono {pend pend':List (qg×O)}(h:Dom F σ pend)(hs:∀ x,x∈pend->x∈pend'):Dom F σ pend':=by
 intro g x hx
 rcases h g x hx with h | ⟨q,o,s,h1,h2⟩
 . exact .inl h
 . exact .inr ⟨q,o,s,hs _ h1,h2⟩
theorem Dom.setAt {r:Nat}{s:List (Nat×Nat)}{i j:Nat}{o:O}{pend:List (qg×O)}(h:Dom F σ (((r,s++[(i,j)]),o)::pend))(hb:∀ g x,σ g=some x->Und (r,s++[(i,j)]) x.p->∃ t,x.p=(r,s++[(i,j)]++t)/\Fit (o.at std t) x.n)
 (hc:zP (F.at std (r,s)) i j):Dom (F.setAt std (r,s++[(i,j)]) o) σ pend:=by
 intro g x hx
 by_cases hu:Und (r,s++[(i,j)]) x.p
 . obtain ⟨t,h1,h2⟩:=hb g x hx hu
   left
   rw [Z0,h1,if_pos rfl]
   dsimp only
   rw [qc7 hc]
   exact h2
 . rcases h g x hx with h1 | ⟨q',o',t,h1,h2,h3⟩
   . left
     rw [Z0]
     by_cases e:r=x.p.1
     . rw [if_pos e]
       refine qkg _ _ _ _ _ (fun ⟨t,ht⟩=>hu ⟨e.symm,t,ht⟩) ?_
       unfold Fr.at at h1
       rw [<-e] at h1
       exact h1
     . rw [if_neg e];exact h1
   . rcases List.mem_cons.1 h1 with h4 | h4
     . exfalso
       injection h4 with h4 h5
       rw [h2,h4] at hu
       exact hu ⟨rfl,t,rfl⟩
     . exact .inr ⟨q',o',t,h4,h2,h3⟩
theorem qeS {r:Nat}{s:List (Nat×Nat)}{i g n cap sz:Nat}(hg:σ g=some ⟨(r,s),n,cap,sz⟩):∀ (os:List O) (us:List Value) (j:Nat) (F:Fr) (w:World),os.length=us.length->FR F σ w vt->Dom F σ (WQ (qAt r s i) j os) →
 (∀ g x,σ g=some x->∀ k,k<os.length->∀ t,x.p=(r,s++[(i,j+k)]++t)->∃ o,os[k]?=some o/\Fit (o.at std t) x.n) →
 (∀ k,k<os.length->zP (F.at std (r,s)) i (j+k))->(∀ (k:Nat) (o:O),os[k]?=some o->∃ u,us[k]?=some u/\qo w σ (qAt r s i (j+k)) o u) →
 FR (qb7 std r s i j F os) σ (w.setCells g (i * sz+j) us) vt/\Dom (qb7 std r s i j F os) σ []/\(qb7 std r s i j F os).n=F.n:=by
 intro os
 induction os with
 | nil =>
   intro us j F w hl hF hd _ _ _
   obtain rfl:us=[]:=List.eq_nil_of_length_eq_zero (by simpa using hl.symm)
   exact ⟨hF,hd,rfl⟩
 | cons o os ih =>
   intro us j F w hl hF hd hown hc hr
   cases us with
   | nil=>simp at hl
   | cons u us =>
     simp only [qb7,World.setCells]
     have h0:=hc 0 (by simp)
     obtain ⟨u',hu',hr0⟩:=hr 0 o rfl
     simp at hu'
     subst hu'
     have hF1:=hF.setCell hg h0 hr0
     have hd1:Dom (F.setAt std (qAt r s i j) o) σ (WQ (qAt r s i) (j+1) os):=by
      refine Dom.setAt hd ?_ h0
      rintro g x hx ⟨h1,t,h2⟩
      have hp:x.p=(r,s++[(i,j+0)]++t):=Prod.ext h1 h2
      obtain ⟨o',h3,h4⟩:=hown g x hx 0 (by simp) t hp
      simp at h3
      subst h3
      exact ⟨t,hp,h4⟩
     have:=ih us (j+1) (F.setAt std (qAt r s i j) o) (w.setCell ⟨g,i * sz+j,none⟩ u) (by simpa using hl) hF1 hd1 ?_ ?_ ?_
     . exact this
     . intro g x hx k hk t ht
       obtain ⟨o',h1,h2⟩:=hown g x hx (k+1) (by simp;omega) t (by rw [ht];congr 3;simp;omega)
       exact ⟨o',by simpa using h1,h2⟩
     . intro k hk
       rw [show qAt r s i j=(r,s++[(i,j)]) from rfl,Z0,if_pos rfl]
       dsimp only
       rw [V0]
       have:=hc (k+1) (by simp;omega)
       rw [show j+(k+1)=j+1+k by omega] at this
       exact qcB h0 this
     . intro k o' hk
       obtain ⟨u',h1,h2⟩:=hr (k+1) o' (by simpa using hk)
       refine ⟨u',by simpa using h1,?_⟩
       rw [show j+(k+1)=j+1+k by omega] at h2
       refine Kk hg h2 ?_
       intro t e
       have:=congrArg (fun x:qg=>x.2.length) e
       simp [qAt] at this
def wN (o:O):Prop:=∀ t n,¬Fit (o.at std t) n
theorem qhP:∀ (s:List (Nat×Nat)) (o:O) (t:List (Nat×Nat)) (n:Nat),Fit ((o.set std s .un).at std t) n->Fit (o.at std t) n:=by
 intro s
 induction s with
 | nil=>intro o t n h;simp only [O.set] at h;rw [kv] at h;exact h.elim
 | cons x s ih =>
   obtain ⟨i,j⟩:=x
   intro o t n hf
   cases o with
   | un=>simpa [O.set] using hf
   | fz c=>simpa [O.set] using hf
   | osl xs =>
     simp only [O.set,std,qq,q9] at hf
     cases hi:xs[i]? with
     | none=>rw [hi] at hf;exact hf
     | some y =>
       rw [hi] at hf
       dsimp only at hf
       cases hj:y[j]? with
       | none=>rw [hj] at hf;exact hf
       | some o =>
         rw [hj] at hf
         dsimp only at hf
         have hilt:i<xs.length:=(List.getElem?_eq_some_iff.1 hi).1
         have hjlt:j<y.length:=(List.getElem?_eq_some_iff.1 hj).1
         cases t with
         | nil=>simpa [O.at,Fit] using hf
         | cons x' t =>
           obtain ⟨i',j'⟩:=x'
           simp only [O.at,std,qq] at hf ⊢
           by_cases hii:i'=i
           . subst hii
             rw [List.getElem?_set_self hilt] at hf
             rw [hi]
             dsimp only at hf ⊢
             by_cases hjj:j'=j
             . subst hjj
               rw [List.getElem?_set_self hjlt] at hf
               rw [hj]
               exact ih o t n hf
             . rw [List.getElem?_set_ne (Ne.symm hjj)] at hf
               exact hf
           . rw [List.getElem?_set_ne (Ne.symm hii)] at hf
             exact hf
   | obx cs =>
     simp only [O.set,qq,q9] at hf
     cases i with
     | succ i=>exact hf
     | zero =>
       dsimp only at hf
       cases hj:cs[j]? with
       | none=>rw [hj] at hf;exact hf
       | some o =>
         rw [hj] at hf
         dsimp only at hf
         have hjlt:j<cs.length:=(List.getElem?_eq_some_iff.1 hj).1
         cases t with
         | nil=>trivial
         | cons x' t =>
           obtain ⟨i',j'⟩:=x'
           cases i' with
           | succ i'=>simp [O.at,Fit] at hf
           | zero =>
             simp only [O.at,qq] at hf ⊢
             by_cases hjj:j'=j
             . subst hjj
               rw [List.getElem?_set_self hjlt] at hf
               rw [hj]
               exact ih o t n hf
             . rw [List.getElem?_set_ne (Ne.symm hjj)] at hf
               exact hf
theorem Jg (M:Ops)(s:List (Nat×Nat)):O.at M .un s=.un:=by cases s<;>rfl
theorem qkQ:∀ (s:List (Nat×Nat)) (o:O),wN ((o.set std s .un).at std s):=by
 intro s
 induction s with
 | nil=>intro o t n h;simp only [O.set,O.at] at h;rw [Jg] at h;exact h
 | cons x s ih =>
   obtain ⟨i,j⟩:=x
   intro o t n hf
   cases o with
   | un=>simp only [O.set,O.at,Jg] at hf;exact hf
   | fz c=>simp only [O.set,O.at,Jg] at hf;exact hf
   | osl xs =>
     simp only [O.set,std,qq,q9] at hf
     cases hi:xs[i]? with
     | none=>rw [hi] at hf;simp only [O.at,std,hi,Jg] at hf;exact hf
     | some y =>
       rw [hi] at hf
       dsimp only at hf
       cases hj:y[j]? with
       | none=>rw [hj] at hf;simp only [O.at,std,hi,qq,hj,Jg] at hf;exact hf
       | some o =>
         rw [hj] at hf
         dsimp only at hf
         have hilt:i<xs.length:=(List.getElem?_eq_some_iff.1 hi).1
         have hjlt:j<y.length:=(List.getElem?_eq_some_iff.1 hj).1
         simp only [O.at,std,qq,List.getElem?_set_self hilt,List.getElem?_set_self hjlt] at hf
         exact ih o t n hf
   | obx cs =>
     simp only [O.set,qq,q9] at hf
     cases i with
     | succ i=>simp only [O.at,Jg] at hf;exact hf
     | zero =>
       dsimp only at hf
       cases hj:cs[j]? with
       | none=>rw [hj] at hf;simp only [O.at,qq,hj,Jg] at hf;exact hf
       | some o =>
         rw [hj] at hf
         dsimp only at hf
         have hjlt:j<cs.length:=(List.getElem?_eq_some_iff.1 hj).1
         simp only [O.at,qq,List.getElem?_set_self hjlt] at hf
         exact ih o t n hf
theorem qfP {p x:qg}{n:Nat}(h:Fit ((F.less std p).at std x) n):Fit (F.at std x) n:=by
 obtain ⟨r,s⟩:=p
 cases s with
 | nil =>
   have h':Fit ((qa .un (del F.tb r) x.1).at std x.2) n:=h
   rw [qM] at h'
   split at h'
   . rw [kv] at h';exact h'.elim
   . exact h'
 | cons y s =>
   have h':Fit ((F.setAt std (r,y::s) .un).at std x) n:=h
   rw [Z0] at h'
   split at h'
   . rename_i e
     have:=qhP _ _ _ _ h'
     unfold Fr.at
     rw [<-e]
     exact this
   . exact h'
theorem W5 (p:qg)(t:List (Nat×Nat)):(F.at std p).at std t=F.at std (p.1,p.2++t):=by unfold Fr.at;rw [KD]
theorem wN.less {p q:qg}(h:wN (F.at std q)):wN ((F.less std p).at std q):=by
 intro t n hf
 rw [W5] at hf
 have:=qfP hf
 rw [<-W5] at this
 exact h t n this
theorem qhK {p:qg}:wN ((F.less std p).at std p):=by
 obtain ⟨r,s⟩:=p
 cases s with
 | nil =>
   intro t n hf
   have h':Fit (((qa .un (del F.tb r) r).at std []).at std t) n:=hf
   rw [qM,if_pos rfl,kv,kv] at h'
   exact h'
 | cons y s =>
   have h:wN ((F.setAt std (r,y::s) .un).at std (r,y::s)):=by
    rw [Z0,if_pos rfl]
    exact qkQ _ _
   exact h
theorem qbN {r:Nat}{s:List (Nat×Nat)}{i:Nat}:∀ (n j:Nat) (F:Fr) (σ:Gh),FR F σ w vt->Dom F σ []->∃ σ',FR (QG std r s i j n F) σ' w vt/\Dom (QG std r s i j n F) σ' []/\(∀ k,k<n->ke σ' (qAt r s i (j+k)))/\qF w σ w σ' ∧
 (∀ g x,σ g=some x->(∀ k,¬Und (qAt r s i k) x.p)->σ' g=some x)/\(∀ q,ke σ q->ke σ' q)/\(QG std r s i j n F).n=F.n/\(∀ k,k<n->wN ((QG std r s i j n F).at std (qAt r s i (j+k))))/\(∀ q,wN (F.at std q)->wN ((QG std r s i j n F).at std q)):=by
 intro n
 induction n with
 | zero=>intro j F σ hF hd;exact ⟨σ,hF,hd,fun k h=>by omega,qF.refl _ _,fun g x h _=>h,fun q h=>h,rfl,fun k h=>by omega,fun q h=>h⟩
 | succ n ih =>
   intro j F σ hF hd
   simp only [QG]
   obtain ⟨σ1,h1,h2,h3,h4,h5,h6,h7,h8,h9⟩:∃ σ1,FR (match (F.at std (qAt r s i j)).isFz with | true=>F | false=>F.drop std (qAt r s i j)) σ1 w vt/\Dom (match (F.at std (qAt r s i j)).isFz with | true=>F | false=>F.drop std (qAt r s i j)) σ1 [] ∧
    ke σ1 (qAt r s i j)/\qF w σ w σ1/\(∀ g x,σ g=some x->(∀ k,¬Und (qAt r s i k) x.p)->σ1 g=some x)/\(∀ q,ke σ q->ke σ1 q)/\(match (F.at std (qAt r s i j)).isFz with | true=>F | false=>F.drop std (qAt r s i j)).n=F.n ∧
    wN ((match (F.at std (qAt r s i j)).isFz with | true=>F | false=>F.drop std (qAt r s i j)).at std (qAt r s i j))/\(∀ q,wN (F.at std q)->wN ((match (F.at std (qAt r s i j)).isFz with | true=>F | false=>F.drop std (qAt r s i j)).at std q)):=by
    split
    . rename_i hfz
      have hdead:wN (F.at std (qAt r s i j)):=by
       intro t n h3
       cases ho:F.at std (qAt r s i j) with
       | fz c=>rw [ho] at h3;cases t<;>simp [O.at,Fit] at h3
       | un=>rw [ho] at hfz;simp [O.isFz] at hfz
       | osl xs=>rw [ho] at hfz;simp [O.isFz] at hfz
       | obx xs=>rw [ho] at hfz;simp [O.isFz] at hfz
      refine ⟨σ,hF,hd,?_,qF.refl _ _,fun g x h _=>h,fun q h=>h,rfl,hdead,fun q h=>h⟩
      rintro g x hx ⟨h1,t,h2⟩
      rcases hd g x hx with h3 | ⟨_,_,_,h3,_⟩
      . have hx':x.p=((qAt r s i j).1,(qAt r s i j).2++t):=by rw [<-h1,<-h2]
        rw [hx'] at h3
        rw [<-W5] at h3
        exact hdead _ _ h3
      . cases h3
    . exact ⟨_,hF.drop _,hd.drop _,Qe _,jD,fun g x hx hk=>zp hx (zi (hk j)),fun q hq=>hq.drop _,V9,qhK,fun q hq=>hq.less⟩
   obtain ⟨σ2,k1,k2,k3,k4,k5,k6,k7,k8,k9⟩:=ih (j+1) _ σ1 h1 h2
   refine ⟨σ2,k1,k2,?_,h4.trans k4,fun g x hx hk=>k5 g x (h5 g x hx hk) hk,fun q hq=>k6 q (h6 q hq),k7.trans h7,?_,fun q hq=>k9 q (h9 q hq)⟩
   rotate_left
   . intro k hk
     cases k with
     | zero=>exact k9 _ h8
     | succ k =>
       have:=k8 k (by omega)
       rw [show j+(k+1)=j+1+k by omega]
       exact this
   intro k hk
   cases k with
   | zero=>exact k6 _ h3
   | succ k =>
     have:=k3 k (by omega)
     rw [show j+(k+1)=j+1+k by omega]
     exact this
end
end Go.Proofs.YtececadpjelanaaGreat.Ai
namespace Go.Proofs.YtececadpjelanaaGreat.Ai
open Go Go.RowKit
section
variable [qi] {P:Program} {T:Nat->Option Ty} {w w':World} {σ σ':Gh} {F:Fr} {vt:Nat->Value} {a:Act}
theorem qcs {p:qg}{i j n:Nat}{as:List A}(h:zQ std F n (.pp p i j)=some as):∀ k,k<n->zP (F.at std p) i (j+k):=by
 intro k hk
 unfold zQ at h
 dsimp only at h
 split at h
 . rename_i xs hxs
   split at h
   . rename_i y hy
     split at h
     . rename_i l hl
       obtain ⟨h1,_⟩:=w6 _ _ _ _ hl
       rw [hxs]
       exact ⟨y,hy,by omega⟩
     . cases h
   . cases h
 . rename_i cs hcs
   split at h
   . split at h
     . rename_i l hl
       obtain ⟨h1,_⟩:=w6 _ _ _ _ hl
       rw [hcs]
       exact ⟨rfl,by omega⟩
     . cases h
   . cases h
 . cases h
theorem qlX (hF:FR F σ w vt){p:qg}{g n cap sz i j:Nat}(hg:σ g=some ⟨p,n,cap,sz⟩)(h:zP (F.at std p) i j):∃ cur e,w.heap[g]?=some (.cells cur e (0,0)):=by
 obtain ⟨u,hu⟩:=zf hF p
 cases ho:F.at std p with
 | un=>rw [ho] at h;exact h.elim
 | fz c=>rw [ho] at h;exact h.elim
 | osl xs =>
   rw [ho] at h hu
   obtain ⟨y,hy,_⟩:=h
   cases hu with
   | oslz=>simp at hy
   | osl _ _ e sz' g' cap' cur us hh hc' hcm hl hs hg' hm hr =>
     obtain rfl:=hF.inj _ _ _ _ hg hg' rfl
     exact ⟨cur,e,hh⟩
 | obx cs =>
   rw [ho] at hu
   cases hu with
   | obx _ _ g' e cells us n' cap' sz' hh hl hg' hm hr =>
     obtain rfl:=hF.inj _ _ _ _ hg hg' rfl
     exact ⟨cells,e,hh⟩
structure qnr (P:Program)(F:Fr)(σ:Gh)(w:World)(a:Act)(s:Sem Next)(F':Fr)(w':World)(σ':Gh):Prop where
 run:s.run P w=.ok .skip w'
 fr:FR F' σ' w' (qC a)
 dom:Dom F' σ' []
 goes:qF w σ w' σ'
 n:F'.n=F.n
theorem qfA (hT:ka P T)(hF:FR F σ w (qC a))(hd:Dom F σ []){kn:Bool}{t:TypeId}{ty:Ty}(ht:T t=some ty){ad x:Operand}{F':Fr}(h:WX std kn F ty.size ad x=some F'){o:Oper}(ho:o.op=.store t ad x) :
 ∃ w' σ',qnr P F σ w a (execOp a.eval o) F' w' σ':=by
 obtain ⟨inf,u,z,hi,hu,hz,rfl⟩:=qz (hT _ _ ht)
 dsimp only at h
 unfold WX at h
 split at h
 . rename_i p i j had
   obtain ⟨r,s⟩:=p
   dsimp only at h
   have hav:=qt hF ad
   rw [had] at hav
   obtain ⟨σ1,hF1,hd1,hb1,hg1,hk1,_,hn1,hdead,_⟩:=qbN (r:=r) (s:=s) (i:=i) inf.size j F σ hF hd
   split at h
   . rename_i gg as hev
     split at h
     . rename_i hsz
       simp only [Bool.and_eq_true] at hsz
       obtain ⟨hsz,hpos⟩:=hsz
       rw [kf] at hsz
       have hsz:=Nat.eq_of_beq_eq_true hsz
       have hpos:0<inf.size:=qv hpos
       split at h
       . rename_i os F2 hconv
         split at h
         . rename_i cs hcs
           simp at h
           subst h
           have hok:=yb _ _ _ _ _ _ (fun _ h=>h) hconv
           have hx:=zx hF1 x
           rw [hev] at hx
           obtain ⟨hl,hv⟩:=JN hx rfl hok
           obtain ⟨hlen,σ2,pend,hc⟩:=QF (Jx r s i) as j _ _ σ1 [] (a.eval x).cells.toList os F2 hconv hF1 hd1 (fun _ _ h=>by cases h) (fun k hk1 hk2=>by
            have:=hb1 (k-j) (by omega)
            rw [show j+(k-j)=k by omega] at this
            exact this) hv
           generalize hae:a.eval ad=va at hav
           cases hav with
           | pp _ _ _ g n cap sz hg =>
             have hg1':=hk1 g _ hg (by
              rintro k ⟨_,t,ht⟩
              have:=congrArg List.length ht
              simp [qAt] at this)
             have hg2:=hc.own g _ hg1' rfl
             have hhas:=qcs hcs
             have hos:os.length=inf.size:=by rw [hlen,hsz]
             have hown:∀ g x,σ2 g=some x->∀ k,k<os.length->∀ t,x.p=(r,s++[(i,j+k)]++t)->∃ o,os[k]?=some o/\Fit (o.at std t) x.n:=by
              intro g x hx k hk t ht
              rcases hc.dom g x hx with h1 | ⟨q',o',t',h1,h2,h3⟩
              . exfalso
                have e:F2.at std x.p=(QG std r s i j inf.size F).at std x.p:=by
                 unfold Fr.at
                 rw [show x.p.1=r by rw [ht],hc.tbl]
                rw [e,ht] at h1
                have:=W5 (F:=QG std r s i j inf.size F) (qAt r s i (j+k)) t
                rw [show ((qAt r s i (j+k)).1,(qAt r s i (j+k)).2++t)=(r,s++[(i,j+k)]++t) from rfl] at this
                rw [<-this] at h1
                exact hdead k (by omega) _ _ h1
              . rcases hc.pnd q' o' h1 with h4 | ⟨k',h4,h5⟩
                . cases h4
                . rw [ht,h5] at h2
                  simp [qAt] at h2
                  obtain ⟨h6,h7⟩:=h2
                  obtain rfl:k'=k:=by omega
                  subst h7
                  exact ⟨o',h4,h3⟩
             have hpend:Dom F2 σ2 (WQ (qAt r s i) j os):=hc.dom.mono (by
              rintro ⟨q',o'⟩ hm
              rcases hc.pnd q' o' hm with h | h
              . cases h
              . exact qhD.2 h)
             obtain ⟨k1,k2,k3⟩:=qeS hg2 os (a.eval x).cells.toList j F2 w (by rw [hos];simp [hl,hsz]) hc.fr hpend hown (fun k hk=>hhas k (by omega)) hc.rep
             have hcell:∀ k,k<(a.eval x).cells.toList.length->∃ u,w.cell? ⟨g,i * sz+j+k,none⟩=some u/\w.frozen? ⟨g,i * sz+j+k,none⟩=false:=by
              intro k hk
              obtain ⟨hcl,ad',hv',_,hcc⟩:=QH hc.fr hcs (qj.pp (r,s) i j g n cap sz hg2)
              have hkl:k<cs.length:=by rw [hcl];simp [hl,hsz] at hk;exact hk
              obtain ⟨u,h1,_⟩:=hcc k cs[k] (List.getElem?_eq_getElem hkl)
              simp only [Value.pointer.injEq,Option.some.injEq] at hv'
              subst hv'
              rw [qU] at h1
              refine ⟨u,h1,?_⟩
              obtain ⟨cur,e,hh⟩:=qlX hc.fr hg2 (hhas 0 hpos)
              exact frozen_of_row w g _ cur e hh
             have hst:=run_storeCells_cells (P:=P) g (i * sz+j) (a.eval x).cells.toList 0 w (fun k hk=>by obtain ⟨u,h1,_⟩:=hcell k hk;simp [h1]) (fun k hk=>by obtain ⟨u,_,h1⟩:=hcell k hk;simpa using h1) (by
              intro v hv'
              obtain ⟨k,hk⟩:=List.mem_iff_getElem?.1 hv'
              have hlt:k<os.length:=by
               have:=(List.getElem?_eq_some_iff.1 hk).1
               rw [hos];simp [hl,hsz] at this;exact this
              obtain ⟨u,h1,h2⟩:=hc.rep k os[k] (List.getElem?_eq_getElem hlt)
              rw [hk] at h1
              injection h1 with h1
              subst h1
              exact h2.one)
             obtain ⟨e1,e2,e3,e4⟩:=KP g (a.eval x).cells.toList (i * sz+j) w
             refine ⟨_,σ2,?_,k1,k2,(hg1.trans hc.goes).trans ⟨⟨fun _ _ h=>h,fun b _ h0=>.inl (Z8 g _ _ _ _ ?_)⟩,by omega,e2,e3,e4⟩,k3.trans (hc.n.trans hn1)⟩
             . simp only [execOp,ho,Instr.storeAt,hae]
               simp [Instr.sureAddr,storeVar,sizeOf,typeInfo,hi,hl,hsz]
               simp only [Nat.add_zero] at hst
               rw [hst]
               rfl
             . rintro rfl;rw [hg2] at h0;cases h0
         . cases h
       . cases h
     . cases h
   . cases h
 . cases h
end
end Go.Proofs.YtececadpjelanaaGreat.Ai
namespace Go.Proofs.YtececadpjelanaaGreat.Ai
open Go Go.RowKit
theorem qr.swap {J1 J2:qi}{w:World}{σ σ':Gh}{c:C}{v:Value}(h:@qr J1 w σ c v)(hf:∀ b,b<w.heap.size->@jE J1 σ b->@jE J2 σ' b)(hme:∀ b,b<w.heap.size->@qi.memo J1 b=@qi.memo J2 b:=by exact fun _ _=>rfl):@qr J2 w σ' c v:=by
 induction h with
 | un v h=>exact @qr.un J2 _ _ v h
 | int k n=>exact @qr.int J2 _ _ k n
 | bool b=>exact @qr.bool J2 _ _ b
 | str s=>exact @qr.str J2 _ _ s
 | nilsl=>exact @qr.nilsl J2 _ _
 | sl xs sz a cap us hc hs ha hm hr ih =>
   refine @qr.sl J2 _ _ xs sz a cap us hc hs (fun hne=>?_) hm ih
   obtain ⟨ad,h1,h2,h3,h4⟩:=ha hne
   exact ⟨ad,h1,h2,h3,hf _ h3 h4⟩
 | ptr cs ad us hp hlt hb hm hr ih=>exact @qr.ptr J2 _ _ cs ad us hp hlt (hf _ hlt hb) hm ih
 | fn f caps vs us hl hm hr ih=>exact @qr.fn J2 _ _ f caps vs us hl hm ih
 | mp g b o hg hh ho hn=>exact @qr.mp J2 _ _ g b o (by rw [<-hme b (ji hh)];exact hg) hh ho (hf b (ji hh) hn)
theorem qr.swapFlat {J1 J2:qi}{w:World}{σ σ':Gh}{c:C}{v:Value}(h:@qr J1 w σ c v)(hf:c.flat=true):@qr J2 w σ' c v:=by
 cases h with
 | un v h=>exact @qr.un J2 _ _ v h
 | int k n=>exact @qr.int J2 _ _ k n
 | bool b=>exact @qr.bool J2 _ _ b
 | str s=>exact @qr.str J2 _ _ s
 | nilsl=>exact @qr.nilsl J2 _ _
 | sl xs sz a cap us hc hs ha hm hr =>
   cases xs with
   | nil=>exact @qr.sl J2 _ _ [] 0 a cap us hc (by simp) (by simp) (by simp) (by simp)
   | cons y r=>simp [C.flat] at hf
 | ptr cs ad us hp hlt hb hm hr=>simp [C.flat] at hf
 | fn f caps vs us hl hm hr =>
   cases caps with
   | nil=>exact @qr.fn J2 _ _ f [] vs us hl (by simp) (by simp)
   | cons y r=>simp [C.flat] at hf
 | mp g b o hg hh ho hn=>simp [C.flat] at hf
theorem qo.swap {J1 J2:qi}{w:World}{σ σ':Gh}{p:qg}{o:O}{v:Value}(h:@qo J1 w σ p o v)(hf:o.clean=true\/∀ b,b<w.heap.size->@jE J1 σ b->@jE J2 σ' b)(hme:∀ b,b<w.heap.size->@qi.memo J1 b=@qi.memo J2 b:=by exact fun _ _=>rfl) :
 ∀ p':qg,(∀ g s n cap sz,σ g=some ⟨(p.1,p.2++s),n,cap,sz⟩->σ' g=some ⟨(p'.1,p'.2++s),n,cap,sz⟩)->@qo J2 w σ' p' o v:=by
 induction h with
 | un p v h=>exact fun p' _=>@qo.un J2 _ _ p' v h
 | fz p c v h =>
   intro p' _
   refine @qo.fz J2 _ _ p' c v ?_
   rcases hf with hf | hf
   . exact h.swapFlat hf
   . exact h.swap hf hme
 | oslz p a=>exact fun p' _=>@qo.oslz J2 _ _ p' a
 | osl p xs e sz g cap cur us hh hc hcm hl hs hg hm hr ih =>
   intro p' hp
   refine @qo.osl J2 _ _ p' xs e sz g cap cur us hh hc hcm hl hs (by simpa using hp g [] _ _ _ (by simpa using hg)) hm ?_
   intro i j y o hi hj
   refine ih i j y o hi hj ?_ (p'.1,p'.2++[(i,j)]) ?_
   . rcases hf with hf | hf
     . left
       simp only [O.clean,O.cleanLL_eq,List.all_eq_true] at hf
       exact hf y (List.mem_of_getElem? hi) o (List.mem_of_getElem? hj)
     . exact .inr hf
   . intro g s n cap sz hσ
     have:=hp g ((i,j)::s) n cap sz (by simpa using hσ)
     simpa using this
 | obx p cs g e cells us n cap sz hh hl hg hm hr ih =>
   intro p' hp
   refine @qo.obx J2 _ _ p' cs g e cells us n cap sz hh hl (by simpa using hp g [] _ _ _ (by simpa using hg)) hm ?_
   intro j o hj
   refine ih j o hj ?_ (p'.1,p'.2++[(0,j)]) ?_
   . rcases hf with hf | hf
     . left
       simp only [O.clean,O.cleanL_eq,List.all_eq_true] at hf
       exact hf o (List.mem_of_getElem? hj)
     . exact .inr hf
   . intro g s n cap sz hσ
     have:=hp g ((0,j)::s) n cap sz (by simpa using hσ)
     simpa using this
def TV.cell {α:Type}:TV α->Nat->Nat->Option α
 | .v (_,os),k,j=>if k=0 then os[j]? else none
 | .tup xs,k,j=>(xs[k]?).bind fun x=>x.2[j]?
@[reducible] def JD [qi] (n:Nat) (σr:Gh):qi:=⟨fun b=>b<n\/σr b≠none,fun _=>.bool false,qi.lo,qi.mg,qi.fut⟩
theorem Qm.swap {J1 J2:qi}(hme:∀ b,@qi.memo J1 b=@qi.memo J2 b){b:Nat}{o o':Option Obj}(h:@Qm J1 b o o'):@Qm J2 b o o':=by
 rcases h with h | ⟨g,x,x',h1,h2⟩
 . exact .inl h
 . exact .inr ⟨g,x,x',by rw [<-hme];exact h1,h2⟩
theorem qF.swap {J1 J2:qi}{w w':World}{σ σ':Gh}(h:@qF J1 w σ w' σ')(hme:∀ b,@qi.memo J1 b=@qi.memo J2 b):@qF J2 w σ w' σ' :=
 @qF.mk J2 _ _ _ _ (@kD.mk J2 _ _ _ _ (@kD.none_ J1 _ _ _ _ (@qF.st J1 _ _ _ _ h)) fun b hb h0=>(@kD.heap_ J1 _ _ _ _ (@qF.st J1 _ _ _ _ h) b hb h0).swap hme) (@qF.size J1 _ _ _ _ h) (@qF.os J1 _ _ _ _ h) (@qF.tape J1 _ _ _ _ h) (@qF.output J1 _ _ _ _ h)
theorem kg.swap {J1 J2:qi}{w w':World}(h:@kg J1 w w')(hme:∀ b,@qi.memo J1 b=@qi.memo J2 b):@kg J2 w w' :=
 @kg.mk J2 _ _ (@kg.os J1 _ _ h) (@kg.tape J1 _ _ h) (@kg.output J1 _ _ h) (@kg.size J1 _ _ h) fun b hb=>(@kg.heap J1 _ _ h b hb).swap hme
def w4 [qi] (n:Nat)(w':World)(σr:Gh)(p:qg)(o:O)(v:Value):Prop:=match nzO o with
 | some c=>@qr (JD n σr) w' (fun _=>none) c v
 | none=>qo w' σr p o v
structure Zu [qi] (w:World)(r:TV O)(v:Value)(w':World):Prop where
 below:kg w w'
 rep:∃ σr:Gh,(∀ g x,σr g=some x->w.heap.size<=g/\g<w'.heap.size)/\(∀ g g' x y,σr g=some x->σr g'=some y->x.p=y.p->g=g')/\qN (fun k j o v=>w4 w.heap.size w' σr (qA,[(k,j)]) o v) r v ∧
  ∀ g x,σr g=some x->∃ k j o s,r.cell k j=some o/\k<64/\j<64/\x.p=(qA,(k,j)::s)/\Fit (o.at std s) x.n
def kM [qh] (P:Program)(g:FuncId)(args:List (V1 C))(r:TV O):Prop :=
 (∃ fn c, P.funcs[g]? = some fn ∧ fn.body = some c ∧ (fn.name == "runtime.NumGoroutine") = false) ∧
 ∀ (J:qi) (w:World) (vals:Array Value),J.fut=qh.fut->@Jh J w->vals.size=args.length->(∀ (k:Nat) (x:V1 C),args[k]?=some x->∃ u,vals[k]?=some u/\qQ (fun _=>@qr J w (fun _=>none)) x u) →
  Calls P g vals w fun e w'=>∃ v,e=.returned v/\@Zu J w r v w'
section
variable [qi] {P:Program} {T:Nat->Option Ty} {w w':World} {σ σ':Gh} {F:Fr} {vt:Nat->Value} {a:Act}
@[reducible] def z8 (σ:Gh):qi:=⟨fun b=>qi.J b\/σ b≠none,qi.ph,qi.lo,qi.mg,qi.fut⟩
mutual
theorem Vn:(x:A)->{v:Value}->qj w σ x v->x.isFz=true->@qr (z8 σ) w (fun _=>none) (ZM std F x) v
 | .fz c,v,h,_=>h.fz_inv.swap (J2:=z8 σ) (fun b _ hb=>⟨rfl,fun hh=>hh.elim hb.2 (fun hne=>hne hb.1)⟩)
 | .clo f caps,v,h,hk=>by
   simp only [A.isFz] at hk
   simp only [ZM]
   cases h with
   | clo _ _ vs us hl hm hr =>
     refine @qr.fn (z8 σ) _ _ f _ vs us (by rw [Qu];simpa using hl) ?_ ?_
     . intro j c hj
       rw [Qu,List.getElem?_map] at hj
       cases hc:caps[j]? with
       | none=>rw [hc] at hj;simp at hj
       | some y=>exact hm j y hc
     . intro j c hj
       exact Qx caps hk us hr j c hj
 | .un,_,_,hk=>by simp [A.isFz] at hk
 | .ud,_,_,hk=>by simp [A.isFz] at hk
 | .rf ..,_,_,hk=>by simp [A.isFz] at hk
 | .pp ..,_,_,hk=>by simp [A.isFz] at hk
theorem Qx:(l:List A)->ZG l=true->(us:Nat->Value)->(∀ j c,l[j]?=some c->qj w σ c (us j))->∀ (j:Nat) (c:C),(Qi std F l)[j]?=some c->@qr (z8 σ) w (fun _=>none) c (us j)
 | [],_,_,_,j,c,hj=>by simp [Qi] at hj
 | x::l,hk,us,hr,j,c,hj=>by
   simp only [ZG] at hk
   cases hx:x.isFz with
   | false=>rw [hx] at hk;cases hk
   | true =>
     rw [hx] at hk
     cases j with
     | zero=>simp [Qi] at hj;subst hj;exact Vn x (hr 0 x rfl) hx
     | succ j=>exact Qx l hk (fun j=>us (j+1)) (fun j c h=>hr (j+1) c (by simpa using h)) j c (by simpa [Qi] using hj)
end
theorem qdR (hF:FR F σ w (qC a)){x:Operand}{y:V1 C}(h:qcI std F (ev F x)=some y):qQ (fun _=>zz w) y (a.eval x)/\((ev F x).isFz=true->qQ (fun _=>@qr (z8 σ) w (fun _=>none)) y (a.eval x)):=by
 have hx:=zx hF x
 unfold qcI at h
 split at h
 . rename_i g as hev
   rw [hev] at hx ⊢
   split at h
   . rename_i hok
     simp at h
     subst h
     have hel:∀ (j:Nat) (y:A),as[j]?=some y->y.ok=true:=by
      intro j y hj
      rw [qah,List.all_eq_true] at hok
      exact hok y (List.mem_of_getElem? hj)
     rw [Qu]
     cases g with
     | true =>
       obtain ⟨cs,he,h1,h2⟩:=hx
       rw [he]
       refine ⟨⟨cs,rfl,by simpa using h1,?_⟩,fun hfz=>⟨cs,rfl,by simpa using h1,?_⟩⟩
       . intro j c hj
         rw [List.getElem?_map] at hj
         cases hc:as[j]? with
         | none=>rw [hc] at hj;simp at hj
         | some y =>
           rw [hc] at hj
           simp at hj
           subst hj
           obtain ⟨u,h3,h4⟩:=h2 j y hc
           exact ⟨u,h3,K5 hF h4 (hel j y hc)⟩
       . intro j c hj
         obtain ⟨us,hus⟩:∃ us:Nat->Value,∀ j y,as[j]?=some y->cs[j]?=some (us j)/\qj w σ y (us j):=by
          refine ⟨fun j=>(cs[j]?).getD undef,fun j y hj=>?_⟩
          obtain ⟨u,h3,h4⟩:=h2 j y hj
          simp [h3,h4]
         have hj':=hj
         rw [List.getElem?_map] at hj
         cases hc:as[j]? with
         | none=>rw [hc] at hj;simp at hj
         | some y=>exact ⟨us j,(hus j y hc).1,Qx (F:=F) as hfz us (fun j c h=>(hus j c h).2) j c (by rw [Qu];exact hj')⟩
     | false =>
       match as,hx,hel with
       | [y],hx,hel =>
         have hx':qj w σ y (a.eval x):=hx
         refine ⟨K5 hF hx' (hel 0 y rfl),fun hfz=>?_⟩
         have:y.isFz=true:=by
          simp only [TV.isFz,ZG] at hfz
          cases hy:y.isFz with
          | true=>rfl
          | false=>rw [hy] at hfz;cases hfz
         exact Vn y hx' this
   . cases h
 . cases h
theorem qc9 (hF:FR F σ w (qC a)):∀ (xs:List Operand) (ys:List (V1 C)),Z4 std F xs=some ys->ys.length=xs.length/\∀ (k:Nat) (y:V1 C),ys[k]?=some y->∃ u,(xs.map a.eval)[k]?=some u/\qQ (fun _=>zz w) y u ∧
 (KK F xs=true->qQ (fun _=>@qr (z8 σ) w (fun _=>none)) y u):=by
 intro xs
 induction xs with
 | nil=>intro ys h;simp [Z4] at h;subst h;exact ⟨rfl,fun k y hk=>by simp at hk⟩
 | cons x xs ih =>
   intro ys h
   simp only [Z4] at h
   split at h
   . rename_i y ys' hy hys
     simp at h
     subst h
     obtain ⟨h1,h2⟩:=ih ys' hys
     refine ⟨by simp [h1],fun k z hk=>?_⟩
     cases k with
     | zero =>
       simp at hk;subst hk
       obtain ⟨h3,h4⟩:=qdR hF hy
       refine ⟨a.eval x,rfl,h3,fun hl=>h4 ?_⟩
       simp only [KK] at hl
       cases hz:(ev F x).isFz with
       | true=>rfl
       | false=>rw [hz] at hl;cases hl
     | succ k =>
       obtain ⟨u,h3,h4,h5⟩:=h2 k z (by simpa using hk)
       refine ⟨u,by simpa using h3,h4,fun hl=>h5 ?_⟩
       simp only [KK] at hl
       split at hl
       . exact hl
       . cases hl
   . cases h
theorem qiC (caps:List C)(k:Nat):(QE caps)[k]?=(caps[k]?).map fun c=>(false,[c]):=by
 induction caps generalizing k with
 | nil=>simp [QE]
 | cons c r ih=>cases k<;>simp [QE,ih]
theorem qaP (caps:List C):(QE caps).length=caps.length:=by
 induction caps with
 | nil=>rfl
 | cons c r ih=>simp [QE,ih]
theorem qaa (hF:FR F σ w (qC a)){f:Operand}{g:FuncId}{caps:List C}(h:callee std F f=some (g,caps)):∃ vs:Array Value,a.eval f=.func (.func g) #[] vs/\vs.size=caps.length ∧
 (∀ (k:Nat) (c:C),caps[k]?=some c->∃ u,vs[k]?=some u/\zz w c u/\((ev F f).isFz=true->@qr (z8 σ) w (fun _=>none) c u)):=by
 have hf:=qt hF f
 unfold callee at h
 split at h
 . rename_i g' caps' he
   simp at h
   obtain ⟨rfl,rfl⟩:=h
   rw [he] at hf
   have hf:=hf.fz_inv
   generalize a.eval f=v at hf
   cases hf with
   | fn _ _ vs us hl hm hr =>
     exact ⟨vs,rfl,hl,fun k c hk=>⟨us k,hm k c hk,(hr k c hk).free,fun _=>(hr k c hk).swap (fun b _ hb=>⟨rfl,fun hh=>hh.elim hb.2 (fun hne=>hne hb.1)⟩)⟩⟩
 . rename_i g' caps' he
   split at h
   . rename_i hok
     simp at h
     obtain ⟨rfl,rfl⟩:=h
     rw [he] at hf
     have hev:(ev F f).isFz=true->ZG caps'=true:=by
      intro hz
      unfold ev1 one at he
      split at he
      . rename_i y hy
        subst he
        rw [hy] at hz
        simp only [TV.isFz,ZG,A.isFz] at hz
        split at hz
        . assumption
        . cases hz
      . cases he
     generalize a.eval f=v at hf
     cases hf with
     | clo _ _ vs us hl hm hr =>
       refine ⟨vs,rfl,by rw [Qu];simpa using hl,fun k c hk=>?_⟩
       have hk':=hk
       rw [Qu,List.getElem?_map] at hk
       cases hc:caps'[k]? with
       | none=>rw [hc] at hk;simp at hk
       | some y =>
         rw [hc] at hk
         simp at hk
         subst hk
         have hy:y.ok=true:=by
          rw [qah,List.all_eq_true] at hok
          exact hok y (List.mem_of_getElem? hc)
         exact ⟨us k,hm k y hc,K5 hF (hr k y hc) hy,fun hz=>Qx (F:=F) caps' (hev hz) us hr k _ hk'⟩
   . cases h
 . cases h
end
end Go.Proofs.YtececadpjelanaaGreat.Ai
namespace Go.Proofs.YtececadpjelanaaGreat.Ai
open Go Go.RowKit
section
variable [qi] {P:Program} {T:Nat->Option Ty} {w w':World} {σ σ':Gh} {F:Fr} {vt:Nat->Value} {a:Act}
theorem FR.clearS (h:FR F σ w vt)(hd:Dom F σ [])(id:Nat):∃ σ',FR (F.clear std id) σ' w vt/\Dom (F.clear std id) σ' []/\ke σ' (id,[])/\qF w σ w σ'/\∀ g x,σ' g=some x->σ g=some x:=by
 unfold Fr.clear
 cases hh:has F.tb id with
 | true =>
   refine ⟨_,h.drop _,hd.drop _,Qe _,jD,fun g x hx=>?_⟩
   obtain ⟨x',h1,h2,h3⟩:=kH hx
   rw [h3,(WM h2).1]
   exact h1
 | false =>
   refine ⟨σ,h,hd,?_,qF.refl _ _,fun g x hx=>hx⟩
   intro g x hx hu
   rcases hd g x hx with h5 | ⟨_,_,_,h5,_⟩
   . unfold Fr.at at h5
     rw [hu.1] at h5
     dsimp only at h5
     rw [jw hh,kv] at h5
     exact h5
   . cases h5
theorem qcl {id id':Nat}(h:qa .un F.tb id'=.un):qa .un (F.clear std id).tb id'=.un:=by
 unfold Fr.clear
 cases hh:has F.tb id with
 | true =>
   show qa .un (del F.tb id) id'=.un
   rw [qM]
   split
   . rfl
   . exact h
 | false=>exact h
theorem qa2:∀ (l:List (Nat×O)) (F:Fr) {id':Nat},qa .un F.tb id'=.un->qa .un (F.clears std l).tb id'=.un:=by
 intro l
 induction l with
 | nil=>intro F id' h;exact h
 | cons x l ih=>intro F id' h;exact ih _ (qcl h)
theorem qax:∀ (l:List (Nat×O)) (F:Fr) (σ:Gh),FR F σ w vt->Dom F σ []->∃ σ',FR (F.clears std l) σ' w vt/\Dom (F.clears std l) σ' []/\(∀ id o,(id,o)∈l->ke σ' (id,[])/\qa .un (F.clears std l).tb id=.un)/\qF w σ w σ' ∧
 (∀ g x,σ' g=some x->σ g=some x)/\(F.clears std l).n=F.n:=by
 intro l
 induction l with
 | nil=>intro F σ hF hd;exact ⟨σ,hF,hd,(fun _ _ h=>by cases h),qF.refl _ _,fun _ _ h=>h,rfl⟩
 | cons x l ih =>
   obtain ⟨id,o⟩:=x
   intro F σ hF hd
   obtain ⟨σ1,h1,h2,h3,h4,h5⟩:=hF.clearS hd id
   obtain ⟨σ2,k1,k2,k3,k4,k5,k6⟩:=ih (F.clear std id) σ1 h1 h2
   refine ⟨σ2,k1,k2,?_,h4.trans k4,fun g x hx=>h5 g x (k5 g x hx),k6.trans Zj⟩
   intro id' o' hm
   rcases List.mem_cons.1 hm with h | h
   . injection h with h _
     subst h
     exact ⟨fun g x hx=>h3 g x (k5 g x hx),qa2 l _ jv⟩
   . exact k3 id' o' h
theorem KH:∀ (l:List (Nat×O)) (F:Fr),(F.adds l).tm=F.tm/\(F.adds l).n=F.n:=by
 intro l
 induction l with
 | nil=>intro F;exact ⟨rfl,rfl⟩
 | cons x l ih=>intro F;exact ih _
theorem qiZ:∀ (l:List (Nat×O)) (F:Fr),(∀ id o o',(id,o)∈l->(id,o')∈l->o=o')->(∀ id o,(id,o)∈l->qa .un (F.adds l).tb id=o)/\(∀ id,(∀ o,(id,o)∉l)->qa .un (F.adds l).tb id=qa .un F.tb id):=by
 intro l
 induction l with
 | nil=>intro F _;exact ⟨(fun _ _ h=>by cases h),fun _ _=>rfl⟩
 | cons x l ih =>
   obtain ⟨id0,o0⟩:=x
   intro F hf
   obtain ⟨h1,h2⟩:=ih (F.root id0 o0) (fun id o o' h h'=>hf id o o' (List.mem_cons_of_mem _ h) (List.mem_cons_of_mem _ h'))
   refine ⟨?_,?_⟩
   . intro id o hm
     show qa .un ((F.root id0 o0).adds l).tb id=o
     by_cases hin:∃ o',(id,o')∈l
     . obtain ⟨o',ho'⟩:=hin
       rw [h1 id o' ho']
       exact hf id o' o (List.mem_cons_of_mem _ ho') hm
     . rw [h2 id (fun o' h=>hin ⟨o',h⟩)]
       rcases List.mem_cons.1 hm with h | h
       . injection h with h h'
         subst h h'
         show qa .un ((id,o)::F.tb) id=o
         rw [qp,if_pos rfl]
       . exact absurd ⟨o,h⟩ hin
   . intro id hn
     show qa .un ((F.root id0 o0).adds l).tb id=_
     rw [h2 id (fun o h=>hn o (List.mem_cons_of_mem _ h))]
     show qa .un ((id0,o0)::F.tb) id=_
     rw [qp,if_neg]
     rintro rfl
     exact hn o0 List.mem_cons_self
theorem FR.adds:∀ (l:List (Nat×O)) (F:Fr),FR F σ w vt->(∀ id o,(id,o)∈l->∃ v,qo w σ (id,[]) o v)->FR (F.adds l) σ w vt:=by
 intro l
 induction l with
 | nil=>intro F h _;exact h
 | cons x l ih =>
   obtain ⟨id,o⟩:=x
   intro F h hr
   obtain ⟨v,hv⟩:=hr id o List.mem_cons_self
   exact ih _ (h.addRoot hv) (fun id o hm=>hr id o (List.mem_cons_of_mem _ hm))
theorem qcZ (d k:Nat):∀ (l:List O) (j i:Nat),(Wa std d k j l)[i]?=(l[i]?).map fun o=>qiO std (rid d k (j+i),[]) o:=by
 intro l
 induction l with
 | nil=>intro j i;simp [Wa]
 | cons o l ih =>
   intro j i
   cases i with
   | zero=>simp [Wa]
   | succ i=>simp only [Wa,List.getElem?_cons_succ,ih];rw [show j+1+i=j+(i+1) by omega]
theorem vp (d k:Nat):∀ (l:List O) (j:Nat),(Wa std d k j l).length=l.length:=by
 intro l
 induction l with
 | nil=>intro j;rfl
 | cons o l ih=>intro j;simp [Wa,ih]
theorem qh5 (d:Nat):∀ (xs:List (V1 O)) (k i:Nat),(KV std d k xs)[i]?=(xs[i]?).map fun x=>(x.1,Wa std d (k+i) 0 x.2):=by
 intro xs
 induction xs with
 | nil=>intro k i;simp [KV]
 | cons x xs ih =>
   intro k i
   cases i with
   | zero=>simp [KV]
   | succ i=>simp only [KV,List.getElem?_cons_succ,ih];congr 1;funext x;rw [show k+1+i=k+(i+1) by omega]
theorem qab (d:Nat):∀ (xs:List (V1 O)) (k:Nat),(KV std d k xs).length=xs.length:=by
 intro xs
 induction xs with
 | nil=>intro k;rfl
 | cons x xs ih=>intro k;simp [KV,ih]
theorem VK {d k:Nat}{id:Nat}{o:O}:∀ (l:List O) (j:Nat),(id,o)∈Zc d k j l↔∃ i:Nat,l[i]?=some o/\o.isFz=false/\id=rid d k (j+i):=by
 intro l
 induction l with
 | nil=>intro j;simp [Zc]
 | cons o0 l ih =>
   intro j
   simp only [Zc]
   cases hz:o0.isFz with
   | true =>
     dsimp only
     rw [ih]
     constructor
     . rintro ⟨i,h1,h2,h3⟩;exact ⟨i+1,by simpa using h1,h2,by rw [h3];congr 1;omega⟩
     . rintro ⟨i,h1,h2,h3⟩
       cases i with
       | zero=>simp at h1;subst h1;rw [hz] at h2;cases h2
       | succ i=>exact ⟨i,by simpa using h1,h2,by rw [h3];congr 1;omega⟩
   | false =>
     dsimp only
     rw [List.mem_cons,ih]
     constructor
     . rintro (h | ⟨i,h1,h2,h3⟩)
       . injection h with h h';exact ⟨0,by simp [h'],by rw [h'];exact hz,h⟩
       . exact ⟨i+1,by simpa using h1,h2,by rw [h3];congr 1;omega⟩
     . rintro ⟨i,h1,h2,h3⟩
       cases i with
       | zero=>simp at h1;subst h1;exact .inl (by rw [h3];rfl)
       | succ i=>exact .inr ⟨i,by simpa using h1,h2,by rw [h3];congr 1;omega⟩
theorem qbK {d:Nat}{id:Nat}{o:O}:∀ (xs:List (V1 O)) (k:Nat),(id,o)∈Zs d k xs↔∃ (i j:Nat) (x:V1 O),xs[i]?=some x/\x.2[j]?=some o/\o.isFz=false/\id=rid d (k+i) j:=by
 intro xs
 induction xs with
 | nil=>intro k;simp [Zs]
 | cons x xs ih =>
   intro k
   simp only [Zs,List.mem_append,VK,ih]
   constructor
   . rintro (⟨i,h1,h2,h3⟩ | ⟨i,j,y,h1,h2,h3,h4⟩)
     . exact ⟨0,i,x,rfl,h1,h2,by simpa using h3⟩
     . exact ⟨i+1,j,y,by simpa using h1,h2,h3,by rw [h4];congr 1;omega⟩
   . rintro ⟨i,j,y,h1,h2,h3,h4⟩
     cases i with
     | zero=>simp at h1;subst h1;exact .inl ⟨j,h2,h3,by simpa using h4⟩
     | succ i=>exact .inr ⟨i,j,y,by simpa using h1,h2,h3,by rw [h4];congr 1;omega⟩
theorem Zf {d:Nat}{r:TV O}{id:Nat}{o:O}:(id,o)∈zH d r↔∃ k j,r.cell k j=some o/\o.isFz=false/\id=rid d k j:=by
 cases r with
 | v x =>
   obtain ⟨g,os⟩:=x
   simp only [zH,VK,TV.cell]
   constructor
   . rintro ⟨i,h1,h2,h3⟩;exact ⟨0,i,by simpa using h1,h2,by simpa using h3⟩
   . rintro ⟨k,j,h1,h2,h3⟩
     split at h1
     . rename_i e;subst e;exact ⟨j,h1,h2,by simpa using h3⟩
     . cases h1
 | tup xs =>
   simp only [zH,qbK,TV.cell]
   constructor
   . rintro ⟨i,j,x,h1,h2,h3,h4⟩;exact ⟨i,j,by simp [h1,h2],h3,by simpa using h4⟩
   . rintro ⟨k,j,h1,h2,h3⟩
     cases hx:xs[k]? with
     | none=>rw [hx] at h1;simp at h1
     | some x=>rw [hx] at h1;exact ⟨k,j,x,hx,by simpa using h1,h2,by simpa using h3⟩
theorem Ym {r:TV O}(h:r.fits=true){k j:Nat}{o:O}(hc:r.cell k j=some o):k<64/\j<64:=by
 cases r with
 | v x =>
   obtain ⟨g,os⟩:=x
   simp only [TV.cell] at hc
   split at hc
   . rename_i e
     subst e
     have h':os.length<=64:=by
      have:=qv h
      rwa [kf] at this
     have:=(List.getElem?_eq_some_iff.1 hc).1
     omega
   . cases hc
 | tup xs =>
   simp only [TV.fits,Bool.and_eq_true] at h
   obtain ⟨h1,h2⟩:=h
   have h1:=qv h1
   rw [kf] at h1
   simp only [TV.cell] at hc
   cases hx:xs[k]? with
   | none=>rw [hx] at hc;simp at hc
   | some x =>
     rw [hx] at hc
     have hk:=(List.getElem?_eq_some_iff.1 hx).1
     have hj:j<x.2.length:=(List.getElem?_eq_some_iff.1 (show x.2[j]?=some o by simpa using hc)).1
     have hall:∀ (l:List (V1 O)),y9 l=true->∀ x∈l,x.2.length<=64:=by
      intro l
      induction l with
      | nil=>intro _ x hx;cases hx
      | cons y l ih =>
        intro hl x hx
        simp only [y9] at hl
        split at hl
        . rename_i hy
          have hy:cnt y.2<=64:=qv hy
          rw [kf] at hy
          rcases List.mem_cons.1 hx with e | hx
          . rw [e];exact hy
          . exact ih hl x hx
        . cases hl
     have:=hall xs h2 x (List.mem_of_getElem? hx)
     omega
mutual
theorem VX:(o:O)->o.cleanM std=o.clean
 | .un=>rfl
 | .fz _=>rfl
 | .osl _=>rfl
 | .obx cs=>vC cs
theorem vC:(l:List O)->O.cleanML std l=O.cleanL l
 | []=>rfl
 | o::r=>by
   simp only [O.cleanML,O.cleanL,VX o,vC r]
   cases o.clean<;>rfl
end
theorem vo:∀ {l:List O},QC std l=true->∀ o∈l,nzO o=none->o.clean=true:=by
 intro l
 induction l with
 | nil=>intro _ o ho;cases ho
 | cons a l ih =>
   intro h o ho hn
   simp only [QC] at h
   split at h
   . rename_i ha
     rcases List.mem_cons.1 ho with rfl | ho
     . unfold qeh at ha
       rw [hn] at ha
       rw [<-VX];exact ha
     . exact ih h o ho hn
   . cases h
theorem qe1 {r:TV O}(h:r.cleanM std=true){k j:Nat}{o:O}(hc:r.cell k j=some o)(hn:nzO o=none):o.clean=true:=by
 cases r with
 | v x =>
   simp only [TV.cell] at hc
   split at hc
   . exact vo h o (List.mem_of_getElem? hc) hn
   . cases hc
 | tup xs =>
   simp only [TV.cell] at hc
   cases hx:xs[k]? with
   | none=>rw [hx] at hc;simp at hc
   | some x =>
     rw [hx] at hc
     have hall:∀ (l:List (V1 O)),KA std l=true->∀ x∈l,QC std x.2=true:=by
      intro l
      induction l with
      | nil=>intro _ x hx;cases hx
      | cons y l ih =>
        intro hl x hx
        simp only [KA] at hl
        split at hl
        . rename_i hy
          rcases List.mem_cons.1 hx with rfl | hx
          . exact hy
          . exact ih hl x hx
        . cases hl
     have:=hall xs h x (List.mem_of_getElem? hx)
     exact vo this o (List.mem_of_getElem? (show x.2[j]?=some o by simpa using hc)) hn
def qfg (d:Nat)(p:qg):qg:=match p.2 with
 | (k,j)::s=>(rid d k j,s)
 | []=>p
def KM (w:World)(σ1 σr:Gh)(d:Nat):Gh:=fun g=>if g<w.heap.size then σ1 g else match σr g with
 | some x=>some { x with p:=qfg d x.p }
 | none=>none
theorem qf3 {d k j k' j':Nat}(hj:j<64)(hj':j'<64)(h:rid d k j=rid d k' j'):k=k'/\j=j':=by unfold rid at h;omega
theorem qac (hF:FR F σ w (qC a))(hd:Dom F σ []){J1:Unit->qi}{r:TV O}{v:Value}(hres:@Zu (J1 ()) w r v w')(hfree:r.cleanM std=true\/J1 ()=z8 σ)(hme:∀ b,@qi.memo (J1 ()) b=qi.memo b){d:Nat}{F':Fr}(h:F.import std d r=some F') :
 ∃ σ',FR F' σ' w' (upd (qC a) d v)/\Dom F' σ' []/\qF w σ w' σ'/\F'.n=F.n:=by
 unfold Fr.import at h
 split at h
 . rename_i hfit
   simp at h
   subst h
   obtain ⟨σr,hfresh,hinj,hrep,hdom⟩:=@Zu.rep (J1 ()) _ _ _ _ hres
   obtain ⟨σ1,hF1,hd1,hids,hg1,hsub,hn1⟩:=qax (zH d r) F σ hF hd
   have hb:kg w w':=(@Zu.below (J1 ()) _ _ _ _ hres).swap hme
   have hlo:∀ g,g<w.heap.size->KM w σ1 σr d g=σ1 g:=fun g hg=>by unfold KM;rw [if_pos hg]
   have hhi:∀ g x,σr g=some x->KM w σ1 σr d g=some { x with p:=qfg d x.p }:=by
    intro g x hx
    unfold KM
    rw [if_neg (by have:=(hfresh g x hx).1;omega),hx]
   have hinv:∀ g y,KM w σ1 σr d g=some y->(g<w.heap.size/\σ1 g=some y)\/(w.heap.size<=g/\∃ x,σr g=some x/\y={ x with p:=qfg d x.p }):=by
    intro g y hy
    unfold KM at hy
    split at hy
    . rename_i hlt;exact .inl ⟨hlt,hy⟩
    . rename_i hlt
      split at hy
      . rename_i x hx;injection hy with hy;exact .inr ⟨by omega,x,hx,hy.symm⟩
      . cases hy
   have hroot:∀ g x,σr g=some x->∃ k j o s,r.cell k j=some o/\k<64/\j<64/\x.p=(qA,(k,j)::s)/\Fit (o.at std s) x.n/\(rid d k j,o)∈zH d r:=by
    intro g x hx
    obtain ⟨k,j,o,s,h1,h2,h3,h4,h5⟩:=hdom g x hx
    refine ⟨k,j,o,s,h1,h2,h3,h4,h5,Zf.2 ⟨k,j,h1,?_,rfl⟩⟩
    cases o with
    | fz c=>exfalso;revert h5;cases s<;>simp [O.at,Fit]
    | _=>rfl
   have hfun:∀ id o o',(id,o)∈zH d r->(id,o')∈zH d r->o=o':=by
    intro id o o' hm hm'
    obtain ⟨k,j,h1,_,h3⟩:=Zf.1 hm
    obtain ⟨k',j',h1',_,h3'⟩:=Zf.1 hm'
    obtain ⟨e1,e2⟩:=qf3 (Ym hfit h1).2 (Ym hfit h1').2 (h3.symm.trans h3')
    subst e1 e2
    rw [h1] at h1'
    injection h1'
   have hcross:∀ g g' x y,g<w.heap.size->σ1 g=some x->σr g'=some y->x.p≠qfg d y.p:=by
    intro g g' x y hg hx hy he
    obtain ⟨k,j,o,s,h1,h2,h3,h4,_,h5⟩:=hroot g' y hy
    refine (hids _ _ h5).1 g x hx ⟨?_,x.p.2,rfl⟩
    rw [he,h4]
    rfl
   have hF2:FR (F.clears std (zH d r)) (KM w σ1 σr d) w' (qC a):=by
    refine hF1.growK hb hlo ?_ ?_
    . intro g g' x y hx hy he
      rcases hinv g x hx with ⟨h1,h2⟩ | ⟨h1,x0,h2,h3⟩
      . rcases hinv g' y hy with ⟨h4,h5⟩ | ⟨h4,y0,h5,h6⟩
        . exact hF1.inj g g' x y h2 h5 he
        . exact absurd (by rw [he,h6]) (hcross g g' x y0 h1 h2 h5)
      . rcases hinv g' y hy with ⟨h4,h5⟩ | ⟨h4,y0,h5,h6⟩
        . exact absurd (by rw [<-he,h3]) (hcross g' g y x0 h4 h5 h2)
        . refine hinj g g' x0 y0 h2 h5 ?_
          rw [h3,h6] at he
          obtain ⟨k,j,o,s,_,_,f1,e1,_⟩:=hroot g x0 h2
          obtain ⟨k',j',o',s',_,_,f2,e2,_⟩:=hroot g' y0 h5
          dsimp only at he
          rw [e1,e2] at he ⊢
          simp only [qfg,Prod.mk.injEq] at he
          obtain ⟨e3,e4⟩:=qf3 f1 f2 he.1
          rw [e3,e4,he.2]
    . intro g x hx
      rcases hinv g x hx with ⟨h1,h2⟩ | ⟨h1,x0,h2,h3⟩
      . have:=hb.size;omega
      . exact (hfresh g x0 h2).2
   have hgo:qF w σ1 w' (KM w σ1 σr d):=⟨⟨fun b hb' h0=>by rw [hlo b hb'];exact h0,fun b hb' _=>hb.heap b hb'⟩,hb.size,hb.os,hb.tape,hb.output⟩
   have hcell:∀ k j o u,r.cell k j=some o->nzO o=none->@qo (J1 ()) w' σr (qA,[(k,j)]) o u->qo w' (KM w σ1 σr d) (rid d k j,[]) o u:=by
    intro k j o u hc hnz hr
    refine qo.swap hr ?_ (fun b _=>hme b) (rid d k j,[]) ?_
    . rcases hfree with hcl | hJ
      . exact .inl (qe1 hcl hc hnz)
      . right
        intro b _ hfr
        rw [hJ] at hfr
        refine ⟨?_,fun h=>hfr.2 (.inl h)⟩
        have h0:σ b=none:=by
         cases hs:σ b with
         | none=>rfl
         | some x=>exact absurd (.inr (by rw [hs];simp)) hfr.2
        unfold KM
        split
        . rename_i hlt;exact hg1.st.none_ b hlt h0
        . rw [hfr.1]
    . intro g s n cap sz hg
      rw [hhi g _ hg]
      simp [qfg]
   have hcellA:∀ k j o u,r.cell k j=some o->@w4 (J1 ()) w.heap.size w' σr (qA,[(k,j)]) o u->qj w' (KM w σ1 σr d) (qiO std (rid d k j,[]) o) u:=by
    intro k j o u hc hr
    unfold w4 at hr
    unfold qiO
    cases hz:nzO o with
    | none=>rw [hz] at hr;exact Zq (hcell k j o u hc hz hr)
    | some c =>
      rw [hz] at hr
      refine .fz c u (qr.swap hr (fun b _ hb=>⟨?_,fun hJ=>hb.2 (.inl (hF.old.lt b hJ))⟩) (fun b _=>hme b))
      have hb1:¬b<w.heap.size:=fun h=>hb.2 (.inl h)
      have hb2:σr b=none:=by
       cases hs:σr b with
       | none=>rfl
       | some x=>exact absurd (.inr (by rw [hs];simp)) hb.2
      unfold KM
      rw [if_neg hb1,hb2]
   have hnfz:∀ o:O,o.isFz=false->nzO o=none:=by intro o h;cases o<;>first | rfl | (simp [O.isFz] at h)
   have hrt:qN (fun _ _=>qj w' (KM w σ1 σr d)) (yT std d r) v:=by
    cases r with
    | v x =>
      obtain ⟨g,os⟩:=x
      cases g with
      | true =>
        obtain ⟨cs,he,h1,h2⟩:=hrep
        refine ⟨cs,he,by simpa [yT,vp] using h1,?_⟩
        intro j y hj
        rw [qcZ] at hj
        cases hc:os[j]? with
        | none=>rw [hc] at hj;simp at hj
        | some o =>
          rw [hc] at hj
          simp at hj
          subst hj
          obtain ⟨u,h3,h4⟩:=h2 j o hc
          exact ⟨u,h3,hcellA 0 j o u (by simp [TV.cell,hc]) h4⟩
      | false =>
        match os,hrep,hcellA with
        | [o],hrep,hcellA=>exact hcellA 0 0 o v (by simp [TV.cell]) hrep
    | tup xs =>
      obtain ⟨vs,he,h1,h2⟩:=hrep
      refine ⟨vs,he,by simpa [yT,qab] using h1,?_⟩
      intro k y hk
      rw [qh5] at hk
      cases hc:xs[k]? with
      | none=>rw [hc] at hk;simp at hk
      | some x =>
        rw [hc] at hk
        simp at hk
        subst hk
        obtain ⟨u,h3,h4⟩:=h2 k x hc
        refine ⟨u,h3,?_⟩
        obtain ⟨g,os⟩:=x
        cases g with
        | true =>
          obtain ⟨cs,he',h5,h6⟩:=h4
          refine ⟨cs,he',by simpa [vp] using h5,?_⟩
          intro j y hj
          rw [qcZ] at hj
          cases hc':os[j]? with
          | none=>rw [hc'] at hj;simp at hj
          | some o =>
            rw [hc'] at hj
            simp at hj
            subst hj
            obtain ⟨u',h7,h8⟩:=h6 j o hc'
            exact ⟨u',h7,hcellA k j o u' (by simp [TV.cell,hc,hc']) h8⟩
        | false =>
          match os,h4,hc with
          | [o],h4,hc=>exact hcellA k 0 o u (by simp [TV.cell,hc]) h4
   have hcv:∀ id o,(id,o)∈zH d r->∃ u,qo w' (KM w σ1 σr d) (id,[]) o u:=by
    intro id o hm
    obtain ⟨k,j,h1,hnf,rfl⟩:=Zf.1 hm
    have hcell:∀ k j u,r.cell k j=some o->@w4 (J1 ()) w.heap.size w' σr (qA,[(k,j)]) o u->qo w' (KM w σ1 σr d) (rid d k j,[]) o u:=by
     intro k j u hc hr
     unfold w4 at hr
     rw [hnfz o hnf] at hr
     exact hcell k j o u hc (hnfz o hnf) hr
    cases r with
    | v x =>
      obtain ⟨g,os⟩:=x
      have h1':=h1
      simp only [TV.cell] at h1
      split at h1
      . rename_i e
        subst e
        cases g with
        | true =>
          obtain ⟨cs,he,_,h2⟩:=hrep
          obtain ⟨u,_,h4⟩:=h2 j o h1
          exact ⟨u,hcell 0 j u h1' h4⟩
        | false =>
          match os,hrep,h1 with
          | [o'],hrep,h1 =>
            cases j with
            | zero=>simp at h1;subst h1;exact ⟨v,hcell 0 0 v h1' hrep⟩
            | succ j=>simp at h1
      . cases h1
    | tup xs =>
      obtain ⟨vs,he,_,h2⟩:=hrep
      have h1':=h1
      simp only [TV.cell] at h1
      cases hc:xs[k]? with
      | none=>rw [hc] at h1;simp at h1
      | some x =>
        rw [hc] at h1
        simp at h1
        obtain ⟨u,_,h4⟩:=h2 k x hc
        obtain ⟨g,os⟩:=x
        cases g with
        | true =>
          obtain ⟨cs,_,_,h6⟩:=h4
          obtain ⟨u',_,h8⟩:=h6 j o h1
          exact ⟨u',hcell k j u' h1' h8⟩
        | false =>
          match os,h4,h1 with
          | [o'],h4,h1 =>
            cases j with
            | zero=>simp at h1;subst h1;exact ⟨u,hcell k 0 u h1' h4⟩
            | succ j=>simp at h1
   obtain ⟨hl1,hl2⟩:=qiZ (zH d r) (F.clears std (zH d r)) hfun
   refine ⟨KM w σ1 σr d,(FR.adds _ _ hF2 hcv).put hrt,?_,hg1.trans hgo,?_⟩
   . intro g x hx
     left
     show Fit (O.at std (qa .un ((F.clears std (zH d r)).adds (zH d r)).tb x.p.1) x.p.2) x.n
     rcases hinv g x hx with ⟨h1,h2⟩ | ⟨h1,x0,h2,h3⟩
     . rcases hd1 g x h2 with h4 | ⟨_,_,_,h4,_⟩
       . by_cases hin:∃ o,(x.p.1,o)∈zH d r
         . obtain ⟨o,ho⟩:=hin
           exact absurd ⟨rfl,x.p.2,rfl⟩ ((hids _ _ ho).1 g x h2)
         . rw [hl2 x.p.1 (fun o ho=>hin ⟨o,ho⟩)]
           exact h4
       . cases h4
     . obtain ⟨k,j,o,s,e1,e2,e3,e4,e5,e6⟩:=hroot g x0 h2
       rw [h3]
       dsimp only
       rw [e4]
       simp only [qfg]
       rw [hl1 _ _ e6]
       exact e5
   . show ((F.clears std (zH d r)).adds (zH d r)).n=F.n
     rw [(KH _ _).2,hn1]
 . cases h
end
end Go.Proofs.YtececadpjelanaaGreat.Ai
namespace Go.Proofs.YtececadpjelanaaGreat.Ai
open Go Go.RowKit
section
variable [qi] {P:Program} {T:Nat->Option Ty} {w w':World} {σ σ':Gh} {F:Fr} {vt:Nat->Value} {a:Act}
theorem qjH (hT:ka P T)(hF:FR F σ w (qC a))(hd:Dom F σ []){kn:Bool}{d:Nat}{o:Oper}{F':Fr}(h:wop std T kn F d o.op=some F'):∃ v w' σ',ZJ P F σ w a d (execOp a.eval o) F' v w' σ':=by
 generalize hop:o.op=op at h
 unfold wop at h
 split at h
 . rename_i x
   refine qjA hF hd (v:=a.eval x) ?_ (zx hF x) h
   simp [execOp,hop]
 . exact qjX hF hd h hop
 . rename_i e
   split at h
   . rename_i ty ht
     split at h
     . rename_i hn
       simp at h
       subst h
       exact qe2 hT hF hd ht hn hop
     . cases h
   . cases h
 . rename_i t len parts
   split at h
   . rename_i e g1 g2 g3 g4 ht
     split at h
     . rename_i ty hte
       split at h
       . rename_i hok
         simp only [Bool.and_eq_true] at hok
         obtain ⟨⟨⟨h1,h2⟩,h3⟩,h4⟩:=hok
         rw [kf] at h1
         split at h
         . rename_i ys F2 hb
           simp at h
           subst h
           exact qer hT hF hd ht hte (Nat.eq_of_beq_eq_true h1) (qv h2) (qv h3) (qv h4) hb hop
         . cases h
       . cases h
     . cases h
   . cases h
 . rename_i t l c
   split at h
   . rename_i e g1 g2 g3 g4 ht
     split at h
     . rename_i ty k1 n k2 m hte hl hc
       split at h
       . rename_i hok
         simp only [Bool.and_eq_true] at hok
         obtain ⟨⟨⟨⟨h1,h2⟩,h3⟩,h4⟩,h5⟩:=hok
         rw [kf] at h4
         split at h
         . rename_i ys hr
           simp at h
           subst h
           exact qix hT hF hd ht hte hl hc (by simpa [std] using h1) (qv h2) (qv h3) (Nat.eq_of_beq_eq_true h4) h5 hr hop
         . cases h
       . cases h
     . cases h
   . cases h
 . rename_i x y t t'
   split at h
   . rename_i e g1 g2 g3 g4 htt ht
     obtain rfl:=Nat.eq_of_beq_eq_true htt
     split at h
     . rename_i ty hte
       exact ZU hT hF hd ht hte h hop
     . cases h
   . cases h
 . unfold qfS at h
   split at h
   . rename_i q hq
     simp at h
     subst h
     subst hop
     obtain ⟨v,h1,h2⟩:=qiQ hT hF hq
     exact qng hF hd h1 h2
   . cases h
def qeT (P:Program)(F:Fr)(σ:Gh)(w:World)(a:Act)(o:Oper)(F':Fr):Prop :=
 ∀ (b:Frame) (k:List Item) (cs:List Frame) (ops:Array Oper) (i:Nat) (rest:List Nat),ops[i]?=some o->Region.wanted o (yielded ops a.tmps)=true →
  ∃ a' w' σ',Steps P (lone (b.at a (.inRegion ops (i::rest)::k)) cs w) (lone (b.at a' (.inRegion ops rest::k)) cs w')/\FR F' σ' w' (qC a')/\Dom F' σ' []/\qF w σ w' σ'/\F'.n=F.n/\a'.defers=a.defers/\a'.tmps.size=a.tmps.size
theorem zn (d:Option Tmp)(v:Value):(a.put d v).tmps.size=a.tmps.size:=by cases d<;>simp [Act.put]
theorem zL (d:Option Tmp)(v:Value):(a.put d v).defers=a.defers:=by cases d<;>rfl
theorem qes {d:Nat}(hd:d<PH):qC (a.put (some d) undef)=upd (qC a) d undef:=by
 by_cases h:d<a.tmps.size
 . exact Ql h hd
 . funext t
   unfold qC upd Act.put
   simp only [Array.getD_eq_getD_getElem?]
   by_cases e:d=t
   . subst e;rw [if_pos hd,if_pos rfl];simp [Array.getElem?_eq_none (show (a.tmps.setIfInBounds d undef).size<=d by simp;omega)]
   . rw [if_neg e,Array.getElem?_setIfInBounds_ne e]
theorem qij [qh] (hfu:qi.fut=qh.fut)(hF:FR F σ w (qC a))(hd:Dom F σ []){ora:Ora}(hO:∀ g args r,ora g args=some r->kM P g args r){d:Nat}(hlt:d<a.tmps.size)(hph:d<PH){f:Operand}{args:List Operand}{F':Fr}(h:VI std ora F d f args=some F')
 {o:Oper} (hdst:o.dst=some d) {ts:Array TypeId} (ho:o.op=.call ⟨.value f,⟨args⟩,ts⟩):qeT P F σ w a o F':=by
 intro b k cs ops i rest hoi hw
 unfold VI qk6 at h
 split at h
 . rename_i g caps as hcal has
   split at h
   . rename_i r hr
     obtain ⟨⟨fn,c,hf,hb,hnm⟩,hok⟩:=hO _ _ _ hr
     obtain ⟨vs,hfv,hvl,hvs⟩:=qaa hF hcal
     obtain ⟨hal,hav⟩:=qc9 hF args as has
     have hrun:(execOp a.eval o).run P w=.ok (.enter g ((args.map a.eval).toArray++vs)) w:=by
      have hnm' : ¬ fn.name = "runtime.NumGoroutine" := by simpa using hnm
      simp [execOp,ho,resolve,hfv,Deferred.ofValue,invoke,callFunc,hf,hb]
      exact hnm'
     have hsz:((args.map a.eval).toArray++vs).size=(as++QE caps).length:=by simp [hal,hvl,qaP]
     have hargs:∀ (J:Unit->qi),((∀ (k:Nat) (y:V1 C) (u:Value),as[k]?=some y->(args.map a.eval)[k]?=some u->qQ (fun _=>zz w) y u->(KK F args=true->qQ (fun _=>@qr (z8 σ) w (fun _=>none)) y u)->qQ (fun _=>@qr (J ()) w (fun _=>none)) y u)) →
      (∀ (k:Nat) (c:C) (u:Value),caps[k]?=some c->vs[k]?=some u->zz w c u->((ev F f).isFz=true->@qr (z8 σ) w (fun _=>none) c u)->@qr (J ()) w (fun _=>none) c u) →
      ∀ (k:Nat) (x:V1 C),(as++QE caps)[k]?=some x->∃ u,((args.map a.eval).toArray++vs)[k]?=some u/\qQ (fun _=>@qr (J ()) w (fun _=>none)) x u:=by
      intro J h1 h2 k x hk
      by_cases hk':k<as.length
      . rw [List.getElem?_append_left hk'] at hk
        obtain ⟨u,h3,h4,h5⟩:=hav k x hk
        refine ⟨u,?_,h1 k x u hk h3 h4 h5⟩
        rw [Array.getElem?_append_left (by simp;omega)]
        simpa using h3
      . rw [List.getElem?_append_right (by omega),qiC] at hk
        cases hc:caps[k-as.length]? with
        | none=>rw [hc] at hk;simp at hk
        | some c =>
          rw [hc] at hk
          simp at hk
          subst hk
          obtain ⟨u,h3,h4,h5⟩:=hvs _ c hc
          refine ⟨u,?_,h2 _ c u hc h3 h4 h5⟩
          rw [Array.getElem?_append_right (by simp;omega)]
          simpa [hal] using h3
     have hgo:∀ (J:Unit->qi),(r.cleanM std=true\/J ()=z8 σ)->(∀ b,@qi.memo (J ()) b=qi.memo b)->F.import std d r=some F'->Calls P g ((args.map a.eval).toArray++vs) w (fun e w'=>∃ v,e=.returned v/\@Zu (J ()) w r v w') →
      ∃ a' w' σ',Steps P (lone (b.at a (.inRegion ops (i::rest)::k)) cs w) (lone (b.at a' (.inRegion ops rest::k)) cs w')/\FR F' σ' w' (qC a')/\Dom F' σ' []/\qF w σ w' σ'/\F'.n=F.n/\a'.defers=a.defers/\a'.tmps.size=a.tmps.size:=by
      intro J hJ hme himp hcalls
      have hg:=stepG_op (P:=P) (b:=b) (k:=k) (cs:=cs) (w:=w) (rest:=rest) hoi hw
      obtain ⟨e,w',fr,⟨v,he,hres⟩,hsteps,_,hleave⟩:=hcalls (b.at a (.inRegion ops (i::rest)::k)::cs)
      subst he
      have henter:step P (lone (b.at a (.inRegion ops (i::rest)::k)) cs w)=.next (lone (Frame.enter P g ((args.map a.eval).toArray++vs) .normal) (b.at a (.inRegion ops (i::rest)::k)::cs) w) :=
       step_lone_go (by rw [hg];simp [stepG.apply,hrun,Frame.at])
      have hfin:(b.at a (.inRegion ops (i::rest)::k)).finish v=b.at (a.put o.dst v) (.inRegion ops rest::k):=by rw [Frame.finish_at,hoi];rfl
      obtain ⟨σ',h1,h2,h3,h4⟩:=qac hF hd (J1:=J) hres hJ hme himp
      refine ⟨a.put o.dst v,w',σ',.head henter (Steps.trans hsteps (.one ?_)),?_,h2,h3,h4,zL _ _,zn _ _⟩
      . rw [<-hfin];exact step_leave_returned hleave
      . rw [hdst,Ql hlt hph];exact h1
     split at h
     . rename_i hlend
       simp only [KK] at hlend
       split at hlend
       . rename_i hff
         refine hgo (fun _=>z8 σ) (.inr rfl) (fun _=>rfl) h (hok (z8 σ) w _ hfu (@Jh.mk (z8 σ) _ (fun b hb=>hb.elim (hF.old.lt b) (fun hne=>by
          cases hs:σ b with
          | none=>exact absurd hs hne
          | some x=>exact hF.lt b x hs)) hF.old.lo) hsz (hargs (fun _=>z8 σ) ?_ ?_))
         . intro k y u _ _ _ h5;exact h5 hlend
         . intro k c u _ _ _ h5;exact h5 hff
       . cases hlend
     . split at h
       . rename_i hcl
         refine hgo (fun _=>kc) (.inl hcl) (fun _=>rfl) h (hok kc w _ hfu (@Jh.mk kc _ (fun b hb=>hb.elim) hF.old.lo) hsz (hargs (fun _=>kc) ?_ ?_))
         . intro k y u _ _ h4 _;exact h4
         . intro k c u _ _ h4 _;exact h4
       . cases h
   . cases h
 . cases h
theorem qg7 [qh] (hfu:qi.fut=qh.fut)(hT:ka P T)(hF:FR F σ w (qC a))(hd:Dom F σ []){ora:Ora}(hO:∀ g args r,ora g args=some r->kM P g args r)(hn:F.n<=a.tmps.size){kn:Bool}{o:Oper}{F':Fr}(h:opS std T kn ora F o=some F'):qeT P F σ w a o F':=by
 unfold opS at h
 split at h
 . rename_i hdst
   split at h
   . rename_i t ad x hop
     split at h
     . rename_i ty ht
       obtain ⟨w',σ',hs⟩:=qfA hT hF hd ht h hop
       intro b k cs ops i rest hoi hw
       have hg:=stepG_op (P:=P) (b:=b) (k:=k) (cs:=cs) (w:=w) (rest:=rest) hoi hw
       have hfin:∀ v,(b.at a (.inRegion ops (i::rest)::k)).finish v=b.at (a.put o.dst v) (.inRegion ops rest::k):=by intro v;rw [Frame.finish_at,hoi];rfl
       have hput:a.put o.dst undef=a:=by rw [hdst];rfl
       refine ⟨a,w',σ',.one (step_lone_go ?_),hs.fr,hs.dom,hs.goes,hs.n,rfl,rfl⟩
       have hf:=hfin undef
       rw [hput] at hf
       rw [hg,<-hf]
       simp [stepG.apply,hs.run]
     . cases h
   . cases h
 . rename_i d hdst
   split at h
   . rename_i hlt
     obtain ⟨hlt1,hph⟩:=ZP hlt
     have hlt':d<a.tmps.size:=Nat.lt_of_lt_of_le hlt1 hn
     split at h
     . rename_i f args ts hop
       exact qij hfu hF hd hO hlt' hph h hdst hop
     . obtain ⟨v,w',σ',hm⟩:=qjH hT hF hd h
       intro b k cs ops i rest hoi hw
       have hg:=stepG_op (P:=P) (b:=b) (k:=k) (cs:=cs) (w:=w) (rest:=rest) hoi hw
       have hfin:∀ v,(b.at a (.inRegion ops (i::rest)::k)).finish v=b.at (a.put o.dst v) (.inRegion ops rest::k):=by intro v;rw [Frame.finish_at,hoi];rfl
       refine ⟨a.put o.dst v,w',σ',.one (step_lone_go ?_),?_,hm.dom,hm.goes,hm.n,zL _ _,zn _ _⟩
       . rw [hg,<-hfin]
         simp [stepG.apply,hm.run]
       . rw [hdst,Ql hlt' hph];exact hm.fr
   . cases h
end
end Go.Proofs.YtececadpjelanaaGreat.Ai
namespace Go.Proofs.YtececadpjelanaaGreat.Ai
open Go Go.RowKit
theorem qb3 [qi] {n:Nat}{b:Nat}(h:n<=b):@jE (JD n fun _=>none) (fun _=>none) b:=⟨rfl,fun h'=>h'.elim (fun h'=>by omega) (fun h'=>h' rfl)⟩
section
variable [qi] {w:World} {σ:Gh} {n:Nat}
theorem qo.new {p:qg}{o:O}{v:Value}(hn:∀ g x,σ g=some x->n<=g)(h:qo w σ p o v):o.clean=true->@qr (JD n fun _=>none) w (fun _=>none) o.frz v:=by
 induction h with
 | un p v hv=>intro h;cases h
 | fz p c v h=>exact fun hc=>h.swapFlat hc
 | oslz p b=>exact fun _=>@qr.sl (JD n fun _=>none) _ _ [] 0 b 0 (fun _ _=>undef) (Nat.le_refl _) (by simp) (by simp) (by simp) (by simp)
 | osl p xs e sz g cap cur us hh hc hcm hl hs hg hm hr ih =>
   intro hcl
   simp only [O.clean,O.cleanLL_eq,List.all_eq_true] at hcl
   have hlen:(O.frzLL xs).length=xs.length:=by simp [O.frzLL_eq]
   show @qr (JD n fun _=>none) w _ (.sl (O.frzLL xs)) _
   rw [<-hlen]
   have hget:∀ (i j:Nat) (y:List C) (c:C),(O.frzLL xs)[i]?=some y->y[j]?=some c->∃ y' o,xs[i]?=some y'/\y'[j]?=some o/\c=o.frz:=by
    intro i j y c hi hj
    rw [O.frzLL_eq,List.getElem?_map] at hi
    cases hx:xs[i]? with
    | none=>rw [hx] at hi;simp at hi
    | some y' =>
      rw [hx] at hi
      simp at hi
      subst hi
      rw [List.getElem?_map] at hj
      cases ho:y'[j]? with
      | none=>rw [ho] at hj;simp at hj
      | some o=>rw [ho] at hj;simp at hj;exact ⟨y',o,rfl,ho,hj.symm⟩
   refine @qr.sl (JD n fun _=>none) _ _ _ sz _ cap us (by omega) ?_ (fun _=>⟨_,rfl,rfl,ji hh,qb3 (hn _ _ hg)⟩) ?_ ?_
   . intro y hy
     rw [O.frzLL_eq] at hy
     obtain ⟨y',hy',rfl⟩:=List.mem_map.1 hy
     simpa using hs y' hy'
   . intro ad e i j y c hi hj
     injection e with e
     subst e
     obtain ⟨y',o,h1,h2,rfl⟩:=hget i j y c hi hj
     rw [qU]
     simp only [World.cell?,hh]
     simpa using hm i j y' o h1 h2
   . intro i j y c hi hj
     obtain ⟨y',o,h1,h2,rfl⟩:=hget i j y c hi hj
     exact ih i j y' o h1 h2 (hcl y' (List.mem_of_getElem? h1) o (List.mem_of_getElem? h2))
 | obx p cs g e cells us n' cap sz hh hl hg hm hr ih =>
   intro hcl
   simp only [O.clean,O.cleanL_eq,List.all_eq_true] at hcl
   show @qr (JD n fun _=>none) w _ (.ptr (O.frzL cs)) _
   have hget:∀ (j:Nat) (c:C),(O.frzL cs)[j]?=some c->∃ o,cs[j]?=some o/\c=o.frz:=by
    intro j c hj
    rw [O.frzL_eq,List.getElem?_map] at hj
    cases ho:cs[j]? with
    | none=>rw [ho] at hj;simp at hj
    | some o=>rw [ho] at hj;simp at hj;exact ⟨o,rfl,hj.symm⟩
   refine @qr.ptr (JD n fun _=>none) _ _ _ _ us rfl (ji hh) (qb3 (hn _ _ hg)) ?_ ?_
   . intro j c hj
     obtain ⟨o,h1,rfl⟩:=hget j c hj
     rw [qU]
     simp only [World.cell?,hh]
     simpa using hm j o h1
   . intro j c hj
     obtain ⟨o,h1,rfl⟩:=hget j c hj
     exact ih j o h1 (hcl o (List.mem_of_getElem? h1))
theorem qa5 {F:Fr}{vt:Nat->Value}(hF:FR F σ w vt)(hn:∀ g x,σ g=some x->n<=g){x:A}{c:C}{v:Value}(hx:qj w σ x v)(h:ww std F x=some c):@qr (JD n fun _=>none) w (fun _=>none) c v:=by
 unfold ww at h
 split at h
 . rename_i p off len
   split at h
   . rename_i xs hp
     split at h
     . rename_i hle hcl
       simp only [Option.some.injEq] at h
       subst h
       have hl:off+len<=xs.length:=by simpa [std] using hle
       have hcl:O.cleanLL xs=true:=hcl
       show @qr (JD n fun _=>none) w _ (.sl (O.frzLL ((xs.drop off).take len))) v
       obtain ⟨u,hu⟩:=zf hF p
       rw [hp] at hu
       have mt:∀ (a:Option Addr) (cap:Nat),@qr (JD n fun _=>none) w (fun _=>none) (.sl []) (.slice a 0 cap):=fun a cap =>
        @qr.sl (JD n fun _=>none) _ _ [] 0 a cap (fun _ _=>undef) (Nat.zero_le _) (by simp) (by simp) (by simp) (by simp)
       have h0:∀ (ys:List (List O)),O.frzLL (ys.take 0)=[]:=fun ys=>by simp [O.frzLL]
       cases hx with
       | rz _ _ b=>rw [h0];exact mt _ _
       | rf _ _ _ g n' cap sz hg hl' hn' =>
         have hfz:=hu.new hn hcl
         cases hu with
         | oslz =>
           simp at hl
           obtain ⟨rfl,rfl⟩:=hl
           rw [h0];exact mt _ _
         | osl _ _ e sz' g' cap' cur us hh hc' hcm hl2 hs' hg' hm hr =>
           obtain rfl:=hF.inj _ _ _ _ hg hg' rfl
           rw [hg] at hg'
           simp only [Option.some.injEq,Own.mk.injEq] at hg'
           obtain ⟨_,rfl,rfl,rfl⟩:=hg'
           have hz:∀ y∈O.frzLL xs,y.length=sz:=by
            intro y hy
            rw [O.frzLL_eq] at hy
            obtain ⟨y',hy',rfl⟩:=List.mem_map.1 hy
            simpa using hs' y' hy'
           have hL:(O.frzLL xs).length=xs.length:=by simp [O.frzLL_eq]
           have hfz':@qr (JD n fun _=>none) w (fun _=>none) (.sl (O.frzLL xs)) (.slice (some ⟨g,0,none⟩) (O.frzLL xs).length cap):=by rw [hL];exact hfz
           have:=@qaU (JD n fun _=>none) (l:=off) (h:=off+len) _ _ _ _ _ _ hfz' (by omega) (by rw [hL];omega) hz
           rw [show off+len-off=len by omega] at this
           rw [YD]
           unfold sliced at this
           by_cases he:cap=off
           . have h00:len=0:=by omega
             subst h00
             rw [show (List.take 0 (List.drop off (O.frzLL xs)))=[] by simp]
             exact mt _ _
           . rw [if_neg he] at this
             simpa [qU] using this
     . cases h
   . cases h
 . cases h
theorem Vp {F:Fr}{vt:Nat->Value}(hF:FR F σ w vt)(hn:∀ g x,σ g=some x->n<=g){x:A}{o:O}{v:Value}(hx:qj w σ x v)(h:qfL std F x=some o):(∀ p,w4 n w (fun _=>none) p o v)/\o.isFz=true:=by
 have key:∀ {a:A} {v:Value},qj w σ a v->(match ww std F a with | some c=>some (O.fz (.fn qfc [c])) | none=>none)=some o->(∀ p,w4 n w (fun _=>none) p o v)/\o.isFz=true:=by
  intro a v ha h
  split at h
  . rename_i c hc
    simp only [Option.some.injEq] at h
    subst h
    refine ⟨fun p=>?_,rfl⟩
    unfold w4
    have e:nzO (.fz (.fn qfc [c]))=some c:=rfl
    rw [e]
    exact qa5 hF hn ha hc
  . cases h
 cases x with
 | fz c =>
   simp only [qfL] at h
   split at h
   . rename_i hc
     simp only [Option.some.injEq] at h
     subst h
     refine ⟨fun p=>?_,rfl⟩
     unfold w4
     have e:nzO (.fz c)=none:=hc
     rw [e]
     exact .fz _ _ _ (hx.fz_inv.swap fun b _ hb=>⟨rfl,hb.2⟩)
   . cases h
 | _=>exact key hx h
theorem qhZ {F:Fr}:∀ {l:List A} {os:List O},yk std F l=some os->os.length=l.length/\∀ (j:Nat) (o:O),os[j]?=some o->∃ a,l[j]?=some a/\qfL std F a=some o:=by
 intro l
 induction l with
 | nil=>intro os h;simp only [yk,Option.some.injEq] at h;subst h;exact ⟨rfl,fun j o h=>by simp at h⟩
 | cons a l ih =>
   intro os h
   simp only [yk] at h
   split at h
   . rename_i o ho
     split at h
     . rename_i os' hos
       simp only [Option.some.injEq] at h
       subst h
       obtain ⟨h1,h2⟩:=ih hos
       refine ⟨by simp [h1],fun j x hj=>?_⟩
       cases j with
       | zero=>simp at hj;subst hj;exact ⟨a,rfl,ho⟩
       | succ j=>simpa using h2 j x (by simpa using hj)
     . cases h
   . cases h
end
end Go.Proofs.YtececadpjelanaaGreat.Ai
namespace Go.Proofs.YtececadpjelanaaGreat.Ai
open Go Go.RowKit
section
variable [qi] {P:Program} {T:Nat->Option Ty} {w w':World} {σ σ':Gh} {F:Fr} {vt:Nat->Value} {a:Act}
theorem ko {α:Type}(d:α)(l r:List (Nat×α))(t:Nat):qa d (l++r) t=if has l t then qa d l t else qa d r t:=by
 induction l with
 | nil=>simp [has]
 | cons x l ih =>
   obtain ⟨k,v⟩:=x
   simp only [List.cons_append,qa,has]
   by_cases e:k=t
   . subst e;simp
   . simp only [Zw e,cond_false];exact ih
theorem Qt {α:Type}(l r:List (Nat×α))(t:Nat):has (l++r) t=(has l t||has r t):=by
 induction l with
 | nil=>simp [has]
 | cons x l ih =>
   obtain ⟨k,v⟩:=x
   simp only [List.cons_append,has]
   by_cases e:k=t
   . subst e;simp
   . simp only [Zw e,cond_false];exact ih
theorem qc1:∀ (l:List Nat) (acc:List (Nat×O)) (t:Nat),qa .un (Ki F l acc) t=if has acc t then qa .un acc t else if t∈l then qa .un F.tb t else .un:=by
 intro l
 induction l with
 | nil =>
   intro acc t
   simp only [Ki]
   cases h:has acc t with
   | true=>simp
   | false=>simp [jw h]
 | cons id l ih =>
   intro acc t
   simp only [Ki]
   rw [ih]
   by_cases e:id=t
   . subst e
     cases h:has acc id with
     | true=>simp [h]
     | false =>
       have h1:has (acc++[(id,qa .un F.tb id)]) id=true:=by rw [Qt,h];simp [has]
       simp [h1,ko,h,qa]
   . have e':¬t=id:=fun h=>e h.symm
     cases h:has acc id with
     | true=>simp [e']
     | false =>
       have h1:has (acc++[(id,qa .un F.tb id)]) t=has acc t:=by rw [Qt];simp [has,Zw e]
       have h2:qa .un (acc++[(id,qa .un F.tb id)]) t=if has acc t then qa .un acc t else .un:=by rw [ko];simp [qa,Zw e]
       simp only [h1,h2,List.mem_cons,e',false_or]
       cases has acc t<;>simp
theorem qbW (l:List Nat)(t:Nat):qa unT (jL F l) t=if t∈l then qa unT F.tm t else unT:=by
 induction l with
 | nil=>rfl
 | cons x l ih =>
   simp only [jL]
   rw [qp,ih]
   by_cases e:x=t
   . subst e;simp
   . have e':¬t=x:=fun h=>e h.symm
     simp [e,e']
theorem qi6 {l:List Nat}{t id:Nat}(ht:t∈l)(h:id∈(qa unT F.tm t).ids):id∈vO (jL F l):=by
 induction l with
 | nil=>cases ht
 | cons x l ih =>
   simp only [jL,vO,List.mem_append]
   rcases List.mem_cons.1 ht with rfl | ht
   . exact .inl h
   . exact .inr (ih ht)
theorem qdb {l:List A}{j:Nat}{x:A}(h:l[j]?=some x){id:Nat}(hi:id∈x.ids):id∈A.idsL l:=by
 induction l generalizing j with
 | nil=>simp at h
 | cons y l ih =>
   simp only [A.idsL,List.mem_append]
   cases j with
   | zero=>simp at h;subst h;exact .inl hi
   | succ j=>exact .inr (ih (by simpa using h))
theorem qj.kept {S:Nat->Prop}(hk:∀ g y,σ g=some y->S y.p.1->σ' g=some y)(hst:kD w σ w σ'){x:A}{v:Value}(h:qj w σ x v):(∀ id,id∈x.ids->S id)->qj w σ' x v:=by
 induction h with
 | un v=>exact fun _=>.un v
 | ud=>exact fun _=>.ud
 | fz c v h=>exact fun _=>.fz c v (h.move (Nat.le_refl _) hst)
 | rf p off len g n cap sz hg hl hc=>exact fun hs=>.rf p off len g n cap sz (hk _ _ hg (hs _ (by simp [A.ids]))) hl hc
 | rz p off b=>exact fun _=>.rz p off b
 | pp p i j g n cap sz hg=>exact fun hs=>.pp p i j g n cap sz (hk _ _ hg (hs _ (by simp [A.ids])))
 | clo f caps vs us hl hm hr ih=>exact fun hs=>.clo f caps vs us hl hm (fun j c hj=>ih j c hj (fun id hi=>hs id (by simp only [A.ids];exact qdb hj hi)))
theorem qk5 {xs:List (V1 A)}{k:Nat}{x:V1 A}(h:xs[k]?=some x){id:Nat}(hi:id∈A.idsL x.2):id∈qhe xs:=by
 induction xs generalizing k with
 | nil=>simp at h
 | cons y l ih =>
   simp only [qhe,List.mem_append]
   cases k with
   | zero=>simp at h;subst h;exact .inl hi
   | succ k=>exact .inr (ih (by simpa using h))
theorem qN.kept {S:Nat->Prop}(hk:∀ g y,σ g=some y->S y.p.1->σ' g=some y)(hst:kD w σ w σ'){x:TV A}{v:Value}(h:qN (fun _ _=>qj w σ) x v)(hs:∀ id,id∈x.ids->S id):qN (fun _ _=>qj w σ') x v:=by
 have key:∀ {y:V1 A} {v:Value},(∀ id,id∈A.idsL y.2->S id)->qQ (fun _=>qj w σ) y v->qQ (fun _=>qj w σ') y v:=by
  intro y v hy h
  obtain ⟨g,as⟩:=y
  cases g with
  | true =>
    obtain ⟨cs,rfl,h1,h2⟩:=h
    refine ⟨cs,rfl,h1,fun j x hj=>?_⟩
    obtain ⟨u,h3,h4⟩:=h2 j x hj
    exact ⟨u,h3,h4.kept hk hst (fun id hi=>hy id (qdb hj hi))⟩
  | false =>
    match as,h with
    | [x],h =>
      have h':qj w σ x v:=h
      exact h'.kept hk hst (fun id hi=>hy id (by simp [A.idsL,hi]))
 cases x with
 | v x=>exact key hs h
 | tup xs =>
   obtain ⟨vs,rfl,h1,h2⟩:=h
   refine ⟨vs,rfl,h1,fun k x hk'=>?_⟩
   obtain ⟨u,h3,h4⟩:=h2 k x hk'
   exact ⟨u,h3,key (fun id hi=>hs id (qk5 hk' hi)) h4⟩
theorem Qj (hF:FR F σ w vt)(hd:Dom F σ [])(l:List Nat):∃ σ',FR (F.keep l) σ' w vt/\Dom (F.keep l) σ' []/\qF w σ w σ':=by
 let ids:=vO (jL F l)
 let σ':Gh:=fun g=>match σ g with | some y=>if y.p.1∈ids then some y else none | none=>none
 have hk:∀ g y,σ g=some y->y.p.1∈ids->σ' g=some y:=by intro g y hy hi;simp only [σ',hy,if_pos hi]
 have hsub:∀ g y,σ' g=some y->σ g=some y/\y.p.1∈ids:=by
  intro g y hy
  simp only [σ'] at hy
  split at hy
  . rename_i z hz
    split at hy
    . rename_i hi;injection hy with hy;subst hy;exact ⟨hz,hi⟩
    . cases hy
  . cases hy
 have hst:kD w σ w σ':=⟨fun b _ h0=>by simp only [σ',h0],fun _ _ _=>.inl rfl⟩
 have hlook:∀ t,qa .un (F.keep l).tb t=if t∈ids then qa .un F.tb t else .un:=by
  intro t
  show qa .un (Ki F (vO (jL F l)) []) t=_
  rw [qc1]
  simp [has,ids]
 refine ⟨σ',⟨fun g g' x y hx hy he=>hF.inj g g' x y (hsub g x hx).1 (hsub g' y hy).1 he,fun g x hx=>hF.lt g x (hsub g x hx).1,hF.old,fun t=>?_,fun t=>?_⟩,?_,⟨hst,Nat.le_refl _,rfl,rfl,rfl⟩⟩
 . rw [hlook]
   split
   . rename_i hi
     obtain ⟨v,hv⟩:=hF.tb t
     refine ⟨v,hv.move (Nat.le_refl _) hst _ ?_⟩
     intro g s n cap sz hg _
     exact ⟨rfl,hk g _ hg hi⟩
   . exact ⟨.bool false,.un _ _ rfl⟩
 . show qN _ (qa unT (jL F l) t) _
   rw [qbW]
   split
   . rename_i ht
     exact qN.kept (S:=fun id=>id∈ids) hk hst (hF.tm t) (fun id hi=>qi6 ht hi)
   . exact qj.un _
 . intro g x hx
   obtain ⟨h1,h2⟩:=hsub g x hx
   rcases hd g x h1 with h3 | ⟨_,_,_,h3,_⟩
   . left
     unfold Fr.at at h3 ⊢
     rw [hlook,if_pos h2]
     exact h3
   . cases h3
theorem qbs (l:List Oper)(g:Nat):Kg l g=l[g]?:=by
 induction l generalizing g with
 | nil=>simp [Kg]
 | cons o l ih=>cases g<;>simp [Kg,ih]
theorem qb0 (hF:FR F σ w (qC a)){all:Array Oper}{g:Nat}:(∀ b:Bool,QI F all g=.fz (.bool b)->yielded all a.tmps g=some b)/\(QI F all g=.ud->yielded all a.tmps g=none):=by
 obtain ⟨l⟩:=all
 have key:∀ (t:Nat),qj w σ (one (qa unT F.tm t)) (qC a t):=fun t=>wS (hF.tm t)
 unfold QI
 simp only [qbs]
 refine ⟨fun b h=>?_,fun h=>?_⟩
 . split at h
   . rename_i t _ _ _ _ _ hl
     split at h
     . rename_i hph
       have hk:=key t
       rw [h] at hk
       have hv:=hk.fz_inv.bool_inv
       unfold yielded
       simp only [List.getElem?_toArray,hl,Option.bind_some]
       rw [Zx (j8.1 hph),Array.getD_eq_getD_getElem?] at hv
       cases ht:a.tmps[t]? with
       | none=>rw [ht] at hv;simp [undef] at hv
       | some u=>rw [ht] at hv;simp at hv;subst hv;rfl
     . cases h
   . cases h
 . split at h
   . rename_i t _ _ _ _ _ hl
     split at h
     . rename_i hph
       have hk:=key t
       rw [h] at hk
       have hv:qC a t=undef:=by
        generalize qC a t=v at hk
        cases hk
        rfl
       unfold yielded
       simp only [List.getElem?_toArray,hl,Option.bind_some]
       rw [Zx (j8.1 hph),Array.getD_eq_getD_getElem?] at hv
       cases ht:a.tmps[t]? with
       | none=>rfl
       | some u=>rw [ht] at hv;simp at hv;subst hv;rfl
     . cases h
   . cases h
theorem Ze (hF:FR F σ w (qC a))(hd:Dom F σ [])(o:Oper):FR (ZY F o) σ w (qC (a.put o.dst undef))/\Dom (ZY F o) σ []/\(ZY F o).n=F.n:=by
 unfold ZY
 cases o.dst with
 | none=>exact ⟨hF,hd,rfl⟩
 | some d =>
   dsimp only
   split
   . rename_i ht
     rw [qes (j8.1 ht)]
     exact ⟨hF.put (show qN _ _ _ from qj.ud),hd,rfl⟩
   . rename_i ht
     have hge:¬d<PH:=fun h=>by rw [j8.2 h] at ht;cases ht
     have:qC (a.put (some d) undef)=qC a:=by
      funext t
      unfold qC Act.put
      simp only [Array.getD_eq_getD_getElem?]
      by_cases e:t<PH
      . have hne:d≠t:=fun h=>hge (h▸e)
        rw [if_pos e,if_pos e,Array.getElem?_setIfInBounds_ne hne]
      . rw [if_neg e,if_neg e]
     rw [this]
     exact ⟨hF,hd,rfl⟩
def qP:K->Item
 | .c x=>.code x
 | .r all l=>.inRegion all (List.range' (all.size-l.length) l.length)
 | .bl id=>.inBlock id
 | .lp b=>.inLoop b
def okK:K->Prop
 | .r all l=>l.length<=all.size/\l=all.toList.drop (all.size-l.length)
 | _=>True
theorem Jo {id:Nat}:∀ {ks ks':List K},KX id ks=some ks'->exitTo id (ks.map qP)=some (ks'.map qP)/\∀ k∈ks',k∈ks:=by
 intro ks
 induction ks with
 | nil=>intro ks' h;simp [KX] at h
 | cons k ks ih =>
   intro ks' h
   cases k with
   | bl id' =>
     simp only [KX] at h
     split at h
     . rename_i e
       have e:=Nat.eq_of_beq_eq_true e
       simp at h
       subst h
       refine ⟨by simp [qP,exitTo,e],fun k hk=>List.mem_cons_of_mem _ hk⟩
     . rename_i e
       obtain ⟨h1,h2⟩:=ih h
       refine ⟨?_,fun k hk=>List.mem_cons_of_mem _ (h2 k hk)⟩
       have:(id' == id)=false:=by
        cases hb:(id' == id) with
        | false=>rfl
        | true=>rw [beq_iff_eq] at hb;subst hb;simp at e
       simp only [List.map_cons,qP,exitTo,this,Bool.false_eq_true,if_false]
       exact h1
   | c x=>obtain ⟨h1,h2⟩:=ih (show KX id ks=some ks' from h);exact ⟨h1,fun k hk=>List.mem_cons_of_mem _ (h2 k hk)⟩
   | r all l=>obtain ⟨h1,h2⟩:=ih (show KX id ks=some ks' from h);exact ⟨h1,fun k hk=>List.mem_cons_of_mem _ (h2 k hk)⟩
   | lp b=>obtain ⟨h1,h2⟩:=ih (show KX id ks=some ks' from h);exact ⟨h1,fun k hk=>List.mem_cons_of_mem _ (h2 k hk)⟩
def qgI (ks:List K)(its:List Item):Prop:=its=ks.map qP\/∃ b ks',ks=.c (.loop b)::ks'/\its=.inLoop b::ks'.map qP
end
class za where
 nf:Bool
@[reducible] def qcP:za:=⟨true⟩
@[reducible] def qmk:za:=⟨false⟩
def NF [za] (J:qi)(σ:Gh):Prop:=za.nf=true->∀ g x,σ g=some x->¬J.J g
theorem NF.step [za] {J:qi}{σ σ':Gh}{w w':World}(h:NF J σ)(hold:@Jh J w)(hg:@qF J w σ w' σ'):NF J σ':=fun hm g x hx hj=>by
 cases hs:σ g with
 | none =>
   have:=hg.st.none_ g (hold.lt g hj) hs
   rw [hx] at this
   cases this
 | some y=>exact h hm g y hs hj
def Ex [qh] [za] (P:Program)(ks:List K)(F:Fr)(Post:Fr->Prop):Prop :=
 ∀ (J:qi) (a:Act) (w:World) (σ:Gh),J.fut=qh.fut->(∀ k∈ks,okK k)->@FR J F σ w (qC a)->Dom F σ []->NF J σ->F.n<=a.tmps.size->∀ (its:List Item),qgI ks its->∀ (b:Frame) (cs:List Frame),
  ∃ F' a' w' σ' todo,Post F'/\Steps P (lone (b.at a its) cs w) (lone { b.at a' todo with mode:=.returning } cs w')/\@FR J F' σ' w' (qC a')/\Dom F' σ' []/\qF w σ w' σ'/\F'.n=F.n/\a'.defers=a.defers/\a'.tmps.size=a.tmps.size
def qY [qh] (P:Program)(F:Fr)(o:Oper)(F':Fr):Prop :=
 ∀ (J:qi) (a:Act) (w:World) (σ:Gh),J.fut=qh.fut->@FR J F σ w (qC a)->Dom F σ []->F.n<=a.tmps.size->@qeT J P F σ w a o F'
theorem qY.of_opS [qh] {P:Program}{T:Nat->Option Ty}{F:Fr}(hT:ka P T){ora:Ora}(hO:∀ g args r,ora g args=some r->kM P g args r){kn:Bool}{o:Oper}{F':Fr}(h:opS std T kn ora F o=some F'):qY P F o F':=by
 intro J a w σ hfut hF hd hn
 letI:=J
 exact qg7 hfut hT hF hd hO hn h
section
variable [qh] [za] {P:Program} {ks:List K} {F F1:Fr} {Post:Fr->Prop}
omit [qh] [za] in
theorem FR.drawn [J:qi] {σ:Gh}{w:World}{vt:Nat->Value}(h:FR F σ w vt)(n:Nat):FR F σ { w with drawn:=n } vt :=
 h.grow (w':={ w with drawn:=n }) ⟨rfl,rfl,rfl,Nat.le_refl _,fun _ _=>rfl⟩ (fun _ _=>rfl) h.inj h.lt
omit [qh] [za] in
theorem qF.drawn [qi] (w:World)(σ:Gh)(n:Nat):qF w σ { w with drawn:=n } σ:=⟨⟨fun _ _ h=>h,fun _ _ _=>.inl rfl⟩,Nat.le_refl _,rfl,rfl,rfl⟩
omit [qh] [za] in
theorem zg {k:K}(h:∀ x∈k::ks,okK x):∀ x∈ks,okK x:=fun x hx=>h x (List.mem_cons_of_mem _ hx)
omit [qh] [za] in
theorem zm {k:K}(h0:okK k)(h:∀ x∈ks,okK x):∀ x∈k::ks,okK x:=fun x hx=>(List.mem_cons.1 hx).elim (fun e=>e▸h0) (h x)
theorem Ex.same {ks':List K}(hk:(∀ k∈ks,okK k)->∀ k∈ks',okK k)(hs:∀ (a:Act) (b:Frame) (cs:List Frame) (w:World) (its:List Item),qgI ks its->∃ its',qgI ks' its'/\Steps P (lone (b.at a its) cs w) (lone (b.at a its') cs w))
 (h:Ex P ks' F Post):Ex P ks F Post:=by
 intro J a w σ hfut hok hF hd hnf hn its hi b cs
 obtain ⟨its',h1,h2⟩:=hs a b cs w its hi
 obtain ⟨F',a',w',σ',todo,k0,k1,k2⟩:=h J a w σ hfut (hk hok) hF hd hnf hn its' h1 b cs
 exact ⟨F',a',w',σ',todo,k0,h2.trans k1,k2⟩
omit [qh] [za] in
theorem ze {k:K}(hk:∀ b,k≠.c (.loop b)){its:List Item}(h:qgI (k::ks) its):its=(k::ks).map qP:=by
 rcases h with h | ⟨b,ks',h,_⟩
 . exact h
 . injection h with h _
   exact absurd h (hk b)
theorem Ex.nil (h:Post F):Ex P [] F Post:=by
 intro J a w σ hfut hok hF hd hnf hn its hi b cs
 rcases hi with rfl | ⟨_,_,h',_⟩
 . exact ⟨F,a,w,σ,[],h,.one step_end,hF,hd,qF.refl _ _,rfl,rfl,rfl⟩
 . cases h'
theorem Ex.ret (h:Post F):Ex P (.c .ret::ks) F Post:=by
 intro J a w σ hfut hok hF hd hnf hn its hi b cs
 obtain rfl:=ze (by intro b;simp) hi
 exact ⟨F,a,w,σ,_,h,.one step_ret,hF,hd,qF.refl _ _,rfl,rfl,rfl⟩
theorem Ex.bl {id:Nat}(h:Ex P ks F Post):Ex P (.bl id::ks) F Post :=
 h.same zg fun a b cs w its hi=>⟨ks.map qP,.inl rfl,by rw [ze (by intro b;simp) hi];exact .one step_inBlock⟩
theorem Ex.lp {bd:Code}(h:Ex P (.c (.loop bd)::ks) F Post):Ex P (.lp bd::ks) F Post :=
 h.same (fun hk=>zm (by trivial) (zg hk)) fun a b cs w its hi=>⟨_,.inr ⟨bd,ks,rfl,rfl⟩,by rw [ze (by intro b;simp) hi];exact .refl P _⟩
theorem Ex.skip (h:Ex P ks F Post):Ex P (.c .skip::ks) F Post :=
 h.same zg fun a b cs w its hi=>⟨ks.map qP,.inl rfl,by rw [ze (by intro b;simp) hi];exact .one step_skip⟩
theorem Ex.seq {x y:Code}(h:Ex P (.c x::.c y::ks) F Post):Ex P (.c (.seq x y)::ks) F Post :=
 h.same (fun hk=>zm (by trivial) (zm (by trivial) (zg hk))) fun a b cs w its hi=>⟨_,.inl rfl,by rw [ze (by intro b;simp) hi];exact .one step_seq⟩
theorem Ex.block {id:Nat}{x:Code}(h:Ex P (.c x::.bl id::ks) F Post):Ex P (.c (.block id x)::ks) F Post :=
 h.same (fun hk=>zm (by trivial) (zm (by trivial) (zg hk))) fun a b cs w its hi=>⟨_,.inl rfl,by rw [ze (by intro b;simp) hi];exact .one step_block⟩
theorem Ex.exit {id:Nat}{ks':List K}(hp:KX id ks=some ks')(h:Ex P ks' F Post):Ex P (.c (.exit id)::ks) F Post :=
 h.same (fun hk x hx=>zg hk x ((@Jo qG _ _ _ hp).2 x hx)) fun a b cs w its hi=>⟨_,.inl rfl,by rw [ze (by intro b;simp) hi];exact .one (step_exit (@Jo qG _ _ _ hp).1)⟩
theorem Ex.reg {id:Nat}{l:List Oper}(h:Ex P (.r ⟨l⟩ l::ks) F Post):Ex P (.c (.region id ⟨l⟩ false)::ks) F Post :=
 h.same (fun hk=>zm (show okK (.r ⟨l⟩ l) from ⟨by simp,by simp⟩) (zg hk)) fun a b cs w its hi=>⟨_,.inl rfl,by
  rw [ze (by intro b;simp) hi]
  have:(K.r ⟨l⟩ l::ks).map qP=.inRegion ⟨l⟩ (List.range l.length)::ks.map qP:=by simp [qP,List.range_eq_range']
  rw [this]
  exact .one step_region⟩
theorem Ex.reg_end {all:Array Oper}(h:Ex P ks F Post):Ex P (.r all []::ks) F Post :=
 h.same zg fun a b cs w its hi=>⟨_,.inl rfl,by
  rw [ze (by intro b;simp) hi]
  have:(K.r all []::ks).map qP=.inRegion all []::ks.map qP:=by simp [qP]
  rw [this]
  exact .one step_region_end⟩
theorem Ex.weakN {G:Fr}(hn':G.n=F.n)(hw:∀ (J:qi) (σ:Gh) (w:World) (vt:Nat->Value),@FR J F σ w vt->Dom F σ []->NF J σ->∃ σ',@FR J G σ' w vt/\Dom G σ' []/\qF w σ w σ')(h:Ex P ks G Post):Ex P ks F Post:=by
 intro J a w σ hfut hok hF hd hnf hn its hi b cs
 obtain ⟨σ1,h1,h2,h3⟩:=hw J σ w _ hF hd hnf
 obtain ⟨F',a',w',σ',todo,k0,k1,k2,k3,k4,k5,k6⟩:=h J a w σ1 hfut hok h1 h2 (hnf.step hF.old h3) (by omega) its hi b cs
 exact ⟨F',a',w',σ',todo,k0,k1,k2,k3,h3.trans k4,k5.trans hn',k6⟩
theorem Ex.weak {G:Fr}(hn':G.n=F.n)(hw:∀ (J:qi) (σ:Gh) (w:World) (vt:Nat->Value),@FR J F σ w vt->Dom F σ []->∃ σ',@FR J G σ' w vt/\Dom G σ' []/\qF w σ w σ')(h:Ex P ks G Post):Ex P ks F Post :=
 Ex.weakN hn' (fun J σ w vt hF hd _=>hw J σ w vt hF hd) h
theorem Ex.loop {bd:Code}(l:List Nat)(h:Ex P (.c bd::.lp bd::ks) (F.keep l) Post):Ex P (.c (.loop bd)::ks) F Post:=by
 refine Ex.weak (G:=F.keep l) rfl (fun J σ w vt hF hd=>?_) ?_
 . letI:=J
   exact Qj hF hd l
 . refine h.same (fun hk=>zm (by trivial) (zm (by trivial) (zg hk))) fun a b cs w its hi=>⟨_,.inl rfl,?_⟩
   rcases hi with rfl | ⟨_,_,h',rfl⟩
   . exact .one step_loop
   . injection h' with h1 h2
     injection h1 with h1
     injection h1 with h1
     subst h1 h2
     exact .one step_inLoop
theorem Ex.cond {y:Operand}{x1 x2:Code}{t:Bool}(hy:ev1 F y=.fz (.bool t))(h:Ex P (.c (match t with | true=>x1 | false=>x2)::ks) F Post):Ex P (.c (.cond y x1 x2)::ks) F Post:=by
 intro J a w σ hfut hok hF hd hnf hn its hi b cs
 letI:=J
 obtain rfl:=ze (by intro b;simp) hi
 have hv:=qt hF y
 rw [hy] at hv
 have hv:=hv.fz_inv.bool_inv
 obtain ⟨F',a',w',σ',todo,k0,k1,k2⟩:=h J a w σ hfut (zm (by trivial) (zg hok)) hF hd hnf hn _ (.inl rfl) b cs
 refine ⟨F',a',w',σ',todo,k0,.head ?_ k1,k2⟩
 cases t<;>exact step_cond hv
omit [qh] [za] in
theorem qgT {all:Array Oper}{o:Oper}{l:List Oper}(h:okK (.r all (o::l))):okK (.r all l)/\all[all.size-(l.length+1)]?=some o/\l.length+1<=all.size:=by
 obtain ⟨hl1,hl2⟩:=h
 have hi:all[all.size-(l.length+1)]?=some o:=by
  have:(all.toList.drop (all.size-(l.length+1)))[0]?=some o:=by
   have:=congrArg (fun x:List Oper=>x[0]?) hl2
   simpa using this.symm
  simpa using this
 have hl1':l.length+1<=all.size:=by simpa using hl1
 refine ⟨⟨by omega,?_⟩,hi,hl1'⟩
 have:=congrArg List.tail hl2
 simp only [List.tail_cons,List.tail_drop,List.length_cons] at this
 exact this.trans (by congr 1;omega)
omit [qh] [za] in
theorem qgh {all:Array Oper}{o:Oper}{l:List Oper}(h:l.length+1<=all.size):(K.r all (o::l)::ks).map qP=.inRegion all ((all.size-(l.length+1))::List.range' (all.size-l.length) l.length)::ks.map qP:=by
 simp only [List.map_cons,qP,List.length_cons,List.range'_succ]
 rw [show all.size-(l.length+1)+1=all.size-l.length by omega]
def zV (F:Fr)(all:Array Oper)(o:Oper)(b:Bool):Prop:=match o.guard with
 | none=>b=true
 | some (g,want)=>QI F all g=.fz (.bool (match b with | true=>want | false=>!want))\/(b=false/\QI F all g=.ud)
omit [qh] [za] in
theorem zV.sound {J:qi}{σ:Gh}{w:World}{a:Act}{all:Array Oper}{o:Oper}{b:Bool}(h:zV F all o b)(hF:FR F σ w (qC a)):Region.wanted o (yielded all a.tmps)=b:=by
 unfold zV at h
 unfold Region.wanted
 split at h
 . rename_i hg;rw [hg];exact h.symm
 . rename_i g want hg
   rw [hg]
   obtain ⟨h1,h2⟩:=qb0 (all:=all) (g:=g) hF
   show (yielded all a.tmps g == some want)=b
   rcases h with h | ⟨rfl,h⟩
   . rw [h1 _ h]
     cases b<;>cases want<;>rfl
   . rw [h2 h]
     cases want<;>rfl
theorem Ex.op {all:Array Oper}{o:Oper}{l:List Oper}(hw:zV F all o true)(ho:qY P F o F1)(h:Ex P (.r all l::ks) F1 Post):Ex P (.r all (o::l)::ks) F Post:=by
 intro J a w σ hfut hok hF hd hnf hn its hi b cs
 letI:=J
 obtain rfl:=ze (by intro b;simp) hi
 obtain ⟨h1,h2,h3⟩:=qgT (hok _ List.mem_cons_self)
 obtain ⟨a1,w1,σ1,k1,k2,k3,k4,k5,k6,k7⟩:=ho J a w σ hfut hF hd hn b (ks.map qP) cs all _ (List.range' (all.size-l.length) l.length) h2 (hw.sound hF)
 rw [qgh h3]
 obtain ⟨F',a',w',σ',todo,m0,m1,m2,m3,m4,m5,m6,m7⟩:=h J a1 w1 σ1 hfut (zm h1 (zg hok)) k2 k3 (hnf.step hF.old k4) (by omega) _ (.inl rfl) b cs
 exact ⟨F',a',w',σ',todo,m0,k1.trans m1,m2,m3,k4.trans m4,m5.trans k5,m6.trans k6,m7.trans k7⟩
theorem Ex.op_not {all:Array Oper}{o:Oper}{l:List Oper}(hw:zV F all o false)(h:Ex P (.r all l::ks) (ZY F o) Post):Ex P (.r all (o::l)::ks) F Post:=by
 intro J a w σ hfut hok hF hd hnf hn its hi b cs
 letI:=J
 obtain rfl:=ze (by intro b;simp) hi
 obtain ⟨h1,h2,h3⟩:=qgT (hok _ List.mem_cons_self)
 obtain ⟨g1,g2,g3⟩:=Ze hF hd o
 have hs:=step_op_skip (P:=P) (b:=b) (a:=a) (k:=ks.map qP) (cs:=cs) (w:=w) (ops:=all) (i:=all.size-(l.length+1)) (rest:=List.range' (all.size-l.length) l.length) (by rw [h2];simpa using hw.sound hF)
 rw [h2] at hs
 simp only [Option.bind_some] at hs
 rw [qgh h3]
 obtain ⟨F',a',w',σ',todo,m0,m1,m2,m3,m4,m5,m6,m7⟩:=h J (a.put o.dst undef) w σ hfut (zm h1 (zg hok)) g1 g2 hnf (by rw [g3,zn];exact hn) _ (.inl rfl) b cs
 exact ⟨F',a',w',σ',todo,m0,.head hs m1,m2,m3,m4,m5.trans g3,m6.trans (zL _ _),m7.trans (zn _ _)⟩
end
end Go.Proofs.YtececadpjelanaaGreat.Ai
namespace Go.Proofs.YtececadpjelanaaGreat.Ai
open Go Go.RowKit
def ky {α:Type}:List α->Nat->Nat->α->List α
 | [],_,_,_=>[]
 | a::r,0,0,_=>a::r
 | _::r,0,n+1,z=>z::ky r 0 n z
 | a::r,off+1,n,z=>a::ky r off n z
theorem kP {α:Type}:∀ (l:List α) (off n:Nat) (z:α),(ky l off n z).length=l.length
 | [],_,_,_=>rfl
 | a::r,0,0,z=>rfl
 | a::r,0,n+1,z=>by simp [ky,kP r 0 n z]
 | a::r,off+1,n,z=>by simp [ky,kP r off n z]
theorem jG {α:Type}:∀ (l:List α) (off n:Nat) (z:α) (i:Nat),(ky l off n z)[i]?=if off<=i/\i<off+n/\i<l.length then some z else l[i]?
 | [],off,n,z,i=>by simp [ky]
 | a::r,0,0,z,i=>by rw [if_neg (by omega)];rfl
 | a::r,0,n+1,z,0=>by simp [ky]
 | a::r,0,n+1,z,i+1=>by
   simp only [ky,List.getElem?_cons_succ,List.length_cons,jG r 0 n z i]
   by_cases h:i<n/\i<r.length
   . rw [if_pos (by omega),if_pos (by omega)]
   . rw [if_neg (by omega),if_neg (by omega)]
 | a::r,off+1,n,z,0=>by simp [ky]
 | a::r,off+1,n,z,i+1=>by
   simp only [ky,List.getElem?_cons_succ,List.length_cons,jG r off n z i]
   by_cases h:off<=i/\i<off+n/\i<r.length
   . rw [if_pos (by omega),if_pos (by omega)]
   . rw [if_neg (by omega),if_neg (by omega)]
theorem W7 {α β:Type}(f:α->β):∀ (l:List α) (off n:Nat) (z:α),(ky l off n z).map f=ky (l.map f) off n (f z)
 | [],_,_,_=>rfl
 | a::r,0,0,z=>rfl
 | a::r,0,n+1,z=>by simp [ky,W7 f r 0 n z]
 | a::r,off+1,n,z=>by simp [ky,W7 f r off n z]
theorem qiV {α:Type}{l:List α}{off n:Nat}{z:α}(h:off+n<l.length):ky l off (n+1) z=(ky l off n z).set (off+n) z:=by
 apply List.ext_getElem?
 intro i
 rw [jG,List.getElem?_set,jG,kP]
 by_cases e:off+n=i
 . subst e
   rw [if_pos ⟨by omega,by omega,h⟩,if_pos rfl,if_pos h]
 . rw [if_neg e]
   by_cases h2:off<=i/\i<off+n/\i<l.length
   . rw [if_pos (by omega),if_pos h2]
   . rw [if_neg (by omega),if_neg h2]
theorem FR.alike [qi] {F G:Fr}{σ:Gh}{w:World}{vt:Nat->Value}(h:FR F σ w vt)(htb:∀ id,qa .un G.tb id=qa .un F.tb id)(htm:G.tm=F.tm):FR G σ w vt :=
 ⟨h.inj,h.lt,h.old,fun id=>by rw [htb];exact h.tb id,fun t=>by rw [htm];exact h.tm t⟩
section
variable [qi] {P:Program} {w:World} {σ:Gh} {F:Fr} {vt:Nat->Value}
def Fr.re (F:Fr)(r:Nat)(o:O):Fr:={ F with tb:=(r,o)::del F.tb r }
theorem qmK {r:Nat}{o:O}(x:qg):(F.re r o).at std x=if r=x.1 then o.at std x.2 else F.at std x:=by
 unfold Fr.at Fr.re
 dsimp only
 rw [qp]
 by_cases e:r=x.1
 . rw [if_pos e,if_pos e]
 . rw [if_neg e,if_neg e,qM,if_neg e]
theorem qle {xs:List (List O)}(hf:(xs.all fun y=>y.all O.isFz)=true){x:Nat×Nat}{s:List (Nat×Nat)}{n:Nat}:¬Fit ((O.osl xs).at std (x::s)) n:=by
 obtain ⟨i,j⟩:=x
 simp only [O.at,std]
 cases hi:xs[i]? with
 | none=>simp [Fit]
 | some y =>
   dsimp only
   rw [qq]
   cases hj:y[j]? with
   | none=>simp [Fit]
   | some o =>
     have:o.isFz=true:=List.all_eq_true.1 (List.all_eq_true.1 hf y (List.mem_of_getElem? hi)) o (List.mem_of_getElem? hj)
     cases o with
     | fz c=>cases s<;>simp [O.at,Fit]
     | _=>simp [O.isFz] at this
theorem FR.setOne (h:FR F σ w vt){r g n cap i:Nat}{xs:List (List O)}(hg:σ g=some ⟨(r,[]),n,cap,1⟩)(hp:F.at std (r,[])=.osl xs)(hi:i<xs.length)(h1:∀ y∈xs,y.length=1){c:C}{u:Value}(hr:qr w σ c u) :
 FR (F.re r (.osl (xs.set i [.fz c]))) σ (w.setCell ⟨g,i,none⟩ u) vt:=by
 have hy:=h1 _ (List.getElem_mem hi)
 have hc:zP (F.at std (r,[])) i 0:=by rw [hp];exact ⟨xs[i],List.getElem?_eq_getElem hi,by omega⟩
 have:=h.setCell hg hc (qo.fz (r,[]++[(i,0)]) c u hr)
 rw [Nat.mul_one,Nat.add_zero] at this
 refine this.alike (fun id=>?_) rfl
 show qa .un ((r,.osl (xs.set i [.fz c]))::del F.tb r) id=qa .un ((r,(qa .un F.tb r).set std [(i,0)] (.fz c))::del F.tb r) id
 have e:qa .un F.tb r=.osl xs:=by
  have:(qa .un F.tb r).at std []=.osl xs:=hp
  rw [at_empty0] at this
  exact this
 have e2:(O.osl xs).set std [(i,0)] (.fz c)=.osl (xs.set i [.fz c]):=by
  have hy2:∃ o,xs[i]=[o]:=by
   match hh:xs[i],hy with
   | [o],_=>exact ⟨o,rfl⟩
  obtain ⟨o,ho⟩:=hy2
  simp only [O.set,std,List.getElem?_eq_getElem hi,ho,nth,Vy]
 rw [e,e2]
where at_empty0 (o:O):o.at std []=o:=by cases o<;>rfl
theorem qoa {r:Nat}{o o':O}(id:Nat):qa .un ((F.re r o).re r o').tb id=qa .un (F.re r o').tb id:=by
 show qa .un ((r,o')::del ((r,o)::del F.tb r) r) id=qa .un ((r,o')::del F.tb r) id
 simp only [qp,qM]
 by_cases e:r=id
 . simp only [if_pos e]
 . simp only [if_neg e]
theorem FR.zap (h:FR F σ w vt){r g n cap off:Nat}{xs:List (List O)}(hg:σ g=some ⟨(r,[]),n,cap,1⟩)(hp:F.at std (r,[])=.osl xs)(h1:∀ y∈xs,y.length=1){c:C}{u:Value}(hr:∀ w,qr w σ c u):∀ (k:Nat),off+k<=xs.length →
 FR (F.re r (.osl (ky xs off k [.fz c]))) σ (w.setCells g off (List.replicate k u)) vt:=by
 intro k
 induction k with
 | zero =>
   intro _
   have e:ky xs off 0 [.fz c]=xs:=by
    apply List.ext_getElem?
    intro i
    rw [jG,if_neg (by omega)]
   rw [e]
   refine h.alike (fun id=>?_) rfl
   show qa .un ((r,.osl xs)::del F.tb r) id=_
   rw [qp,qM]
   by_cases e:r=id
   . subst e
     rw [if_pos rfl]
     have:(qa .un F.tb r).at std []=.osl xs:=hp
     rw [FR.setOne.at_empty0] at this
     exact this.symm
   . rw [if_neg e,if_neg e]
 | succ k ih =>
   intro hk
   have h2:=ih (by omega)
   have h3:=h2.setOne (i:=off+k) (xs:=ky xs off k [.fz c]) (c:=c) (u:=u) hg (by rw [qmK,if_pos rfl];exact FR.setOne.at_empty0 _) (by rw [kP];omega) (fun y hy=>by
    obtain ⟨i,hi⟩:=List.getElem?_of_mem hy
    rw [jG] at hi
    split at hi
    . simp at hi;subst hi;rfl
    . exact h1 y (List.mem_of_getElem? hi)) (hr _)
   rw [qiV (by omega)]
   have e:w.setCells g off (List.replicate (k+1) u)=(w.setCells g off (List.replicate k u)).setCell ⟨g,off+k,none⟩ u:=by
    clear ih h2 h3 hk h
    induction k generalizing w off with
    | zero=>rfl
    | succ k ih =>
      rw [List.replicate_succ,World.setCells,ih,List.replicate_succ,World.setCells,show off+1+k=off+(k+1) by omega]
   rw [e]
   exact h3.alike (fun id=>(qoa id).symm) rfl
theorem KQ (g:Nat):∀ (vs:List Value) (o:Nat) (w:World),(w.setCells g o vs).heap.size=w.heap.size/\(w.setCells g o vs).os=w.os/\(w.setCells g o vs).tape=w.tape/\(w.setCells g o vs).output=w.output/\∀ b,b≠g->(w.setCells g o vs).heap[b]?=w.heap[b]?
 | [],o,w=>⟨rfl,rfl,rfl,rfl,fun _ _=>rfl⟩
 | v::r,o,w=>by
   obtain ⟨h1,h2,h3,h4,h5⟩:=KQ g r (o+1) (w.setCell ⟨g,o,none⟩ v)
   exact ⟨by rw [World.setCells,h1];simp,by rw [World.setCells,h2];rfl,by rw [World.setCells,h3];rfl,by rw [World.setCells,h4];rfl,fun b hb=>by rw [World.setCells,h5 b hb];exact heap_setCell_other w _ _ _ hb⟩
end
def qe4:C->Bool
 | .int _ _=>true
 | .bool _=>true
 | .str _=>true
 | _=>false
def qaJ (M:Ops)(T:Nat->Option Ty)(F:Fr)(t:TypeId)(x:Operand):Option Fr :=
 match T t with
 | some ⟨.sl e,_,_,_,_⟩=>(match T e with
   | some ⟨_,_,1,_,[c]⟩=>(match qe4 c,ev1 F x with
     | true,.rf (r,[]) off len=>(match F.at M (r,[]) with
       | .osl xs=>(match M.nLe (M.nAdd off len) (M.oLen xs)&&M.oSz 1 xs&&M.oFlat xs with
         | true=>some (F.re r (.osl (ky xs off len [.fz c])))
         | false=>none)
       | _=>none)
     | _,_=>none)
   | _=>none)
 | _=>none
theorem Dom.re [qi] {F:Fr}{σ:Gh}(hd:Dom F σ []){r:Nat}{xs ys:List (List O)}(hp:F.at std (r,[])=.osl xs)(hl:ys.length=xs.length)(hf:(xs.all fun y=>y.all O.isFz)=true):Dom (F.re r (.osl ys)) σ []:=by
 intro g x hx
 left
 rcases hd g x hx with h | ⟨_,_,_,h,_⟩
 . rw [qmK]
   by_cases e:r=x.p.1
   . rw [if_pos e]
     obtain ⟨⟨pr,ps⟩,n,cap,sz⟩:=x
     dsimp only at e h ⊢
     subst e
     cases ps with
     | nil=>rw [hp] at h;obtain ⟨h1,h2⟩:=h;exact ⟨by omega,h2⟩
     | cons z s =>
       exfalso
       have e2:F.at std (r,z::s)=(O.osl xs).at std (z::s):=by
        have:qa .un F.tb r=.osl xs:=by
         have:(qa .un F.tb r).at std []=.osl xs:=hp
         rwa [FR.setOne.at_empty0] at this
        show (qa .un F.tb r).at std (z::s)=_
        rw [this]
       rw [e2] at h
       exact qle hf h
   . rw [if_neg e];exact h
 . cases h
theorem yL (u:Value)(n:Nat):(Builtin.zeroCells #[u] n).toList=List.replicate n u:=by
 unfold Builtin.zeroCells
 apply List.ext_getElem?
 intro i
 simp only [Array.toList_map,List.getElem?_map,List.getElem?_replicate]
 by_cases h:i<n
 . simp [h,Nat.mod_one]
 . simp [h]
theorem qY.of_clear [qh] {P:Program}{T:Nat->Option Ty}{F F':Fr}(hT:ka P T){o:Oper}(hdst:o.dst=none){t:TypeId}{x:Operand}(ho:o.op=.call ⟨.builtin .clear,⟨[x]⟩,⟨[t]⟩⟩)(h:qaJ std T F t x=some F'):qY P F o F':=by
 intro J a w σ hfut hF hd hn b k cs ops i rest hoi hw
 letI:=J
 unfold qaJ at h
 split at h
 . rename_i e g1 g2 g3 g4 ht
   split at h
   . rename_i k0 agg by0 c hte
     split at h
     . rename_i r off len hc hx
       split at h
       . rename_i xs hp
         split at h
         . rename_i hcond
           simp only [Option.some.injEq] at h
           subst h
           simp only [Bool.and_eq_true] at hcond
           obtain ⟨⟨h1,h2⟩,h3⟩:=hcond
           have h1:off+len<=xs.length:=by simpa [std] using h1
           have h2:∀ y∈xs,y.length=1:=by simpa [std] using h2
           have h3:(xs.all fun y=>y.all O.isFz)=true:=by simpa [std] using h3
           obtain ⟨inf,u0,z0,hi0,hu0,hz0,he0⟩:=qz (hT _ _ ht)
           injection he0 with he0
           have hu0':=ja he0.symm
           subst hu0'
           obtain ⟨inf1,u1,z1,hi1,hu1,hz1,he1⟩:=qz (hT _ _ hte)
           injection he1 with _ _ _ _ hzc
           obtain ⟨u,hzu,hcu⟩:∃ u,z1.cells=#[u]/\jU u=c:=by
            have hl:z1.cells.toList.length=1:=by have:=congrArg List.length hzc;simpa using this.symm
            match hh:z1.cells.toList,hl with
            | [u],_ =>
              rw [hh] at hzc
              refine ⟨u,by apply Array.ext';rw [hh],?_⟩
              simpa using hzc.symm
           have hr:∀ w,qr w σ c u:=by
            intro w'
            rcases Ke (w:=w') (σ:=σ) u with h | h
            . rw [hcu] at h;exact h.fz_inv
            . rw [hcu] at h;rw [h] at hc;simp [qe4] at hc
           have hg:=stepG_op (P:=P) (b:=b) (k:=k) (cs:=cs) (w:=w) (rest:=rest) hoi hw
           have hfin:∀ v,(b.at a (.inRegion ops (i::rest)::k)).finish v=b.at (a.put o.dst v) (.inRegion ops rest::k):=by intro v;rw [Frame.finish_at,hoi];rfl
           have hput:∀ v,a.put o.dst v=a:=by intro v;rw [hdst];rfl
           have done:∀ w',(execOp a.eval o).run P w=.ok (.value (.tuple #[])) w'->FR (F.re r (.osl (ky xs off len [.fz c]))) σ w' (qC a)->qF w σ w' σ →
            ∃ a' w' σ',Steps P (lone (b.at a (.inRegion ops (i::rest)::k)) cs w) (lone (b.at a' (.inRegion ops rest::k)) cs w')/\FR (F.re r (.osl (ky xs off len [.fz c]))) σ' w' (qC a')/\Dom (F.re r (.osl (ky xs off len [.fz c]))) σ' []/\qF w σ w' σ'/\(F.re r (.osl (ky xs off len [.fz c]))).n=F.n/\a'.defers=a.defers/\a'.tmps.size=a.tmps.size:=by
            intro w' hrun hF' hgo
            refine ⟨a,w',σ,.one (step_lone_go ?_),hF',hd.re hp (kP _ _ _ _) h3,hgo,rfl,rfl,rfl⟩
            have hf:=hfin (.tuple #[])
            rw [hput] at hf
            rw [hg,<-hf]
            simp [stepG.apply,hrun]
           have hxr:=qt hF x
           rw [hx] at hxr
           generalize hae:a.eval x=v at hxr
           have hnop:len=0->(∃ a0 cap0,v=.slice a0 0 cap0)->_:=fun h0 hv=>done w (by
            obtain ⟨a0,cap0,rfl⟩:=hv
            simp only [execOp,ho]
            simp [resolve,invoke,hae,Builtin.clear_,builtin,hu0]
            cases a0<;>simp [Builtin.clear_,underlying,hu0]) (by
            subst h0
            have e:ky xs off 0 [.fz c]=xs:=by
             apply List.ext_getElem?
             intro i
             rw [jG,if_neg (by omega)]
            rw [e]
            refine hF.alike (fun id=>?_) rfl
            show qa .un ((r,.osl xs)::del F.tb r) id=_
            rw [qp,qM]
            by_cases e:r=id
            . subst e
              rw [if_pos rfl]
              have:(qa .un F.tb r).at std []=.osl xs:=hp
              rw [FR.setOne.at_empty0] at this
              exact this.symm
            . rw [if_neg e,if_neg e]) (qF.refl w σ)
           cases hxr with
           | rz=>exact hnop rfl ⟨_,_,rfl⟩
           | rf _ _ _ g n cap sz hg' hl hn' =>
             by_cases h0:len=0
             . subst h0;exact hnop rfl ⟨_,_,rfl⟩
             . obtain ⟨v',hv'⟩:=zf hF (r,[])
               rw [hp] at hv'
               cases hv' with
               | oslz=>simp at h1;omega
               | osl _ _ e' sz' g' cap' cur us hh hc' hcm hl2 hs' hg'' hm hr' =>
                 obtain rfl:=hF.inj _ _ _ _ hg' hg'' rfl
                 rw [hg'] at hg''
                 simp only [Option.some.injEq,Own.mk.injEq] at hg''
                 obtain ⟨_,rfl,rfl,rfl⟩:=hg''
                 have hsz:sz=1:=by
                  have hlt:0<xs.length:=by omega
                  rw [<-hs' _ (List.getElem_mem hlt),h2 _ (List.getElem_mem hlt)]
                 subst hsz
                 have hkeep:=KQ g (List.replicate len u) off w
                 refine done (w.setCells g off (List.replicate len u)) ?_ (hF.zap hg' hp h2 hr len h1) ⟨⟨fun _ _ h=>h,fun b _ h0=>.inl (hkeep.2.2.2.2 b (by rintro rfl;rw [hg'] at h0;cases h0))⟩,by omega,hkeep.2.1,hkeep.2.2.1,hkeep.2.2.2.1⟩
                 have hst:=run_storeCells_cells (P:=P) g off (List.replicate len u) 0 w (fun j hj=>by
                  simp at hj
                  have:off+0+j<cur.size:=by omega
                  simp only [World.cell?,hh]
                  rw [if_neg (by simp),Array.getElem?_eq_getElem this]
                  rfl) (fun j hj=>by simp [World.frozen?,hh]) (by
                  intro v hv
                  rw [List.mem_replicate] at hv
                  rw [hv.2]
                  exact (hr w).one)
                 simp only [Nat.add_zero] at hst
                 simp only [execOp,ho]
                 have hz':(zeroValue e).run P w=.ok z1 w:=by simp [zeroValue,run_typeInfo w hi1,hz1]
                 obtain ⟨len,rfl⟩:∃ m,len=m+1:=⟨len-1,by omega⟩
                 simp [resolve,invoke,hae,builtin,Builtin.clear_,underlying,hu0,hz',hzu,yL,hst]
         . cases h
       . cases h
     . cases h
   . cases h
 . cases h
end Go.Proofs.YtececadpjelanaaGreat.Ai
namespace Go.Proofs.YtececadpjelanaaGreat.Ai
open Go Go.RowKit
def Fr.shr (M:Ops)(F:Fr)(t r n:Nat)(xs:List (List O)):Fr:=⟨F.n,(t,.v (false,[.rf (r,[]) 0 n]))::QS (qV M (r,[])) F.tm,(r,.osl (M.oCut xs 0 n))::del F.tb r⟩
structure qgG (F:Fr)(t r n:Nat)(xs:List (List O)):Prop where
 tm:qa unT F.tm t=.v (false,[.rf (r,[]) 0 n])
 ob:F.at std (r,[])=.osl xs
 pos:0<n
 le:n<=xs.length
section
variable [qi] {P:Program} {w:World} {σ:Gh} {F:Fr} {vt:Nat->Value}
open Classical in
noncomputable def K0 (σ:Gh)(r n:Nat):Gh:=fun b=>match σ b with
 | some x=>if x.p=(r,[]) then some { x with n:=n } else if ∃ i j s,x.p=(r,(i,j)::s)/\n<=i then none else some x
 | none=>none
theorem Kw {r n b:Nat}{y:Own}(h:K0 σ r n b=some y):∃ x,σ b=some x/\y.p=x.p/\y.cap=x.cap/\y.sz=x.sz/\(x.p≠(r,[])->y=x)/\(x.p=(r,[])->y.n=n)/\∀ i j s,x.p=(r,(i,j)::s)->i<n:=by
 unfold K0 at h
 split at h
 . rename_i x hx
   split at h
   . rename_i hp
     injection h with h
     subst h
     exact ⟨x,hx,rfl,rfl,rfl,fun h=>absurd hp h,fun _=>rfl,fun i j s e=>by rw [hp] at e;injection e with _ e;cases e⟩
   . rename_i hp
     split at h
     . cases h
     . rename_i hq
       injection h with h
       subst h
       exact ⟨x,hx,rfl,rfl,rfl,fun _=>rfl,fun h=>absurd h hp,fun i j s e=>Nat.lt_of_not_le fun hl=>hq ⟨i,j,s,e,hl⟩⟩
 . cases h
theorem J9 {r n b:Nat}{x:Own}(h:σ b=some x)(hp:x.p≠(r,[]))(hq:∀ i j s,x.p=(r,(i,j)::s)->i<n):K0 σ r n b=some x:=by
 unfold K0;rw [h];dsimp only;rw [if_neg hp,if_neg fun ⟨i,j,s,e,hl⟩=>by have:=hq i j s e;omega]
theorem qlI {r n b:Nat}{x:Own}(h:σ b=some x)(hp:x.p=(r,[])):K0 σ r n b=some { x with n:=n }:=by
 unfold K0;rw [h];dsimp only;rw [if_pos hp]
theorem qd3 {r n:Nat}:kD w σ w (K0 σ r n):=⟨fun b _ h0=>by unfold K0;rw [h0],fun _ _ _=>.inl rfl⟩
theorem qhv (hF:FR F σ w vt)(hd:Dom F σ []){t r n:Nat}{xs:List (List O)}(h:qgG F t r n xs):∃ σ',FR (F.shr std t r n xs) σ' w vt/\Dom (F.shr std t r n xs) σ' []/\qF w σ w σ':=by
 have hst:kD w σ w (K0 σ r n):=qd3
 have hlook:qa .un F.tb r=.osl xs:=by
  have:(qa .un F.tb r).at std []=.osl xs:=h.ob
  rwa [FR.setOne.at_empty0] at this
 have ht:=hF.tm t
 rw [h.tm] at ht
 have ht:qj w σ (.rf (r,[]) 0 n) (vt t):=ht
 have hpos:=h.pos
 have hle:=h.le
 obtain ⟨v0,hv0⟩:=hF.tb r
 rw [hlook] at hv0
 have hne:∀ {p:qg},qV std (r,[]) p=some p->p≠(r,[]):=fun {p} hk e=>by
  subst e
  rw [kq ⟨rfl,[],rfl⟩] at hk
  cases hk
 have hkill:∀ {p q:qg},qV std (r,[]) p=some q->q=p/\p≠(r,[])/\∀ i j s,p=(r,(i,j)::s)->i<n:=fun {p q} hk=>by
  by_cases hu:Und (r,[]) p
  . rw [kq hu] at hk;cases hk
  . have hk':=hk
    rw [zi hu] at hk
    injection hk with hk
    subst hk
    exact ⟨rfl,fun e=>hu ⟨by rw [e],[],by rw [e];rfl⟩,fun i j s e=>absurd ⟨by rw [e],(i,j)::s,by rw [e];rfl⟩ hu⟩
 have key:∀ {x:A} {y:Value},qj w σ x y->qj w (K0 σ r n) (x.tr (qV std (r,[]))) y:=by
  intro x y hx
  induction hx with
  | un v=>exact .un v
  | ud=>exact .ud
  | fz c v h0=>exact .fz c v (h0.move (Nat.le_refl _) hst)
  | rf p off len g n' cap sz h1 h2 h3 =>
    simp only [A.tr]
    split
    . rename_i q hk
      obtain ⟨e1,e2,e3⟩:=hkill hk
      subst e1
      exact .rf _ off len g n' cap sz (J9 h1 e2 e3) h2 h3
    . exact .un _
  | rz p off b =>
    simp only [A.tr]
    split
    . exact .rz _ off b
    . exact .un _
  | pp p i j g n' cap sz h1 =>
    simp only [A.tr]
    split
    . rename_i q hk
      obtain ⟨e1,e2,e3⟩:=hkill hk
      subst e1
      exact .pp _ i j g n' cap sz (J9 h1 e2 e3)
    . exact .un _
  | clo f caps vs us hl hm hr ih =>
    simp only [A.tr,ju]
    refine .clo f _ vs us (by simpa using hl) ?_ ?_
    . intro j c hj
      rw [List.getElem?_map] at hj
      cases hc:caps[j]? with
      | none=>rw [hc] at hj;simp at hj
      | some y=>exact hm j y hc
    . intro j c hj
      rw [List.getElem?_map] at hj
      cases hc:caps[j]? with
      | none=>rw [hc] at hj;simp at hj
      | some y=>rw [hc] at hj;simp at hj;subst hj;exact ih j y hc
 have keyV:∀ {x:V1 A} {y:Value},qQ (fun _=>qj w σ) x y->qQ (fun _=>qj w (K0 σ r n)) (trV (qV std (r,[])) x) y:=by
  intro x y hx
  unfold trV
  rw [ju]
  exact qQ.map (fun _ _ _ h=>key h) hx
 have keyT:∀ u,qN (fun _ _=>qj w (K0 σ r n)) (qa unT (QS (qV std (r,[])) F.tm) u) (vt u):=by
  intro u
  rw [zY]
  have hx:=hF.tm u
  generalize qa unT F.tm u=x at hx
  cases x with
  | v x=>exact keyV hx
  | tup xs =>
    obtain ⟨vs,h1,h2,h3⟩:=hx
    refine ⟨vs,h1,by simp [jc,h2],fun k y hk=>?_⟩
    rw [jc,List.getElem?_map] at hk
    cases hc:xs[k]? with
    | none=>rw [hc] at hk;simp at hk
    | some z =>
      rw [hc] at hk
      simp at hk
      subst hk
      obtain ⟨u,h4,h5⟩:=h3 k z hc
      exact ⟨u,h4,keyV h5⟩
 generalize hvt:vt t=vv at ht
 cases ht with
 | rz=>omega
 | rf _ _ _ g n0 cap sz hg h2 h3 =>
   cases hv0 with
   | oslz=>simp at hle;omega
   | osl _ _ e sz' g' cap' cur us hh hc' hcm hl2 hs' hg' hm hr =>
     obtain rfl:=hF.inj _ _ _ _ hg hg' rfl
     rw [hg] at hg'
     simp only [Option.some.injEq,Own.mk.injEq] at hg'
     obtain ⟨_,rfl,rfl,rfl⟩:=hg'
     have hg2:=qlI (n:=n) hg rfl
     have hcl:(std.oCut xs 0 n).length=n:=by simp [std];omega
     have hcg:∀ (i:Nat) (y:List O),(std.oCut xs 0 n)[i]?=some y->xs[i]?=some y:=by
      intro i y hi
      simp only [std,List.drop_zero,List.getElem?_take] at hi
      split at hi
      . exact hi
      . cases hi
     refine ⟨K0 σ r n,⟨?_,?_,hF.old,?_,?_⟩,?_,⟨hst,Nat.le_refl _,rfl,rfl,rfl⟩⟩
     . intro a b x y hx hy he
       obtain ⟨x',h4,h5,_⟩:=Kw hx
       obtain ⟨y',h6,h7,_⟩:=Kw hy
       exact hF.inj a b x' y' h4 h6 (by rw [<-h5,<-h7];exact he)
     . intro a x hx
       obtain ⟨x',h4,_⟩:=Kw hx
       exact hF.lt a x' h4
     . intro id
       show ∃ v,qo w (K0 σ r n) (id,[]) (qa .un ((r,.osl (std.oCut xs 0 n))::del F.tb r) id) v
       rw [qp,qM]
       by_cases e1:r=id
       . subst e1
         rw [if_pos rfl]
         refine ⟨.slice (some ⟨g,0,none⟩) n cap,?_⟩
         have hgo:=@qo.osl _ w (K0 σ r n) (r,[]) (std.oCut xs 0 n) e sz g cap cur us hh ⟨by omega,by omega⟩ hcm hl2 (fun y hy=>by
          obtain ⟨i,hi⟩:=List.getElem?_of_mem hy
          exact hs' y (List.mem_of_getElem? (hcg i y hi))) (by rw [hcl];exact hg2) (fun i j y o hi hj=>hm i j y o (hcg i y hi) hj) (fun i j y o hi hj=>by
          have hin:i<n:=by rw [<-hcl];exact (List.getElem?_eq_some_iff.1 hi).1
          refine (hr i j y o (hcg i y hi) hj).move (Nat.le_refl _) hst _ fun g2 s n2 cap2 sz2 hg3 _=>⟨rfl,J9 hg3 (fun e=>?_) fun i2 j2 s2 e=>?_⟩
          . have:=congrArg Prod.snd e
            simp at this
          . have:=congrArg Prod.snd e
            simp at this
            omega)
         rw [hcl] at hgo
         exact hgo
       . rw [if_neg e1,if_neg e1]
         obtain ⟨v,hv⟩:=hF.tb id
         refine ⟨v,hv.move (Nat.le_refl _) hst _ ?_⟩
         intro b s n' cap' sz' hb _
         exact ⟨rfl,J9 hb (fun e2=>e1 (congrArg Prod.fst e2).symm) fun i j s e2=>absurd (congrArg Prod.fst e2).symm e1⟩
     . intro u
       show qN _ (qa unT ((t,TV.v (false,[A.rf (r,[]) 0 n]))::QS (qV std (r,[])) F.tm) u) (vt u)
       rw [qp]
       by_cases e1:t=u
       . subst e1
         rw [if_pos rfl,hvt]
         exact qj.rf (r,[]) 0 n g n cap sz hg2 (by omega) (by omega)
       . rw [if_neg e1];exact keyT u
     . intro b y hy
       left
       obtain ⟨x,h4,h5,_,_,h6,h7,h10⟩:=Kw hy
       show Fit ((qa .un ((r,.osl (std.oCut xs 0 n))::del F.tb r) y.p.1).at std y.p.2) y.n
       rw [qp,qM]
       rcases hd b x h4 with h8 | ⟨_,_,_,h8,_⟩
       . by_cases e1:r=y.p.1
         . rw [if_pos e1]
           by_cases e2:x.p=(r,[])
           . rw [h5,e2,h7 e2]
             show Fit ((O.osl (std.oCut xs 0 n)).at std []) n
             rw [FR.setOne.at_empty0]
             exact ⟨hcl,hpos⟩
           . have e3:x.p.1=r:=by rw [<-h5];exact e1.symm
             have h9:Fit ((O.osl xs).at std x.p.2) x.n:=by
              have:(qa .un F.tb x.p.1).at std x.p.2=(O.osl xs).at std x.p.2:=by rw [e3,hlook]
              rw [<-this];exact h8
             rw [h6 e2]
             cases hp2:x.p.2 with
             | nil=>exact absurd (Prod.ext e3 hp2) e2
             | cons z s =>
               obtain ⟨i,j⟩:=z
               have hin:i<n:=h10 i j s (Prod.ext e3 hp2)
               rw [hp2] at h9
               have hxi:(std.oCut xs 0 n)[i]?=xs[i]?:=by
                simp only [std,List.drop_zero,List.getElem?_take]
                rw [if_pos hin]
               have e4:(O.osl (std.oCut xs 0 n)).at std ((i,j)::s)=(O.osl xs).at std ((i,j)::s):=by
                have e5:∀ zs:List (List O),(O.osl zs).at std ((i,j)::s)=match zs[i]? with | some y=>(match nth y j with | some o=>O.at std o s | none=>.un) | none=>.un:=fun zs=>by
                 rw [O.at];rfl
                rw [e5,e5,hxi]
               rw [e4]
               exact h9
         . rw [if_neg e1,if_neg e1]
           by_cases e2:x.p=(r,[])
           . exact absurd (by rw [h5,e2]) e1
           . rw [h6 e2];exact h8
       . cases h8
end
end Go.Proofs.YtececadpjelanaaGreat.Ai
namespace Go.Proofs.YtececadpjelanaaGreat.Ai
open Go Go.RowKit
variable [qh]
section
variable [qi] {P:Program} {T:Nat->Option Ty} {w w':World} {σ σ':Gh} {F:Fr} {a:Act}
theorem qgA {p:qg}(hb:ke σ p){x:A}{v:Value}(h1:qj w σ x v):qj w' σ' (x.tr (qV std p)) v->qj w' σ' x v:=by
 induction h1 with
 | un v=>exact fun h=>h
 | ud=>exact fun h=>h
 | fz c v h=>exact fun h=>h
 | rf q off len g n cap sz hg hl hn =>
   intro h
   have e:qV std p q=some q:=zi (hb g _ hg)
   simpa only [A.tr,e] using h
 | rz q off b=>exact fun _=>.rz q off b
 | pp q i j g n cap sz hg =>
   intro h
   have e:qV std p q=some q:=zi (hb g _ hg)
   simpa only [A.tr,e] using h
 | clo f caps vs us hl hm hr ih =>
   intro h
   simp only [A.tr] at h
   cases h with
   | clo _ _ _ us' hl' hm' hr' =>
     refine .clo f caps vs us hl hm fun j c hj=>?_
     have e:(A.trL (qV std p) caps)[j]?=some (c.tr (qV std p)):=by rw [ju,List.getElem?_map,hj];rfl
     have h3:=hm' j _ e
     have h4:=hr' j _ e
     rw [hm j c hj] at h3
     injection h3 with h3
     rw [<-h3] at h4
     exact ih j c hj h4
theorem qfX {p:qg}(hb:ke σ p){x:V1 A}{v:Value}(h1:qQ (fun _=>qj w σ) x v)(h2:qQ (fun _=>qj w' σ') (trV (qV std p) x) v):qQ (fun _=>qj w' σ') x v:=by
 obtain ⟨g,as⟩:=x
 cases g with
 | false =>
   match as,h1,h2 with
   | [b],h1,h2=>exact qgA hb h1 h2
   | [],h1,_=>exact h1.elim
   | _::_::_,h1,_=>exact h1.elim
 | true =>
   obtain ⟨cs,rfl,hsz,hc⟩:=h1
   obtain ⟨cs',e,hsz',hc'⟩:=h2
   injection e with e
   subst e
   refine ⟨cs,rfl,hsz,fun j b hj=>?_⟩
   obtain ⟨u,hu,hr⟩:=hc j b hj
   obtain ⟨u',hu',hr'⟩:=hc' j (b.tr (qV std p)) (by simp only [trV,ju];rw [List.getElem?_map,hj];rfl)
   rw [hu] at hu'
   injection hu' with hu'
   rw [<-hu'] at hr'
   exact ⟨u,hu,qgA hb hr hr'⟩
theorem YX {p:qg}(hb:ke σ p){x:TV A}{v:Value}(h1:qN (fun _ _=>qj w σ) x v)(h2:qN (fun _ _=>qj w' σ') (x.tr (qV std p)) v):qN (fun _ _=>qj w' σ') x v:=by
 cases x with
 | v x=>exact qfX hb h1 h2
 | tup xs =>
   obtain ⟨vs,rfl,hsz,hc⟩:=h1
   obtain ⟨vs',e,hsz',hc'⟩:=h2
   injection e with e
   subst e
   refine ⟨vs,rfl,hsz,fun k x hk=>?_⟩
   obtain ⟨u,hu,hr⟩:=hc k x hk
   obtain ⟨u',hu',hr'⟩:=hc' k (trV (qV std p) x) (by rw [jc,List.getElem?_map,hk];rfl)
   rw [hu] at hu'
   injection hu' with hu'
   rw [<-hu'] at hr'
   exact ⟨u,hu,qfX hb hr hr'⟩
theorem qim (τ:qg->Option qg)(v:Value):(jR v).tr τ=jR v:=by
 unfold jR
 split<;>rfl
theorem ql0 (τ:qg->Option qg)(x:TV A):one (x.tr τ)=(one x).tr τ:=by
 cases x with
 | tup xs=>rfl
 | v x =>
   obtain ⟨g,as⟩:=x
   cases g with
   | true=>rfl
   | false =>
     match as with
     | []=>rfl
     | [b]=>rfl
     | b::c::r=>rfl
theorem Z5 (p:qg)(x:Operand):ev1 (F.drop std p) x=(ev1 F x).tr (qV std p):=by
 cases x with
 | tmp t =>
   show one (match nlt t PH with | true=>qa unT (QS _ (F.less std p).tm) t | false=>unT)=(one (match nlt t PH with | true=>qa unT F.tm t | false=>unT)).tr _
   rw [zY,Kr]
   split
   . exact ql0 _ _
   . rfl
 | const v =>
   show one (jP v)=(one (jP v)).tr _
   unfold jP
   split
   . rfl
   . rfl
   . simp only [one]
     exact (qim _ _).symm
 | func f=>rfl
 | global g=>rfl
end
def vQ (M:Ops)(F:Fr):A->Bool
 | .fz .nilsl=>true
 | .rf (r,[]) off len=>(match F.at M (r,[]) with
   | .osl []=>M.nEq off 0&&M.nEq len 0
   | _=>false)
 | _=>false
def Yl (M:Ops):A->Option (List (List O))
 | .fz .nilsl=>some []
 | .fz (.sl zs)=>some (M.oOf zs)
 | _=>none
section
variable [qi] {P:Program} {T:Nat->Option Ty} {w w':World} {σ σ':Gh} {F:Fr} {a:Act}
theorem Dom.bare (hd:Dom F σ []){r:Nat}(h:qa .un F.tb r=.un\/qa .un F.tb r=.osl []):ke σ (r,[]):=by
 intro g x hx hu
 rcases hd g x hx with h' | ⟨_,_,_,h',_⟩
 . have e:F.at std x.p=(qa .un F.tb r).at std x.p.2:=by unfold Fr.at;rw [hu.1]
   rw [e] at h'
   rcases h with h | h
   . rw [h,kv] at h';exact h'
   . rw [h] at h'
     cases hs:x.p.2 with
     | nil=>rw [hs] at h';exact absurd h'.2 (by have:=h'.1;simp at this;omega)
     | cons y s=>rw [hs] at h';obtain ⟨i,j⟩:=y;simp [O.at,std,Fit] at h'
 . cases h'
theorem qdv (hT:ka P T)(hF:FR F σ w (qC a))(hd:Dom F σ []){d t e:Nat}{ty:Ty}{g1:Bool}{g2 g3:Nat}{g4:List C}(ht:T t=some ⟨.sl e,g1,g2,g3,g4⟩)(hte:T e=some ty){x y:Operand}{ys:List (List O)}
 (hfr:has F.tb (rid d 0 0)=false) (hx:vQ std F (ev1 F x)=true) (hy:Yl std (ev1 F y)=some ys)
 (hok:(std.nLe (std.oLen ys) lim&&nle ty.bytes 4096&&nlt 0 ty.size&&nq (cnt ty.zero) ty.size&&std.oSz ty.size ys)=true) {o:Oper} (ho:o.op=.call ⟨.builtin .append,⟨[x,y]⟩,⟨[t,t]⟩⟩) :
 ∃ v w' σ',ZJ P F σ w a d (execOp a.eval o) ((F.root (rid d 0 0) (.osl ys)).put d (rfV (rid d 0 0) (std.oLen ys))) v w' σ':=by
 have hb0:ke σ (rid d 0 0,[]):=hd.bare (.inl (jw hfr))
 have hy':∀ p:qg,ZI std (F.drop std p) (ev1 (F.drop std p) y)=some (ys,none)/\∀ q:qg,ZI std ((F.drop std p).drop std q) (ev1 ((F.drop std p).drop std q) y)=some (ys,none):=by
  intro p
  rw [Z5]
  refine ⟨?_,fun q=>?_⟩
  . unfold Yl at hy
    split at hy
    . rename_i h;rw [h];injection hy with hy;subst hy;rfl
    . rename_i h;rw [h];injection hy with hy;subst hy;rfl
    . cases hy
  . rw [Z5,Z5]
    unfold Yl at hy
    split at hy
    . rename_i h;rw [h];injection hy with hy;subst hy;rfl
    . rename_i h;rw [h];injection hy with hy;subst hy;rfl
    . cases hy
 have hsz:std.oSz ty.size []=true:=rfl
 have key:∀ F1:Fr,KR std (F.drop std (rid d 0 0,[])) (ev1 (F.drop std (rid d 0 0,[])) x)=some ([],F1)->ZI std F1 (ev1 F1 y)=some (ys,none) →
  ZB std ty d x y (F.drop std (rid d 0 0,[]))=some ((F1.root (rid d 0 0) (.osl ys)).put d (rfV (rid d 0 0) (std.oLen ys))):=by
  intro F1 h1 h2
  have e1:std.oLen ([]:List (List O))=0:=rfl
  have e2:std.oCat [] ys=ys:=rfl
  have e3:std.nAdd 0 (std.oLen ys)=std.oLen ys:=Nat.zero_add _
  unfold ZB
  simp only [h1,h2,e1,e2,e3,hsz,Bool.and_true,hok,YQ]
 unfold vQ at hx
 split at hx
 . rename_i hxe
   have h1:KR std (F.drop std (rid d 0 0,[])) (ev1 (F.drop std (rid d 0 0,[])) x)=some ([],F.drop std (rid d 0 0,[])):=by rw [Z5,hxe];rfl
   obtain ⟨v,w',σ',hm⟩:=ZU hT hF hd ht hte (key _ h1 (hy' _).1) ho
   refine ⟨v,w',σ',hm.run,⟨hm.fr.inj,hm.fr.lt,hm.fr.old,fun id=>?_,fun u=>?_⟩,?_,hm.goes,rfl⟩
   . have h2:=hm.fr.tb id
     by_cases hid:rid d 0 0=id
     . have e1:qa .un ((F.root (rid d 0 0) (.osl ys)).put d (rfV (rid d 0 0) (std.oLen ys))).tb id=qa .un (((F.drop std (rid d 0 0,[])).root (rid d 0 0) (.osl ys)).put d (rfV (rid d 0 0) (std.oLen ys))).tb id:=by
        show qa .un ((rid d 0 0,O.osl ys)::F.tb) id=qa .un ((rid d 0 0,O.osl ys)::(F.less std (rid d 0 0,[])).tb) id
        rw [qp,qp,if_pos hid,if_pos hid]
       rw [e1];exact h2
     . have e1:qa .un ((F.root (rid d 0 0) (.osl ys)).put d (rfV (rid d 0 0) (std.oLen ys))).tb id=qa .un (((F.drop std (rid d 0 0,[])).root (rid d 0 0) (.osl ys)).put d (rfV (rid d 0 0) (std.oLen ys))).tb id:=by
        show qa .un ((rid d 0 0,O.osl ys)::F.tb) id=qa .un ((rid d 0 0,O.osl ys)::(F.less std (rid d 0 0,[])).tb) id
        rw [qp,qp,if_neg hid,if_neg hid,ku (show (rid d 0 0,([]:List (Nat×Nat))).1≠id from hid)]
       rw [e1];exact h2
   . have h2:=hm.fr.tm u
     show qN _ (qa unT ((d,rfV (rid d 0 0) (std.oLen ys))::F.tm) u) _
     have h3:qN (fun _ _=>qj w' σ') (qa unT ((d,rfV (rid d 0 0) (std.oLen ys))::QS (qV std (rid d 0 0,[])) (F.less std (rid d 0 0,[])).tm) u) (upd (qC a) d v u):=h2
     rw [qp] at h3 ⊢
     by_cases hu:d=u
     . rw [if_pos hu] at h3 ⊢;exact h3
     . rw [if_neg hu] at h3 ⊢
       rw [zY,Kr] at h3
       have e:upd (qC a) d v u=qC a u:=by unfold upd;rw [if_neg hu]
       rw [e] at h3 ⊢
       exact YX hb0 (hF.tm u) h3
   . intro g z hz
     rcases hm.dom g z hz with h | h
     . left
       by_cases hid:rid d 0 0=z.p.1
       . have e:((F.root (rid d 0 0) (.osl ys)).put d (rfV (rid d 0 0) (std.oLen ys))).at std z.p=(((F.drop std (rid d 0 0,[])).root (rid d 0 0) (.osl ys)).put d (rfV (rid d 0 0) (std.oLen ys))).at std z.p:=by
          show (F.root (rid d 0 0) (.osl ys)).at std z.p=((F.drop std (rid d 0 0,[])).root (rid d 0 0) (.osl ys)).at std z.p
          rw [Qd,Qd,if_pos hid,if_pos hid]
         rw [e];exact h
       . have e:((F.root (rid d 0 0) (.osl ys)).put d (rfV (rid d 0 0) (std.oLen ys))).at std z.p=(((F.drop std (rid d 0 0,[])).root (rid d 0 0) (.osl ys)).put d (rfV (rid d 0 0) (std.oLen ys))).at std z.p:=by
          show (F.root (rid d 0 0) (.osl ys)).at std z.p=((F.drop std (rid d 0 0,[])).root (rid d 0 0) (.osl ys)).at std z.p
          rw [Qd,Qd,if_neg hid,if_neg hid]
          show O.at std (qa .un F.tb z.p.1) z.p.2=O.at std (qa .un (F.less std (rid d 0 0,[])).tb z.p.1) z.p.2
          rw [ku (show (rid d 0 0,([]:List (Nat×Nat))).1≠z.p.1 from hid)]
         rw [e];exact h
     . exact .inr h
 . rename_i r off len hxe
   split at hx
   . rename_i hat
     have hat':qa .un F.tb r=.osl []:=hat
     obtain ⟨h01,h02⟩:off=0/\len=0:=by simpa [std] using hx
     subst h01 h02
     have hne:rid d 0 0≠r:=fun e=>by rw [<-e,jw hfr] at hat';cases hat'
     have hb1:ke σ (r,[]):=hd.bare (.inr hat')
     have hkr:qV std (rid d 0 0,[]) (r,[])=some (r,[]):=zi (fun h=>hne h.1.symm)
     have h1:KR std (F.drop std (rid d 0 0,[])) (ev1 (F.drop std (rid d 0 0,[])) x)=some ([],(F.drop std (rid d 0 0,[])).drop std (r,[])):=by
      rw [Z5,hxe]
      simp only [A.tr,hkr]
      have e:(F.drop std (rid d 0 0,[])).at std (r,[])=.osl []:=by
       show O.at std (qa .un (F.less std (rid d 0 0,[])).tb r) []=_
       rw [ku (show (rid d 0 0,([]:List (Nat×Nat))).1≠r from hne),hat']
       rfl
      simp only [KR,e]
      simp [std]
     obtain ⟨v,w',σ',hm⟩:=ZU hT hF hd ht hte (key _ h1 ((hy' _).2 _)) ho
     have hlk:∀ id,rid d 0 0≠id->r≠id->qa .un ((F.drop std (rid d 0 0,[])).drop std (r,[])).tb id=qa .un F.tb id:=by
      intro id h2 h3
      show qa .un ((F.drop std (rid d 0 0,[])).less std (r,[])).tb id=_
      rw [ku (show (r,([]:List (Nat×Nat))).1≠id from h3)]
      show qa .un (F.less std (rid d 0 0,[])).tb id=_
      rw [ku (show (rid d 0 0,([]:List (Nat×Nat))).1≠id from h2)]
     refine ⟨v,w',σ',hm.run,⟨hm.fr.inj,hm.fr.lt,hm.fr.old,fun id=>?_,fun u=>?_⟩,?_,hm.goes,rfl⟩
     . have h2:∃ v,qo w' σ' (id,[]) (qa .un ((rid d 0 0,O.osl ys)::((F.drop std (rid d 0 0,[])).drop std (r,[])).tb) id) v:=hm.fr.tb id
       show ∃ v,qo w' σ' (id,[]) (qa .un ((rid d 0 0,O.osl ys)::F.tb) id) v
       rw [qp] at h2 ⊢
       by_cases hid:rid d 0 0=id
       . rw [if_pos hid] at h2 ⊢;exact h2
       . rw [if_neg hid] at h2 ⊢
         by_cases hr:r=id
         . subst hr;rw [hat'];exact ⟨_,.oslz _ none⟩
         . rw [hlk id hid hr] at h2;exact h2
     . have h3:qN (fun _ _=>qj w' σ') (qa unT ((d,rfV (rid d 0 0) (std.oLen ys))::QS (qV std (r,[])) ((F.drop std (rid d 0 0,[])).less std (r,[])).tm) u) (upd (qC a) d v u):=hm.fr.tm u
       show qN _ (qa unT ((d,rfV (rid d 0 0) (std.oLen ys))::F.tm) u) _
       rw [qp] at h3 ⊢
       by_cases hu:d=u
       . rw [if_pos hu] at h3 ⊢;exact h3
       . rw [if_neg hu] at h3 ⊢
         have e:upd (qC a) d v u=qC a u:=by unfold upd;rw [if_neg hu]
         rw [zY,Kr,e] at h3
         rw [e]
         have h4:=YX (hb1.drop (rid d 0 0,[])) ((hF.drop (rid d 0 0,[])).tm u) h3
         have h5:qN (fun _ _=>qj w' σ') (qa unT (QS (qV std (rid d 0 0,[])) (F.less std (rid d 0 0,[])).tm) u) (qC a u):=h4
         rw [zY,Kr] at h5
         exact YX hb0 (hF.tm u) h5
     . intro g z hz
       rcases hm.dom g z hz with h | h
       . left
         have h':Fit ((((F.drop std (rid d 0 0,[])).drop std (r,[])).root (rid d 0 0) (.osl ys)).at std z.p) z.n:=h
         show Fit ((F.root (rid d 0 0) (.osl ys)).at std z.p) z.n
         rw [Qd] at h' ⊢
         by_cases hid:rid d 0 0=z.p.1
         . rw [if_pos hid] at h' ⊢;exact h'
         . rw [if_neg hid] at h' ⊢
           have h2:Fit (O.at std (qa .un ((F.drop std (rid d 0 0,[])).drop std (r,[])).tb z.p.1) z.p.2) z.n:=h'
           by_cases hr:r=z.p.1
           . have e:qa .un ((F.drop std (rid d 0 0,[])).drop std (r,[])).tb z.p.1=.un:=by
              show qa .un (del (F.drop std (rid d 0 0,[])).tb r) z.p.1=.un
              rw [qM,if_pos hr]
             rw [e,kv] at h2
             exact h2.elim
           . rw [hlk _ hid hr] at h2;exact h2
       . exact .inr h
   . cases hx
 . cases hx
end
end Go.Proofs.YtececadpjelanaaGreat.Ai
namespace Go.Proofs.YtececadpjelanaaGreat.Ai
open Go Go.RowKit
variable [qh]
def Zr:Operand->List Nat
 | .tmp t=>[t]
 | _=>[]
def Q5:List Operand->List Nat
 | []=>[]
 | x::r=>Zr x++Q5 r
def qlB:Option Operand->List Nat
 | none=>[]
 | some x=>Zr x
def yq:List (Nat×Operand)->List Nat
 | []=>[]
 | (_,x)::r=>Zr x++yq r
def opL:Op->List Nat
 | .move x | .nilCheck x | .unOp _ _ x | .load _ x | .fieldAddr _ x _ | .field _ x _ | .convert _ _ x | .extract x _=>Zr x
 | .pick c a b=>Zr c++(Zr a++Zr b)
 | .binOp _ _ x y _ | .indexAddr _ x y | .index _ x y=>Zr x++Zr y
 | .assign x=>Zr x
 | .slice _ x lo hi mx=>Zr x++(qlB lo++(qlB hi++qlB mx))
 | .makeFunc _ _ ⟨caps⟩=>Q5 caps
 | .build _ ⟨parts⟩=>yq parts
 | .call ⟨.value f,⟨args⟩,_⟩=>Zr f++Q5 args
 | .call ⟨.builtin _,⟨args⟩,_⟩=>Q5 args
 | _=>[]
structure jq (F G:Fr)(X:List Nat):Prop where
 tm:∀ t∈X,qa unT G.tm t=qa unT F.tm t
 tb:∀ t∈X,∀ id∈(qa unT F.tm t).ids,qa .un G.tb id=qa .un F.tb id
theorem jq.mono {F G:Fr}{X Y:List Nat}(h:jq F G X)(hs:∀ t∈Y,t∈X):jq F G Y:=⟨fun t ht=>h.tm t (hs t ht),fun t ht=>h.tb t (hs t ht)⟩
def QX (F G:Fr)(ids:List Nat):Prop:=∀ id∈ids,qa .un G.tb id=qa .un F.tb id
section
variable {M:Ops} {T:Nat->Option Ty} {F G:Fr}
theorem W1 (v:Value):(jR v).ids=[]:=by
 unfold jR
 split<;>rfl
theorem qlc {l:List A}(h:∀ x∈l,x.ids=[]):A.idsL l=[]:=by
 induction l with
 | nil=>rfl
 | cons a r ih=>simp only [A.idsL,h a List.mem_cons_self,ih (fun x hx=>h x (List.mem_cons_of_mem _ hx)),List.append_nil]
theorem qd9 (v:Value):(jP v).ids=[]:=by
 unfold jP
 split
 . simp only [TV.ids]
   exact qlc (by intro x hx;obtain ⟨y,_,rfl⟩:=List.mem_map.1 hx;exact W1 y)
 . rfl
 . simp only [TV.ids,A.idsL,W1,List.append_nil]
theorem KW {X:List Nat}(h:jq F G X){x:Operand}(hx:∀ t∈Zr x,t∈X):ev G x=ev F x/\QX F G (ev F x).ids:=by
 cases x with
 | tmp t =>
   refine ⟨?_,?_⟩
   . show (match nlt t PH with | true=>qa unT G.tm t | false=>unT)=(match nlt t PH with | true=>qa unT F.tm t | false=>unT)
     rw [h.tm t (hx t (by simp [Zr]))]
   . show QX F G (match nlt t PH with | true=>qa unT F.tm t | false=>unT).ids
     split
     . exact h.tb t (hx t (by simp [Zr]))
     . intro id hid;cases hid
 | const v=>exact ⟨rfl,by show QX F G (jP v).ids;rw [qd9];intro id hid;cases hid⟩
 | func f=>exact ⟨rfl,by intro id hid;simp [ev,TV.ids,A.idsL,A.ids] at hid⟩
 | global g=>exact ⟨rfl,by intro id hid;simp [ev,unT,TV.ids,A.idsL,A.ids] at hid⟩
theorem qmw {x:TV A}{id:Nat}(h:id∈(one x).ids):id∈x.ids:=by
 unfold one at h
 split at h
 . simpa [TV.ids,A.idsL] using h
 . simp [A.ids] at h
theorem zT {X:List Nat}(h:jq F G X){x:Operand}(hx:∀ t∈Zr x,t∈X):ev1 G x=ev1 F x/\QX F G (ev1 F x).ids:=by
 obtain ⟨h1,h2⟩:=KW h hx
 exact ⟨by unfold ev1;rw [h1],fun id hid=>h2 id (qmw hid)⟩
theorem yd {p:qg}(h:qa .un G.tb p.1=qa .un F.tb p.1):G.at M p=F.at M p:=by unfold Fr.at;rw [h]
theorem qeU {n:Nat}{x:A}(h:QX F G x.ids):zQ M G n x=zQ M F n x:=by
 cases x with
 | pp p i j=>simp only [zQ,yd (M:=M) (h p.1 (by simp [A.ids]))]
 | fz c=>cases c<;>(unfold zQ;rfl)
 | _=>rfl
theorem qio {x:A}(h:QX F G x.ids):QJ M G x=QJ M F x:=by
 cases x with
 | rf p off len=>simp only [QJ,yd (M:=M) (h p.1 (by simp [A.ids]))]
 | fz c=>cases c<;>(unfold QJ;rfl)
 | _=>rfl
theorem qhQ {n:Nat}{x:A}(h:QX F G x.ids):jQ M G n x=jQ M F n x:=by
 cases x with
 | pp p i j=>simp only [jQ,yd (M:=M) (h p.1 (by simp [A.ids]))]
 | fz c=>cases c<;>(unfold jQ;rfl)
 | _=>rfl
theorem qiY {n:Nat}{x:A}{lo hi mx:Option A}(h:QX F G x.ids):QK M G n x lo hi mx=QK M F n x lo hi mx:=by
 cases x with
 | rf p off len=>simp only [QK,yd (M:=M) (h p.1 (by simp [A.ids]))]
 | fz c=>cases c<;>(unfold QK;rfl)
 | _=>rfl
mutual
theorem qmc:(x:A)->QX F G x.ids->ZM M G x=ZM M F x
 | .un,_ | .ud,_ | .fz _,_=>rfl
 | .rf p off len,h=>by simp only [ZM,yd (M:=M) (h p.1 (by simp [A.ids]))]
 | .pp p i j,h=>by simp only [ZM,yd (M:=M) (h p.1 (by simp [A.ids]))]
 | .clo f caps,h=>by simp only [ZM,JT caps (by simpa [A.ids] using h)]
theorem JT:(l:List A)->QX F G (A.idsL l)->Qi M G l=Qi M F l
 | [],_=>rfl
 | x::r,h=>by
   simp only [A.idsL] at h
   simp only [Qi,qmc x (fun id hid=>h id (by simp [hid])),JT r (fun id hid=>h id (by simp [hid]))]
end
theorem qlq {x:TV A}(h:QX F G x.ids):qcI M G x=qcI M F x:=by
 cases x with
 | v x =>
   obtain ⟨g,as⟩:=x
   simp only [qcI,JT as h]
 | tup xs=>rfl
theorem qhr {x:Operand}{r:List Operand}{X:List Nat}(h:∀ t∈Q5 (x::r),t∈X):(∀ t∈Zr x,t∈X)/\∀ t∈Q5 r,t∈X :=
 ⟨fun t ht=>h t (by simp [Q5,ht]),fun t ht=>h t (by simp [Q5,ht])⟩
theorem wm {X:List Nat}(h:jq F G X):∀ (l:List Operand),(∀ t∈Q5 l,t∈X)->Z4 M G l=Z4 M F l/\KK G l=KK F l/\evC G l=evC F l/\qaq G l=qaq F l
 | [],_=>⟨rfl,rfl,rfl,rfl⟩
 | x::r,hx=>by
   obtain ⟨h1,h2⟩:=qhr hx
   obtain ⟨h3,h4,h5,h6⟩:=wm h r h2
   obtain ⟨h7,h8⟩:=KW h h1
   simp only [Z4,KK,evC,qaq,h3,h4,h5,h6,h7,(zT h h1).1,qlq h8,and_self]
theorem qiu {X:List Nat}(h:jq F G X){f:Operand}(hx:∀ t∈Zr f,t∈X):callee M G f=callee M F f:=by
 obtain ⟨h1,h2⟩:=zT h hx
 unfold callee
 rw [h1]
 split
 . rfl
 . rename_i g caps he
   rw [he] at h2
   rw [JT caps (by simpa [A.ids] using h2)]
 . rfl
theorem Yh {X:List Nat}(h:jq F G X){fs:List (Nat×Nat×Bool)}:∀ (l:List (Nat×Operand)) (as:List A),(∀ t∈yq l,t∈X)->QU G fs as l=QU F fs as l
 | [],as,_=>rfl
 | (i,x)::r,as,hx=>by
   have h1:=(KW h (x:=x) (fun t ht=>hx t (by simp [yq,ht]))).1
   have ih:=fun as=>Yh h (fs:=fs) r as (fun t ht=>hx t (by simp [yq,ht]))
   simp only [QU,h1]
   split
   . split
     . split
       . split
         . exact ih _
         . rfl
       . rfl
     . rfl
   . rfl
theorem qaX {X:List Nat}(h:jq F G X){x:Option Operand}(hx:∀ t∈qlB x,t∈X):jJ G x=jJ F x:=by
 cases x with
 | none=>rfl
 | some y=>simp only [jJ,(zT h (x:=y) hx).1]
theorem qnC {op:Op}(h:jq F G (opL op)):qop M T G op=qop M T F op:=by
 cases op with
 | move x=>simp only [qop,(KW h (x:=x) (by intro t ht;simpa [opL] using ht)).1]
 | pick c a b =>
   simp only [qop,(zT h (x:=c) (by intro t ht;simp [opL,ht])).1,(KW h (x:=a) (by intro t ht;simp [opL,ht])).1,(KW h (x:=b) (by intro t ht;simp [opL,ht])).1]
 | binOp op t x y t'=>simp only [qop,(zT h (x:=x) (by intro t ht;simp [opL,ht])).1,(zT h (x:=y) (by intro t ht;simp [opL,ht])).1]
 | unOp op t x=>simp only [qop,(zT h (x:=x) (by intro t ht;simpa [opL] using ht)).1]
 | load t x =>
   obtain ⟨h1,h2⟩:=zT h (x:=x) (by intro t ht;simpa [opL] using ht)
   simp only [qop,h1,qeU h2]
 | fieldAddr t x f=>simp only [qop,(zT h (x:=x) (by intro t ht;simpa [opL] using ht)).1]
 | field t x f=>simp only [qop,(KW h (x:=x) (by intro t ht;simpa [opL] using ht)).1]
 | indexAddr t x i =>
   obtain ⟨h1,h2⟩:=zT h (x:=x) (by intro t ht;simp [opL,ht])
   have h3:=(zT h (x:=i) (by intro t ht;simp [opL,ht])).1
   have key:∀ a,Zl M (ev1 F x) (ev1 F i)=some a->QX F G a.ids:=by
    intro a ha
    unfold Zl at ha
    split at ha
    . split at ha
      . rename_i p off len he
        split at ha
        . injection ha with ha
          subst ha
          rw [he] at h2
          exact h2
        . cases ha
      . split at ha
        . split at ha
          . injection ha with ha;subst ha;intro id hid;simp [A.ids] at hid
          . cases ha
        . cases ha
      . cases ha
    . cases ha
   simp only [qop,h1,h3]
   split
   . split
     . split
       . rename_i a ha
         rw [qhQ (key a ha)]
       . rfl
     . rfl
   . rfl
 | index t x i=>simp only [qop,(zT h (x:=x) (by intro t ht;simp [opL,ht])).1,(zT h (x:=i) (by intro t ht;simp [opL,ht])).1]
 | slice t x lo hi mx =>
   obtain ⟨h1,h2⟩:=zT h (x:=x) (by intro t ht;simp [opL,ht])
   simp only [qop,h1,qiY h2,qaX h (x:=lo) (by intro t ht;simp [opL,ht]),qaX h (x:=hi) (by intro t ht;simp [opL,ht]),qaX h (x:=mx) (by intro t ht;simp [opL,ht])]
 | convert s t x =>
   obtain ⟨h1,h2⟩:=zT h (x:=x) (by intro t ht;simpa [opL] using ht)
   simp only [qop,h1,qio h2]
 | extract x i=>simp only [qop,(KW h (x:=x) (by intro t ht;simpa [opL] using ht)).1]
 | makeFunc fn first caps =>
   obtain ⟨l⟩:=caps
   have:=(wm (M:=M) h l (by intro t ht;simpa [opL] using ht)).2.2.2
   cases fn with
   | func f =>
     obtain ⟨fl⟩:=first
     cases fl with
     | nil=>simp only [qop,this]
     | cons _ _=>rfl
   | _=>rfl
 | build t parts =>
   obtain ⟨l⟩:=parts
   have hb:=fun as fs=>Yh h (fs:=fs) l as (by intro t ht;simpa [opL] using ht)
   simp only [qop,hb]
 | call c =>
   obtain ⟨cal,⟨args⟩,⟨ts⟩⟩:=c
   cases cal with
   | builtin bi =>
     obtain ⟨_,_,h3,_⟩:=wm (M:=M) h args (by intro t ht;simpa [opL] using ht)
     cases bi with
     | max=>simp only [qop,qc8,h3]
     | min=>simp only [qop,qc8,h3]
     | len =>
       match args,ts with
       | [x],[t]=>simp only [qop,(zT h (x:=x) (by intro t ht;simp [opL,Q5,ht])).1]
       | [],_=>rfl
       | _::_::_,_=>rfl
       | [_],[]=>rfl
       | [_],_::_::_=>rfl
     | cap =>
       match args,ts with
       | [x],[t]=>simp only [qop,(zT h (x:=x) (by intro t ht;simp [opL,Q5,ht])).1]
       | [],_=>rfl
       | _::_::_,_=>rfl
       | [_],[]=>rfl
       | [_],_::_::_=>rfl
     | _=>rfl
   | _=>rfl
 | _=>rfl
end
abbrev It:=Nat×List (Nat×O)×TV A
def Fr.ap (F:Fr)(it:It):Fr:=(F.adds it.2.1).put it.1 it.2.2
def qni:TV A->Bool
 | .v (false,[.fz .nilsl])=>false
 | .v (false,[.fz _])=>true
 | _=>false
def wC (M:Ops)(T:Nat->Option Ty)(kn:Bool)(ora:Ora)(F:Fr)(o:Oper):Option It :=
 match o.dst with
 | none=>none
 | some d=>match zt F.n d with
   | true=>(match o.op with
     | .call ⟨.value f,⟨args⟩,_⟩=>(match callee M F f,Z4 M F args with
       | some (g,caps),some as=>(match qk6 ora g (as++QE caps) with
         | some r=>(match r.fits with
           | true=>(match KK F (f::args) with
             | true=>some (d,zH d r,yT M d r)
             | false=>(match r.cleanM M with
               | true=>some (d,zH d r,yT M d r)
               | false=>none))
           | false=>none)
         | none=>none)
       | _,_=>none)
     | .alloc e=>(match T e with
       | some ty=>(match Q6 ty.zero with
         | true=>some (d,[(rid d 0 0,.obx (zN kn ty.zero))],ppV (rid d 0 0))
         | false=>none)
       | none=>none)
     | .assign x=>(match qni (ev F x) with
       | true=>some (d,[],ev F x)
       | false=>none)
     | op=>(match qop M T F op with
       | some (.val x)=>some (d,[],x)
       | _=>none))
   | false=>none
theorem qhb {M:Ops}:∀ (l:List (Nat×O)) (F:Fr),(∀ id o,(id,o)∈l->has F.tb id=false)->F.clears M l=F:=by
 intro l
 induction l with
 | nil=>intro F _;rfl
 | cons x l ih =>
   obtain ⟨id,o⟩:=x
   intro F h
   have h1:F.clear M id=F:=by unfold Fr.clear;rw [h id o List.mem_cons_self]
   simp only [Fr.clears,h1]
   exact ih F (fun id o hm=>h id o (List.mem_cons_of_mem _ hm))
theorem we {M:Ops}{F:Fr}{id:Nat}(h:has F.tb id=false):F.clear M id=F:=by unfold Fr.clear;rw [h]
theorem qkb {M:Ops}{T:Nat->Option Ty}{kn:Bool}{ora:Ora}{F:Fr}{o:Oper}{it:It}(h:wC M T kn ora F o=some it)(hf:∀ id o',(id,o')∈it.2.1->has F.tb id=false) :
 opS M T kn ora F o=some (F.ap it)/\o.dst=some it.1:=by
 unfold wC at h
 unfold opS
 split at h
 . cases h
 . rename_i d hd
   split at h
   . rename_i hlt
     simp only [hd,hlt]
     split at h
     . rename_i f args ts hop
       simp only [hop]
       split at h
       . rename_i g caps as hc ha
         split at h
         . rename_i r hr
           split at h
           . rename_i hfit
             have key:it=(d,zH d r,yT M d r)->F.import M d r=some (F.ap it):=by
              rintro rfl
              unfold Fr.import
              rw [hfit]
              simp only [Fr.ap,qhb _ _ hf]
             unfold VI
             simp only [hc,ha,hr]
             split at h
             . rename_i hl
               injection h with h
               simp only [hl,key h.symm]
               subst h
               exact ⟨trivial,rfl⟩
             . rename_i hl
               split at h
               . rename_i hcl
                 injection h with h
                 simp only [hl,hcl,key h.symm]
                 subst h
                 exact ⟨trivial,rfl⟩
               . cases h
           . cases h
         . cases h
       . cases h
     . rename_i e hop
       simp only [hop,wop]
       split at h
       . rename_i ty ht
         split at h
         . rename_i hn
           injection h with h
           subst h
           simp only [ht,hn,we (M:=M) (hf (rid d 0 0) (.obx (zN kn ty.zero)) (by simp))]
           exact ⟨rfl,trivial⟩
         . cases h
       . cases h
     . rename_i x hop
       simp only [hop,wop]
       split at h
       . rename_i hs
         injection h with h
         subst h
         have:qeW M kn F d (ev F x)=some (F.put d (ev F x)):=by
          generalize ev F x=y at hs ⊢
          unfold qni at hs
          split at hs
          . cases hs
          . rename_i c hc
            cases c<;>first | rfl | exact (hc rfl).elim
          . cases hs
         rw [this]
         exact ⟨rfl,rfl⟩
       . cases h
     . rename_i op h1 h2 h3
       split at h
       . rename_i x hq
         injection h with h
         subst h
         have hw:wop M T kn F d o.op=qfS M F d (qop M T F o.op):=by
          generalize o.op=op' at hq h2 ⊢
          unfold wop
          split<;>first | rfl | (simp [qop] at hq;done) | exact absurd rfl (h2 _) | exact absurd rfl (h3 _)
         have hc:∀ f args ts,o.op=.call ⟨.value f,⟨args⟩,ts⟩->False:=fun f args ts he=>h1 f args ts he
         refine ⟨?_,rfl⟩
         split
         . rename_i f args ts he;exact (hc _ _ _ he).elim
         . rw [hw,hq];rfl
       . cases h
   . cases h
theorem qmq {M:Ops}{T:Nat->Option Ty}{kn:Bool}{ora:Ora}{F G:Fr}{o:Oper}(hn:G.n=F.n)(h:jq F G (opL o.op)):wC M T kn ora G o=wC M T kn ora F o:=by
 unfold wC
 rw [hn]
 split
 . rfl
 . split
   . split
     . rename_i f args ts hop
       rw [hop] at h
       have hf:∀ t∈Zr f,t∈opL (.call ⟨.value f,⟨args⟩,ts⟩):=by intro t ht;simp [opL,ht]
       obtain ⟨h1,h2,_,_⟩:=wm (M:=M) h args (by intro t ht;simp [opL,ht])
       have h3:KK G (f::args)=KK F (f::args):=by simp only [KK,(KW h hf).1,h2]
       rw [qiu h hf,h1,h3]
     . rfl
     . rename_i x hop
       rw [hop] at h
       rw [(KW h (x:=x) (by intro t ht;simpa [opL] using ht)).1]
     . rw [qnC h]
   . rfl
end Go.Proofs.YtececadpjelanaaGreat.Ai
namespace Go.Proofs.YtececadpjelanaaGreat.Ai
open Go Go.RowKit
variable [qh]
def qnF (P:Program)(all:Array Oper)(G:Fr)(o:Oper)(G':Fr):Prop:=(zV G all o true/\qY P G o G')\/(zV G all o false/\G'=ZY G o)
def gdT (all:Array Oper)(o:Oper):List Nat:=match o.guard with
 | none=>[]
 | some (g,_)=>(match (all.toList)[g]? with | some ⟨some t,_,_,_,_,_⟩=>[t] | _=>[])
def lkT (all:Array Oper)(o:Oper):List Nat:=opL o.op++gdT all o
def mvL:List Oper->Nat->List Nat
 | [],_=>[]
 | o::r,t=>match o.dst,o.op with
   | some d,.move (.tmp u)=>(match nq d t with | true=>u::mvL r t | false=>mvL r t)
   | _,_=>mvL r t
def lkM (all:List Oper)(o:Oper):List Nat:=lkT ⟨all⟩ o++(lkT ⟨all⟩ o).flatMap (mvL all)
def qdM (G:Fr)(rs:List (Nat×O)):Prop:=∀ id o',(id,o')∈rs->has G.tb id=false
def z7 (P:Program)(all:Array Oper)(F:Fr)(o:Oper)(it:It):Prop:=∀ G:Fr,G.n=F.n->jq F G (lkT all o)->qdM G it.2.1->qnF P all G o (G.ap it)
theorem qhR {F G:Fr}{all:Array Oper}{o:Oper}{g:Nat}{want:Bool}(hg:o.guard=some (g,want))(h:jq F G (lkT all o)):QI G all g=QI F all g:=by
 have hs:∀ t∈gdT all o,qa unT G.tm t=qa unT F.tm t:=fun t ht=>h.tm t (by simp [lkT,ht])
 unfold gdT at hs
 rw [hg] at hs
 obtain ⟨l⟩:=all
 unfold QI
 simp only [@qbs qG]
 dsimp only at hs
 split
 . rename_i t _ _ _ _ _ hl
   rw [hl] at hs
   rw [hs t (by simp)]
 . rfl
theorem Z3 {F G:Fr}{all:Array Oper}{o:Oper}{b:Bool}(hw:zV F all o b)(h:jq F G (lkT all o)):zV G all o b:=by
 unfold zV at hw ⊢
 split
 . rename_i hg;rw [hg] at hw;exact hw
 . rename_i g want hg;rw [hg] at hw;rw [qhR hg h];exact hw
theorem z7.of_aop {P:Program}{T:Nat->Option Ty}(hT:ka P T){ora:Ora}(hO:∀ g args r,ora g args=some r->kM P g args r){kn:Bool}{all:Array Oper}{F:Fr}{o:Oper}{it:It}(hw:zV F all o true)(h:wC std T kn ora F o=some it):z7 P all F o it:=by
 intro G hn ha hf
 refine .inl ⟨Z3 hw ha,?_⟩
 have h':=(qmq (M:=std) (T:=T) (kn:=kn) (ora:=ora) hn (ha.mono (fun t ht=>by simp [lkT,ht]))).trans h
 exact qY.of_opS hT hO (qkb h' hf).1
theorem z7.of_skip {P:Program}{all:Array Oper}{F:Fr}{o:Oper}{d:Nat}(hd:o.dst=some d)(hph:nlt d PH=true)(hw:zV F all o false):z7 P all F o (d,[],.v (false,[.ud])):=by
 intro G _ ha _
 refine .inr ⟨Z3 hw ha,?_⟩
 simp [ZY,hd,hph,Fr.ap,Fr.adds]
def jM (o:Oper):List Nat:=o.after.toList.map (·.on)
def K7 (e:Edge):Bool:=match e.ground with
 | .textOnly _ | .gcOnly _=>false
 | _=>true
structure qhJ (all:List Oper)(k:Nat)(anc:Nat->Nat->Prop):Prop where
 le:k<=all.length
 plain:∀ (i:Nat) (o:Oper),all[i]?=some o->∀ e∈o.after.toList,K7 e=true/\e.on<i
 an:∀ (i j:Nat) (o:Oper),all[i]?=some o->anc i j->∃ e∈jM o,e=j\/anc e j
 suf:∀ i j,k<=i->i<all.length->j<i->anc i j
structure Dyn (all:List Oper)(k:Nat)(anc:Nat->Nat->Prop)(F:Fr)(its:List It)(Fs:Nat->Fr):Prop where
 len:its.length=k
 d_inj:∀ (i j:Nat) (x y:It),its[i]?=some x->its[j]?=some y->x.1=y.1->i=j
 rd:∀ (i j:Nat) (o:Oper) (y:It),i<k->all[i]?=some o->its[j]?=some y->y.1∈lkM all o->anc i j/\j<i
 fr:∀ (j:Nat) (y:It),its[j]?=some y->qdM F y.2.1
 blk:∀ (j:Nat) (y:It),its[j]?=some y->∀ id o',(id,o')∈y.2.1->id / 4096=y.1
 ids:∀ (i:Nat) (o:Oper),i<k->all[i]?=some o->∀ t∈lkT ⟨all⟩ o,∀ id∈(qa unT (Fs i).tm t).ids,∀ (j:Nat) (y:It),its[j]?=some y->id / 4096=y.1->id / 4096∈lkM all o
 f0:Fs 0=F
 fs:∀ (i:Nat) (x:It),its[i]?=some x->Fs (i+1)=(Fs i).ap x
theorem qgJ:∀ (l:List (Nat×O)) (F:Fr),(F.adds l).tb=l.reverse++F.tb:=by
 intro l
 induction l with
 | nil=>intro F;rfl
 | cons x l ih=>obtain ⟨id,o⟩:=x;intro F;simp only [Fr.adds];rw [ih];simp [Fr.root]
theorem qbp {l:List (Nat×O)}{id:Nat}(h:has l id=true):∃ o,(id,o)∈l:=by
 induction l with
 | nil=>simp [has] at h
 | cons x l ih =>
   obtain ⟨k,v⟩:=x
   simp only [has] at h
   cases hb:nq k id with
   | true=>obtain rfl:=Nat.eq_of_beq_eq_true hb;exact ⟨v,List.mem_cons_self⟩
   | false=>rw [hb] at h;obtain ⟨o,ho⟩:=ih h;exact ⟨o,List.mem_cons_of_mem _ ho⟩
structure Inv (k:Nat)(F:Fr)(its:List It)(E:Nat->Prop)(G:Fr):Prop where
 n:G.n=F.n
 tm1:∀ (j:Nat) (y:It),its[j]?=some y->E j->qa unT G.tm y.1=y.2.2
 tm2:∀ t,(∀ (j:Nat) (y:It),its[j]?=some y->E j->y.1≠t)->qa unT G.tm t=qa unT F.tm t
 tb1:∀ (j:Nat) (y:It),its[j]?=some y->E j->∀ id,has y.2.1.reverse id=true->qa .un G.tb id=qa .un y.2.1.reverse id
 tb2:∀ id,(∀ (j:Nat) (y:It),its[j]?=some y->E j->has y.2.1.reverse id=false)->qa .un G.tb id=qa .un F.tb id/\has G.tb id=has F.tb id
section
variable {P:Program} {all:List Oper} {k:Nat} {anc:Nat->Nat->Prop} {F G:Fr} {its:List It} {Fs:Nat->Fr} {E:Nat->Prop}
theorem Inv.start:Inv k F its (fun _=>False) F:=⟨rfl,fun _ _ _ h=>h.elim,fun _ _=>rfl,fun _ _ _ h=>h.elim,fun _ _=>⟨rfl,rfl⟩⟩
theorem Inv.step (hD:Dyn all k anc F its Fs)(h:Inv k F its E G){i:Nat}{x:It}(hx:its[i]?=some x)(hi:¬E i):Inv k F its (fun j=>j=i\/E j) (G.ap x):=by
 have htb:(G.ap x).tb=x.2.1.reverse++G.tb:=qgJ _ _
 have htm:(G.ap x).tm=(x.1,x.2.2)::G.tm:=by show (x.1,x.2.2)::(G.adds x.2.1).tm=_;rw [(@KH qG x.2.1 G).1]
 refine ⟨?_,?_,?_,?_,?_⟩
 . show (G.adds x.2.1).n=F.n;rw [(@KH qG x.2.1 G).2,h.n]
 . intro j y hy hE
   rw [htm,@qp qG]
   by_cases e:x.1=y.1
   . obtain rfl:=hD.d_inj i j x y hx hy e
     rw [hx] at hy
     injection hy with hy
     subst hy
     rw [if_pos rfl]
   . rw [if_neg e]
     rcases hE with rfl | hE
     . rw [hx] at hy;injection hy with hy;subst hy;exact absurd rfl e
     . exact h.tm1 j y hy hE
 . intro t ht
   rw [htm,@qp qG,if_neg (ht i x hx (.inl rfl))]
   exact h.tm2 t (fun j y hy hE=>ht j y hy (.inr hE))
 . intro j y hy hE id hid
   rw [htb,@ko qG]
   have hb:∀ z:It,(∃ m:Nat,its[m]?=some z)->has z.2.1.reverse id=true->id / 4096=z.1:=by
    rintro z ⟨m,hm⟩ hz
    obtain ⟨o,ho⟩:=qbp hz
    exact hD.blk m z hm id o (by simpa using ho)
   cases hxi:has x.2.1.reverse id with
   | true =>
     obtain rfl:=hD.d_inj i j x y hx hy ((hb x ⟨i,hx⟩ hxi).symm.trans (hb y ⟨j,hy⟩ hid))
     rw [hx] at hy
     injection hy with hy
     subst hy
     simp
   | false =>
     rcases hE with rfl | hE
     . rw [hx] at hy;injection hy with hy;subst hy;rw [hxi] at hid;cases hid
     . simpa using h.tb1 j y hy hE id hid
 . intro id hid
   have h1:=hid i x hx (.inl rfl)
   rw [htb,@ko qG,@Qt qG,h1]
   simpa using h.tb2 id (fun j y hy hE=>hid j y hy (.inr hE))
theorem zX (hD:Dyn all k anc F its Fs):∀ i,i<=k->Inv k F its (fun j=>j<i) (Fs i):=by
 intro i
 induction i with
 | zero=>intro _;rw [hD.f0];exact ⟨rfl,fun _ _ _ h=>absurd h (by omega),fun _ _=>rfl,fun _ _ _ h=>absurd h (by omega),fun _ _=>⟨rfl,rfl⟩⟩
 | succ i ih =>
   intro hi
   have hlt:i<its.length:=by rw [hD.len];omega
   have hx:its[i]?=some its[i]:=List.getElem?_eq_getElem hlt
   rw [hD.fs i _ hx]
   have:=(ih (by omega)).step hD hx (by omega)
   have he:(fun j=>j=i\/j<i)=(fun j=>j<i+1):=by funext j;exact propext ⟨fun h=>by omega,fun h=>by omega⟩
   rwa [he] at this
theorem yn (hD:Dyn all k anc F its Fs)(h:Inv k F its E G){i:Nat}{o:Oper}(hi:i<k)(ho:all[i]?=some o)(ha:∀ j,anc i j->E j):jq (Fs i) G (lkT ⟨all⟩ o):=by
 have ht:=zX hD i (Nat.le_of_lt hi)
 have key:∀ t∈lkT ⟨all⟩ o,qa unT G.tm t=qa unT (Fs i).tm t:=by
  intro t hm
  by_cases hj:∃ (j:Nat) (y:It),its[j]?=some y/\y.1=t
  . obtain ⟨j,y,hy,rfl⟩:=hj
    obtain ⟨h1,h2⟩:=hD.rd i j o y hi ho hy (List.mem_append_left _ hm)
    rw [h.tm1 j y hy (ha j h1),ht.tm1 j y hy h2]
  . rw [h.tm2 t (fun j y hy _ e=>hj ⟨j,y,hy,e⟩),ht.tm2 t (fun j y hy _ e=>hj ⟨j,y,hy,e⟩)]
 refine ⟨key,fun t hm id hid=>?_⟩
 by_cases hj:∃ (j:Nat) (y:It),its[j]?=some y/\has y.2.1.reverse id=true
 . obtain ⟨j,y,hy,hh⟩:=hj
   obtain ⟨o',ho'⟩:=qbp hh
   have hb:=hD.blk j y hy id o' (by simpa using ho')
   have e:=hD.ids i o hi ho t hm id hid j y hy hb
   obtain ⟨h1,h2⟩:=hD.rd i j o y hi ho hy (by rw [<-hb];exact e)
   rw [h.tb1 j y hy (ha j h1) id hh,ht.tb1 j y hy h2 id hh]
 . have hno:∀ (j:Nat) (y:It),its[j]?=some y->has y.2.1.reverse id=false:=by
    intro j y hy
    cases hh:has y.2.1.reverse id with
    | false=>rfl
    | true=>exact absurd ⟨j,y,hy,hh⟩ hj
   rw [(h.tb2 id (fun j y hy _=>hno j y hy)).1,(ht.tb2 id (fun j y hy _=>hno j y hy)).1]
theorem Vd (hD:Dyn all k anc F its Fs)(h:Inv k F its E G){i:Nat}{x:It}(hx:its[i]?=some x)(hi:¬E i):qdM G x.2.1:=by
 intro id o' hm
 rw [(h.tb2 id ?_).2]
 . exact hD.fr i x hx id o' hm
 . intro j y hy hE
   cases hh:has y.2.1.reverse id with
   | false=>rfl
   | true =>
     obtain ⟨o'',ho⟩:=qbp hh
     have h1:=hD.blk j y hy id o'' (by simpa using ho)
     have h2:=hD.blk i x hx id o' hm
     obtain rfl:=hD.d_inj i j x y hx hy (h2.symm.trans h1)
     exact absurd hE hi
theorem qeA {J:qi}{σ:Gh}{w:World}{vt:Nat->Value}{G':Fr}(h:Inv k F its E G)(h':Inv k F its E G')(hF:FR G σ w vt)(hd:Dom G σ []):FR G' σ w vt/\Dom G' σ []:=by
 have htm:∀ t,qa unT G'.tm t=qa unT G.tm t:=by
  intro t
  by_cases hj:∃ (j:Nat) (y:It),its[j]?=some y/\E j/\y.1=t
  . obtain ⟨j,y,hy,hE,rfl⟩:=hj
    rw [h.tm1 j y hy hE,h'.tm1 j y hy hE]
  . rw [h.tm2 t (fun j y hy hE e=>hj ⟨j,y,hy,hE,e⟩),h'.tm2 t (fun j y hy hE e=>hj ⟨j,y,hy,hE,e⟩)]
 have htb:∀ id,qa .un G'.tb id=qa .un G.tb id:=by
  intro id
  by_cases hj:∃ (j:Nat) (y:It),its[j]?=some y/\E j/\has y.2.1.reverse id=true
  . obtain ⟨j,y,hy,hE,hh⟩:=hj
    rw [h.tb1 j y hy hE id hh,h'.tb1 j y hy hE id hh]
  . have hno:∀ (j:Nat) (y:It),its[j]?=some y->E j->has y.2.1.reverse id=false:=by
     intro j y hy hE
     cases hh:has y.2.1.reverse id with
     | false=>rfl
     | true=>exact absurd ⟨j,y,hy,hE,hh⟩ hj
    rw [(h.tb2 id hno).1,(h'.tb2 id hno).1]
 refine ⟨⟨hF.inj,hF.lt,hF.old,fun id=>by rw [htb];exact hF.tb id,fun t=>by rw [htm];exact hF.tm t⟩,fun g x hx=>?_⟩
 rcases hd g x hx with h1 | h1
 . left
   have:G'.at std x.p=G.at std x.p:=by unfold Fr.at;rw [htb]
   rw [this]
   exact h1
 . exact .inr h1
end
def kU:Nat->(Nat->Bool)->Nat
 | 0,_=>0
 | n+1,f=>kU n f+(match f n with | true=>0 | false=>1)
theorem zw {f g:Nat->Bool}:∀ n,(∀ i,i<n->f i=g i)->kU n f=kU n g:=by
 intro n
 induction n with
 | zero=>intro _;rfl
 | succ n ih=>intro h;simp only [kU,ih (fun i hi=>h i (by omega)),h n (by omega)]
theorem Qh {f:Nat->Bool}{i:Nat}:∀ n,i<n->f i=false->kU n (fun j=>if j=i then true else f j)+1=kU n f:=by
 intro n
 induction n with
 | zero=>intro h;omega
 | succ n ih =>
   intro hi hf
   simp only [kU]
   by_cases e:i=n
   . subst e
     have:kU i (fun j=>if j=i then true else f j)=kU i f:=zw i (fun j hj=>by rw [if_neg (by omega)])
     rw [this,hf]
     simp
   . have:=ih (by omega) hf
     rw [if_neg (by omega)]
     omega
theorem Ku:∀ (n j:Nat),j<=n->kU n (fun i=>decide (i<j))=n-j:=by
 intro n
 induction n with
 | zero=>intro j h;simp [kU]
 | succ n ih =>
   intro j h
   simp only [kU]
   by_cases e:j<=n
   . rw [ih j e]
     have:decide (n<j)=false:=by simp;omega
     rw [this]
     simp
     omega
   . have hj:j=n+1:=by omega
     subst hj
     have:kU n (fun i=>decide (i<n+1))=kU n (fun i=>decide (i<n)):=zw n (fun i hi=>by simp;omega)
     rw [this,ih n (Nat.le_refl _)]
     simp
section
variable {P:Program} {all:List Oper} {k:Nat} {anc:Nat->Nat->Prop} {F:Fr} {its:List It} {Fs:Nat->Fr}
theorem wA {listed:Array Bool}{i:Nat}(hS:qhJ all k anc):i∈Region.ready .any ⟨all⟩ listed↔i<all.length/\listed.getD i true=false/\∃ o,all[i]?=some o/\∀ e∈jM o,listed.getD e false=true:=by
 unfold Region.ready
 simp only [List.mem_filter,List.mem_range,Bool.and_eq_true,Bool.not_eq_true']
 constructor
 . rintro ⟨h1,h2,h3⟩
   refine ⟨h1,h2,?_⟩
   have ho:all[i]?=some all[i]:=List.getElem?_eq_getElem h1
   refine ⟨_,ho,?_⟩
   simp only [List.getElem?_toArray,ho,Option.map_some,Option.getD_some] at h3
   intro e he
   obtain ⟨x,hx,rfl⟩:=List.mem_map.1 he
   have:=Array.all_eq_true'.1 h3 x (by simpa using hx)
   have hp:=(hS.plain i _ ho x hx).1
   have hb:Region.binds .any x=true:=by unfold K7 at hp;unfold Region.binds;split<;>simp_all
   rw [hb] at this
   simpa using this
 . rintro ⟨h1,h2,o,ho,h3⟩
   refine ⟨h1,h2,?_⟩
   simp only [List.getElem?_toArray,ho,Option.map_some,Option.getD_some]
   refine Array.all_eq_true'.2 fun x hx=>?_
   simp [h3 x.on (List.mem_map.2 ⟨x,by simpa using hx,rfl⟩)]
theorem qbB (hS:qhJ all k anc){listed:Array Bool}(hd:∀ (i:Nat) (o:Oper),all[i]?=some o->listed.getD i false=true->∀ e∈jM o,listed.getD e false=true) :
 ∀ (i:Nat) (o:Oper),all[i]?=some o->(∀ e∈jM o,listed.getD e false=true)->∀ j,anc i j->listed.getD j false=true:=by
 intro i
 induction i using Nat.strongRecOn with
 | _ i ih =>
   intro o ho he j hj
   obtain ⟨e,he1,he2⟩:=hS.an i j o ho hj
   rcases he2 with rfl | he2
   . exact he e he1
   . obtain ⟨x,hx,rfl⟩:=List.mem_map.1 he1
     have hlt:=(hS.plain i o ho x hx).2
     have hlen:i<all.length:=(List.getElem?_eq_some_iff.1 ho).1
     have hxo:all[x.on]?=some all[x.on]:=List.getElem?_eq_getElem (by omega)
     exact ih x.on hlt _ hxo (hd x.on _ hxo (he x.on he1)) j he2
theorem Qo (md:Region.Mode)(ops:Array Oper)(fuel t:Nat)(listed:Array Bool):Region.linearise.go md ops (fuel+1) t listed [] =
 match (Region.ready md ops listed)[t % (Region.ready md ops listed).length]? with
  | some i=>i::Region.linearise.go md ops fuel (t / (Region.ready md ops listed).length) (listed.setIfInBounds i true) []
  | none=>[]:=by
 simp only [Region.linearise.go]
 show (match (Region.ready md ops listed)[t % (Region.ready md ops listed).length]? with
  | some i=>Region.linearise.go md ops fuel (t / (Region.ready md ops listed).length) (listed.setIfInBounds i true) [i]
  | none=>[].reverse)=_
 split
 . rw [linearise_go_acc];rfl
 . rfl
theorem Z7 {l:List Nat}(h:l≠[])(t:Nat):∃ i,l[t % l.length]?=some i/\i∈l:=by
 have hl:0<l.length:=by cases l with | nil=>exact absurd rfl h | cons _ _=>simp
 have hlt:=Nat.mod_lt t hl
 exact ⟨l[t % l.length],List.getElem?_eq_getElem hlt,List.getElem_mem hlt⟩
theorem zl {listed:Array Bool}{i j:Nat}(hi:i<listed.size)(d:Bool):(listed.setIfInBounds i true).getD j d=if j=i then true else listed.getD j d:=by
 simp only [Array.getD_eq_getD_getElem?,Array.getElem?_setIfInBounds]
 by_cases e:i=j
 . subst e;simp [hi]
 . rw [if_neg e,if_neg (fun h=>e h.symm)]
theorem qlr (hS:qhJ all k anc):∀ (m j t:Nat) (listed:Array Bool),j+m=all.length->k<=j->listed.size=all.length->(∀ i d,i<all.length->listed.getD i d=decide (i<j))->Region.linearise.go .any ⟨all⟩ m t listed []=List.range' j m:=by
 intro m
 induction m with
 | zero=>intro j t listed _ _ _ _;simp [Region.linearise.go]
 | succ m ih =>
   intro j t listed hj hk hsz hl
   have hjl:j<all.length:=by omega
   have hr:Region.ready .any ⟨all⟩ listed=[j]:=by
    have hmem:∀ i,i∈Region.ready .any ⟨all⟩ listed↔i=j:=by
     intro i
     rw [wA hS]
     constructor
     . rintro ⟨h1,h2,o,ho,h3⟩
       rw [hl i true h1] at h2
       simp at h2
       rcases Nat.lt_or_ge j i with hlt | hge
       . exfalso
         have ha:=hS.suf i j (by omega) h1 hlt
         have hdn:∀ (i:Nat) (o:Oper),all[i]?=some o->listed.getD i false=true->∀ e∈jM o,listed.getD e false=true:=by
          intro i' o' ho' hi' e he
          obtain ⟨x,hx,rfl⟩:=List.mem_map.1 he
          have hx2:=(hS.plain i' o' ho' x hx).2
          have hi2:i'<all.length:=(List.getElem?_eq_some_iff.1 ho').1
          rw [hl i' false hi2] at hi'
          rw [hl x.on false (by omega)]
          simp at hi' ⊢
          omega
         have:=qbB hS hdn i o ho h3 j ha
         rw [hl j false hjl] at this
         simp at this
       . omega
     . rintro rfl
       refine ⟨hjl,by rw [hl i true hjl];simp,_,List.getElem?_eq_getElem hjl,fun e he=>?_⟩
       obtain ⟨x,hx,rfl⟩:=List.mem_map.1 he
       have hx2:=(hS.plain i _ (List.getElem?_eq_getElem hjl) x hx).2
       rw [hl x.on false (by omega)]
       simp
       omega
    have hnd:(Region.ready .any ⟨all⟩ listed).Nodup:=by unfold Region.ready;exact List.Nodup.sublist List.filter_sublist List.nodup_range
    cases hq:Region.ready .any ⟨all⟩ listed with
    | nil=>have:=(hmem j).2 rfl;rw [hq] at this;cases this
    | cons a r =>
      rw [hq] at hmem hnd
      have ha:=(hmem a).1 List.mem_cons_self
      subst ha
      cases r with
      | nil=>rfl
      | cons b r =>
        have hb:=(hmem b).1 (by simp)
        subst hb
        simp at hnd
   rw [Qo,hr]
   simp only [List.length_cons,List.length_nil,Nat.zero_add,Nat.mod_one,List.getElem?_cons_zero,List.range'_succ]
   congr 1
   refine ih (j+1) _ _ (by omega) (by omega) (by simpa using hsz) ?_
   intro i d hi
   rw [zl (by omega),hl i d hi]
   by_cases e:i=j
   . simp [e]
   . rw [if_neg e];simp;omega
theorem qi8 (hS:qhJ all k anc)(hD:Dyn all k anc F its Fs)(hA:∀ (i:Nat) (o:Oper) (x:It),all[i]?=some o->its[i]?=some x->z7 P ⟨all⟩ (Fs i) o x){J:qi}(hfut:J.fut=qh.fut)(b:Frame)(ks:List Item)(cs:List Frame) :
 ∀ (fuel t:Nat) (listed:Array Bool) (G:Fr) (a:Act) (w:World) (σ:Gh),listed.size=all.length->fuel=kU all.length (fun i=>listed.getD i false)->(∀ i,k<=i->listed.getD i false=false) →
  (∀ (i:Nat) (o:Oper),all[i]?=some o->listed.getD i false=true->∀ e∈jM o,listed.getD e false=true)->Inv k F its (fun j=>j<k/\listed.getD j false=true) G->FR G σ w (qC a)->Dom G σ []->G.n<=a.tmps.size →
  ∃ a' w' σ',Steps P (lone (b.at a (.inRegion ⟨all⟩ (Region.linearise.go .any ⟨all⟩ fuel t listed [])::ks)) cs w) (lone (b.at a' (.inRegion ⟨all⟩ (List.range' k (all.length-k))::ks)) cs w') ∧
   FR (Fs k) σ' w' (qC a')/\Dom (Fs k) σ' []/\qF w σ w' σ'/\a'.defers=a.defers/\a'.tmps.size=a.tmps.size:=by
 intro fuel
 induction fuel with
 | zero =>
   intro t listed G a w σ hsz hfu hsuf hdn hI hF hd hn
   have hall:∀ i,i<all.length->listed.getD i false=true:=by
    intro i hi
    cases hl:listed.getD i false with
    | true=>rfl
    | false =>
      have:=Qh (f:=fun i=>listed.getD i false) all.length hi hl
      omega
   have hk:k=all.length:=by
    rcases Nat.lt_or_ge k all.length with h | h
    . have:=hall k h;rw [hsuf k (Nat.le_refl _)] at this;cases this
    . have:=hS.le;omega
   refine ⟨a,w,σ,?_,?_⟩
   . rw [hk];simp [Region.linearise.go];exact .refl P _
   . have he:(fun j=>j<k/\listed.getD j false=true)=(fun j=>j<k):=by funext j;exact propext ⟨fun h=>h.1,fun h=>⟨h,hall j (by omega)⟩⟩
     rw [he] at hI
     obtain ⟨h1,h2⟩:=qeA hI (zX hD k (Nat.le_refl _)) hF hd
     exact ⟨h1,h2,qF.refl _ _,rfl,rfl⟩
 | succ fuel ih =>
   intro t listed G a w σ hsz hfu hsuf hdn hI hF hd hn
   by_cases hpre:∀ i,i<k->listed.getD i false=true
   ·
    have hl:∀ i d,i<all.length->listed.getD i d=decide (i<k):=by
     intro i d hi
     have h0:listed.getD i d=listed.getD i false:=by simp only [Array.getD_eq_getD_getElem?,Array.getElem?_eq_getElem (show i<listed.size by omega),Option.getD_some]
     rw [h0]
     by_cases h:i<k
     . rw [hpre i h];simp [h]
     . rw [hsuf i (by omega)];simp [h]
    have hc:fuel+1=all.length-k:=by
     rw [hfu,zw (g:=fun i=>decide (i<k)) _ (fun i hi=>hl i false hi)]
     exact Ku _ _ hS.le
    refine ⟨a,w,σ,?_,?_⟩
    . rw [qlr hS (fuel+1) k t listed (by omega) (Nat.le_refl _) hsz hl,<-hc];exact .refl P _
    . have he:(fun j=>j<k/\listed.getD j false=true)=(fun j=>j<k):=by funext j;exact propext ⟨fun h=>h.1,fun h=>⟨h,hpre j h⟩⟩
      rw [he] at hI
      obtain ⟨h1,h2⟩:=qeA hI (zX hD k (Nat.le_refl _)) hF hd
      exact ⟨h1,h2,qF.refl _ _,rfl,rfl⟩
   ·
    obtain ⟨i0,hi0,hl0,hmin⟩:∃ i0,i0<k/\listed.getD i0 false=false/\∀ i,i<i0->listed.getD i false=true:=by
     have hex:∃ i,i<k/\listed.getD i false=false:=by
      refine Classical.byContradiction fun hno=>hpre fun i hi=>?_
      cases hl:listed.getD i false with
      | true=>rfl
      | false=>exact absurd ⟨i,hi,hl⟩ hno
     obtain ⟨i,hi,hl⟩:=hex
     induction i using Nat.strongRecOn with
     | _ i ihi =>
       by_cases hm:∀ j,j<i->listed.getD j false=true
       . exact ⟨i,hi,hl,hm⟩
       . obtain ⟨j,hj,hlj⟩:∃ j,j<i/\listed.getD j false=false:=by
          refine Classical.byContradiction fun hno=>hm fun j hj=>?_
          cases hl':listed.getD j false with
          | true=>rfl
          | false=>exact absurd ⟨j,hj,hl'⟩ hno
         exact ihi j hj (by omega) hlj
    have hle:=hS.le
    have hgd:∀ i,i<all.length->listed.getD i true=listed.getD i false:=by
     intro i hi
     simp only [Array.getD_eq_getD_getElem?,Array.getElem?_eq_getElem (show i<listed.size by omega),Option.getD_some]
    have hne:Region.ready .any ⟨all⟩ listed≠[]:=by
     intro hq
     have hr:i0∈Region.ready .any ⟨all⟩ listed:=by
      rw [wA hS]
      have ho:all[i0]?=some all[i0]:=List.getElem?_eq_getElem (by omega)
      refine ⟨by omega,by rw [hgd i0 (by omega)];exact hl0,_,ho,fun e he=>?_⟩
      obtain ⟨x,hx,rfl⟩:=List.mem_map.1 he
      exact hmin x.on (hS.plain i0 _ ho x hx).2
     rw [hq] at hr
     cases hr
    obtain ⟨i,hpi,hmi⟩:=Z7 hne t
    rw [wA hS] at hmi
    obtain ⟨hil,hiu,o,ho,hed⟩:=hmi
    rw [hgd i hil] at hiu
    have hanc:=qbB hS hdn i o ho hed
    have hik:i<k:=by
     rcases Nat.lt_or_ge i k with h | h
     . exact h
     . have:=hanc i0 (hS.suf i i0 h hil (by omega))
       rw [hl0] at this
       cases this
    obtain ⟨itx,hix⟩:∃ x,its[i]?=some x:=⟨its[i]'(by rw [hD.len];exact hik),List.getElem?_eq_getElem _⟩
    have hancE:∀ j,anc i j->j<k/\listed.getD j false=true:=by
     intro j hj
     have h1:=hanc j hj
     refine ⟨?_,h1⟩
     rcases Nat.lt_or_ge j k with h | h
     . exact h
     . rw [hsuf j h] at h1;cases h1
    have hag:=yn hD hI hik ho hancE
    have hnE:¬(i<k/\listed.getD i false=true):=by rw [hiu];simp
    have hfr:=Vd hD hI hix hnE
    have hGn:G.n=(Fs i).n:=by rw [hI.n,(zX hD i (Nat.le_of_lt hik)).n]
    have hst:=hA i o _ ho hix G hGn hag hfr
    have hI':=hI.step hD hix hnE
    have hE:(fun j=>j=i\/j<k/\listed.getD j false=true)=(fun j=>j<k/\(listed.setIfInBounds i true).getD j false=true):=by
     funext j
     rw [zl (by omega)]
     refine propext ⟨?_,?_⟩
     . rintro (rfl | ⟨h1,h2⟩)
       . exact ⟨hik,by simp⟩
       . refine ⟨h1,?_⟩
         split
         . rfl
         . exact h2
     . rintro ⟨h1,h2⟩
       split at h2
       . exact .inl (by assumption)
       . exact .inr ⟨h1,h2⟩
    rw [hE] at hI'
    have hfu':fuel=kU all.length (fun j=>(listed.setIfInBounds i true).getD j false):=by
     have h1:=Qh (f:=fun j=>listed.getD j false) all.length hil hiu
     have h2:kU all.length (fun j=>(listed.setIfInBounds i true).getD j false)=kU all.length (fun j=>if j=i then true else listed.getD j false) :=
      zw _ (fun j _=>zl (by omega) _)
     omega
    have hrest:=fun a1 w1 σ1=>ih (t / (Region.ready .any ⟨all⟩ listed).length) (listed.setIfInBounds i true) (G.ap itx) a1 w1 σ1 (by simpa using hsz) hfu'
     (by intro j hj;rw [zl (by omega),if_neg (by omega)];exact hsuf j hj)
     (by
       intro j o' ho' hj e he
       rw [zl (by omega)] at hj ⊢
       split
       . rfl
       . split at hj
         . rename_i hji
           subst hji
           rw [ho] at ho'
           injection ho' with ho'
           subst ho'
           exact hed e he
         . exact hdn j o' ho' hj e he) hI'
    rw [Qo,hpi]
    dsimp only
    have hoa:(⟨all⟩:Array Oper)[i]?=some o:=by simpa using ho
    rcases hst with ⟨hw,hop⟩ | ⟨hw,hsk⟩
    . obtain ⟨a1,w1,σ1,k1,k2,k3,k4,k5,k6,k7⟩:=hop J a w σ hfut hF hd hn b ks cs ⟨all⟩ i _ hoa (hw.sound hF)
      obtain ⟨a',w',σ',m1,m2,m3,m4,m5,m6⟩:=hrest a1 w1 σ1 k2 k3 (by omega)
      exact ⟨a',w',σ',k1.trans m1,m2,m3,k4.trans m4,m5.trans k6,m6.trans k7⟩
    . obtain ⟨g1,g2,g3⟩:=Ze hF hd o
      have hs:=step_op_skip (P:=P) (b:=b) (a:=a) (k:=ks) (cs:=cs) (w:=w) (ops:=⟨all⟩) (i:=i) (rest:=Region.linearise.go .any ⟨all⟩ fuel (t / (Region.ready .any ⟨all⟩ listed).length) (listed.setIfInBounds i true) []) (by rw [hoa];simpa using hw.sound hF)
      rw [hoa] at hs
      simp only [Option.bind_some] at hs
      rw [<-hsk] at g1 g2 g3
      obtain ⟨a',w',σ',m1,m2,m3,m4,m5,m6⟩:=hrest _ w σ g1 g2 (by rw [g3,zn];exact hn)
      exact ⟨a',w',σ',.head hs m1,m2,m3,m4,m5.trans (zL _ _),m6.trans (zn _ _)⟩
theorem Ex.draw [za] {ks:List K}{Post:Fr->Prop}{id:Nat}(hS:qhJ all k anc)(hD:Dyn all k anc F its Fs)(hA:∀ (i:Nat) (o:Oper) (x:It),all[i]?=some o->its[i]?=some x->z7 P ⟨all⟩ (Fs i) o x)
 (h:Ex P (.r ⟨all⟩ (all.drop k)::ks) (Fs k) Post):Ex P (.c (.region id ⟨all⟩ true)::ks) F Post:=by
 intro J a w σ hfut hok hF hd hnf hn its' hi b cs
 obtain rfl:=ze (by intro b;simp) hi
 have hstep:=step_region_draw (P:=P) (b:=b) (a:=a) (k:=ks.map qP) (cs:=cs) (w:=w) (ops:=⟨all⟩) (id:=id)
 have hdep:Region.departs ⟨all⟩=false:=by
  unfold Region.departs
  cases hc:(⟨all⟩:Array Oper).any (fun o=>o.after.any fun e=>!Region.binds .any e) with
  | false=>rfl
  | true =>
    exfalso
    obtain ⟨o,ho,h2⟩:=Array.any_eq_true'.1 hc
    obtain ⟨e,he,h3⟩:=Array.any_eq_true'.1 h2
    obtain ⟨i,hi'⟩:=List.mem_iff_getElem?.1 (show o∈all by simpa using ho)
    have hp:=(hS.plain i o hi' e (by simpa using he)).1
    unfold K7 at hp
    unfold Region.binds at h3
    split at h3<;>simp_all
 have hsch:∀ t,Region.schedule (P.follows .mixedOrders) ⟨all⟩ t=Region.linearise.go .any ⟨all⟩ all.length t (Array.replicate all.length false) []:=by
  intro t
  unfold Region.schedule
  rw [hdep]
  simp [Region.linearise]
 rw [hsch] at hstep
 have hrep:∀ (i:Nat) (d:Bool),(Array.replicate all.length false).getD i false=false:=by
  intro i _
  simp only [Array.getD_eq_getD_getElem?,Array.getElem?_replicate]
  split<;>rfl
 have hF':FR F σ { w with drawn:=w.drawn+1 } (qC a):=hF.drawn _
 have hd':Dom F σ []:=hd
 obtain ⟨a1,w1,σ1,k1,k2,k3,k4,k5,k6⟩:=qi8 hS hD hA hfut b (ks.map qP) cs all.length (w.tape w.drawn (.order b.fn id)) (Array.replicate all.length false) F a { w with drawn:=w.drawn+1 } σ (by simp)
  (by
    rw [zw (g:=fun i=>decide (i<0)) _ (fun i _=>by rw [hrep i false];simp)]
    rw [Ku _ _ (Nat.zero_le _)]
    simp)
  (fun i _=>hrep i false) (fun i o _ hi=>by rw [hrep i false] at hi;cases hi)
  (by
    have he:(fun j=>j<k/\(Array.replicate all.length false).getD j false=true)=(fun _=>False):=by
     funext j;rw [hrep j false];simp
    rw [he]
    exact Inv.start) hF' hd' hn
 have hgo:qF w σ w1 σ1:=(qF.drawn w σ _).trans k4
 have hokr:okK (.r ⟨all⟩ (all.drop k)):=by
  refine ⟨by simp,?_⟩
  have:=hS.le
  simp only [List.length_drop]
  rw [show (⟨all⟩:Array Oper).size-(all.length-k)=k by simp;omega]
 have hit:(K.r ⟨all⟩ (all.drop k)::ks).map qP=.inRegion ⟨all⟩ (List.range' k (all.length-k))::ks.map qP:=by
  have:=hS.le
  simp only [List.map_cons,qP,List.length_drop]
  rw [show (⟨all⟩:Array Oper).size-(all.length-k)=k by simp;omega]
 obtain ⟨F',a',w',σ',todo,m0,m1,m2,m3,m4,m5,m6,m7⟩:=h J a1 w1 σ1 hfut (zm hokr (zg hok)) k2 k3 (hnf.step hF.old hgo) (by rw [(zX hD k (Nat.le_refl _)).n];omega) _ (.inl rfl) b cs
 rw [hit] at m1
 exact ⟨F',a',w',σ',todo,m0,.head hstep (k1.trans m1),m2,m3,hgo.trans m4,m5.trans (zX hD k (Nat.le_refl _)).n,m6.trans k5,m7.trans k6⟩
end
end Go.Proofs.YtececadpjelanaaGreat.Ai
