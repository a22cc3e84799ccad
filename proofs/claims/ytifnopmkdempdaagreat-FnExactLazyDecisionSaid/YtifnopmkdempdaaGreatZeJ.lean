/- The law's proof, part 10 of 11: what of its author's texts it needs; no condition. -/
import Derived.Deep.RegionLaw
import Derived.Test.YtifnopmkdempdaaGreatZeI
set_option linter.unusedSectionVars false
set_option linter.unusedSimpArgs false
set_option linter.unusedVariables false
namespace Go.Proofs.YtifnopmkdempdaaGreat.Ai
open Go Go.RowKit
set_option maxRecDepth 100000
variable [qg]
structure KB [qj] (w w':World)(rb:Nat):Prop where
 os:w'.os=w.os
 tape:w'.tape=w.tape
 output:w'.output=w.output
 size:w.heap.size<=w'.heap.size
 heap:∀ b,b<w.heap.size->b≠rb->jl b w.heap[b]? w'.heap[b]?
def kM (q:Nat->Bool)(j:Nat):List Nat:=(List.range j).filter fun t=>!q t
theorem Q1 {q:Nat->Bool}{j:Nat}(h:q j=true):kM q (j+1)=kM q j:=by
 unfold kM
 rw [List.range_succ,List.filter_append,List.filter_cons,h]
 simp
theorem JF {q:Nat->Bool}{j:Nat}(h:q j=false):kM q (j+1)=kM q j++[j]:=by
 unfold kM
 rw [List.range_succ,List.filter_append,List.filter_cons,h]
 simp
structure J9 (q:Nat->Bool)(v:Nat->Value)(row:List Value)(n i j:Nat)(r:List Value):Prop where
 ij:i<j
 jn:j<=n
 len:r.length=row.length
 ie:i=(kM q j).length
 tk:r.take i=(kM q j).map v
 dr:r.drop j=row.drop j
theorem quf {n j:Nat}(h:j<n):(j:Int)<(n:Int):=by omega
theorem qp0 {n j:Nat}(h:j<n)(hn:Hid (n<=1000000)):wrap64 ((j:Int)+1)=(j:Int)+1:=by
 have:=hn.out
 unfold wrap64;omega
theorem qku {w:World}{rb:Nat}{r:List Value}{e:TypeId}(h:Hid (w.heap[rb]?=some (.cells r.toArray e (0,0)))){j:Nat}{u:Value}(hj:r[j]?=some u):w.cell? ⟨rb,j,none⟩=some u:=by
 unfold World.cell?
 dsimp only
 rw [h.out]
 dsimp only
 rw [if_neg (by simp),List.getElem?_toArray]
 exact hj
theorem qkm {w:World}{rb:Nat}{r:List Value}{e:TypeId}(h:Hid (w.heap[rb]?=some (.cells r.toArray e (0,0))))(j:Nat):w.frozen? ⟨rb,j,none⟩=false:=by
 unfold World.frozen?
 dsimp only
 rw [h.out]
 simp
theorem J9.at_ {q:Nat->Bool}{v:Nat->Value}{row r:List Value}{n i j:Nat}(h:J9 q v row n i j r)(hv:∀ j,j<n->row[j]?=some (v j))(hj:j<n):r[j]?=some (v j):=by
 have h1:=congrArg (fun l=>l[0]?) h.dr
 simp only [List.getElem?_drop,Nat.add_zero] at h1
 rw [h1,hv j hj]
theorem qkC {w w':World}{rb:Nat}{o:Obj}(h:Hid (w'.heap[rb]?=w.heap[rb]?))(h1:Hid (w.heap[rb]?=some o)):Hid (w'.heap[rb]?=some o):=h.out.trans h1.out
theorem J9.get {q:Nat->Bool}{v:Nat->Value}{row r:List Value}{n i j:Nat}(h:J9 q v row n i j r)(hl:n<=row.length)(hj:j<n):∃ u,r[i]?=some u :=
 ⟨r[i]'(by have:=h.ij;have:=h.len;omega),List.getElem?_eq_getElem _⟩
theorem J9.lt {q:Nat->Bool}{v:Nat->Value}{row r:List Value}{n i j:Nat}(h:J9 q v row n i j r):i<n:=by have:=h.ij;have:=h.jn;omega
theorem qr6 {w:World}{rb:Nat}{r:List Value}{e:TypeId}(h:Hid (w.heap[rb]?=some (.cells r.toArray e (0,0))))(i:Nat)(u:Value):Hid ((w.setCell ⟨rb,i,none⟩ u).heap[rb]?=some (.cells (r.set i u).toArray e (0,0))):=by
 have h1:=heap_setCell_same w rb i r.toArray e u h.out
 rw [List.setIfInBounds_toArray] at h1
 exact h1
theorem KB.set [qj] {w w':World}{rb:Nat}(h:Hid (KB w w' rb))(i:Nat)(u:Value):Hid (KB w (w'.setCell ⟨rb,i,none⟩ u) rb) :=
 ⟨h.out.os,h.out.tape,h.out.output,by simpa using h.out.size,fun b hb hne=>by rw [heap_setCell_other w' _ _ _ hne];exact h.out.heap b hb hne⟩
theorem J9.no {q:Nat->Bool}{v:Nat->Value}{row r:List Value}{n i j:Nat}(h:J9 q v row n i j r)(hl:n<=row.length)(hj:j<n)(hq:(!q j)=true):J9 q v row n (i+1) (j+1) (r.set i (v j)):=by
 have hq:q j=false:=by simpa using hq
 have h1:=h.ij
 have h2:=h.len
 refine ⟨by omega,by omega,by rw [List.length_set];exact h2,by rw [JF hq,List.length_append,<-h.ie];rfl,?_,?_⟩
 . rw [JF hq,List.map_append,<-h.tk,List.take_add_one,List.take_set_of_le (Nat.le_refl i),List.getElem?_set_self (by omega)]
   rfl
 . have h3:=congrArg (List.drop 1) h.dr
   rw [List.drop_drop,List.drop_drop] at h3
   rw [List.drop_set_of_lt (by omega)]
   exact h3
theorem J9.yes {q:Nat->Bool}{v:Nat->Value}{row r:List Value}{n i j:Nat}(h:J9 q v row n i j r)(hj:j<n)(hq:(!q j)=false):J9 q v row n i (j+1) r:=by
 have hq:q j=true:=by simpa using hq
 have h1:=h.ij
 refine ⟨by omega,by omega,h.len,by rw [Q1 hq];exact h.ie,by rw [Q1 hq];exact h.tk,?_⟩
 have h3:=congrArg (List.drop 1) h.dr
 rw [List.drop_drop,List.drop_drop] at h3
 exact h3
theorem qsu {n j:Nat}(h:j<n)(hn:Hid (n<=1000000)):Value.int .i64 (wrap64 ((j:Int)+1))=.int .i64 ((j+1:Nat):Int):=by rw [qp0 h hn];rfl
theorem qts {n i cap:Nat}(h:i<n)(hc:n<=cap):¬cap=i:=by omega
theorem qtP {k n j:Nat}(hk:k=n-j)(h:j<n):n-(j+1)<k:=by omega
theorem quk {n j:Nat}(hj:j<=n)(h:¬j<n):j=n:=by omega
theorem qpk {q:Nat->Bool}{v:Nat->Value}{row:List Value}{n i1:Nat}(hv:∀ j,j<n->row[j]?=some (v j))(hi:i1<n)(h1:q i1=true)(h0:∀ j,j<i1->q j=false):J9 q v row n i1 (i1+1) row:=by
 have e:kM q i1=List.range i1:=List.filter_eq_self.2 fun j hj=>by rw [h0 j (List.mem_range.1 hj)];rfl
 refine ⟨by omega,by omega,rfl,by rw [Q1 h1,e,List.length_range],?_,rfl⟩
 rw [Q1 h1,e]
 apply List.ext_getElem?
 intro m
 rw [List.getElem?_take,List.getElem?_map]
 by_cases hm:m<i1
 . rw [if_pos hm,List.getElem?_range hm,hv m (by omega)];rfl
 . rw [if_neg hm,List.getElem?_eq_none (by simpa using hm)];rfl
theorem qr8 {q:Nat->Bool}{v:Nat->Value}{row r:List Value}{n i j:Nat}(h:J9 q v row n i j r)(hl:n<=row.length):n<=r.length:=by rw [h.len];exact hl
theorem qtA:∃ i,Tryz.prog.info? 26=some i/\i.zero=some (.slice none 0 0):=by
 have h:(Tryz.prog.info? 26).map (fun i=>i.zero)=some (some (.slice none 0 0)):=by kernel_rfl
 obtain ⟨i,h1,h2⟩:=Option.map_eq_some_iff.1 h
 exact ⟨i,h1,h2⟩
theorem KB.zap [qj] {w w':World}{rb:Nat}(h:Hid (KB w w' rb))(i:Nat)(us:List Value):Hid (KB w (w'.setCells rb i us) rb):=by
 obtain ⟨h1,h2,h3,h4⟩:=ZA rb us i w'
 exact ⟨h2.trans h.out.os,h3.trans h.out.tape,h4.trans h.out.output,by rw [h1];exact h.out.size,fun b hb hne=>by rw [Q0 rb us i w' b hne];exact h.out.heap b hb hne⟩
theorem W0 [qj] {P:Program}{w w0:World}{ops:Array Oper}{rest:List Oper}{o:Oper}{a:Act}{Q:Exit->Act->World->Prop}(hgd:o.guard=none)(hds:o.dst=none)(x:Operand){t e0:TypeId}
 (ho:o.op=.call ⟨.builtin .clear,#[x],#[t]⟩) (hu:P.underlying t=some (.slice e0)) {i2:TypeInfo} (hi:P.info? e0=some i2) (hz:i2.zero=some (.slice none 0 0)) {g i n cap:Nat} {e:TypeId} {r:List Value}
 (hx:a.eval x=.slice (some ⟨g,i,none⟩) (n-i) (cap-i)) (hin:i<n) (hr:Hid (w.heap[g]?=some (.cells r.toArray e (0,0)))) (hfit:n<=r.length) (hkb:Hid (KB w0 w g))
 (hK:∀ w',Hid (∃ r':List Value,w'.heap[g]?=some (.cells r'.toArray e (0,0))/\r'.length=r.length/\∀ m,r'[m]?=if i<=m/\m<n then some (.slice none 0 0) else r[m]?)->Hid (KB w0 w' g)->wpList P ops Q rest a w'):wpList P ops Q (o::rest) a w:=by
 refine wpList_plain hgd fun K hK'=>?_
 obtain ⟨len,hlen⟩:∃ len,n-i=len+1:=⟨n-i-1,by omega⟩
 rw [hlen] at hx
 have hst:=run_storeCells_cells (P:=P) g i (List.replicate (len+1) (.slice none 0 0)) 0 w (fun j hj=>by
  simp at hj
  unfold World.cell?
  dsimp only
  rw [hr.out]
  dsimp only
  rw [if_neg (by simp),List.getElem?_toArray,List.getElem?_eq_getElem (by omega)]
  rfl) (fun j hj=>qkm hr _) (by
  intro v hv
  rw [List.mem_replicate] at hv
  rw [hv.2]
  rfl)
 simp only [Nat.add_zero] at hst
 have hzc:Builtin.zeroCells (Value.slice none 0 0).cells (len+1)=(List.replicate (len+1) (Value.slice none 0 0)).toArray:=by
  apply Array.ext'
  rw [show (Value.slice none 0 0).cells=#[Value.slice none 0 0] from rfl,ws]
 have hzv:(zeroValue e0).run P w=.ok (.slice none 0 0) w:=by simp [zeroValue,run_typeInfo w hi,hz]
 unfold Oper.wp
 simp [execOp,ho,resolve,invoke,builtin,Builtin.clear_,underlying,hu,hx,hzv,hzc,hst,Result.andThen]
 show K (a.put o.dst (.tuple #[])) _
 rw [hds]
 obtain ⟨r',h1,h2,h3⟩:=wq g e (List.replicate (len+1) (Value.slice none 0 0)) i w r.toArray hr.out (by simp;omega)
 refine hK' _ _ (hK _ ⟨r'.toList,h1,by simpa using h2,fun m=>?_⟩ (KB.zap hkb _ _))
 have h4:=h3 m
 rw [List.length_replicate] at h4
 rw [Array.getElem?_toList,h4]
 by_cases hm:i<=m/\m<n
 . rw [if_pos (by omega),if_pos hm,List.getElem?_replicate,if_pos (by omega)]
 . rw [if_neg (by omega),if_neg hm,List.getElem?_toArray]
structure qsG [qj] (va:Nat->Option Addr)(vl vc:Nat->Nat)(q:Nat->Bool)(row:List Value)(rb:Nat)(e:TypeId)(n:Nat)(w w':World):Prop where
 kb:KB w w' rb
 row:∃ r':List Value,w'.heap[rb]?=some (.cells r'.toArray e (0,0))/\r'.length=row.length/\(∀ (m t:Nat),(kM q n)[m]?=some t->r'[m]?=some (Value.slice (va t) (vl t) (vc t)))/\∀ m:Nat,(kM q n).length<=m->m<n->r'[m]?=some (Value.slice none 0 0)
theorem qsC [qj] {va:Nat->Option Addr}{vl vc:Nat->Nat}{q:Nat->Bool}{row r:List Value}{rb n i:Nat}{e:TypeId}{w w':World}(hD:J9 q (fun j=>.slice (va j) (vl j) (vc j)) row n i n r)
 (hr:Hid (∃ r':List Value,w'.heap[rb]?=some (.cells r'.toArray e (0,0))/\r'.length=r.length/\∀ m,r'[m]?=if i<=m/\m<n then some (.slice none 0 0) else r[m]?)) (hk:Hid (KB w w' rb)):Hid (qsG va vl vc q row rb e n w w'):=by
 obtain ⟨r',h1,h2,h3⟩:=hr.out
 refine ⟨hk,r',h1,h2.trans hD.len,fun m t hm=>?_,fun m h4 h5=>?_⟩
 . have hlt:m<(kM q n).length:=(List.getElem?_eq_some_iff.1 hm).1
   have hie:=hD.ie
   rw [h3,if_neg (by omega)]
   have h6:=congrArg (fun l:List Value=>l[m]?) hD.tk
   simp only [List.getElem?_take,List.getElem?_map,hm] at h6
   rw [if_pos (by omega)] at h6
   exact h6
 . have hie:=hD.ie
   rw [h3,if_pos (by omega)]
set_option maxHeartbeats 1600000 in
set_option maxRecDepth 1000000 in
theorem qm4 [qj] (rb cap n i1:Nat)(e:TypeId)(c1 c2:Value)(va:Nat->Option Addr)(vl vc:Nat->Nat)(q:Nat->Bool)(row:List Value)(w:World)(hn:Hid (n<=1000000))(hrb:rb<w.heap.size)
 (hrow:Hid (w.heap[rb]?=some (.cells row.toArray e (0,0)))) (hv:∀ j,j<n->row[j]?=some (.slice (va j) (vl j) (vc j)))
 (hcl:∀ wr,Hid (KB w wr rb)->Hid (∃ r:List Value,wr.heap[rb]?=some (.cells r.toArray e (0,0)))->∀ j,j<n->Calls Tryz.prog 88 #[.slice (va j) (vl j) (vc j),c1,c2] wr fun x w'=>x=.returned (.bool (q j))/\Hid (KB w w' rb)/\Hid (w'.heap[rb]?=wr.heap[rb]?))
 (hnc:n<=cap) (hl:n<=row.length) (hi1:i1<n) (hq1:q i1=true) (hq0:∀ j,j<i1->q j=false)
 (hix:Calls Tryz.prog 91 #[.slice (some ⟨rb,0,none⟩) n cap,.func (.func 88) #[] #[c1,c2]] w fun x w'=>x=.returned (.int .i64 i1)/\Hid (KB w w' rb)/\Hid (w'.heap[rb]?=w.heap[rb]?)) :
 Calls Tryz.prog 87 #[.slice (some ⟨rb,0,none⟩) n cap,.func (.func 88) #[] #[c1,c2]] w fun x w'=>x=.returned (.slice (some ⟨rb,0,none⟩) (kM q n).length cap)/\Hid (qsG va vl vc q row rb e n w w'):=by
 have hw1:=qp0 hi1 hn
 have hne:¬((i1:Int)=-1):=by omega
 have hbe:((i1:Int) == -1)=false:=by simp
 go_enter Tryz.func87,Tryz.ntmps87
 go_wp2_with (go_at_call 91;refine hix.mono ?_;rintro e w' ⟨rfl,hk1,hr1⟩)
 simp only [hbe,hw1]
 go_loopg [5,6] (n-(i1+1)) (fun k a b wr=>∃ i j r,k=n-j/\a=.int .i64 (i:Nat)/\b=.int .i64 (j:Nat)/\Hid (J9 q (fun j=>.slice (va j) (vl j) (vc j)) row n i j r)/\Hid (wr.heap[rb]?=some (.cells r.toArray e (0,0)))/\Hid (KB w wr rb))
 case atStart=>exact ⟨i1,i1+1,row,rfl,rfl,rfl,qpk hv hi1 hq1 hq0,qkC hr1 hrow,hk1⟩
 case round =>
  obtain ⟨i,j,r,hk,rfl,rfl,hD,hrw,hkb⟩:=hrel
  by_cases hlt:j<n
  . have hlt':=quf hlt
    have hcj:=qku hrw (hD.out.at_ hv hlt)
    have hin:=hD.out.lt
    have hwj:=qp0 hlt hn
    have hwi:=qp0 hin hn
    obtain ⟨u,hu⟩:=hD.out.get hl hlt
    go_wp2_with (go_at_call 88;refine (hcl _ hkb ⟨_,hrw⟩ j hlt).mono ?_;rintro e w' ⟨rfl,hkb2,hrw2⟩;have hrw3:=qkC hrw2 hrw;have hci:=qku hrw3 hu;have hfi:=qkm hrw3 i)
    all_goals go_roundg (n-(j+1))
    all_goals first
     | (refine ⟨i+1,j+1,r.set i (.slice (va j) (vl j) (vc j)),rfl,qsu hin hn,qsu hlt hn,?_⟩;exact ⟨hD.out.no hl hlt (by assumption),qr6 hrw3 _ _,KB.set hkb2 _ _⟩)
     | (refine ⟨i,j+1,r,rfl,rfl,qsu hlt hn,?_⟩;exact ⟨hD.out.yes hlt (by assumption),hrw3,hkb2⟩)
     | exact qtP hk hlt
     | exact qtP rfl hlt
     | skip
  . obtain rfl:=quk hD.out.jn hlt
    have hin:=hD.out.ij
    have hic:¬cap=i:=qts hin hnc
    obtain ⟨i2,hi2,hz2⟩:=qtA
    go_wp2_with (refine W0 (o:=⟨none,.call ⟨.builtin .clear,#[.tmp 38],#[55]⟩,_,_,_,_⟩) rfl rfl (.tmp 38) rfl Tryz.underlying55 hi2 hz2 (n:=j) (cap:=cap) rfl hin hrw (qr8 hD.out hl) hkb ?_)
    intro w4 hr4 hk4
    go_wp2
    go_ret
    exact ⟨by rw [<-hD.out.ie];rfl,qsC hD.out hr4 hk4⟩
theorem qb1 [qj] (p0:Option Addr)(n cap:Nat)(c1 c2:Value)(w:World)
 (hix:Calls Tryz.prog 91 #[.slice p0 n cap,.func (.func 88) #[] #[c1,c2]] w fun x w'=>x=.returned (.int .i64 (-1))/\Hid (qX w w')) :
 Calls Tryz.prog 87 #[.slice p0 n cap,.func (.func 88) #[] #[c1,c2]] w fun x w'=>x=.returned (.slice p0 n cap)/\Hid (qX w w'):=by
 go_enter Tryz.func87,Tryz.ntmps87
 go_wp2_with (go_at_call 91;refine hix.mono ?_;rintro e w' ⟨rfl,hk1⟩)
 go_ret
 exact ⟨rfl,hk1⟩
end Go.Proofs.YtifnopmkdempdaaGreat.Ai
namespace Go.Proofs.YtifnopmkdempdaaGreat.Ai
open Go Go.RowKit
set_option maxRecDepth 100000
variable [qg]
def kP (l:List (List Int)):List (List O):=l.map fun x=>[.osl (qG x)]
def jk (p:List Int->Bool)(l:List (List Int)):List (List Int):=l.filter fun x=>!p x
def W7 (p:List Int->Bool)(l:List (List Int)):List (List Int):=jk p l++List.replicate (l.length-(jk p l).length) []
theorem WN (l:List (List Int)):(kP l).length=l.length:=by simp [kP]
theorem qbs {l:List (List Int)}{i j:Nat}{y:List O}{o:O}(hi:(kP l)[i]?=some y)(hj:y[j]?=some o):∃ x,l[i]?=some x/\j=0/\o=.osl (qG x):=by
 unfold kP at hi
 rw [List.getElem?_map] at hi
 cases hx:l[i]? with
 | none=>rw [hx] at hi;cases hi
 | some x =>
   rw [hx] at hi
   injection hi with hi
   subst hi
   cases j with
   | zero=>injection hj with hj;exact ⟨x,rfl,rfl,hj.symm⟩
   | succ j=>cases hj
theorem YA {l:List (List Int)}{i:Nat}{x:List Int}(h:l[i]?=some x):(kP l)[i]?=some [.osl (qG x)]:=by unfold kP;rw [List.getElem?_map,h];rfl
theorem VI {J:qj}{g:Nat}{o o':Option Obj}{c:Array Value}{e:TypeId}{f:Nat×Nat}(h:@jl J g o o')(ho:o=some (.cells c e f)):o'=some (.cells c e f):=by
 rcases h with h | ⟨m,x,x',_,h2,_,h4,_⟩
 . rw [h];exact ho
 . rw [ho] at h2
   injection h2 with h2
   subst h2
   exact h4.elim
theorem qlD {J:qj}{w w':World}{σ σ2:Gh}{p p2:qk}{x:List Int}{v:Value}(h:@qq J w σ p (.osl (qG x)) v)(hb:∀ g n cap sz,σ g=some ⟨p,n,cap,sz⟩->σ2 g=some ⟨p2,n,cap,sz⟩/\@jl J g w.heap[g]? w'.heap[g]?):@qq J w' σ2 p2 (.osl (qG x)) v:=by
 letI:=J
 generalize hxs:qG x=xs at h
 cases h with
 | oslz=>exact qq.oslz _ _
 | osl _ _ e sz g cap cur us hh hc hcm hl hs hg hm hr =>
   obtain ⟨h1,h2⟩:=hb g _ _ _ hg
   refine qq.osl p2 xs e sz g cap cur us (VI h2 hh) hc hcm hl hs h1 hm fun i j y o hi hj=>?_
   subst hxs
   obtain ⟨z,hz,rfl,rfl⟩:=wx hi hj
   have h3:=hr i 0 _ _ hi hj
   generalize us i 0=u at h3 ⊢
   cases h3 with
   | fz _ _ _ h4=>cases h4;exact .fz _ _ _ (.int _ _)
theorem qh4 {J:qj}{w:World}{σ:Gh}{p:qk}{x:List Int}{v:Value}(h:@qq J w σ p (.osl (qG x)) v):∃ a n c,v=.slice a n c:=by
 generalize qG x=xs at h
 cases h with
 | oslz=>exact ⟨_,_,_,rfl⟩
 | osl=>exact ⟨_,_,_,rfl⟩
theorem qoN {J:qj}{w:World}{σ:Gh}{r:Nat}{a:Nat×Nat}{t:List (Nat×Nat)}{x:List Int}{v:Value}{rb:Nat}{y:Own}(h:@qq J w σ (r,a::t) (.osl (qG x)) v)(hy:σ rb=some y)(hp:y.p=(r,[])):@qt (@qR J) w (fun g=>if g=rb then some y else none) (.sl (rcI x)) v:=by
 have hfl:(O.osl (qG x)).clean=true:=by
  rw [<-Qd]
  exact LL.clean_ro (.i x) rfl
 have h1:=h.swapCl (J2:=@qR J) hfl
 letI:=@qR J
 have h2:O.frz (.osl (qG x))=.sl (rcI x):=by
  rw [<-Qd]
  show C.sl (O.frzLL (roI x))=_
  rw [qsT]
 rw [<-h2]
 refine h1.frzOwn (σ':=fun g=>if g=rb then some y else none) ⟨fun b _ h0=>?_,fun _ _ _=>.inl rfl⟩ hfl fun g s n cap sz hg=>⟨?_,id⟩
 . rw [if_neg]
   rintro rfl
   rw [hy] at h0;cases h0
 . show (if g=rb then some y else none)=none
   rw [if_neg]
   rintro rfl
   rw [hy] at hg
   injection hg with hg
   rw [hg] at hp
   simp at hp
theorem W8 {q:Nat->Bool}:∀ {n m t:Nat},(kM q n)[m]?=some t->t<n/\q t=false/\m=(kM q t).length
 | 0,m,t,h=>by unfold kM at h;simp at h
 | n+1,m,t,h=>by
   cases hq:q n with
   | true =>
     rw [Q1 hq] at h
     obtain ⟨h1,h2,h3⟩:=W8 h
     exact ⟨by omega,h2,h3⟩
   | false =>
     rw [JF hq,List.getElem?_append] at h
     split at h
     . obtain ⟨h1,h2,h3⟩:=W8 h
       exact ⟨by omega,h2,h3⟩
     . rename_i hm
       have hm1:m-(kM q n).length<1:=(List.getElem?_eq_some_iff.1 h).1
       rw [show m-(kM q n).length=0 by omega] at h
       injection h with h
       subst h
       exact ⟨by omega,hq,by omega⟩
theorem yq {q:Nat->Bool}:∀ {n t:Nat},t<n->q t=false->(kM q n)[(kM q t).length]?=some t
 | 0,t,h,_=>by omega
 | n+1,t,h,hq=>by
   by_cases e:t=n
   . subst e
     rw [JF hq,List.getElem?_append_right (Nat.le_refl _),Nat.sub_self]
     rfl
   . have ih:=yq (n:=n) (by omega) hq
     cases hn:q n with
     | true=>rw [Q1 hn];exact ih
     | false=>rw [JF hn,List.getElem?_append_left (List.getElem?_eq_some_iff.1 ih).1];exact ih
theorem qcc (p:List Int->Bool)(l:List (List Int)):∀ j,j<=l.length->jk p (l.take j)=(kM (fun t=>p (l.getD t [])) j).map fun t=>l.getD t []
 | 0,_=>by simp [jk,kM]
 | j+1,h=>by
   have ih:=qcc p l j (by omega)
   have e:l[j]?=some (l.getD j []):=by rw [List.getD_eq_getElem?_getD,List.getElem?_eq_getElem (by omega)];rfl
   unfold jk at ih ⊢
   rw [List.take_add_one,List.filter_append,ih,e,Option.toList_some,List.filter_cons]
   cases hq:p (l.getD j []) with
   | true=>rw [Q1 (q:=fun t=>p (l.getD t [])) hq];simp
   | false=>rw [JF (q:=fun t=>p (l.getD t [])) hq];simp
theorem qfj (p:List Int->Bool)(l:List (List Int)):jk p l=(kM (fun t=>p (l.getD t [])) l.length).map fun t=>l.getD t []:=by
 have:=qcc p l l.length (Nat.le_refl _)
 rwa [List.take_length] at this
noncomputable def yX (σ:Gh)(q:Nat->Bool):Gh:=fun g=>match σ g with
 | some ⟨(r,[(j,0)]),n,cap,sz⟩=>if q j=true then none else some ⟨(r,[((kM q j).length,0)]),n,cap,sz⟩
 | some ⟨(r,[]),n,cap,sz⟩=>some ⟨(r,[]),n,cap,sz⟩
 | _=>none
theorem vL {σ:Gh}{q:Nat->Bool}{g:Nat}{x:Own}(h:yX σ q g=some x):(σ g=some x/\x.p.2=[])\/∃ r j n cap sz,σ g=some ⟨(r,[(j,0)]),n,cap,sz⟩/\q j=false/\x=⟨(r,[((kM q j).length,0)]),n,cap,sz⟩:=by
 unfold yX at h
 split at h
 . rename_i r j n cap sz he
   split at h
   . cases h
   . rename_i hq
     injection h with h
     exact .inr ⟨r,j,n,cap,sz,he,by simpa using hq,h.symm⟩
 . rename_i r n cap sz he
   injection h with h
   subst h
   exact .inl ⟨he,rfl⟩
 . cases h
theorem qpF {q:Nat->Bool}{i j:Nat}(hi:q i=false)(hj:q j=false)(h:(kM q i).length=(kM q j).length):i=j:=by
 have h1:=yq (n:=i+j+1) (by omega) hi
 have h2:=yq (n:=i+j+1) (by omega) hj
 rw [h,h2] at h1
 exact (Option.some.inj h1).symm
end Go.Proofs.YtifnopmkdempdaaGreat.Ai
namespace Go.Proofs.YtifnopmkdempdaaGreat.Ai
open Go Go.RowKit
set_option maxRecDepth 100000
variable [qg]
def V8 (q:Nat->Bool)(l:List (List Int)):List (List Int):=((kM q l.length).map fun t=>l.getD t [])++List.replicate (l.length-(kM q l.length).length) []
theorem qjm (q:Nat->Bool)(n:Nat):(kM q n).length<=n:=by
 unfold kM
 exact Nat.le_trans (List.length_filter_le _ _) (by simp)
theorem Wl (q:Nat->Bool)(l:List (List Int)):(V8 q l).length=l.length:=by
 have:=qjm q l.length
 unfold V8
 rw [List.length_append,List.length_map,List.length_replicate]
 omega
theorem qjw {q:Nat->Bool}{l:List (List Int)}{m t:Nat}(h:(kM q l.length)[m]?=some t):(V8 q l)[m]?=some (l.getD t []):=by
 unfold V8
 rw [List.getElem?_append_left (by rw [List.length_map];exact (List.getElem?_eq_some_iff.1 h).1),List.getElem?_map,h]
 rfl
theorem qro {q:Nat->Bool}{l:List (List Int)}{m:Nat}(h:(kM q l.length).length<=m)(hm:m<l.length):(V8 q l)[m]?=some []:=by
 unfold V8
 rw [List.getElem?_append_right (by rw [List.length_map];exact h),List.length_map,List.getElem?_replicate,if_pos (by omega)]
theorem qmc {σ:Gh}{q:Nat->Bool}{g:Nat}(h:σ g=none):yX σ q g=none:=by unfold yX;rw [h]
theorem qqD {σ:Gh}{q:Nat->Bool}{g r j n cap sz:Nat}(h:σ g=some ⟨(r,[(j,0)]),n,cap,sz⟩)(hq:q j=false):yX σ q g=some ⟨(r,[((kM q j).length,0)]),n,cap,sz⟩:=by
 unfold yX
 rw [h]
 exact if_neg (by rw [hq];simp)
theorem qaG {σ:Gh}{q:Nat->Bool}{g r n cap sz:Nat}(h:σ g=some ⟨(r,[]),n,cap,sz⟩):yX σ q g=some ⟨(r,[]),n,cap,sz⟩:=by
 unfold yX
 rw [h]
theorem qno {l:List (List Int)}{i:Nat}{x:List Int}(h:l[i]?=some x):(O.osl (kP l)).at std [(i,0)]=.osl (qG x):=by
 simp only [O.at,std]
 rw [YA h]
 rfl
theorem qnK {J:qj}{w w':World}{σ:Gh}{l:List (List Int)}{q:Nat->Bool}{rb cap:Nat}{e:TypeId}(hin:@kC J w σ [(lrt 0,.osl (kP l))] [.rf (lrt 0,[]) 0 l.length])
 (hg:σ rb=some ⟨(lrt 0,[]),l.length,cap,1⟩) (hpos:0<l.length) (hc:l.length<=cap) (hcm:cap<=maxLen) {row:List Value} (hrl:row.length=cap) {va:Nat->Option Addr} {vl vc:Nat->Nat}
 (hv:∀ j,j<l.length->@qq J w σ (lrt 0,[(j,0)]) (.osl (qG (l.getD j []))) (.slice (va j) (vl j) (vc j))) (hF:@qsG J va vl vc q row rb e l.length w w') :
 (@qJ J w σ w' (yX σ q))/\@kC J w' (yX σ q) [(lrt 0,.osl (kP (V8 q l)))] [.rf (lrt 0,[]) 0 l.length]:=by
 letI:=J
 obtain ⟨kb,r',hr1,hr2,hr3,hr4⟩:=hF
 have hne:∀ g j n cap2 sz,σ g=some ⟨(lrt 0,[(j,0)]),n,cap2,sz⟩->g≠rb:=fun g j n cap2 sz h e=>by
  subst e
  rw [hg] at h
  injection h with h
  injection h with h1 h2 h3 h4
  injection h1 with h5 h6
  cases h6
 have hxl:(kP (V8 q l)).length=l.length:=by rw [WN,Wl]
 refine ⟨⟨⟨fun b _ h0=>qmc h0,fun b hb h0=>kb.heap b hb (fun e=>by subst e;rw [hg] at h0;cases h0)⟩,kb.size,kb.os,kb.tape,kb.output⟩,⟨fun g g' x y hx hy hp=>?_,fun g x hx=>?_,fun id=>?_,fun i x hi=>?_,?_⟩⟩
 . rcases vL hx with ⟨h1,h2⟩ | ⟨r,j,n,c,z,h1,h2,rfl⟩<;>rcases vL hy with ⟨h3,h4⟩ | ⟨r2,j2,n2,c2,z2,h3,h4,rfl⟩
   . exact hin.inj _ _ _ _ h1 h3 hp
   . rw [hp] at h2;cases h2
   . rw [<-hp] at h4;cases h4
   . dsimp only at hp
     injection hp with hp1 hp2
     injection hp2 with hp3 _
     injection hp3 with hp4 _
     obtain rfl:=qpF h2 h4 hp4
     subst hp1
     exact hin.inj _ _ _ _ h1 h3 rfl
 . rcases vL hx with ⟨h1,_⟩ | ⟨r,j,n,c,z,h1,_,_⟩
   . exact Nat.lt_of_lt_of_le (hin.lt g _ h1) kb.size
   . exact Nat.lt_of_lt_of_le (hin.lt g _ h1) kb.size
 . rw [jN]
   by_cases h:id=lrt 0
   . subst h
     rw [if_pos rfl]
     refine ⟨_,qq.osl (lrt 0,[]) (kP (V8 q l)) e 1 rb cap r'.toArray (fun i _=>r'.getD i undef) hr1 ⟨by omega,by omega⟩ hcm (by rw [List.size_toArray,hr2,hrl];omega) (fun y hy=>?_) (by rw [hxl];exact qaG hg) (fun i j y o hi hj=>?_) fun i j y o hi hj=>?_⟩
     . obtain ⟨x,_,rfl⟩:=List.mem_map.1 hy;rfl
     . obtain ⟨x,hx,rfl,rfl⟩:=qbs hi hj
       have hi2:i<l.length:=by rw [<-Wl q l];exact (List.getElem?_eq_some_iff.1 hx).1
       rw [show i * 1+0=i by omega,List.getElem?_toArray,List.getD_eq_getElem?_getD,List.getElem?_eq_getElem (by omega)]
       rfl
     . obtain ⟨x,hx,rfl,rfl⟩:=qbs hi hj
       have hi2:i<l.length:=by rw [<-Wl q l];exact (List.getElem?_eq_some_iff.1 hx).1
       dsimp only
       by_cases hk:i<(kM q l.length).length
       . obtain ⟨t,ht⟩:∃ t,(kM q l.length)[i]?=some t:=⟨_,List.getElem?_eq_getElem hk⟩
         obtain ⟨h1,h2,h3⟩:=W8 ht
         rw [qjw ht] at hx
         injection hx with hx
         subst hx
         rw [show r'.getD i undef=.slice (va t) (vl t) (vc t) by rw [List.getD_eq_getElem?_getD,hr3 i t ht];rfl]
         refine qlD (hv t h1) fun g n c z hgt=>⟨?_,kb.heap g (hin.lt g _ hgt) (hne g t n c z hgt)⟩
         rw [qqD hgt h2,<-h3]
         rfl
       . rw [qro (by omega) hi2] at hx
         injection hx with hx
         subst hx
         rw [show r'.getD i undef=.slice none 0 0 by rw [List.getD_eq_getElem?_getD,hr4 i (by omega) hi2];rfl]
         exact qq.oslz _ _
   . rw [if_neg h]
     obtain ⟨v,hv⟩:=hin.tbl id
     rw [jN,if_neg h] at hv
     cases hv with
     | un _ _ hv=>exact ⟨v,.un _ v hv⟩
 . have h1:=hin.ph i x hi
   have hx:x=.rf (lrt 0,[]) 0 l.length:=by
    cases i with
    | zero=>injection hi with hi;exact hi.symm
    | succ i=>cases hi
   subst hx
   generalize qj.ph i=v at h1 ⊢
   generalize hn:l.length=n at h1
   cases h1 with
   | rf _ _ _ g n cap sz h2 h3 h4=>exact .rf _ _ _ g n cap sz (qaG h2) h3 h4
   | rz=>omega
 . intro g x hx
   left
   rcases vL hx with ⟨h1,h2⟩ | ⟨r,j,n,c,z,h1,h2,rfl⟩
   . rcases hin.dom g x h1 with hd | ⟨_,_,_,hm,_⟩
     . obtain ⟨p,n,c,z⟩:=x
       obtain ⟨r,s⟩:=p
       dsimp only at h2
       subst h2
       unfold Fr.at at hd ⊢
       dsimp only at hd ⊢
       rw [jN] at hd ⊢
       by_cases h:r=lrt 0
       . rw [if_pos h] at hd ⊢
         have hd:(kP l).length=n/\0<n:=hd
         show (kP (V8 q l)).length=n/\0<n
         rw [hxl]
         rw [WN] at hd
         exact hd
       . rw [if_neg h] at hd
         exact hd.elim
     . cases hm
   . rcases hin.dom g _ h1 with hd | ⟨_,_,_,hm,_⟩
     . unfold Fr.at at hd ⊢
       dsimp only at hd ⊢
       rw [jN] at hd ⊢
       by_cases h:r=lrt 0
       . rw [if_pos h] at hd ⊢
         cases hj:l[j]? with
         | none =>
           exfalso
           have:(kP l)[j]?=none:=by unfold kP;rw [List.getElem?_map,hj];rfl
           simp only [O.at,std,this] at hd
           exact hd
         | some x =>
           rw [qno hj] at hd
           have hjl:j<l.length:=(List.getElem?_eq_some_iff.1 hj).1
           have h5:=qjw (yq hjl h2)
           rw [List.getD_eq_getElem?_getD,hj] at h5
           rw [qno h5]
           exact hd
       . rw [if_neg h] at hd
         exact hd.elim
     . cases hm
end Go.Proofs.YtifnopmkdempdaaGreat.Ai
namespace Go.Proofs.YtifnopmkdempdaaGreat.Ai
open Go Go.RowKit
set_option maxRecDepth 100000
variable [qg]
theorem qnw {J:qj}{w w':World}{v:Value}{b:Bool}(h:@kj J w (.v (false,[.fz (.bool b)])) v w'):v=.bool b:=by
 letI:=J
 obtain ⟨σr,_,_,h3,_⟩:=h.rep
 have h3:KL w.heap.size w' σr (qz,[(0,0)]) (.fz (.bool b)) v:=h3
 unfold KL nzO at h3
 cases h3 with
 | fz _ _ _ h4=>cases h4;rfl
theorem qrg {J:qj}{w w':World}{v:Value}{n:Int}(h:@kj J w (.v (false,[.fz (.int .i64 n)])) v w'):v=.int .i64 n:=by
 letI:=J
 obtain ⟨σr,_,_,h3,_⟩:=h.rep
 have h3:KL w.heap.size w' σr (qz,[(0,0)]) (.fz (.int .i64 n)) v:=h3
 unfold KL nzO at h3
 cases h3 with
 | fz _ _ _ h4=>cases h4;rfl
theorem KB.keeps [qj] {w w1 w2:World}{rb:Nat}(h:KB w w1 rb)(k:qX w1 w2):KB w w2 rb :=
 ⟨k.os.trans h.os,k.tape.trans h.tape,k.output.trans h.output,Nat.le_trans h.size k.size,fun b hb hne=>(h.heap b hb hne).trans (k.heap b (Nat.lt_of_lt_of_le hb h.size))⟩
theorem KB.refl [qj] (w:World)(rb:Nat):KB w w rb:=⟨rfl,rfl,rfl,Nat.le_refl _,fun b _ _=>jl.refl _ _⟩
theorem qbF {J:qj}{w w':World}{rb:Nat}{c:Array Value}{e:TypeId}{f:Nat×Nat}(k:@qX J w w')(hc:w.heap[rb]?=some (.cells c e f)):w'.heap[rb]?=w.heap[rb]?:=by
 have hlt:rb<w.heap.size:=by
  apply Classical.byContradiction
  intro h
  rw [Array.getElem?_eq_none (by omega)] at hc
  cases hc
 rw [VI (@qX.heap J _ _ k rb hlt) hc,hc]
theorem qqK (l:List (List Int)):(O.osl (kP l)).frz=.sl (l.map fun x=>[.sl (rcI x)]):=by
 show C.sl (O.frzLL (kP l))=_
 rw [O.frzLL_eq]
 unfold kP
 rw [List.map_map]
 congr 1
 apply List.map_congr_left
 intro x _
 show [O.frz (.osl (qG x))]=_
 rw [<-Qd]
 show [C.sl (O.frzLL (roI x))]=_
 rw [qsT]
theorem wv {J:qj}{w w':World}(h:@qX (@qR J) w w'):@qX J w w':=@qX.mk J _ _ (@qX.os (@qR J) _ _ h) (@qX.tape (@qR J) _ _ h) (@qX.output (@qR J) _ _ h) (@qX.size (@qR J) _ _ h) fun b hb=>@qX.heap (@qR J) _ _ h b hb
theorem qnJ {J:qj}{g:FuncId}{w wr:World}{σ:Gh}{x:List Int}{u c1 c2:Value}{rb j:Nat}{y:Own}{a b:List C}{t:Bool}{c:Array Value}{e:TypeId}{f:Nat×Nat}(hp:zt Tryz.prog g [(false,[.sl (rcI x)]),(false,[.ptr a]),(false,[.ptr b])] (.v (false,[.fz (.bool t)])))
 (hfut:J.fut=qg.fut) (hold:@Q3 J w) (hu:@qq J w σ (lrt 0,[(j,0)]) (.osl (qG x)) u) (hy:σ rb=some y) (hyp:y.p=(lrt 0,[])) (h1:@qt J w σ (.ptr a) c1) (h2:@qt J w σ (.ptr b) c2)
 (hk:@KB J w wr rb) (hrow:wr.heap[rb]?=some (.cells c e f)):Calls Tryz.prog g #[u,c1,c2] wr fun z w'=>z=.returned (.bool t)/\@KB J w w' rb/\w'.heap[rb]?=wr.heap[rb]?:=by
 have hlo:@Q3 (@qR J) wr:=@Q3.mk (@qR J) _ (fun b hb=>hb.elim) (Nat.le_trans (@Q3.lo J _ hold) (@KB.size J _ _ _ hk))
 have hst:@kI (@qR J) w (fun g=>if g=rb then some y else none) wr (fun g=>if g=rb then some y else none):=@kI.mk (@qR J) _ _ _ _ (fun _ _ h=>h) fun b hb h0=>by
  refine @KB.heap J _ _ _ hk b hb fun e=>?_
  rw [if_pos e] at h0
  cases h0
 have mv:∀ {c:C} {v:Value},@qt (@qR J) w (fun g=>if g=rb then some y else none) c v->@qt (@qR J) wr (fun _=>none) c v:=fun h =>
  (@qt.move (@qR J) _ _ _ _ (@KB.size J _ _ _ hk) hst _ _ h).swap (fun _ _ _=>⟨rfl,id⟩)
 have sw:∀ {c:C} {v:Value},@qt J w σ c v->@qt (@qR J) w (fun g=>if g=rb then some y else none) c v:=fun h=>h.swap fun b _ hb=>⟨(if_neg fun e=>(by have h3:=hb.1;rw [e,hy] at h3;cases h3):(if b=rb then some y else none)=none),id⟩
 have hargs:∀ (k:Nat) (z:V1 C),[((false,[C.sl (rcI x)]):V1 C),(false,[.ptr a]),(false,[.ptr b])][k]?=some z->∃ v,#[u,c1,c2][k]?=some v/\qU (fun _=>@qt (@qR J) wr (fun _=>none)) z v:=fun k z hz=>by
  rcases k with _ | _ | _ | k
  . injection hz with hz;subst hz;exact ⟨u,rfl,mv (qoN hu hy hyp)⟩
  . injection hz with hz;subst hz;exact ⟨c1,rfl,mv (sw h1)⟩
  . injection hz with hz;subst hz;exact ⟨c2,rfl,mv (sw h2)⟩
  . cases hz
 refine (hp.2 (@qR J) wr #[u,c1,c2] hfut hlo rfl hargs).mono ?_
 rintro z w' ⟨v,rfl,hres⟩
 obtain rfl:=qnw hres
 exact ⟨rfl,@KB.keeps _ J _ _ _ _ hk (wv (@kj.below (@qR J) _ _ _ _ hres)),qbF (wv (@kj.below (@qR J) _ _ _ _ hres)) hrow⟩
end Go.Proofs.YtifnopmkdempdaaGreat.Ai
namespace Go.Proofs.YtifnopmkdempdaaGreat.Ai
open Go Go.RowKit
set_option maxRecDepth 100000
variable [qg]
theorem YQ {J:qj}{w w':World}{σ:Gh}{o:O}{n:Nat}(hin:@kC J w σ [(lrt 0,o)] [.rf (lrt 0,[]) 0 n])(k:@qX J w w'):(@qJ J w σ w' σ)/\@kC J w' σ [(lrt 0,o)] [.rf (lrt 0,[]) 0 n]:=by
 letI:=J
 refine ⟨⟨⟨fun _ _ h=>h,fun b hb _=>k.heap b hb⟩,k.size,k.os,k.tape,k.output⟩,⟨hin.inj,fun g x h=>Nat.lt_of_lt_of_le (hin.lt g x h) k.size,fun id=>?_,fun i x hi=>?_,hin.dom⟩⟩
 . obtain ⟨v,hv⟩:=hin.tbl id
   exact ⟨v,hv.growK k fun _ _=>rfl⟩
 . have h1:=hin.ph i x hi
   have hx:x=.rf (lrt 0,[]) 0 n:=by
    cases i with
    | zero=>injection hi with hi;exact hi.symm
    | succ i=>cases hi
   subst hx
   generalize qj.ph i=v at h1 ⊢
   cases h1 with
   | rf _ _ _ g n cap sz h2 h3 h4=>exact .rf _ _ _ g n cap sz h2 h3 h4
   | rz=>exact .rz _ _ _
theorem qbK {p:List Int->Bool}{l:List (List Int)}(h:∀ q∈l,p q=false):jk p l=l:=by
 unfold jk
 rw [List.filter_eq_self]
 intro q hq
 rw [h q hq];rfl
theorem qpz {p:List Int->Bool}{l:List (List Int)}(h:∀ q∈l,p q=false):W7 p l=l:=by
 unfold W7
 rw [qbK h,Nat.sub_self,List.replicate_zero,List.append_nil]
theorem qkp (p:List Int->Bool)(l:List (List Int)):W7 p l=V8 (fun t=>p (l.getD t [])) l:=by
 unfold W7 V8
 rw [qfj,List.length_map]
theorem qfU {vals:Array Value}{a b:Value}(h:vals.size=2)(h0:vals[0]?=some a)(h1:vals[1]?=some b):vals=#[a,b]:=by
 apply Array.ext'
 have h2:vals.toList.length=2:=by simpa using h
 have h3:vals.toList[0]?=some a:=by simpa using h0
 have h4:vals.toList[1]?=some b:=by simpa using h1
 generalize vals.toList=q at h2 h3 h4
 match q,h2 with
 | [x,y],_=>simp at h3 h4;simp [h3,h4]
theorem qmS (l:List (List Int))(a b:List C)(p:List Int->Bool)(hp:∀ q∈l,zt Tryz.prog 88 [(false,[.sl (rcI q)]),(false,[.ptr a]),(false,[.ptr b])] (.v (false,[.fz (.bool (p q))])))
 (hi:zt Tryz.prog 91 [(false,[.sl (l.map fun x=>[.sl (rcI x)])]),(false,[.fn 88 [.ptr a,.ptr b]])] (.v (false,[.fz (.int .i64 (zM p l 0))]))) (hl:l.length<=1000000) :
 vR Tryz.prog 87 [(false,[.rf (lrt 0,[]) 0 l.length]),(false,[.clo 88 [.fz (.ptr a),.fz (.ptr b)]])] [(lrt 0,.osl (kP l))] [.rf (lrt 0,[]) 0 l.length]
  (.v (false,[.rf (lrt 0,[]) 0 (jk p l).length])) [(lrt 0,.osl (kP (W7 p l)))] [.rf (lrt 0,[]) 0 l.length]:=by
 refine ⟨⟨_,_,Tryz.func87,rfl,by kernel_rfl⟩,fun J w σ vals hfut hold hsz ha hin=>?_⟩
 letI:=J
 obtain ⟨u0,hu0,hr0⟩:=ha 0 _ rfl
 obtain ⟨u1,hu1,hr1⟩:=ha 1 _ rfl
 have hr0:ql w σ (.rf (lrt 0,[]) 0 l.length) u0:=hr0
 have hr1:ql w σ (.clo 88 [.fz (.ptr a),.fz (.ptr b)]) u1:=hr1
 obtain rfl:=qfU hsz hu0 hu1
 clear hu0 hu1 hsz ha
 cases hr1 with
 | clo _ _ vs us hvl hvm hvr =>
   have hc1:qt w σ (.ptr a) (us 0):=(hvr 0 _ rfl).fz_inv
   have hc2:qt w σ (.ptr b) (us 1):=(hvr 1 _ rfl).fz_inv
   obtain rfl:=qfU hvl (hvm 0 _ rfl) (hvm 1 _ rfl)
   generalize us 0=c1 at hc1
   generalize us 1=c2 at hc2
   clear hvl hvm hvr
   have sw:∀ {c:C} {v:Value},qt w σ c v->@qt (@qR J) w (fun _=>none) c v:=fun h=>h.swap (fun _ _ _=>⟨rfl,id⟩)
   have hfn:@qt (@qR J) w (fun _=>none) (.fn 88 [.ptr a,.ptr b]) (.func (.func 88) #[] #[c1,c2]):=by
    refine @qt.fn (@qR J) _ _ _ _ #[c1,c2] (fun j=>match j with | 0=>c1 | _=>c2) rfl (fun j c hj=>?_) fun j c hj=>?_
    . rcases j with _ | _ | j
      . rfl
      . rfl
      . cases hj
    . rcases j with _ | _ | j
      . injection hj with hj;subst hj;exact sw hc1
      . injection hj with hj;subst hj;exact sw hc2
      . cases hj
   have hidx:∀ s,@qt (@qR J) w (fun _=>none) (.sl (l.map fun x=>[.sl (rcI x)])) s->Calls Tryz.prog 91 #[s,.func (.func 88) #[] #[c1,c2]] w fun x w'=>x=.returned (.int .i64 (zM p l 0))/\Hid (qX w w'):=by
    intro s hs
    refine (hi.2 (@qR J) w #[s,.func (.func 88) #[] #[c1,c2]] hfut (@Q3.mk (@qR J) _ (fun b hb=>hb.elim) hold.lo) rfl fun k z hz=>?_).mono ?_
    . rcases k with _ | _ | k
      . injection hz with hz;subst hz;exact ⟨s,rfl,hs⟩
      . injection hz with hz;subst hz;exact ⟨_,rfl,hfn⟩
      . cases hz
    . rintro z w' ⟨v,rfl,hres⟩
      obtain rfl:=qrg hres
      exact ⟨rfl,wv (@kj.below (@qR J) _ _ _ _ hres)⟩
   by_cases hz:l=[]
   . subst hz
     obtain ⟨ad,cp,rfl⟩:∃ ad cp,u0=.slice ad 0 cp:=by
      cases hr0 with
      | rz _ _ ad=>exact ⟨ad,0,rfl⟩
      | rf=>exact ⟨_,_,rfl⟩
     have hs:=hidx (.slice ad 0 cp) (@qt.sl (@qR J) _ _ [] 0 ad cp (fun _ _=>undef) (Nat.zero_le _) (by simp) (by simp) (by simp) (by simp))
     refine (qb1 ad 0 cp c1 c2 w hs).mono ?_
     rintro z w' ⟨rfl,hk⟩
     obtain ⟨h1,h2⟩:=YQ hin hk
     exact ⟨_,σ,rfl,h1,h2,by
      show ql w' σ (.rf (lrt 0,[]) 0 0) _
      cases hr0 with
      | rz _ _ ad=>exact .rz _ _ _
      | rf _ _ _ g n cap sz h3 h4 h5=>exact .rf _ _ _ g n cap sz h3 h4 h5⟩
   . have hpos:0<l.length:=List.length_pos_iff.2 hz
     obtain ⟨v0,hv0⟩:=hin.tbl (lrt 0)
     rw [jN,if_pos rfl] at hv0
     have hfr:@qt (@qR J) w (fun _=>none) (.sl (l.map fun x=>[.sl (rcI x)])) v0:=by
      rw [<-qqK]
      exact J4 hv0
     generalize hn:l.length=n at hr0
     cases hr0 with
     | rz=>omega
     | rf _ _ _ g n' cap sz hg h2 h3 =>
       have hxl:=WN l
       generalize hxs:kP l=xs at hv0
       cases hv0 with
       | oslz=>rw [hxs] at hxl;simp at hxl;omega
       | osl _ _ e sz' g' cap' cur us hh hc hcm hl2 hs hg' hm hr8 =>
         obtain rfl:=hin.inj _ _ _ _ hg hg' rfl
         rw [hg] at hg'
         simp only [Option.some.injEq,Own.mk.injEq] at hg'
         obtain ⟨_,rfl,rfl,rfl⟩:=hg'
         subst hxs
         subst hn
         have hsz1:sz=1:=by
          have h4:0<(kP l).length:=by omega
          rw [<-hs _ (List.getElem_mem h4)]
          obtain ⟨x,_,h5⟩:=List.mem_map.1 (List.getElem_mem h4)
          rw [<-h5];rfl
         subst hsz1
         rw [hxl] at h3 hg hc hfr
         have hres:∀ {w':World} {σ':Gh} {k:Nat},σ' g=some ⟨(lrt 0,[]),l.length,cap,1⟩->k<=l.length->qV (fun _ _=>ql w' σ') (.v (false,[.rf (lrt 0,[]) 0 k])) (.slice (some ⟨g,0,none⟩) k cap):=fun h4 h5=>ql.rf (lrt 0,[]) 0 _ g _ cap 1 h4 (by omega) h3
         rcases Kq p [] l 0 with ⟨h4,h5⟩ | ⟨i1,h4,h5,h6,h7⟩
         . have hs:=hidx _ hfr
           rw [h4] at hs
           refine (qb1 (some ⟨g,0,none⟩) l.length cap c1 c2 w hs).mono ?_
           rintro z w' ⟨rfl,hk⟩
           obtain ⟨h8,h9⟩:=YQ hin hk
           rw [qpz h5,qbK h5]
           exact ⟨_,σ,rfl,h8,h9,hres hg (Nat.le_refl _)⟩
         . rw [Nat.zero_add] at h5
           have hRep:∀ j,j<l.length->qq w σ (lrt 0,[(j,0)]) (.osl (qG (l.getD j []))) (us j 0):=fun j hj=>by
            have h8:l[j]?=some (l.getD j []):=by rw [List.getD_eq_getElem?_getD,List.getElem?_eq_getElem hj];rfl
            exact hr8 j 0 _ _ (YA h8) rfl
           have hcur:∀ j,j<l.length->cur.toList[j]?=some (us j 0):=fun j hj=>by
            have h8:l[j]?=some (l.getD j []):=by rw [List.getD_eq_getElem?_getD,List.getElem?_eq_getElem hj];rfl
            have h9:=hm j 0 _ _ (YA h8) rfl
            rw [show j * 1+0=j by omega] at h9
            rw [Array.getElem?_toList]
            exact h9
           obtain ⟨va,vl,vc,hus⟩:∃ (va:Nat->Option Addr) (vl vc:Nat->Nat),∀ j,j<l.length->us j 0=.slice (va j) (vl j) (vc j):=by
            refine ⟨fun j=>match us j 0 with | .slice a _ _=>a | _=>none,fun j=>match us j 0 with | .slice _ n _=>n | _=>0,fun j=>match us j 0 with | .slice _ _ c=>c | _=>0,fun j hj=>?_⟩
            obtain ⟨a1,n1,c3,h8⟩:=qh4 (hRep j hj)
            simp only [h8]
           obtain ⟨q,hq⟩:∃ q:Nat->Bool,q=fun t=>p (l.getD t []):=⟨_,rfl⟩
           have hqk:∀ j,q j=p (l.getD j []):=fun j=>by rw [hq]
           have hrow:Hid (w.heap[g]?=some (.cells cur.toList.toArray e (0,0))):=hh
           have hrl:cur.toList.length=cap:=by rw [Array.length_toList,hl2,Nat.mul_one]
           have hmem:∀ j,j<l.length->l.getD j []∈l:=fun j hj=>(qo (z:=([]:List Int)) hj).out
           refine (qm4 g cap l.length i1 e c1 c2 va vl vc q cur.toList w hl (hin.lt g _ hg) hrow (fun j hj=>by rw [hcur j hj,hus j hj]) (fun wr hk hr j hj=>?_) h3 (by omega) h4 (by rw [hqk];exact h6) (fun j hj=>by
            rw [hqk]
            refine h7 _ ?_
            rw [List.getD_eq_getElem?_getD,List.getElem?_eq_getElem (by omega)]
            exact List.mem_take_iff_getElem.2 ⟨j,by omega,rfl⟩) ?_).mono ?_
           . obtain ⟨r,hr⟩:=hr.out
             rw [hqk,<-hus j hj]
             exact qnJ (hp _ (hmem j hj)) hfut hold (hRep j hj) hg rfl hc1 hc2 hk.out hr
           . refine (hidx _ hfr).mono ?_
             rintro z w' ⟨rfl,hk⟩
             exact ⟨by rw [h5],KB.keeps (KB.refl _ _) hk.out,qbF hk.out hh⟩
           . rintro z w' ⟨rfl,hF⟩
             obtain ⟨h8,h9⟩:=qnK hin hg hpos h3 hcm hrl (fun j hj=>by rw [<-hus j hj];exact hRep j hj) hF.out
             rw [qkp,<-hq]
             have hkl:(jk p l).length=(kM q l.length).length:=by rw [qfj,List.length_map,<-hq]
             rw [hkl]
             exact ⟨_,yX σ q,rfl,h8,h9,hres (qaG hg) (qjm _ _)⟩
theorem qkb (l:List (List Int)):(LL.ii true none l).ro=kP l:=by
 show (l.map fun x=>[Jg true x])=_
 unfold kP
 apply List.map_congr_left
 intro x _
 show [O.osl (roI x)]=_
 rw [Qd]
theorem qgI (l:List (List Int))(a b:List D)(p:List Int->Bool)(hp:∀ q∈l,qe Tryz.prog 88 [aIs q,(false,[.ptr a]),(false,[.ptr b])] (rB (p q)))(hl:l.length<=1000000) :
 zO Tryz.prog 87 [wR l.length,(false,[.clo 88 [.fz (.ptr a),.fz (.ptr b)]])] [(lrt 0,.osl (.ii true none l))] [.rf (lrt 0,[]) true 0 l.length]
  (.v (false,[.rf (lrt 0,[]) false 0 (jk p l).length])) [(lrt 0,.osl (.ii true none (W7 p l)))] [.rf (lrt 0,[]) true 0 l.length]:=by
 have key:=qmS l (D.erL a) (D.erL b) p (fun q hq=>hp q hq) (qde l 88 [.ptr a,.ptr b] p hp (by unfold maxLen;omega)) hl
 rw [<-qkb,<-qkb] at key
 exact key
end Go.Proofs.YtifnopmkdempdaaGreat.Ai
namespace Go.Proofs.YtifnopmkdempdaaGreat.Ai
open Go
set_option maxRecDepth 100000
variable [qg]
theorem qpp (t:qm)(y:qf)(d:List Int)(h:GmD 12 t y d):qe Tryz.prog 88 [aIs d,(false,[.ptr [.ptr [.sl (.node false none t.nodes),.sl (.tie t.ties),.int .i64 t.hor,.mp (gT t)]]]),(false,[.ptr y.d])] (rB (!kS t y d)):=by
 refine qe.of qc (fn:=Tryz.f88) (c:=Tryz.f88.body.getD .skip) (dr:=fun n=>qa 0 [] n) Tryz.func88 rfl (by kernel_rfl) (by kernel_rfl) (by kernel_rfl) ?_
 obtain ⟨f,hf⟩:∃ f,f=kS:=⟨_,rfl⟩
 obtain ⟨mg,hmg⟩:∃ g,g=gT t:=⟨_,rfl⟩
 have hO:qp Tryz.prog (qL [(41,Y3 12 f)]):=by subst hf;exact qb (qmN 12) qd
 rw [<-hf,<-hmg]
 clear hf
 obtain ⟨ns,ts,hr⟩:=t
 obtain ⟨now,times,vals⟩:=y
 refine SEx.go (X:=XX) qc (fun n=>qa [] [] n) (fun _=>none) hO 60 ?_
 intro M R L N m0 m1 m2 m3 m4 m5
 cases M
 cbv
 repeat' first | refine m1 _ _ ?_ ?_ | refine m2 _ _ fun h=>?_ | refine m3 _ ?_ | (refine m4 _ _ (Hd.out ?_);try first | rw [hks] | rw [hk2] | rw [hk3]) | (refine m5 _ _ ?_;cbv)
 all_goals (clear m1 m2 m3 m4 m5;cases m0;(try clear hks;try clear hk2;try clear hk3);try dsimp only)
 all_goals try simp only [sm] at *
 all_goals first
  | exact h
  | exact ⟨hmg⟩
  | rfl
  | skip
structure qs7 (p:SP)(n m:Nat)(l l0:List (List Int))(g' g:Nat)(a' a b' b:List D):Prop where out:p=(lrt 0,[])/\m=n/\l.length=n/\l=l0/\g'=g/\a'=a/\b'=b
def qko (g:Nat)(a b:List D)(l0:List (List Int))(k d:List (List Int)->List (List Int))(ln:List (List Int)->Nat):WrW
 | [(false,[.rf p true 0 n]),(false,[.clo g' [.fz (.ptr a'),.fz (.ptr b')]])],[(.sl m,.osl (.ii true none l))]=>some ([qs7 p n m l l0 g' g a' a b' b],(.v (false,[.rf (lrt 0,[]) false 0 (ln (k l))]),[(lrt 0,.osl (.ii true none (d l)))],[.rf (lrt 0,[]) true 0 n]))
 | _,_=>none
theorem qnX {a b:List D}{l0:List (List Int)}{p:List Int->Bool}(hp:∀ q∈l0,qe Tryz.prog 88 [aIs q,(false,[.ptr a]),(false,[.ptr b])] (rB (p q)))(h1:l0.length<=1000000) :
 KR Tryz.prog 87 (qko 88 a b l0 (jk p) (W7 p) List.length):=by
 intro xs ls
 unfold qko
 split
 . refine R.Sim.mk fun hq=>?_
   obtain ⟨rfl,rfl,rfl,rfl,rfl,rfl,rfl⟩:=(hq _ (.head _)).out
   exact qgI _ _ _ p hp h1
 . exact R.Sim.none'
theorem qnM (p:List Int->Bool)(l:List (List Int)):(W7 p l).length=l.length:=by rw [qkp,Wl]
theorem qlR (p:List Int->Bool)(l:List (List Int)):((W7 p l).drop 0).take (jk p l).length=jk p l:=by
 rw [List.drop_zero]
 unfold W7
 rw [List.take_left]
theorem qmv (l:List (List Int))(a b:List D)(p:List Int->Bool)(hp:∀ q∈l,qe Tryz.prog 88 [aIs q,(false,[.ptr a]),(false,[.ptr b])] (rB (p q)))(hl:l.length<=1000000)(h0:jk p l=[]) :
 zO Tryz.prog 87 [wR l.length,(false,[.clo 88 [.fz (.ptr a),.fz (.ptr b)]])] [(lrt 0,.osl (.ii true none l))] [.rf (lrt 0,[]) true 0 l.length]
  (.v (false,[.fz (.sl (.ii false none []))])) [(lrt 0,.osl (.ii true none (W7 p l)))] [.rf (lrt 0,[]) true 0 l.length]:=by
 have:=qgI l a b p hp hl
 rw [h0] at this
 exact Vr this
def qdN (g:Nat)(a b:List D)(l0:List (List Int))(d:List (List Int)->List (List Int)):WrW
 | [(false,[.rf p true 0 n]),(false,[.clo g' [.fz (.ptr a'),.fz (.ptr b')]])],[(.sl m,.osl (.ii true none l))]=>some ([qs7 p n m l l0 g' g a' a b' b],(.v (false,[.fz (.sl (.ii false none []))]),[(lrt 0,.osl (.ii true none (d l)))],[.rf (lrt 0,[]) true 0 n]))
 | _,_=>none
theorem qlG {a b:List D}{l0:List (List Int)}{p:List Int->Bool}(hp:∀ q∈l0,qe Tryz.prog 88 [aIs q,(false,[.ptr a]),(false,[.ptr b])] (rB (p q)))(h1:l0.length<=1000000)(h0:jk p l0=[]) :
 KR Tryz.prog 87 (qdN 88 a b l0 (W7 p)):=by
 intro xs ls
 unfold qdN
 split
 . refine R.Sim.mk fun hq=>?_
   obtain ⟨rfl,rfl,rfl,rfl,rfl,rfl,rfl⟩:=(hq _ (.head _)).out
   exact qmv _ _ _ p hp h1 h0
 . exact R.Sim.none'
def lzL (t:qm)(y:qf):List (List Int):=(K8 t y).filter (kS t y)
theorem qpx (t:qm)(y:qf):jk (fun d=>!kS t y d) (K8 t y)=lzL t y:=by
 unfold jk lzL
 congr 1
 funext d
 simp
def rE2:TV W:=.v (false,[.fz (.sl (.ii false none []))])
def qt6:List (List Int)->TV W
 | []=>rE2
 | a::l=>Zc (a::l)
theorem Wm (t:qm)(y:qf)(h:GmY 12 t y):qe Tryz.prog 45 [aGm ⟨t,gT t⟩,qI y] (qt6 (lzL t y)):=by
 refine qe.of qc (fn:=Tryz.f45) (c:=Tryz.f45.body.getD .skip) (dr:=fun n=>qa 0 [(1,7)] n) Tryz.func45 rfl (by kernel_rfl) (by kernel_rfl) (by kernel_rfl) ?_
 obtain ⟨f0,hf0⟩:∃ f,f=K8:=⟨_,rfl⟩
 have hO:qp Tryz.prog (qL [(77,qoY f0)]):=by subst hf0;exact qb qeC qd
 have hen:=h.en
 obtain ⟨l0,hl0⟩:∃ l,l=f0 t y:=⟨_,rfl⟩
 have hlm:l0.length<=128:=by
  rw [hl0,hf0]
  unfold K8 qf4
  rw [ZT]
  exact (QX (Zr hen.v)).2
 have hc:=fun q hq=>qpp t y q ⟨h,qcW hen (hq:q∈K8 t y)⟩
 obtain ⟨p,hp⟩:∃ p,p=fun d=>!kS t y d:=⟨_,rfl⟩
 have hc:∀ q∈l0,qe Tryz.prog 88 [aIs q,(false,[.ptr [.ptr [.sl (.node false none t.nodes),.sl (.tie t.ties),.int .i64 t.hor,.mp (gT t)]]]),(false,[.ptr y.d])] (rB (p q)):=fun q hq=>by rw [hp];exact hc q (by rw [hl0,hf0] at hq;exact hq)
 have he:lzL t y=jk p l0:=by rw [<-qpx,hl0,hf0,hp]
 rw [he]
 clear he hp
 have hDl:=qnM p l0
 have hDt:=qlR p l0
 obtain ⟨mg,hmg⟩:∃ g,g=gT t:=⟨_,rfl⟩
 rw [<-hmg] at hc ⊢
 clear hf0 hmg h
 obtain ⟨ns,ts,hr⟩:=t
 obtain ⟨now,times,vals⟩:=y
 obtain ⟨d,hd⟩:∃ d,d=W7 p:=⟨_,rfl⟩
 cases hkp:jk p l0 with
 | nil =>
   have hW:za Tryz.prog ((XX.withF [2,3,4]).withW [(87,[(0,0)])] (ke [(87,qdN 88 [.ptr [.sl (.node false none ns),.sl (.tie ts),.int .i64 hr,.mp mg]] [.int .i64 now,.sl (.i times),.sl (.i vals)] l0 d)])):=by
    subst hd
    exact SX.withW_ok (zr (qlG hc (by omega) hkp) kK)
   rw [<-hd] at hDl
   refine SEx.go (X:=((XX.withF [2,3,4]).withW [(87,[(0,0)])] (ke [(87,qdN 88 [.ptr [.sl (.node false none ns),.sl (.tie ts),.int .i64 hr,.mp mg]] [.int .i64 now,.sl (.i times),.sl (.i vals)] l0 d)]))) qc (fun n=>qa [] [] n) (fun _=>none) hO 60 ?_ hW
   intro M R L N m0 m1 m2 m3 m4 m5
   cases M
   cbv
   repeat' first | refine m1 _ _ ?_ ?_ | refine m2 _ _ fun h=>?_ | refine m3 _ ?_ | (refine m4 _ _ (Hd.out ?_);try first | rw [hks] | rw [hk2] | rw [hk3]) | (refine m5 _ _ ?_;cbv)
   all_goals (clear m1 m2 m3 m4 m5;cases m0;(try clear hks;try clear hk2;try clear hk3);try dsimp only)
   all_goals try simp only [sm] at *
   all_goals (clear hW hO)
   all_goals first
    | exact hen
    | rfl
    | exact ⟨⟨rfl,rfl,rfl,hl0.symm,rfl,rfl,rfl⟩⟩
    | (rw [<-hl0];exact hDl.symm)
    | skip
 | cons k0 kr =>
   rw [hkp] at hDt
   obtain ⟨k,hk⟩:∃ k,k=jk p:=⟨_,rfl⟩
   rw [<-hk] at hkp
   obtain ⟨ln,hln⟩:∃ f:List (List Int)->Nat,f=List.length:=⟨_,rfl⟩
   have hlk:ln (k l0)=(k0::kr).length:=by rw [hln,hkp]
   have hkl:(k0::kr).length<=l0.length:=by rw [<-hkp,hk];exact List.length_filter_le _ _
   have hW:za Tryz.prog ((XX.withF [2,3,4]).withW [(87,[(0,0)])] (ke [(87,qko 88 [.ptr [.sl (.node false none ns),.sl (.tie ts),.int .i64 hr,.mp mg]] [.int .i64 now,.sl (.i times),.sl (.i vals)] l0 k d ln)])):=by
    subst hk hd hln
    exact SX.withW_ok (zr (qnX hc (by omega)) kK)
   rw [<-hd] at hDt hDl
   clear hk hln
   refine SEx.go (X:=((XX.withF [2,3,4]).withW [(87,[(0,0)])] (ke [(87,qko 88 [.ptr [.sl (.node false none ns),.sl (.tie ts),.int .i64 hr,.mp mg]] [.int .i64 now,.sl (.i times),.sl (.i vals)] l0 k d ln)]))) qc (fun n=>qa [] [] n) (fun _=>none) hO 60 ?_ hW
   intro M R L N m0 m1 m2 m3 m4 m5
   cases M
   cbv
   repeat' first | refine m1 _ _ ?_ ?_ | refine m2 _ _ fun h=>?_ | refine m3 _ ?_ | (refine m4 _ _ (Hd.out ?_);try first | rw [hks] | rw [hk2] | rw [hk3]) | (refine m5 _ _ ?_;cbv)
   all_goals (clear m1 m2 m3 m4 m5;cases m0;(try clear hks;try clear hk2;try clear hk3);try dsimp only)
   all_goals try simp only [sm] at *
   all_goals (clear hW hO)
   all_goals (try simp only [<-hl0,hlk,hDl,Nat.zero_add])
   all_goals first
    | exact hen
    | exact ⟨⟨rfl,rfl,rfl,rfl,rfl,rfl,rfl⟩⟩
    | exact hkl
    | (simp;done)
    | (rw [hDt];done)
    | (rw [hDt];rfl)
    | skip
end Go.Proofs.YtifnopmkdempdaaGreat.Ai
namespace Go.Proofs.YtifnopmkdempdaaGreat.Ai
open Go
set_option maxRecDepth 100000
variable [qg]
structure SfP (n:Nat)(t:qm)(y:qf):Prop where
 gy:GmY n t y
 ne:lzL t y≠[]
structure SfN (n:Nat)(t:qm)(y:qf):Prop where
 gy:GmY n t y
 no:lzL t y=[]
def qtQ (f:qm->qf->List (List Int)):Wr:=w2 qnD qH (fun q x=>Zc (f q.t x)) (fun q x=>[SfP 12 q.t x,GmM q])
theorem qp8:qy Tryz.prog 45 (qtQ lzL):=qE fun q x h=>by
 have h3:=(h _ (.tail _ (.head _))).out
 have h4:=h _ (.head _)
 obtain ⟨t,g⟩:=q
 dsimp only at h3 h4
 subst h3
 have h5:=Wm t x h4.gy
 have h6:=h4.ne
 cases hl:lzL t x with
 | nil=>exact absurd hl h6
 | cons a r=>rw [hl] at h5;exact h5
def qtL:Wr:=w2 qnD qH (fun _ _=>rE2) (fun q x=>[SfN 12 q.t x,GmM q])
theorem qp1:qy Tryz.prog 45 qtL:=qE fun q x h=>by
 have h3:=(h _ (.tail _ (.head _))).out
 have h4:=h _ (.head _)
 obtain ⟨t,g⟩:=q
 dsimp only at h3 h4
 subst h3
 have h5:=Wm t x h4.gy
 rw [h4.no] at h5
 exact h5
def lzO (t:qm)(y:qf):Option (List Int):=match jx t y with | true=>(lzL t y).getLast? | false=>none
def lzD (t:qm)(y:qf):List Int:=(lzO t y).getD []
def lzB (t:qm)(y:qf):Bool:=(lzO t y).isSome
theorem qb8 (t:qm)(y:qf)(h:jx t y=true):(lzL t y).length<=128/\∀ d∈lzL t y,d.length<=7:=by
 have h1:=qad t y
 unfold V4 at h1
 rw [h] at h1
 exact ⟨Nat.le_trans (List.length_filter_le _ _) h1.1,fun d hd=>h1.2 d (List.mem_filter.1 hd).1⟩
theorem qdG (t:qm)(y:qf)(hs:kE t y):@qe ⟨some (gT t)⟩ Tryz.prog 19 [qS t,qI y] (WD (lzD t y) (lzB t y)):=by
 letI:qg:=⟨some (gT t)⟩
 refine qe.of qc (fn:=Tryz.f19) (c:=Tryz.f19.body.getD .skip) (dr:=fun n=>qa 0 [(3,3)] n) Tryz.func19 rfl (by kernel_rfl) (by kernel_rfl) (by kernel_rfl) ?_
 obtain ⟨f1,hf1⟩:∃ f,f=jx:=⟨_,rfl⟩
 obtain ⟨f2,hf2⟩:∃ f,f=lzL:=⟨_,rfl⟩
 obtain ⟨mg,hmg⟩:∃ g,g=gT t:=⟨_,rfl⟩
 have h1:=hs.sh
 have hr:WD (lzD t y) (lzB t y)=ql8 (lzO t y):=(qkw _).symm
 rw [hr]
 have hr0:f1 t y=false->lzO t y=none:=fun h=>by rw [hf1] at h;unfold lzO;rw [h]
 have hr1:f1 t y=true->lzO t y=(f2 t y).getLast?:=fun h=>by rw [hf1] at h;unfold lzO;rw [h,hf2]
 have hv:f1 t y=true->GmY 12 t y:=fun h=>by rw [hf1] at h;exact qnm h1 h
 have hsm:f1 t y=true->(f2 t y).length<=128:=fun h=>by rw [hf1] at h;rw [hf2];exact (qb8 t y h).1
 obtain ⟨o,ho⟩:∃ o,o=lzO t y:=⟨_,rfl⟩
 rw [<-ho] at hr0 hr1 ⊢
 clear hr ho
 by_cases hne:lzL t y=[]
 . have hO:qp Tryz.prog (qL [(44,qnL f1),(40,qs5 mg),(45,qtL)]):=by
    subst hf1 hmg
    exact qb qfa (qb (qjo (gT t)) (qb qp1 qd))
   have hq:f1 t y=true->SfN 12 t y:=fun h=>⟨hv h,hne⟩
   have hr1:f1 t y=true->o=none:=fun h=>by rw [hr1 h,hf2,hne];rfl
   clear hf1 hf2
   obtain ⟨ns,ts,hr⟩:=t
   obtain ⟨now,times,vals⟩:=y
   refine SEx.go (X:=XX) qc (fun n=>qa [] [] n) (fun _=>none) hO 60 ?_
   intro M R L N m0 m1 m2 m3 m4 m5
   cases M
   cbv
   repeat' first | refine m1 _ _ ?_ ?_ | refine m2 _ _ fun h=>?_ | refine m3 _ ?_ | (refine m4 _ _ (Hd.out ?_);try first | rw [hks] | rw [hk2] | rw [hk3]) | (refine m5 _ _ ?_;cbv)
   all_goals (clear m1 m2 m3 m4 m5;cases m0;(try clear hks;try clear hk2;try clear hk3);try dsimp only)
   all_goals try simp only [sm] at *
   all_goals first
    | exact hs
    | exact ⟨hmg⟩
    | exact hq (by assumption)
    | (rw [hr0 (by assumption)];rfl)
    | (rw [hr1 (by assumption)];rfl)
    | exact absurd rfl (by assumption:¬(((([]:List (List Int)).length:Nat):Int)=0))
    | skip
 . have hO:qp Tryz.prog (qL [(44,qnL f1),(40,qs5 mg),(45,qtQ f2)]):=by
    subst hf1 hf2 hmg
    exact qb qfa (qb (qjo (gT t)) (qb qp8 qd))
   have hq:f1 t y=true->SfP 12 t y:=fun h=>⟨hv h,hne⟩
   obtain ⟨l,hl⟩:∃ l,l=f2 t y:=⟨_,rfl⟩
   rw [<-hl] at hr1 hsm
   have hlp:0<l.length:=by rw [hl,hf2];exact List.length_pos_iff.2 hne
   have hlast:l.getLast?=some (l.getD (l.length-1) []):=by
    rw [List.getLast?_eq_getElem?,List.getD_eq_getElem?_getD,List.getElem?_eq_getElem (by omega)];rfl
   rw [hlast] at hr1
   clear hf1 hf2 hlast
   obtain ⟨ns,ts,hr⟩:=t
   obtain ⟨now,times,vals⟩:=y
   refine SEx.go (X:=XX) qc (fun n=>qa [] [] n) (fun _=>none) hO 60 ?_
   intro M R L N m0 m1 m2 m3 m4 m5
   cases M
   cbv
   repeat' first | refine m1 _ _ ?_ ?_ | refine m2 _ _ fun h=>?_ | refine m3 _ ?_ | (refine m4 _ _ (Hd.out ?_);try first | rw [hks] | rw [hk2] | rw [hk3]) | (refine m5 _ _ ?_;cbv)
   all_goals (clear m1 m2 m3 m4 m5;cases m0;(try clear hks;try clear hk2;try clear hk3);try dsimp only)
   all_goals try simp only [sm] at *
   all_goals (try rw [<-hl] at *)
   all_goals first
    | exact hs
    | exact ⟨hmg⟩
    | exact hq (by assumption)
    | (rw [hr0 (by assumption)];rfl)
    | (have:=hsm (by assumption);omega)
    | (have h9:=hsm (by assumption)
       have hw:IntKind.i64.wrap ((l.length:Int)-1)=(l.length:Int)-1:=qr (by omega) (by omega)
       rw [hw]
       omega)
    | (have h9:=hsm (by assumption)
       have hw:IntKind.i64.wrap ((l.length:Int)-1)=(l.length:Int)-1:=qr (by omega) (by omega)
       have hn:((l.length:Int)-1).toNat=l.length-1:=by omega
       rw [hw,hn,hr1 (by assumption)]
       rfl)
    | skip
end Go.Proofs.YtifnopmkdempdaaGreat.Ai
namespace Go.Proofs.YtifnopmkdempdaaGreat.Ai
open Go
set_option maxRecDepth 100000
variable [qg]
theorem qgC (t:qm)(y:qf)(hs:kE t y):qe Tryz.prog 19 [qS t,qI y] (WD (lzD t y) (lzB t y)):=qe.switch (gT t) (qdG t y hs) (qlt _ _)
def Jl (p:List Int->Bool)(l:List (List Int)):Nat->Option (List Int)
 | 0=>none
 | n+1=>if p (l.getD n [])=true then some (l.getD n []) else Jl p l n
theorem qev (p:List Int->Bool)(l:List (List Int)):∀ n,n<=l.length->Jl p l n=((l.take n).filter p).getLast?
 | 0,_=>by simp [Jl]
 | n+1,h=>by
   have ih:=qev p l n (by omega)
   have e:l[n]?=some (l.getD n []):=by rw [List.getD_eq_getElem?_getD,List.getElem?_eq_getElem (by omega)];rfl
   unfold Jl
   rw [List.take_add_one,e,Option.toList_some,List.filter_append,ih,List.filter_cons]
   cases hp:p (l.getD n []) with
   | true=>rw [if_pos rfl,if_pos rfl,List.filter_nil,List.getLast?_append];rfl
   | false=>rw [if_neg (by simp),if_neg (by simp),List.filter_nil,List.append_nil]
theorem qfP (t:qm)(y:qf)(hs:kE t y)(hz:Jq y):qe Tryz.prog 18 [qS t,qI y] (WD (lzD t y) (lzB t y)):=by
 refine qe.of qc (fn:=Tryz.f18) (c:=Tryz.f18.body.getD .skip) (dr:=fun n=>qa 0 [(5,6)] n) Tryz.func18 rfl (by kernel_rfl) (by kernel_rfl) (by kernel_rfl) ?_
 obtain ⟨f1,hf1⟩:∃ f,f=V4:=⟨_,rfl⟩
 obtain ⟨f5,hf5⟩:∃ f,f=kS:=⟨_,rfl⟩
 have hO:qp Tryz.prog (qL [(34,qpr f1),(35,qge 12 f5)]):=by
  subst hf1 hf5
  exact qb qmb (qb (qly 12) qd)
 obtain ⟨l,hl⟩:∃ l,l=f1 t y:=⟨_,rfl⟩
 have hlm:l.length<=128:=by rw [hl,hf1];exact (qad t y).1
 have hdc:∀ d∈l,GmD 12 t y d:=fun d hd=>by rw [hl,hf1] at hd;exact qqX hs.sh hd
 obtain ⟨p,hp⟩:∃ p,p=f5 t y:=⟨_,rfl⟩
 have hr:WD (lzD t y) (lzB t y)=ql8 (Jl p l l.length):=by
  have e:lzO t y=Jl p l l.length:=by
   rw [qev p l _ (Nat.le_refl _),List.take_length,hl,hf1,hp,hf5]
   unfold lzO V4
   cases jx t y<;>rfl
  rw [<-e]
  exact (qkw _).symm
 rw [hr]
 have hy:∀ n,p (l.getD n [])=true->Jl p l (n+1)=some (l.getD n []):=fun n h=>if_pos h
 have hno:∀ n,p (l.getD n [])=false->Jl p l (n+1)=Jl p l n:=fun n h=>if_neg (by rw [h];simp)
 have h0:Jl p l 0=none:=rfl
 obtain ⟨fl,hfl⟩:∃ f,f=Jl p l:=⟨_,rfl⟩
 rw [<-hfl] at hy hno h0 ⊢
 clear hr hf1 hf5 hfl
 obtain ⟨ns,ts,hr⟩:=t
 obtain ⟨now,times,vals⟩:=y
 rw [hp] at hy hno
 clear hp
 refine SEx.go (X:=XX) qc (fun n=>qa [] [(3,[2,3,6,7])] n) (fun _=>none) hO 60 ?_
 intro M R L N m0 m1 m2 m3 m4 m5
 cases M
 cbv
 repeat' first | refine m1 _ _ ?_ ?_ | refine m2 _ _ fun h=>?_ | refine m3 _ ?_ | (refine m4 _ _ (Hd.out ?_);generalize hks:(List.cons _ _:List K)=ks) | (refine m5 _ _ ?_;cbv)
 all_goals (clear m1 m2 m3 m4 m5;cases m0;try dsimp only)
 all_goals try simp only [sm] at *
 all_goals first
  | exact hs
  | exact hz
  | skip
 rw [<-hl]
 clear hl
 obtain ⟨m,hm⟩:∃ m,m=l.length:=⟨_,rfl⟩
 rw [<-hm] at hlm ⊢
 have hw0:IntKind.i64.wrap ((m:Int)-1)=(m:Int)-1:=qr (by omega) (by omega)
 rw [hw0]
 refine ⟨SEx.same (SEx.idx m (fun k=>⟨29,[(2,bP 8192),(3,bP 12288),(6,bR 24576 m),(7,bI ((m:Int)-1-(k:Nat)))],[(8192,.obx [.fz (.sl (.node false none ns)),.fz (.sl (.tie ts)),.fz (.int .i64 hr)]),(12288,.obx [.fz (.int .i64 now),.fz (.sl (.i times)),.fz (.sl (.i vals))]),(24576,.osl (.ii true none l))]⟩) (fun k=>ql8 (fl (m-k))) ?_) (by rw [show (m:Int)-1-((0:Nat):Int)=(m:Int)-1 by omega];rfl) rfl⟩
 intro k hk ih
 rw [<-hks]
 obtain ⟨q,hq⟩:∃ q:Int,q=(m:Int)-1-(k:Nat):=⟨_,rfl⟩
 rw [show (m:Int)-1-((k+1:Nat):Int)=q-1 by omega] at ih
 rw [<-hq]
 have hw1:0<=q->IntKind.i64.wrap (q-1)=q-1:=fun h=>qr (by omega) (by omega)
 have hqn:0<=q->m-k=q.toNat+1/\m-(k+1)=q.toNat/\q.toNat<m:=fun h=>by omega
 have hqe:¬0<=q->m-k=0:=fun h=>by omega
 have hdq:0<=q->GmD 12 ⟨ns,ts,hr⟩ ⟨now,times,vals⟩ (l.getD q.toNat []):=fun h=>hdc _ (qo (z:=([]:List Int)) (by have:=hqn h;omega)).out
 have hyq:=hy q.toNat
 have hnq:=hno q.toNat
 clear hdc hy hno
 refine SEx.go (X:=XX) qc (fun n=>qa [] [(3,[2,3,6,7])] n) (fun _=>none) hO 60 ?_
 intro M R L N m0 m1 m2 m3 m4 m5
 cases M
 cbv
 repeat' first | refine m1 _ _ ?_ ?_ | refine m2 _ _ fun h=>?_ | refine m3 _ ?_ | (refine m4 _ _ (Hd.out ?_);try first | rw [hks] | rw [hk2] | rw [hk3]) | (refine m5 _ _ ?_;cbv)
 all_goals (clear m1 m2 m3 m4 m5;cases m0;(try clear hks;try clear hk2;try clear hk3);try dsimp only)
 all_goals try simp only [sm] at *
 all_goals (try rw [hw1 (by omega)])
 all_goals first
  | omega
  | exact hdq (by omega)
  | (rw [(hqn (by omega)).1,hyq (by assumption)];rfl)
  | (rw [(hqn (by omega)).1,hnq (by assumption)]
     have ih':=ih (by have:=hqn (by omega);omega)
     rw [(hqn (by omega)).2.1] at ih'
     exact ⟨ih'.same rfl rfl⟩)
  | (rw [hqe (by omega),h0];rfl)
  | skip
theorem qrr (t:qm)(y:qf):(lzD t y).length<=7:=by
 unfold lzD lzO
 cases h:jx t y with
 | false=>exact Nat.zero_le _
 | true =>
   show ((lzL t y).getLast?.getD []).length<=7
   cases h2:(lzL t y).getLast? with
   | none=>exact Nat.zero_le _
   | some d=>exact (qb8 t y h).2 d (List.mem_of_getLast? h2)
def wLZ (a:qm->qf->List Int)(b:qm->qf->Bool):Wr:=w2 qQ qH (fun t y=>WD (a t y) (b t y)) (fun t y=>[kE t y,Jq y])
theorem qrd:qy Tryz.prog 19 (wLZ lzD lzB):=qE fun t y h=>qgC t y (h _ (.head _))
theorem qp7:qy Tryz.prog 18 (wLZ lzD lzB):=qE fun t y h=>qfP t y (h _ (.head _)) (h _ (.tail _ (.head _)))
end Go.Proofs.YtifnopmkdempdaaGreat.Ai
namespace Go.Proofs.YtifnopmkdempdaaGreat.Ai
open Go
set_option maxRecDepth 100000
variable [qg]
set_option maxHeartbeats 8000000 in
theorem qhx (t:qm)(x:qf)(ht:qcw t)(hx:yu x):qe Tryz.prog 4 [qS t,qI x] (rB true):=by
 refine qe.of qc (fn:=Tryz.f4) (c:=Tryz.f4.body.getD .skip) (dr:=fun n=>qa 0 [(8,524296),(14,3),(16,3),(31,524296)] n) Tryz.func4 rfl (by kernel_rfl) (by kernel_rfl) (by kernel_rfl) ?_
 obtain ⟨f,hf⟩:∃ f,f=lzD:=⟨_,rfl⟩
 obtain ⟨f0,hf0⟩:∃ f,f=lzB:=⟨_,rfl⟩
 obtain ⟨g,hg⟩:∃ f,f=jM:=⟨_,rfl⟩
 obtain ⟨k,hk⟩:∃ f,f=jB:=⟨_,rfl⟩
 obtain ⟨f1,hf1⟩:∃ f,f=fN:=⟨_,rfl⟩
 obtain ⟨f2,hf2⟩:∃ f,f=shT:=⟨_,rfl⟩
 obtain ⟨g1,hg1⟩:∃ f,f=shG:=⟨_,rfl⟩
 obtain ⟨f3,hf3⟩:∃ f,f=kB:=⟨_,rfl⟩
 obtain ⟨f4,hf4⟩:∃ f,f=stF:=⟨_,rfl⟩
 obtain ⟨g4,hg4⟩:∃ f,f=stG:=⟨_,rfl⟩
 obtain ⟨g5,hg5⟩:∃ f,f=K6:=⟨_,rfl⟩
 obtain ⟨ln,hln⟩:∃ f,f=@List.length Int:=⟨_,rfl⟩
 have hO:qp Tryz.prog (qL [(8,qjt g),(9,qeS k),(11,qja),(12,qgs),(18,wLZ f f0),(19,wLZ f f0),(15,qjT),(16,qe8),(17,yB),(23,qpc g5 f3 ln)]):=by
  subst hf hf0 hg hk hf3 hg5 hln
  exact qb qiG (qb qeQ (qb qgV (qb qe7 (qb qp7 (qb qrd (qb qiT (qb qe2 (qb wD (qb qmd qd)))))))))
 have hW:za Tryz.prog (XX.withW [(20,[(0,0),(0,1)]),(21,[(0,1),(0,2)]),(22,[(0,0)])] (ke [(20,JY f1 f2 g1),(21,Kl f3 f4 g4),(22,Jt f3 g5)])):=by
  subst hf1 hf2 hg1 hf3 hf4 hg4 hg5
  exact SX.withW_ok (zr qcE (zr qbd (zr WY kK)))
 have hA:0<=g t 1048576->qiD t (g t 1048576):=fun h=>by rw [hg] at h ⊢;exact qsY h
 have hB:0<=g t 1048576->0<=k x (g t 1048576)->qj5 x:=fun h h2=>by rw [hk] at h2;exact qpT h (hA h).le h2
 have hG:0<=g t 1048576->qtt (g t 1048576) (g1 1 t.nodes t.ties.length):=fun h=>by rw [hg1];exact (qsv (hA h)).1
 have h1:=ht.le
 have h2:=hx.le
 have hL:0<=g t 1048576->(f t x).length<=1048576:=fun _=>by rw [hf];exact Nat.le_trans (qrr t x) (by decide)
 have hn:∀ q∈t.nodes,WE q maxLen:=fun q hq=>⟨(ht.nodes q hq).name,(ht.nodes q hq).len⟩
 clear ht hx hf hf0 hg hk
 obtain ⟨ns,ts,hr⟩:=t
 obtain ⟨now,times,vals⟩:=x
 dsimp only at hG
 refine SEx.go (X:=(XX.withW [(20,[(0,0),(0,1)]),(21,[(0,1),(0,2)]),(22,[(0,0)])] (ke [(20,JY f1 f2 g1),(21,Kl f3 f4 g4),(22,Jt f3 g5)]))) qc (fun n=>qa [] [] n) (fun _=>none) hO 120 ?_ hW
 intro M R L N m0 m1 m2 m3 m4 m5
 cases M
 cbv
 repeat' first | refine m1 _ _ ?_ ?_ | refine m2 _ _ fun h=>?_ | refine m3 _ ?_ | (refine m4 _ _ (Hd.out ?_);try first | rw [hks] | rw [hk2] | rw [hk3]) | (refine m5 _ _ ?_;cbv)
 all_goals (clear m1 m2 m3 m4 m5;cases m0;(try clear hks;try clear hk2;try clear hk3);try dsimp only)
 all_goals try simp only [sm] at *
 all_goals (clear hO hW;subst hf1 hf2 hf3 hf4 hg4 hg5 hln)
 all_goals (try simp only [K6,stG,zR,qqd] at *)
 all_goals (try (have G:=hG (by assumption);have G1:=G.lo;have G2:=G.hi))
 all_goals (try (have b:=hB (by assumption) (by assumption);have b1:=b.tlen;have b2:=b.vlen;dsimp only at b1 b2))
 all_goals first
  | rfl
  | contradiction
  | exact ⟨h1.len⟩
  | exact ⟨h1.tlen⟩
  | exact ⟨hn⟩
  | exact ⟨⟨by decide,by decide⟩⟩
  | exact ⟨h2.tlen⟩
  | exact ⟨h2.vlen⟩
  | exact ⟨⟨by assumption,by have:=(hA (by assumption)).le;omega⟩⟩
  | exact ⟨(hA (by assumption)).len⟩
  | exact ⟨(hA (by assumption)).tlen⟩
  | exact ⟨(hA (by assumption)).labs⟩
  | exact ⟨b1⟩
  | exact ⟨b2⟩
  | exact ⟨h1,h2⟩
  | exact ⟨b1,b2⟩
  | exact ⟨rfl⟩
  | exact ⟨by omega⟩
  | exact ⟨fun q hq=>(h1.nodes q hq).len⟩
  | exact absurd trivial (by assumption)
  | exact absurd rfl (by assumption)
  | exact (qo9 _ _).symm
  | exact (Ze _ _).symm
  | exact (zR _ _).symm
  | exact ⟨⟨rfl,rfl,rfl,rfl⟩,rfl,rfl,h1.len,h1.tlen,fun q hq=>(h1.nodes q hq).len,by decide,by omega⟩
  | exact ⟨⟨rfl,rfl,rfl,rfl⟩,rfl,rfl,h2.tlen,h2.vlen,by omega,by omega⟩
  | exact ⟨Nat.le_trans (hL (by assumption)) (by decide)⟩
  | exact ⟨rfl,rfl,rfl,Nat.le_trans (hL (by assumption)) (by decide),by omega,by have:=hL (by assumption);omega⟩
  | (refine ⟨?_⟩;rw [zR];done)
  | (refine ⟨?_⟩;rw [zR];exact Nat.le_trans (hL (by assumption)) (by decide))
  | (show qtz 1 (kB 1 _).length;rw [zR];exact ⟨⟨by omega,by have:=hL (by assumption);omega⟩⟩)
  | exact ⟨⟨by omega,by have:=hL (by assumption);omega⟩⟩
  | (exfalso;omega)
  | skip
end Go.Proofs.YtifnopmkdempdaaGreat.Ai
