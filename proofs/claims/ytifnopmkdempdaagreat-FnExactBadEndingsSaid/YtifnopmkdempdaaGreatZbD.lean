/- The law's proof, part 4 of 10: what of its author's texts it needs; no condition. -/
import Derived.Carry
import Derived.ChangeShapes
import Derived.Test.YtifnopmkdempdaaGreatZbC
set_option linter.unusedSectionVars false
set_option linter.unusedSimpArgs false
set_option linter.unusedVariables false
namespace Go.Proofs.YtifnopmkdempdaaGreat.Ai
open Go
theorem R.Sim.mk {α:Type}{ps:List Prop}{a:α}{Q:α->Prop}(h:Holds ps->Q a):R.Sim (some (ps,a)) Q:=by
 intro qs b e hp;injection e with e;injection e with e1 e2;subst e1 e2;exact h hp
def qp4:Option B->Option (Option Int)
 | none=>some none
 | some (.fz (.int _ n))=>some (some n)
 | some _=>none
def lhB (M:MB):Option Int->Option Int->Nat->R (Nat×Nat)
 | none,none,len=>R.ok (0,len)
 | some l,none,len=>some ([M.pGeZ l,M.pLeN (M.toN l) len],(M.toN l,len))
 | none,some h,len=>some ([M.pGeZ h,M.pLeN (M.toN h) len],(0,M.toN h))
 | some l,some h,len=>some ([M.pGeZ l,M.pGeZ h,M.pLeN (M.toN l) (M.toN h),M.pLeN (M.toN h) len],(M.toN l,M.toN h))
theorem Holds.four {p q r t:Prop}(h:Holds [p,q,r,t]):p/\q/\r/\t:=⟨h p (by simp),h q (by simp),h r (by simp),h t (by simp)⟩
theorem qcZ (lo hi:Option Int)(len:Nat):(lhB qn lo hi len).Sim fun r=>std.lh lo hi len=some r/\r.1<=r.2/\r.2<=len:=by
 cases lo with
 | none =>
   cases hi with
   | none=>exact R.Sim.ok ⟨rfl,Nat.zero_le _,Nat.le_refl _⟩
   | some h =>
     refine R.Sim.mk fun hp=>?_
     obtain ⟨h1,h2⟩:=hp.two
     simp only [qn] at h1 h2
     refine ⟨?_,Nat.zero_le _,h2⟩
     show ZR none (some h) len=_
     simp only [ZR]
     rw [if_pos ⟨h1,by omega⟩]
     rfl
 | some l =>
   cases hi with
   | none =>
     refine R.Sim.mk fun hp=>?_
     obtain ⟨h1,h2⟩:=hp.two
     simp only [qn] at h1 h2
     refine ⟨?_,h2,Nat.le_refl _⟩
     show ZR (some l) none len=_
     simp only [ZR]
     rw [if_pos ⟨h1,by omega⟩]
     rfl
   | some h =>
     refine R.Sim.mk fun hp=>?_
     obtain ⟨h1,h2,h3,h4⟩:=hp.four
     simp only [qn] at h1 h2 h3 h4
     refine ⟨?_,h3,h4⟩
     show ZR (some l) (some h) len=_
     simp only [ZR]
     rw [if_pos ⟨h1,by omega,by omega⟩]
     rfl
def evO (F:SF):Option Operand->Option B
 | none=>none
 | some x=>some (z6 F x)
theorem qnh (F:SF)(x:Option Operand):(evO F x).map B.er=Qc F.er x:=by
 cases x with
 | none=>rfl
 | some y=>simp only [evO,Option.map_some,qI,Qc]
theorem qjP {x:Option B}{r:Option Int}(h:qp4 x=some r):bnd (x.map B.er)=some r:=by
 unfold qp4 at h
 split at h
 . simp only [Option.some.injEq] at h;subst h;rfl
 . simp only [Option.some.injEq] at h;subst h;rfl
 . cases h
def qiN:Option B->Bool
 | none=>true
 | some _=>false
def qdt (M:MB)(F:SF)(str:Bool)(size:Nat)(x:B)(lo hi mx:Option B):R (TV B) :=
 match qiN mx with
 | false=>none
 | true=>(match qp4 lo,qp4 hi with
   | some lo,some hi=>(match str with
     | true=>(match x with
       | .fz (.str s)=>(lhB M lo hi (M.sLen s)).bd fun r=>R.ok (.v (false,[.fz (.str (M.sCut s r.1 r.2))]))
       | _=>none)
     | false=>(match x with
       | .fz (.sl x)=>(match nq x.sz size with
         | true=>(lhB M lo hi (x.len M)).bd fun r=>(match x.cut M r.1 (M.nSub r.2 r.1) with
           | some y=>R.ok (.v (false,[.fz (.sl y)]))
           | none=>none)
         | false=>none)
       | .rf p _ off len=>(F.atR M p).bd fun o=>(match o with
         | .osl x=>(match nq x.sz size with
           | true=>(lhB M lo hi len).bd fun r=>some ([M.pLeN (M.nAdd off len) (x.len M)],.v (false,[.rf p false (M.nAdd off r.1) (M.nSub r.2 r.1)]))
           | false=>none)
         | _=>none)
       | _=>none))
   | _,_=>none)
theorem qc4 {α:Type}{l:List (List α)}{n:Nat}(h:∀ y∈l,y.length=n):(l.all fun y=>y.length == n)=true:=by
 rw [List.all_eq_true];intro y hy;simp [h y hy]
theorem YG (F:SF)(str:Bool)(size:Nat)(x:B)(lo hi mx:Option B):(qdt qn F str size x lo hi mx).Sim fun v =>
 (match str with | true=>YE std x.er (lo.map B.er) (hi.map B.er) (mx.map B.er) | false=>Zq std F.er size x.er (lo.map B.er) (hi.map B.er) (mx.map B.er))=some (.val (v.er B.erL)):=by
 unfold qdt
 split
 . exact R.Sim.none'
 . rename_i hmx
   have hm:mx.map B.er=none:=by cases mx with | none=>rfl | some _=>simp [qiN] at hmx
   rw [hm]
   split
   . rename_i lo' hi' hl hh
     have hl:=qjP hl
     have hh:=qjP hh
     cases str with
     | true =>
       dsimp only
       split
       . rename_i s
         refine R.Sim.bd (qcZ lo' hi' _) fun r hr=>R.Sim.ok ?_
         simp only [B.er,D.er,YE,hl,hh]
         have:std.lh lo' hi' (std.sLen s)=some r:=hr.1
         rw [this]
         rfl
       . exact R.Sim.none'
     | false =>
       dsimp only
       split
       . rename_i x
         split
         . rename_i hsz
           obtain hsz:=Nat.eq_of_beq_eq_true hsz
           refine R.Sim.bd (qcZ lo' hi' _) fun r hr=>?_
           split
           . rename_i y hy
             refine R.Sim.ok ?_
             simp only [B.er,D.er,Zq,hl,hh]
             have h1:std.lh lo' hi' (std.cLen x.rc)=some r:=by have:=hr.1;show ZR lo' hi' x.rc.length=_;rw [LL.len_rc];exact this
             have h2:std.cSz size x.rc=true:=qc4 (by rw [<-hsz];exact x.rc_sz)
             rw [h1,h2]
             show some (QR.val (.v (false,[.fz (.sl ((x.rc.drop r.1).take (r.2-r.1)))])))=_
             have h3:=LL.cut_rc hy
             rw [show qn.nSub r.2 r.1=r.2-r.1 from rfl] at h3
             rw [<-h3]
             rfl
           . exact R.Sim.none'
         . exact R.Sim.none'
       . rename_i p w off len
         refine R.Sim.bd (F.atR_sim p) fun o ho=>?_
         split
         . rename_i x
           split
           . rename_i hsz
             obtain hsz:=Nat.eq_of_beq_eq_true hsz
             refine R.Sim.bd (qcZ lo' hi' _) fun r hr=>R.Sim.mk fun hp=>?_
             simp only [B.er,Zq,hl,hh,ho,W.er]
             have h2:(std.oSz size x.ro&&std.nLe (std.nAdd off len) (std.oLen x.ro))=true:=by
              have h3:std.oSz size x.ro=true:=qc4 (by rw [<-hsz];exact x.ro_sz)
              have h4:off+len<=x.len qn:=hp.one
              rw [h3]
              show decide (off+len<=x.ro.length)=true
              rw [LL.len_ro]
              simpa using h4
             rw [hr.1,h2]
             rfl
           . exact R.Sim.none'
         . exact R.Sim.none'
       . exact R.Sim.none'
   . exact R.Sim.none'
def qgo (off:Nat):B->Option B
 | .pp p i j=>some (.pp p i (j+off))
 | .fz (.ptr cs)=>some (.fz (.ptr (Qy cs off)))
 | _=>none
theorem qk2 {off:Nat}{x y:B}(h:qgo off x=some y):qat off x.er=some y.er:=by
 unfold qgo at h
 split at h
 . simp only [Option.some.injEq] at h;subst h;rfl
 . simp only [Option.some.injEq] at h;subst h;simp only [B.er,D.er,qat,D.erL_eq,qbE]
 . cases h
def qic (M:MB)(F:SF)(size:Nat)(x i:B):R B :=
 match i with
 | .fz (.int _ n)=>(match x with
   | .rf p w off len=>(F.atR M p).bd fun o=>(match o with
     | .osl y=>(match nq y.sz size with
       | true=>(match w with
         | true=>some ([M.pIx n len,M.pEqN off 0,M.pEqN len (y.len M)],.pp p (false,M.toN n) 0)
         | false=>some ([M.pIx n len,M.pLeN (M.nAdd off len) (y.len M)],.pp p (false,M.nAdd off (M.toN n)) 0))
       | false=>none)
     | _=>none)
   | .fz (.sl y)=>(match nq y.sz size with
     | true=>some ([M.pIx n (y.len M)],.fz (.ptr (y.atD M (M.toN n))))
     | false=>none)
   | _=>none)
 | _=>none
theorem qpA (x:LL)(n:Nat)(M:MB):(x.atD M n).length=x.sz:=by cases x<;>rfl
theorem qhr (F:SF)(size:Nat)(x i:B):(qic qn F size x i).Sim fun y=>Ko std x.er i.er=some y.er/\Qq std F.er size y.er=true:=by
 unfold qic
 split
 . rename_i k n
   split
   . rename_i p w off len
     refine R.Sim.bd (F.atR_sim p) fun o ho=>?_
     split
     . rename_i y
       split
       . rename_i hsz
         obtain hsz:=Nat.eq_of_beq_eq_true hsz
         have key:0<=n->n<len->off+len<=y.len qn->Ko std (B.rf p w off len).er (B.fz (.int k n)).er=some (A.pp p.er (off+n.toNat) 0)/\Qq std F.er size (A.pp p.er (off+n.toNat) 0)=true:=by
          intro h1 h2 h3
          have hix:std.ix n len=some n.toNat:=if_pos ⟨h1,h2⟩
          refine ⟨by simp only [B.er,D.er,Ko,hix];rfl,?_⟩
          have hlt:off+n.toNat<y.ro.length:=by rw [LL.len_ro];omega
          have hg:std.oGet y.ro (off+n.toNat)=some y.ro[off+n.toNat]:=List.getElem?_eq_getElem hlt
          simp only [Qq,ho,W.er,hg]
          have:=y.ro_sz _ (List.getElem_mem hlt)
          rw [kL,this,hsz]
          simp
         split
         . refine R.Sim.mk fun hp=>?_
           obtain ⟨⟨h1,h2⟩,h3,h4⟩:=hp.three
           have h3:off=0:=h3
           have h4:len=y.len qn:=h4
           have:=key h1 h2 (by omega)
           subst h3
           simpa [B.er,qn] using this
         . refine R.Sim.mk fun hp=>?_
           obtain ⟨⟨h1,h2⟩,h3⟩:=hp.two
           exact key h1 h2 h3
       . exact R.Sim.none'
     . exact R.Sim.none'
   . rename_i y
     split
     . rename_i hsz
       obtain hsz:=Nat.eq_of_beq_eq_true hsz
       refine R.Sim.mk fun hp=>?_
       obtain ⟨h1,h2⟩:=hp.one
       have hlt:n.toNat<y.len qn:=by omega
       have hix:std.ix n (std.cLen y.rc)=some n.toNat:=by
        show (if 0<=n/\n<(y.rc.length:Int) then some n.toNat else none)=_
        rw [LL.len_rc,if_pos ⟨h1,h2⟩]
       have hg:std.cGet y.rc n.toNat=some ((y.atD qn n.toNat).map D.er):=LL.rc_get y _ hlt
       refine ⟨by simp only [B.er,D.er,Ko,hix,hg,D.erL_eq];rfl,?_⟩
       simp only [B.er,D.er,Qq,D.erL_eq,kL,List.length_map]
       show nq (y.atD qn n.toNat).length size=true
       rw [qpA,hsz]
       simp
     . exact R.Sim.none'
   . exact R.Sim.none'
 . exact R.Sim.none'
def qrh (M:MB):B->Option Int
 | .fz (.sl x)=>some (M.nI (x.len M))
 | .fz .nilsl=>some 0
 | .rf _ _ _ len=>some (M.nI len)
 | _=>none
theorem qpq {x:B}{n:Int}(h:qrh qn x=some n):qp1 std x.er=some n:=by
 unfold qrh at h
 split at h
 . rename_i x
   simp only [Option.some.injEq] at h
   subst h
   show some (std.nI (x.rc.length))=_
   rw [LL.len_rc]
   rfl
 . simp only [Option.some.injEq] at h;subst h;rfl
 . simp only [Option.some.injEq] at h;subst h;rfl
 . cases h
def qhe (M:MB)(F:SF):B->R ByteArray
 | .fz .nilsl=>R.ok (M.sOf [])
 | .fz (.sl (.u l))=>R.ok (M.sOf l)
 | .rf p _ off len=>(F.atR M p).bd fun o=>(match o with
   | .osl (.u l)=>some ([M.pEqN off 0,M.pEqN len (M.len l)],M.sOf l)
   | .onil=>some ([M.pEqN off 0,M.pEqN len 0],M.sOf [])
   | _=>none)
 | _=>none
theorem qmr (l:List Int):Zz (l.map fun n=>[C.int .u8 n])=some (l.map fun n=>UInt8.ofNat n.toNat):=by
 induction l with
 | nil=>rfl
 | cons a r ih=>simp [Zz,ih]
theorem qgB (F:SF)(x:B):(qhe qn F x).Sim fun s=>∃ xs,Zv std F.er x.er=some xs/\std.sOf xs=some s:=by
 have key:∀ l:List Int,std.sOf (l.map fun n=>[C.int .u8 n])=some (qn.sOf l):=by
  intro l;show (Zz _).map _=_;rw [qmr];rfl
 unfold qhe
 split
 . exact R.Sim.ok ⟨[],rfl,key []⟩
 . exact R.Sim.ok ⟨_,rfl,key _⟩
 . rename_i p w off len
   refine R.Sim.bd (F.atR_sim p) fun o ho=>?_
   split
   . rename_i l
     refine R.Sim.mk fun hp=>?_
     obtain ⟨h1,h2⟩:=hp.two
     have h1:off=0:=h1
     have h2:len=l.length:=h2
     subst h1 h2
     refine ⟨l.map fun n=>[C.int .u8 n],?_,key l⟩
     simp only [B.er,Zv,ho,W.er,LL.ro]
     show (match decide (0+l.length<=(l.map fun n=>[O.fz (C.int .u8 n)]).length) with | true=>some (O.frzLL (((l.map fun n=>[O.fz (C.int .u8 n)]).drop 0).take l.length)) | false=>none)=_
     rw [List.drop_zero,List.take_of_length_le (by simp)]
     simp [O.frzLL_eq,O.frz,Function.comp_def]
   . refine R.Sim.mk fun hp=>?_
     obtain ⟨h1,h2⟩:=hp.two
     have h1:off=0:=h1
     have h2:len=0:=h2
     subst h1 h2
     refine ⟨[],?_,key []⟩
     simp only [B.er,Zv,ho,W.er]
     rfl
   . exact R.Sim.none'
 . exact R.Sim.none'
mutual
def B.okB:B->Bool
 | .un=>false
 | .ud=>false
 | .fz .un=>false
 | .clo _ caps=>qir caps
 | _=>true
def qir:List B->Bool
 | []=>true
 | a::r=>match a.okB with | true=>qir r | false=>false
end
mutual
theorem qrO:(x:B)->x.er.ok=x.okB
 | .un=>rfl
 | .ud=>rfl
 | .fz d=>by cases d<;>rfl
 | .rf ..=>rfl
 | .pp ..=>rfl
 | .clo f caps=>by simp only [B.er,A.ok,B.okB,vf caps]
theorem vf:(l:List B)->okL (B.erL l)=qir l
 | []=>rfl
 | a::r=>by simp only [B.erL,okL,qir,qrO a,vf r];cases a.okB<;>rfl
end
theorem V4 (l:List B):cnt (B.erL l)=cnt l:=by induction l with | nil=>rfl | cons a r ih=>simp [B.erL,cnt,ih]
def qaB:List B->Nat->List B->Option (List B)
 | as,0,[]=>some as
 | [],_,_=>none
 | a::r,off+1,cs=>match qaB r off cs with | some l=>some (a::l) | none=>none
 | _::r,0,c::cs=>match qaB r 0 cs with | some l=>some (c::l) | none=>none
theorem qcq:∀ (as:List B) (off:Nat) (cs:List B) {r:List B},qaB as off cs=some r->putCells (B.erL as) off (B.erL cs)=some (B.erL r)
 | as,0,[],r,h=>by
   have:qaB as 0 []=some as:=by cases as<;>rfl
   rw [this] at h
   simp only [Option.some.injEq] at h
   subst h
   cases as<;>rfl
 | [],0,_::_,r,h=>by simp [qaB] at h
 | [],off+1,[],r,h=>by simp [qaB] at h
 | [],off+1,_::_,r,h=>by simp [qaB] at h
 | a::as,off+1,cs,r,h=>by
   simp only [qaB] at h
   split at h
   . rename_i l hl
     simp only [Option.some.injEq] at h
     subst h
     simp only [B.erL,putCells,qcq as off cs hl]
   . cases h
 | a::as,0,c::cs,r,h=>by
   simp only [qaB] at h
   split at h
   . rename_i l hl
     simp only [Option.some.injEq] at h
     subst h
     have:=qcq as 0 cs hl
     simp only [B.erL,putCells,this]
   . cases h
def YI (F:SF)(fs:List (Nat×Nat×Bool)):List B->List (Nat×Operand)->Option (List B)
 | as,[]=>some as
 | as,(i,x)::r=>match nth fs i with
   | some (off,size,_)=>(match evB F x with
     | .v (_,cs)=>(match qir cs with
       | true=>(match nq (cnt cs) size with
         | true=>(match qaB as off cs with | some as'=>YI F fs as' r | none=>none)
         | false=>none)
       | false=>none)
     | .tup _=>none)
   | none=>none
theorem qbF (F:SF)(fs:List (Nat×Nat×Bool)):∀ (l:List (Nat×Operand)) (as:List B) {r:List B},YI F fs as l=some r->Zt F.er fs (B.erL as) l=some (B.erL r)
 | [],as,r,h=>by simp only [YI,Option.some.injEq] at h;subst h;rfl
 | (i,x)::l,as,r,h=>by
   simp only [YI] at h
   split at h
   . rename_i off size g hi
     split at h
     . rename_i g' cs hx
       split at h
       . rename_i hok
         split at h
         . rename_i hsz
           split at h
           . rename_i as' hp
             simp only [Zt,hi,<-ja,hx,TV.er,kb,vf,hok,V4,hsz,Bool.and_self,qcq as off cs hp]
             exact qbF F fs l as' h
           . cases h
         . cases h
       . cases h
     . cases h
   . cases h
def zD:C->Option B
 | .un=>some .un
 | .int k n=>some (.fz (.int k n))
 | .bool b=>some (.fz (.bool true b))
 | .str s=>some (.fz (.str s))
 | .nilsl=>some (.fz .nilsl)
 | _=>none
def zDL:List C->Option (List B)
 | []=>some []
 | c::r=>match zD c,zDL r with | some d,some l=>some (d::l) | _,_=>none
theorem qoR:∀ (l:List C) {r:List B},zDL l=some r->B.erL r=fzU l
 | [],r,h=>by simp only [zDL,Option.some.injEq] at h;subst h;rfl
 | c::l,r,h=>by
   simp only [zDL] at h
   split at h
   . rename_i d l' hd hl
     simp only [Option.some.injEq] at h
     subst h
     have h1:=qoR l hl
     cases c<;>simp only [zD] at hd<;>first | (cases hd;done) | (injection hd with hd;subst hd;simp only [B.erL,B.er,D.er,h1,fzU,zA])
   . cases h
def qjm (F:SF):List Operand->List B
 | []=>[]
 | x::r=>z6 F x::qjm F r
theorem qnm (F:SF)(l:List Operand):B.erL (qjm F l)=qdg F.er l:=by induction l with | nil=>rfl | cons a r ih=>simp only [qjm,B.erL,qdg,qI,ih]
def vD (x:R D):R (TV B):=x.bd fun d=>R.ok (.v (false,[.fz d]))
def vB (x:Option B):R (TV B):=match x with | some b=>R.ok (.v (false,[b])) | none=>none
def qqi (M:MB)(T:Nat->Option Ty)(F:SF):Op->R (TV B)
 | .move x=>R.ok (evB F x)
 | .pick c a b=>(match z6 F c with
   | .fz (.bool true b')=>R.ok (match b' with | true=>evB F a | false=>evB F b)
   | _=>none)
 | .binOp op t x y _=>(match T t with
   | some ty=>vD (qrr M ty.kind op (z6 F x) (z6 F y))
   | none=>none)
 | .unOp op _ x=>vD (qrm M op (z6 F x))
 | .load t x=>(match T t with
   | some ty=>(qcX M F ty.size (z6 F x)).bd fun as=>oR (qpN ty.agg as)
   | none=>none)
 | .fieldAddr t x f=>(match T t with
   | some ⟨.st fs,_,_,_,_⟩=>(match nth fs f with
     | some (_,0,_)=>none
     | some (off,_+1,_)=>vB (qgo off (z6 F x))
     | none=>none)
   | _=>none)
 | .indexAddr t x i=>(match T t with
   | some ⟨.sl e,_,_,_,_⟩=>(match T e with
     | some ty=>(qic M F ty.size (z6 F x) (z6 F i)).bd fun a=>R.ok (.v (false,[a]))
     | none=>none)
   | _=>none)
 | .index t x i=>(match T t with
   | some ⟨.str,_,_,_,_⟩=>(match z6 F x,z6 F i with
     | .fz (.str s),.fz (.int _ n)=>some ([M.pIx n (M.sLen s)],.v (false,[.fz (.int .u8 (M.sAt s (M.toN n)))]))
     | _,_=>none)
   | _=>none)
 | .slice t x lo hi mx=>(match T t with
   | some ⟨.str,_,_,_,_⟩=>qdt M F true 0 (z6 F x) (evO F lo) (evO F hi) (evO F mx)
   | some ⟨.sl e,_,_,_,_⟩=>(match T e with
     | some ty=>qdt M F false ty.size (z6 F x) (evO F lo) (evO F hi) (evO F mx)
     | none=>none)
   | _=>none)
 | .convert s t x=>(match T s,T t with
   | some ⟨ks,_,_,_,_⟩,some ⟨.int k,_,_,_,_⟩=>(match z6 F x with
     | .fz (.int _ n)=>(match ks with
       | .int _=>R.ok (.v (false,[.fz (.int k (M.iWrap k n))]))
       | _=>none)
     | _=>none)
   | some ⟨.str,_,_,_,_⟩,some ⟨.str,_,_,_,_⟩=>(match z6 F x with
     | .fz (.str s)=>R.ok (.v (false,[.fz (.str s)]))
     | _=>none)
   | some ⟨.sl e,_,_,_,_⟩,some ⟨.str,_,_,_,_⟩=>(match T e with
     | some ⟨.int .u8,_,_,_,_⟩=>(qhe M F (z6 F x)).bd fun s=>R.ok (.v (false,[.fz (.str s)]))
     | _=>none)
   | _,_=>none)
 | .extract x i=>(match evB F x with
   | .tup xs=>(match nth xs i with
     | some y=>R.ok (.v y)
     | none=>none)
   | _=>none)
 | .makeFunc (.func f) ⟨[]⟩ ⟨caps⟩=>R.ok (.v (false,[.clo f (qjm F caps)]))
 | .build t ⟨parts⟩=>(match T t with
   | some ⟨.st fs,_,_,_,z⟩=>(match zDL z with
     | some ds=>(match YI F fs ds parts with
       | some as=>R.ok (.v (true,as))
       | none=>none)
     | none=>none)
   | _=>none)
 | .call ⟨.builtin .len,⟨[x]⟩,⟨[t]⟩⟩=>(match T t with
  | some ⟨.str,_,_,_,_⟩=>(match z6 F x with | .fz (.str s)=>R.ok (.v (false,[.fz (.int .i64 (M.nI (M.sLen s)))])) | _=>none)
  | some ⟨.sl _,_,_,_,_⟩=>(match qrh M (z6 F x) with | some n=>R.ok (.v (false,[.fz (.int .i64 n)])) | none=>none)
  | _=>none)
 | .call ⟨.builtin .max,⟨[x,y]⟩,_⟩=>(match z6 F x,z6 F y with
  | .fz (.int k a),.fz (.int k' b)=>(match we k k' with | true=>R.ok (.v (false,[.fz (.int k (M.iMax a b))])) | false=>none)
  | _,_=>none)
 | .call ⟨.builtin .min,⟨[x,y]⟩,_⟩=>(match z6 F x,z6 F y with
  | .fz (.int k a),.fz (.int k' b)=>(match we k k' with | true=>R.ok (.v (false,[.fz (.int k (M.iMin a b))])) | false=>none)
  | _,_=>none)
 | _=>none
theorem qbr (xs:List (V1 B))(i:Nat):(qx B.erL xs)[i]?=(xs[i]?).map (kb B.erL):=by
 induction xs generalizing i with
 | nil=>simp [qx]
 | cons x r ih=>cases i<;>simp [qx,ih]
theorem qgb (T:Nat->Option Ty)(F:SF)(op:Op):(qqi qn T F op).Sim fun v=>qop std T F.er op=some (.val (v.er B.erL)):=by
 unfold qqi
 split
 . exact R.Sim.ok (by simp only [qop,ja])
 . rename_i c a b
   split
   . rename_i b' hc
     refine R.Sim.ok ?_
     have:ev1 F.er c=.fz (.bool b'):=by rw [<-qI,hc];rfl
     simp only [qop,this]
     cases b'<;>simp only [ja]
   . exact R.Sim.none'
 . split
   . rename_i ty ht
     refine R.Sim.bd (qor _ _ _ _) fun d hd=>R.Sim.ok ?_
     simp only [qop,ht,<-qI,hd]
     rfl
   . exact R.Sim.none'
 . refine R.Sim.bd (qno _ _) fun d hd=>R.Sim.ok ?_
   simp only [qop,<-qI,hd]
   rfl
 . split
   . rename_i ty ht
     refine R.Sim.bd (yH F _ _) fun as has=>Yr fun v hv=>?_
     simp only [qop,ht,<-qI,has,qiR hv]
   . exact R.Sim.none'
 . split
   . rename_i fs g1 g2 g3 g4 ht
     split
     . exact R.Sim.none'
     . rename_i off sz g5 hf
       unfold vB
       split
       . rename_i y hy
         refine R.Sim.ok ?_
         simp only [qop,ht,hf,<-qI,qk2 hy]
         rfl
       . exact R.Sim.none'
     . exact R.Sim.none'
   . exact R.Sim.none'
 . split
   . rename_i e g1 g2 g3 g4 ht
     split
     . rename_i ty hte
       refine R.Sim.bd (qhr F _ _ _) fun y ⟨h1,h2⟩=>R.Sim.ok ?_
       simp only [qop,ht,hte,<-qI,h1,h2]
       rfl
     . exact R.Sim.none'
   . exact R.Sim.none'
 . split
   . rename_i g1 g2 g3 g4 ht
     split
     . rename_i s k n hx hi
       refine R.Sim.mk fun hp=>?_
       obtain ⟨h1,h2⟩:=hp.one
       have h2:n<(s.size:Int):=h2
       have hlt:n.toNat<s.size:=by omega
       have hs:std.sAt s n=some (qn.sAt s (qn.toN n)):=by
        show (if 0<=n then (s[n.toNat]?).map (fun b=>(b.toNat:Int)) else none)=_
        rw [if_pos h1]
        simp [qn,hlt]
       simp only [qop,ht,<-qI,hx,hi,B.er,D.er,qhk,hs,qkV]
       rfl
     . exact R.Sim.none'
   . exact R.Sim.none'
 . split
   . rename_i g1 g2 g3 g4 ht
     refine (YG F true 0 _ _ _ _).mono fun v hv=>?_
     simp only [qnh,qI] at hv
     simp only [qop,ht]
     exact hv
   . rename_i e g1 g2 g3 g4 ht
     split
     . rename_i ty hte
       refine (YG F false _ _ _ _ _).mono fun v hv=>?_
       simp only [qnh,qI] at hv
       simp only [qop,ht,hte]
       exact hv
     . exact R.Sim.none'
   . exact R.Sim.none'
 . split
   . rename_i ks _ _ _ _ k _ _ _ _ hs ht
     split
     . rename_i k' n hx
       split
       . refine R.Sim.ok ?_
         simp only [qop,hs,ht,<-qI,hx,B.er,D.er]
         rfl
       . exact R.Sim.none'
     . exact R.Sim.none'
   . rename_i hs ht
     split
     . rename_i s hx
       refine R.Sim.ok ?_
       simp only [qop,hs,ht,<-qI,hx,B.er,D.er]
       rfl
     . exact R.Sim.none'
   . rename_i e _ _ _ _ _ _ _ _ hs ht
     split
     . rename_i hte
       refine R.Sim.bd (qgB F _) fun s ⟨xs,h1,h2⟩=>R.Sim.ok ?_
       simp only [qop,hs,ht,hte,<-qI,h1,h2]
       rfl
     . exact R.Sim.none'
   . exact R.Sim.none'
 . split
   . rename_i xs hx
     split
     . rename_i y hy
       refine R.Sim.ok ?_
       rw [qv] at hy
       simp only [qop,<-ja,hx,TV.er,qv,qbr,hy,Option.map_some]
     . exact R.Sim.none'
   . exact R.Sim.none'
 . refine R.Sim.ok ?_
   simp only [qop,TV.er,kb,B.erL,B.er,qnm]
 . split
   . rename_i fs _ _ _ z ht
     split
     . rename_i ds hz
       have h1:=qoR z hz
       split
       . rename_i as has
         refine R.Sim.ok ?_
         have:=qbF F fs _ _ has
         rw [h1] at this
         simp only [qop,ht,this]
         rfl
       . exact R.Sim.none'
     . exact R.Sim.none'
   . exact R.Sim.none'
 . split
   . rename_i ht
     split
     . rename_i s hx
       refine R.Sim.ok ?_
       simp only [qop,ht,<-qI,hx,B.er,D.er]
       rfl
     . exact R.Sim.none'
   . rename_i ht
     split
     . rename_i n hn
       refine R.Sim.ok ?_
       simp only [qop,ht,<-qI,qpq hn]
       rfl
     . exact R.Sim.none'
   . exact R.Sim.none'
 . split
   . rename_i k a k' b hx hy
     split
     . rename_i hk
       refine R.Sim.ok ?_
       simp only [qop,qgk,evC,<-qI,hx,hy,B.er,D.er,C?,KA,mxA,hk]
       rfl
     . exact R.Sim.none'
   . exact R.Sim.none'
 . split
   . rename_i k a k' b hx hy
     split
     . rename_i hk
       refine R.Sim.ok ?_
       simp only [qop,qgk,evC,<-qI,hx,hy,B.er,D.er,C?,KA,mxA,hk]
       rfl
     . exact R.Sim.none'
   . exact R.Sim.none'
 . exact R.Sim.none'
end Go.Proofs.YtifnopmkdempdaaGreat.Ai
namespace Go.Proofs.YtifnopmkdempdaaGreat.Ai
open Go
theorem jA (a b:Nat):std.nEq a b=(a == b):=rfl
def qh2 (M:MB)(F:SF)(a:B)(q:SP):R (W×Option SP) :=
 match a with
 | .fz .nilsl=>R.ok (.onil,none)
 | .fz .un=>none
 | .fz d=>R.ok (.fz d,none)
 | .rf p _ off len=>(F.atR M p).bd fun o=>(match o with
   | .osl x=>(match nq p.1 q.1 with
     | false=>some ([M.pEqN off 0,M.pEqN len (x.len M)],(.osl x,some p))
     | true=>none)
   | .onil=>(match nq p.1 q.1 with
     | false=>some ([M.pEqN off 0,M.pEqN len 0],(.onil,some p))
     | true=>none)
   | _=>none)
 | .pp p i j=>(F.atR M p).bd fun o=>(match o with
   | .obx cs=>(match i with
     | (true,0)=>(match j with
       | 0=>(match nq p.1 q.1 with
         | false=>R.ok (.obx cs,some p)
         | true=>none)
       | _+1=>none)
     | _=>none)
   | _=>none)
 | _=>none
theorem qil (F:SF)(a:B)(q:SP):(qh2 qn F a q).Sim fun r=>Kq std false F.er a.er q.er=some (r.1.er,r.2.map SP.er):=by
 unfold qh2
 split
 . exact R.Sim.ok rfl
 . exact R.Sim.none'
 . rename_i d h1 h2
   refine R.Sim.ok ?_
   cases d<;>first | rfl | exact (h1 rfl).elim | exact (h2 rfl).elim
 . rename_i p w off len
   refine R.Sim.bd (F.atR_sim p) fun o ho=>?_
   split
   . rename_i x
     split
     . rename_i hne
       refine R.Sim.mk fun hp=>?_
       obtain ⟨h1,h2⟩:=hp.two
       have h1:off=0:=h1
       have h2:len=x.len qn:=h2
       subst h1 h2
       have hne':nq p.er.1 q.er.1=false:=hne
       have hl:std.oLen x.ro=x.len qn:=LL.len_ro x
       simp only [B.er,Kq,ho,W.er,jA,hne',hl]
       simp
     . exact R.Sim.none'
   . split
     . rename_i hne
       refine R.Sim.mk fun hp=>?_
       obtain ⟨h1,h2⟩:=hp.two
       have h1:off=0:=h1
       have h2:len=0:=h2
       subst h1 h2
       have hne':nq p.er.1 q.er.1=false:=hne
       have hl:std.oLen []=0:=rfl
       simp only [B.er,Kq,ho,W.er,jA,hne',hl]
       simp
     . exact R.Sim.none'
   . exact R.Sim.none'
 . rename_i p i j
   refine R.Sim.bd (F.atR_sim p) fun o ho=>?_
   split
   . rename_i cs
     split
     . split
       . split
         . rename_i hne
           refine R.Sim.ok ?_
           have hne':nq p.er.1 q.er.1=false:=hne
           simp only [B.er,Kq,ho,W.er,hne']
           rfl
         . exact R.Sim.none'
       . exact R.Sim.none'
     . exact R.Sim.none'
   . exact R.Sim.none'
 . exact R.Sim.none'
def Zw (M:MB)(q:Nat->SP):Nat->Nat->SF->List B->R (List W×SF)
 | _,0,F,[]=>R.ok ([],F)
 | j,n+1,F,a::rest=>(qh2 M F a (q j)).bd fun r=>(match r.2 with
   | none=>(Zw M q (j+1) n F rest).bd fun s=>R.ok (r.1::s.1,s.2)
   | some p=>(F.liftR M p (q j)).bd fun F1=>(match B.trL (qiE p (q j)) rest with
     | some l=>(Zw M q (j+1) n F1 l).bd fun s=>R.ok (r.1::s.1,s.2)
     | none=>none))
 | _,_,_,_=>none
theorem qpI (τ':qj->Option qj)(l:List A):A.trL τ' l=l.map (A.tr τ'):=jY τ' l
theorem Kf (q:Nat->SP):∀ (n j:Nat) (F:SF) (as:List B),(Zw qn q j n F as).Sim fun r=>∀ (f:A->A) (l:List A),l.map f=B.erL as->jC std false (fun j=>(q j).er) j F.er f l=some (W.erL r.1,r.2.er)
 | 0,j,F,[]=>R.Sim.ok fun f l hl=>by
   cases l with
   | nil=>rfl
   | cons a l=>simp [B.erL] at hl
 | 0,j,F,_::_=>R.Sim.none'
 | n+1,j,F,[]=>R.Sim.none'
 | n+1,j,F,a::rest=>by
   simp only [Zw]
   refine R.Sim.bd (qil F a (q j)) fun r hr=>?_
   split
   . rename_i hr2
     rw [hr2] at hr
     refine R.Sim.bd (Kf q n (j+1) F rest) fun s hs=>R.Sim.ok fun f l hl=>?_
     cases l with
     | nil=>simp [B.erL] at hl
     | cons b l =>
       simp only [List.map_cons,B.erL,List.cons.injEq] at hl
       simp only [jC,hl.1,hr,Option.map_none,hs f l hl.2]
       rfl
   . rename_i p hr2
     rw [hr2] at hr
     refine R.Sim.bd (F.liftR_sim p (q j)) fun F1 hF1=>?_
     split
     . rename_i rest' hrest
       refine R.Sim.bd (Kf q n (j+1) F1 rest') fun s hs=>R.Sim.ok fun f l hl=>?_
       cases l with
       | nil=>simp [B.erL] at hl
       | cons b l =>
         simp only [List.map_cons,B.erL,List.cons.injEq] at hl
         have h1:l.map (fun x=>(f x).tr (jB std p.er (q j).er))=B.erL rest':=by
          rw [<-B.trL_sound (fun x r=>W7) rest hrest,qpI,<-hl.2,List.map_map]
          rfl
         have h2:=hs _ l h1
         simp only [jC,hl.1,hr,Option.map_some,hF1,h2]
         rfl
     . exact R.Sim.none'
def qB (r:Nat)(s:jb)(i:Bool×Nat)(j:Nat):SP:=(r,s++[(i,j)])
theorem qeL (r:Nat)(s:jb)(i:Bool×Nat)(j:Nat):(qB r s i j).er=qAt r (ixs s) i.2 j:=by simp only [qB,SP.er,wF,qAt];rfl
theorem WP (r:Nat)(s:jb)(i:Bool×Nat)(n:Nat)(F:SF)(as:List B):(Zw qn (qB r s i) 0 n F as).Sim fun x=>jC std false (qAt r (ixs s) i.2) 0 F.er idA (B.erL as)=some (W.erL x.1,x.2.er):=by
 refine (Kf (qB r s i) n 0 F as).mono fun x hx=>?_
 have:=hx idA (B.erL as) (by show List.map (fun a=>a) _=_;simp)
 have hq:(fun j=>(qB r s i j).er)=qAt r (ixs s) i.2:=by funext j;exact qeL r s i j
 rw [hq] at this
 exact this
theorem qhm (r:Nat)(s:jb)(i:Bool×Nat)(j n:Nat)(F:SF)(as:List B):(Zw qn (qB r s i) j n F as).Sim fun x=>jC std false (qAt r (ixs s) i.2) j F.er idA (B.erL as)=some (W.erL x.1,x.2.er):=by
 refine (Kf (qB r s i) n j F as).mono fun x hx=>?_
 have:=hx idA (B.erL as) (by show List.map (fun a=>a) _=_;simp)
 have hq:(fun j=>(qB r s i j).er)=qAt r (ixs s) i.2:=by funext j;exact qeL r s i j
 rw [hq] at this
 exact this
def qji:TV B->Option (List B)
 | .v (_,as)=>some as
 | .tup _=>none
def ppB (r:Nat):TV B:=.v (false,[.pp (r,[]) (true,0) 0])
def rfB (r len:Nat):TV B:=.v (false,[.rf (r,[]) true 0 len])
def qrJ (M:MB)(F:SF)(d:Nat)(x:Operand):R SF :=
 match qji (evB F x) with
 | some as=>(Zw M (qB (rid d 0 0) [] (true,0)) 0 (cnt as) F as).bd fun s=>R.ok ((s.2.root (rid d 0 0) (.obx s.1)).put d (ppB (rid d 0 0)))
 | none=>none
theorem qoe (F:SF)(d:Nat)(x:Operand):(qrJ qn F d x).Sim fun G=>qn1 std false F.er d x=some G.er:=by
 unfold qrJ
 split
 . rename_i as has
   have hx:(ev F.er x).cells=some (B.erL as):=by
    rw [<-ja]
    unfold qji at has
    split at has
    . rename_i g as' he
      simp only [Option.some.injEq] at has
      subst has
      rw [he]
      rfl
    . cases has
   refine R.Sim.bd (WP _ _ _ _ F as) fun s hs=>R.Sim.ok ?_
   unfold qn1
   rw [hx]
   dsimp only
   rw [show qAt (rid d 0 0) [] 0=qAt (rid d 0 0) (ixs []) (true,0).2 from rfl,hs]
   rfl
 . exact R.Sim.none'
def zW:C->Option W
 | .int k n=>some (.fz (.int k n))
 | .bool b=>some (.fz (.bool true b))
 | .str s=>some (.fz (.str s))
 | .nilsl=>some .onil
 | _=>none
def zWL:List C->Option (List W)
 | []=>some []
 | c::r=>match zW c,zWL r with | some d,some l=>some (d::l) | _,_=>none
theorem qcC:∀ (l:List C) {r:List W},zWL l=some r->W.erL r=ka false l/\ZL l=true
 | [],r,h=>by simp only [zWL,Option.some.injEq] at h;subst h;exact ⟨rfl,rfl⟩
 | c::l,r,h=>by
   simp only [zWL] at h
   split at h
   . rename_i d l' hd hl
     simp only [Option.some.injEq] at h
     subst h
     obtain ⟨h1,h2⟩:=qcC l hl
     cases c<;>simp only [zW] at hd<;>first | (cases hd;done) | (injection hd with hd;subst hd;exact ⟨by simp only [W.erL,W.er,D.er,ka,h1],by simp only [ZL,h2]⟩)
   . cases h
def qmq (M:MB)(T:Nat->Option Ty)(F:SF)(d:Nat)(e:Nat):R SF :=
 match T e with
 | some ty=>(match zWL ty.zero with
   | some zs=>(F.clearR M (rid d 0 0)).bd fun G=>R.ok ((G.root (rid d 0 0) (.obx zs)).put d (ppB (rid d 0 0)))
   | none=>none)
 | none=>none
def LL.cons1:LL->LL->Option LL
 | .i [x1],.i l=>some (.i (x1::l))
 | .u [x1],.u l=>some (.u (x1::l))
 | .b [x1],.b l=>some (.b (x1::l))
 | .s [x1],.s l=>some (.s (x1::l))
 | .cue [x1],.cue l=>some (.cue (x1::l))
 | .tie [x1],.tie l=>some (.tie (x1::l))
 | .edge [x1],.edge l=>some (.edge (x1::l))
 | .link [x1],.link l=>some (.link (x1::l))
 | .node true none [x1],.node true none l=>some (.node true none (x1::l))
 | .node false none [x1],.node false none l=>some (.node false none (x1::l))
 | .ii true none [x1],.ii true none l=>some (.ii true none (x1::l))
 | .ii false none [x1],.ii false none l=>some (.ii false none (x1::l))
 | _,_=>none
theorem LL.cons1_ro {x y z:LL}(h:x.cons1 y=some z):z.ro=x.ro++y.ro:=by
 unfold LL.cons1 at h
 split at h<;>first | (simp only [Option.some.injEq] at h;subst h;rfl) | cases h
def LL.many (k:EK):List (List W)->Option W
 | []=>some .onil
 | [c]=>(match LL.one k c with | some x=>some (.osl x) | none=>none)
 | c::r=>(match LL.one k c,LL.many k r with
   | some x,some (.osl y)=>(match x.cons1 y with | some z=>some (.osl z) | none=>none)
   | _,_=>none)
theorem LL.many_er (k:EK):∀ (l:List (List W)) {w:W},LL.many k l=some w->w.er=.osl (l.map W.erL)
 | [],w,h=>by simp only [LL.many,Option.some.injEq] at h;subst h;rfl
 | [c],w,h=>by
   simp only [LL.many] at h
   split at h
   . rename_i x hx
     simp only [Option.some.injEq] at h
     subst h
     simp only [W.er,LL.one_ro hx,List.map_cons,List.map_nil,W.erL_eq]
   . cases h
 | c::c'::r,w,h=>by
   simp only [LL.many] at h
   split at h
   . rename_i x y hx hy
     split at h
     . rename_i z hz
       simp only [Option.some.injEq] at h
       subst h
       have:=LL.many_er k (c'::r) hy
       simp only [W.er,O.osl.injEq] at this ⊢
       rw [LL.cons1_ro hz,LL.one_ro hx,this]
       simp [W.erL_eq]
     . cases h
   . cases h
def qdc (M:MB)(r size:Nat):Nat->SF->List (Nat×Operand)->R (List (List W)×SF)
 | _,F,[]=>R.ok ([],F)
 | i,F,(i',x)::rest=>(match nq i' i with
   | true=>(match evB F x with
     | .v (_,as)=>(match nq (cnt as) size with
       | true=>(Zw M (qB r [] (true,i)) 0 (cnt as) F as).bd fun s=>(qdc M r size (i+1) s.2 rest).bd fun t=>R.ok (s.1::t.1,t.2)
       | false=>none)
     | .tup _=>none)
   | false=>none)
theorem Y0 (r size:Nat):∀ (l:List (Nat×Operand)) (i:Nat) (F:SF),(qdc qn r size i F l).Sim fun t=>Zx std false r size i F.er l=some (t.1.map W.erL,t.2.er)
 | [],i,F=>R.Sim.ok rfl
 | (i',x)::l,i,F=>by
   simp only [qdc]
   split
   . rename_i hi
     split
     . rename_i g as hx
       split
       . rename_i hsz
         refine R.Sim.bd (WP r [] (true,i) _ F as) fun s hs=>R.Sim.bd (Y0 r size l (i+1) s.2) fun t ht=>R.Sim.ok ?_
         have hs':jC std false (qAt r [] i) 0 F.er idA (B.erL as)=some (W.erL s.1,s.2.er):=hs
         simp only [Zx,hi,<-ja,hx,TV.er,kb,V4,hsz,hs',ht]
         rfl
       . exact R.Sim.none'
     . exact R.Sim.none'
   . exact R.Sim.none'
def qow (M:MB)(F:SF):B->R (Option LL×SF)
 | .fz .nilsl=>R.ok (none,F)
 | .rf p _ off len=>(F.atR M p).bd fun o=>(match o with
   | .osl x=>(F.dropR M p).bd fun G=>some ([M.pEqN off 0,M.pEqN len (x.len M)],(some x,G))
   | .onil=>(F.dropR M p).bd fun G=>some ([M.pEqN off 0,M.pEqN len 0],(none,G))
   | _=>none)
 | _=>none
def oro:Option LL->List (List O)
 | none=>[]
 | some x=>x.ro
theorem ql5 (F:SF)(x:B):(qow qn F x).Sim fun r=>JZ std F.er x.er=some (oro r.1,r.2.er):=by
 unfold qow
 split
 . exact R.Sim.ok rfl
 . rename_i p w off len
   refine R.Sim.bd (F.atR_sim p) fun o ho=>?_
   split
   . rename_i x
     refine R.Sim.bd (F.dropR_sim p) fun G hG=>R.Sim.mk fun hp=>?_
     obtain ⟨h1,h2⟩:=hp.two
     have h1:off=0:=h1
     have h2:len=x.len qn:=h2
     subst h1 h2
     have hl:std.oLen x.ro=x.len qn:=LL.len_ro x
     simp only [B.er,JZ,ho,W.er,jA,hl,hG]
     simp [oro]
   . refine R.Sim.bd (F.dropR_sim p) fun G hG=>R.Sim.mk fun hp=>?_
     obtain ⟨h1,h2⟩:=hp.two
     have h1:off=0:=h1
     have h2:len=0:=h2
     subst h1 h2
     have hl:std.oLen []=0:=rfl
     simp only [B.er,JZ,ho,W.er,jA,hl,hG]
     simp [oro]
   . exact R.Sim.none'
 . exact R.Sim.none'
def qqt:jb->Bool
 | []=>true
 | _::_=>false
def qmX (M:MB)(F:SF):B->R (Option LL×Option SP)
 | .fz .nilsl=>R.ok (none,none)
 | .fz (.sl zs)=>R.ok (some zs.thaw,none)
 | .rf p w off len=>(F.atR M p).bd fun o=>(match o with
   | .osl x=>(match x.here with
     | true=>(match x.flat with
       | true=>(match w with
         | true=>some ([M.pEqN off 0,M.pEqN len (x.len M)],(some x,none))
         | false=>(match x.cut M off len with
           | some y=>some ([M.pLeN (M.nAdd off len) (x.len M)],(some y,none))
           | none=>none))
       | false=>(match x.some1 with
         | true=>(match qqt p.2 with
           | true=>some ([M.pEqN off 0,M.pEqN len (x.len M)],(some x,some p))
           | false=>none)
         | false=>none))
     | false=>none)
   | .onil=>some ([M.pEqN off 0,M.pEqN len 0],(none,none))
   | _=>none)
 | _=>none
theorem qlI (F:SF)(x:B):(qmX qn F x).Sim fun r=>Ks std F.er x.er=some (oro r.1,r.2.map SP.er):=by
 unfold qmX
 split
 . exact R.Sim.ok rfl
 . rename_i zs
   refine R.Sim.ok ?_
   simp only [B.er,D.er,Ks,oro,LL.thaw_ro]
   rfl
 . rename_i p w off len
   refine R.Sim.bd (F.atR_sim p) fun o ho=>?_
   split
   . rename_i x
     split
     . rename_i hh
       split
       . rename_i hf
         have hfl:std.oFlat x.ro=true:=LL.flat_ro x hf hh
         split
         . refine R.Sim.mk fun hp=>?_
           obtain ⟨h1,h2⟩:=hp.two
           have h1:off=0:=h1
           have h2:len=x.len qn:=h2
           subst h1 h2
           have hl:std.oLen x.ro=x.len qn:=LL.len_ro x
           have hn:std.nLe (std.nAdd 0 (x.len qn)) (x.len qn)=true:=by show decide (0+x.len qn<=x.len qn)=true;simp
           simp only [B.er,Ks,ho,W.er,hl,hn,hfl,jA]
           simp [oro]
         . split
           . rename_i y hy
             refine R.Sim.mk fun hp=>?_
             have h1:off+len<=x.len qn:=hp.one
             have hl:std.oLen x.ro=x.len qn:=LL.len_ro x
             have hn:std.nLe (std.nAdd off len) (x.len qn)=true:=by show decide (off+len<=x.len qn)=true;simpa using h1
             have hc:std.oCut x.ro off len=y.ro:=(LL.cut_ro hy).symm
             simp only [B.er,Ks,ho,W.er,hl,hn,hfl,jA,hc]
             by_cases he:off=0/\len=x.len qn
             . obtain ⟨rfl,rfl⟩:=he
               have:y.ro=x.ro:=by
                rw [LL.cut_ro hy,List.drop_zero,<-LL.len_ro]
                simp
               simp [oro,this]
             . have:(off == 0&&len == x.len qn)=false:=by
                cases hb:(off == 0&&len == x.len qn) with
                | false=>rfl
                | true=>simp at hb;exact absurd hb he
               simp only [this,oro,Option.map_none]
           . exact R.Sim.none'
       . rename_i hf
         split
         . rename_i hs
           split
           . rename_i hn0
             refine R.Sim.mk fun hp=>?_
             obtain ⟨h1,h2⟩:=hp.two
             have h1:off=0:=h1
             have h2:len=x.len qn:=h2
             subst h1 h2
             have hl:std.oLen x.ro=x.len qn:=LL.len_ro x
             have hfl:std.oFlat x.ro=false:=LL.some1_ro x hs hf
             have hn:std.nLe (std.nAdd 0 (x.len qn)) (x.len qn)=true:=by show decide (0+x.len qn<=x.len qn)=true;simp
             obtain ⟨r,s⟩:=p
             cases s with
             | cons _ _=>simp [qqt] at hn0
             | nil =>
               simp only [B.er,Ks,ho,W.er,hl,hn,hfl,jA]
               simp [oro,SP.er,ixs]
           . exact R.Sim.none'
         . exact R.Sim.none'
     . exact R.Sim.none'
   . refine R.Sim.mk fun hp=>?_
     obtain ⟨h1,h2⟩:=hp.two
     have h1:off=0:=h1
     have h2:len=0:=h2
     subst h1 h2
     simp only [B.er,Ks,ho,W.er]
     rfl
   . exact R.Sim.none'
 . exact R.Sim.none'
def qqE (M:MB)(F:SF):Option SP->R SF
 | none=>R.ok F
 | some p=>F.dropR M p
def qae (M:MB):Option LL->Nat
 | none=>0
 | some x=>x.len M
def qq3 (M:MB):Option LL->Option LL->Option (Option LL)
 | none,y=>some y
 | some x,none=>some (some x)
 | some x,some y=>(match x.app M y with | some z=>some (some z) | none=>none)
def qqs (n:Nat):Option LL->Bool
 | none=>true
 | some x=>nq x.sz n
def qqZ:Option LL->W
 | none=>.onil
 | some x=>.osl x
theorem vh (x:Option LL):(oro x).length=qae qn x:=by cases x with | none=>rfl | some x=>exact LL.len_ro x
theorem qjI (x:Option LL):(qqZ x).er=.osl (oro x):=by cases x<;>rfl
theorem qpD {x y z:Option LL}(h:qq3 qn x y=some z):oro z=oro x++oro y:=by
 unfold qq3 at h
 split at h
 . simp only [Option.some.injEq] at h;subst h;rfl
 . simp only [Option.some.injEq] at h;subst h;simp [oro]
 . split at h
   . rename_i z' hz
     simp only [Option.some.injEq] at h
     subst h
     exact LL.app_ro hz
   . cases h
theorem qdB {n:Nat}{x:Option LL}(h:qqs n x=true):std.oSz n (oro x)=true:=by
 cases x with
 | none=>rfl
 | some x =>
   have:=Nat.eq_of_beq_eq_true h
   exact qc4 (by rw [<-this];exact x.ro_sz)
def qdz (M:MB)(ty:Ty)(d:Nat)(x y:Operand)(F:SF):R SF :=
 (qow M F (z6 F x)).bd fun r=>(qmX M r.2 (z6 r.2 y)).bd fun s =>
   (match nle ty.bytes 4096&&nlt 0 ty.size&&nq (cnt ty.zero) ty.size&&qqs ty.size s.1&&qqs ty.size r.1 with
   | true=>(match qq3 M r.1 s.1 with
     | some z=>(qqE M r.2 s.2).bd fun G=>some ([M.pLeLim (M.nAdd (qae M r.1) (qae M s.1))],(G.root (rid d 0 0) (qqZ z)).put d (rfB (rid d 0 0) (qae M z)))
     | none=>none)
   | false=>none)
theorem qeO (ty:Ty)(d:Nat)(x y:Operand)(F:SF):(qdz qn ty d x y F).Sim fun G=>Z3 std ty d x y F.er=some G.er:=by
 unfold qdz
 refine R.Sim.bd (ql5 F _) fun r hr=>R.Sim.bd (qlI r.2 _) fun s hs=>?_
 split
 . rename_i hc
   split
   . rename_i z hz
     have hg:(qqE qn r.2 s.2).Sim fun G=>qbN std r.2.er (s.2.map SP.er)=G.er:=by
      cases s.2 with
      | none=>exact R.Sim.ok rfl
      | some p=>exact r.2.dropR_sim p
     refine R.Sim.bd hg fun G hG=>R.Sim.mk fun hp=>?_
     rw [qI] at hr hs
     unfold Z3
     simp only [hr,hs]
     simp only [Bool.and_eq_true] at hc
     obtain ⟨⟨⟨⟨h1,h2⟩,h3⟩,h4⟩,h5⟩:=hc
     have h6:std.nLe (std.nAdd (std.oLen (oro r.1)) (std.oLen (oro s.1))) lim=true:=by
      have:qae qn r.1+qae qn s.1<=lim:=hp.one
      show decide ((oro r.1).length+(oro s.1).length<=lim)=true
      rw [vh,vh]
      simpa using this
     rw [h1,h2,h3,qdB h4,qdB h5,h6]
     have h7:std.oCat (oro r.1) (oro s.1)=oro z:=(qpD hz).symm
     simp only [Bool.and_self,hG,h7]
     have h8:std.oLen (oro z)=qae qn z:=vh z
     rw [h8,<-qjI]
     rfl
   . exact R.Sim.none'
 . exact R.Sim.none'
def qcw (M:MB)(F:SF)(d:Nat)(x:TV B):R SF :=
 match x with
 | .v (false,[.fz .nilsl])=>(F.clearR M (rid d 0 0)).bd fun G=>R.ok ((G.root (rid d 0 0) .onil).put d (rfB (rid d 0 0) 0))
 | .v (false,[.rf (id,[]) w off len])=>(F.atR M (id,[])).bd fun o=>(match w with
   | true=>(match o with
     | .osl x=>(match nq id (rid d 0 0) with
       | true=>some ([M.pEqN off 0,M.pEqN len (x.len M)],F.put d (.v (false,[.rf (id,[]) w off len])))
       | false=>(F.clearR M (rid d 0 0)).bd fun G=>(G.liftR M (id,[]) (rid d 0 0,[])).bd fun H=>some ([M.pEqN off 0,M.pEqN len (x.len M)],(H.root (rid d 0 0) (.osl x)).put d (rfB (rid d 0 0) len)))
     | .onil=>(match nq id (rid d 0 0) with
       | true=>some ([M.pEqN off 0,M.pEqN len 0],F.put d (.v (false,[.rf (id,[]) w off len])))
       | false=>(F.clearR M (rid d 0 0)).bd fun G=>(G.liftR M (id,[]) (rid d 0 0,[])).bd fun H=>some ([M.pEqN off 0,M.pEqN len 0],(H.root (rid d 0 0) .onil).put d (rfB (rid d 0 0) len)))
     | _=>none)
   | false=>none)
 | x=>R.ok (F.put d x)
theorem qrv (x:TV B):(∃ id off len,x.er B.erL=TV.v (false,[A.rf (id,[]) off len]))->∃ id w off len,x=.v (false,[.rf (id,[]) w off len]):=by
 rintro ⟨id,off,len,h⟩
 cases x with
 | tup xs=>simp [TV.er] at h
 | v x =>
   obtain ⟨g,as⟩:=x
   simp only [TV.er,kb,TV.v.injEq,Prod.mk.injEq] at h
   obtain ⟨rfl,h⟩:=h
   match as,h with
   | [a],h =>
     simp only [B.erL,List.cons.injEq,and_true] at h
     cases a with
     | rf p w off' len' =>
       obtain ⟨r,s⟩:=p
       cases s with
       | nil =>
         simp only [B.er,A.rf.injEq,SP.er,ixs,Prod.mk.injEq,and_true] at h
         obtain ⟨rfl,rfl,rfl⟩:=h
         exact ⟨_,_,_,_,rfl⟩
       | cons z s=>obtain ⟨⟨k,i⟩,j⟩:=z;simp [B.er,SP.er,ixs] at h
     | _=>simp [B.er] at h
   | [],h=>simp [B.erL] at h
   | _::_::_,h=>simp [B.erL] at h
theorem qqg (x:TV B):x.er B.erL=TV.v (false,[A.fz .nilsl])->x=.v (false,[.fz .nilsl]):=by
 intro h
 cases x with
 | tup xs=>simp [TV.er] at h
 | v x =>
   obtain ⟨g,as⟩:=x
   simp only [TV.er,kb,TV.v.injEq,Prod.mk.injEq] at h
   obtain ⟨rfl,h⟩:=h
   match as,h with
   | [a],h =>
     simp only [B.erL,List.cons.injEq,and_true] at h
     cases a with
     | fz d=>cases d<;>simp [B.er,D.er] at h;rfl
     | _=>simp [B.er] at h
   | [],h=>simp [B.erL] at h
   | _::_::_,h=>simp [B.erL] at h
theorem qeD (F:SF)(d:Nat)(x:TV B):(qcw qn F d x).Sim fun G=>qhA std false F.er d (x.er B.erL)=some G.er:=by
 unfold qcw
 split
 . refine R.Sim.bd (F.clearR_sim _) fun G hG=>R.Sim.ok ?_
   show some (F.er.putQ std d .mt)=_
   simp only [Fr.putQ,hG]
   rfl
 . rename_i id w off len
   refine R.Sim.bd (F.atR_sim (id,[])) fun o ho0=>?_
   have ho:F.er.at std (id,[])=o.er:=ho0
   clear ho0
   have key:qhA std false F.er d ((TV.v (false,[B.rf (id,[]) w off len])).er B.erL)=QG std F.er d (.v (false,[.rf (id,[]) off len])):=rfl
   rw [key]
   split
   . split
     . rename_i x
       have hl:std.oLen x.ro=x.len qn:=LL.len_ro x
       split
       . rename_i hid
         refine R.Sim.mk fun hp=>?_
         obtain ⟨h1,h2⟩:=hp.two
         have h1:off=0:=h1
         have h2:len=x.len qn:=h2
         subst h1 h2
         simp only [QG,hid,ho,W.er,jA,hl]
         simp [SF.put_er,TV.er,kb,B.erL,B.er,SP.er,ixs]
       . rename_i hid
         refine R.Sim.bd (F.clearR_sim _) fun G hG=>R.Sim.bd (G.liftR_sim _ _) fun H hH0=>R.Sim.mk fun hp=>?_
         obtain ⟨h1,h2⟩:=hp.two
         have h1:off=0:=h1
         have h2:len=x.len qn:=h2
         subst h1 h2
         have hH:G.er.lift std (id,[]) (rid d 0 0,[])=H.er:=hH0
         simp only [QG,hid,ho,W.er,jA,hl,hG,hH]
         simp [SF.put_er,SF.root_er,TV.er,kb,B.erL,B.er,SP.er,ixs,rfB,rfV,W.er]
     . have hl:std.oLen []=0:=rfl
       split
       . rename_i hid
         refine R.Sim.mk fun hp=>?_
         obtain ⟨h1,h2⟩:=hp.two
         have h1:off=0:=h1
         have h2:len=0:=h2
         subst h1 h2
         simp only [QG,hid,ho,W.er,jA,hl]
         simp [SF.put_er,TV.er,kb,B.erL,B.er,SP.er,ixs]
       . rename_i hid
         refine R.Sim.bd (F.clearR_sim _) fun G hG=>R.Sim.bd (G.liftR_sim _ _) fun H hH0=>R.Sim.mk fun hp=>?_
         obtain ⟨h1,h2⟩:=hp.two
         have h1:off=0:=h1
         have h2:len=0:=h2
         subst h1 h2
         have hH:G.er.lift std (id,[]) (rid d 0 0,[])=H.er:=hH0
         simp only [QG,hid,ho,W.er,jA,hl,hG,hH]
         simp [SF.put_er,SF.root_er,TV.er,kb,B.erL,B.er,SP.er,ixs,rfB,rfV,W.er]
     . exact R.Sim.none'
   . exact R.Sim.none'
 . rename_i h1 h2
   refine R.Sim.ok ?_
   rw [SF.put_er]
   generalize he:x.er B.erL=y
   unfold qhA
   split
   . exact (h1 (qqg x he)).elim
   . unfold QG
     split
     . rename_i id off len h3
       obtain ⟨id,w,off,len,rfl⟩:=qrv x ⟨_,_,_,he⟩
       exact (h2 _ _ _ _ rfl).elim
     . rfl
end Go.Proofs.YtifnopmkdempdaaGreat.Ai
namespace Go.Proofs.YtifnopmkdempdaaGreat.Ai
open Go
variable [qi]
def W.isFz:W->Bool
 | .fz _=>true
 | _=>false
theorem W.isFz_er (o:W):o.er.isFz=o.isFz:=by cases o<;>rfl
def Ya (M:MB)(r:Nat)(s:jb)(i:Bool×Nat):Nat->Nat->SF->R SF
 | _,0,F=>R.ok F
 | j,n+1,F=>(F.atR M (qB r s i j)).bd fun o=>(match o.isFz with
   | true=>Ya M r s i (j+1) n F
   | false=>(F.dropR M (qB r s i j)).bd fun G=>Ya M r s i (j+1) n G)
theorem wx (r:Nat)(s:jb)(i:Bool×Nat):∀ (n j:Nat) (F:SF),(Ya qn r s i j n F).Sim fun G=>Zn std r (ixs s) i.2 j n F.er=G.er
 | 0,j,F=>R.Sim.ok rfl
 | n+1,j,F=>by
   simp only [Ya]
   refine R.Sim.bd (F.atR_sim _) fun o ho=>?_
   rw [qeL] at ho
   split
   . rename_i hz
     refine (wx r s i n (j+1) F).mono fun G hG=>?_
     simp only [Zn,ho,W.isFz_er,hz,hG]
   . rename_i hz
     refine R.Sim.bd (F.dropR_sim _) fun G hG=>(wx r s i n (j+1) G).mono fun H hH=>?_
     rw [qeL] at hG
     simp only [Zn,ho,W.isFz_er,hz,hG,hH]
def qiX (M:MB)(r:Nat)(s:jb)(i:Bool×Nat):Nat->SF->List W->R SF
 | _,F,[]=>R.ok F
 | j,F,o::os=>(F.setR M (qB r s i j) o).bd fun G=>qiX M r s i (j+1) G os
theorem qbW (r:Nat)(s:jb)(i:Bool×Nat):∀ (os:List W) (j:Nat) (F:SF),(qiX qn r s i j F os).Sim fun G=>qe8 std r (ixs s) i.2 j F.er (W.erL os)=G.er
 | [],j,F=>R.Sim.ok rfl
 | o::os,j,F=>by
   simp only [qiX]
   refine R.Sim.bd (F.setR_sim _ o) fun G hG=>(qbW r s i os (j+1) G).mono fun H hH=>?_
   rw [qeL] at hG
   simp only [W.erL,qe8,hG,hH]
theorem vL {α:Type}:∀ (l:List α) (j n:Nat),j+n<=l.length->∃ r,cut l j n=some r
 | l,0,0,_=>⟨[],by cases l<;>rfl⟩
 | [],0,n+1,h=>by simp at h
 | [],j+1,n,h=>by simp at h
 | a::l,j+1,n,h=>by
   obtain ⟨r,hr⟩:=vL l j n (by simp at h;omega)
   exact ⟨r,by cases n<;>exact hr⟩
 | a::l,0,n+1,h=>by
   obtain ⟨r,hr⟩:=vL l 0 n (by simp at h;omega)
   exact ⟨a::r,by simp only [cut,hr]⟩
def qnl (M:MB)(F:SF)(p:SP)(i:Bool×Nat)(m:Nat):R Unit :=
 (F.atR M p).bd fun o=>(match o with
   | .osl x=>(match nle m x.sz with
     | true=>some ([M.pLtN i.2 (x.len M)],())
     | false=>none)
   | .obx cs=>(match i with
     | (true,0)=>(match nle m (cnt cs) with | true=>R.ok () | false=>none)
     | _=>none)
   | _=>none)
theorem qlk (F:SF)(p:SP)(i:Bool×Nat)(j n:Nat):(qnl qn F p i (j+n)).Sim fun _=>∃ l,kc std F.er n (.pp p.er i.2 j)=some l:=by
 unfold qnl
 refine R.Sim.bd (F.atR_sim p) fun o ho=>?_
 simp only [kc,ho]
 split
 . rename_i x
   split
   . rename_i hm
     refine R.Sim.mk fun hp=>?_
     have h1:i.2<x.len qn:=hp.one
     have h2:i.2<x.ro.length:=by rw [LL.len_ro];exact h1
     have h3:std.oGet x.ro i.2=some x.ro[i.2]:=List.getElem?_eq_getElem h2
     have h4:=x.ro_sz _ (List.getElem_mem h2)
     obtain ⟨r,hr⟩:=vL x.ro[i.2] j n (by rw [h4];exact qz hm)
     simp only [W.er,h3,hr]
     exact ⟨_,rfl⟩
   . exact R.Sim.none'
 . rename_i cs
   split
   . split
     . rename_i hm
       refine R.Sim.ok ?_
       rw [kL] at hm
       obtain ⟨r,hr⟩:=vL (W.erL cs) j n (by rw [W.erL_eq,List.length_map];exact qz hm)
       simp only [W.er,hr]
       exact ⟨_,rfl⟩
     . exact R.Sim.none'
   . exact R.Sim.none'
 . exact R.Sim.none'
def qhu (M:MB)(F:SF)(size:Nat)(a x:Operand):R SF :=
 match z6 F a with
 | .pp p i j=>(Ya M p.1 p.2 i j size F).bd fun F1=>(match evB F1 x with
   | .v (_,as)=>(match nq (cnt as) size&&nlt 0 size with
     | true=>(Zw M (qB p.1 p.2 i) j (cnt as) F1 as).bd fun s=>(qnl M s.2 p i (j+size)).bd fun _=>qiX M p.1 p.2 i j s.2 s.1
     | false=>none)
   | .tup _=>none)
 | _=>none
theorem qhP (F:SF)(size:Nat)(a x:Operand):(qhu qn F size a x).Sim fun G=>YK std false F.er size a x=some G.er:=by
 unfold qhu
 split
 . rename_i p i j ha
   refine R.Sim.bd (wx p.1 p.2 i size j F) fun F1 hF1=>?_
   split
   . rename_i g as hx
     split
     . rename_i hc
       refine R.Sim.bd (qhm p.1 p.2 i j _ F1 as) fun s hs=>R.Sim.bd (qlk s.2 p i j size) fun _ ⟨l,hl⟩=>(qbW p.1 p.2 i s.1 j s.2).mono fun G hG=>?_
       have ha':ev1 F.er a=.pp p.er i.2 j:=by rw [<-qI,ha];rfl
       have hx':ev F1.er x=.v (g,B.erL as):=by rw [<-ja,hx];rfl
       unfold YK
       rw [ha']
       dsimp only
       rw [show p.er.1=p.1 from rfl,show p.er.2=ixs p.2 from rfl,hF1,hx']
       dsimp only
       rw [V4,hc]
       dsimp only
       rw [hs]
       dsimp only
       rw [hl]
       dsimp only
       rw [hG]
     . exact R.Sim.none'
   . exact R.Sim.none'
 . exact R.Sim.none'
structure SX where
 T:Nat->Option Ty
 K:Nat->Option EK
 S:FuncId->Option (List (Nat×Nat)):=fun _=>none
 OW:FuncId->List (V1 B)->List (LK×W)->R (TV B×List (Nat×W)×List B):=fun _ _ _=>none
 FB:Nat->Bool:=fun _=>false
def qqP (M:MB)(X:SX)(F:SF)(d:Nat)(t:Nat)(l c:Operand):R SF :=
 match X.T t with
 | some ⟨.sl e,_,_,_,_⟩=>(match X.T e,X.K e with
   | some ty,some k=>(match z6 F l,z6 F c with
     | .fz (.int _ n),.fz (.int _ m)=>(match nle ty.bytes 4096&&nlt 0 ty.size&&nq (cnt ty.zero) ty.size with
       | true=>(match zWL ty.zero with
         | some zs=>(match LL.one k zs with
           | some x=>(match x.rep M (M.toN n) with
             | some y=>(F.clearR M (rid d 0 0)).bd fun G=>some ([M.pEqI n m,M.pRep n],(G.root (rid d 0 0) (.osl y)).put d (rfB (rid d 0 0) (y.len M)))
             | none=>none)
           | none=>none)
         | none=>none)
       | false=>none)
     | _,_=>none)
   | _,_=>none)
 | _=>none
def qiO (M:MB)(X:SX)(F:SF)(d:Nat)(t len:Nat)(parts:List (Nat×Operand)):R SF :=
 match X.T t with
 | some ⟨.sl e,_,_,_,_⟩=>(match X.T e,X.K e with
   | some ty,some k=>(match nq (cnt parts) len&&nle len 4096&&nlt 0 ty.size&&nle ty.size 4096 with
     | true=>(F.clearR M (rid d 0 0)).bd fun G=>(qdc M (rid d 0 0) ty.size 0 G parts).bd fun s=>(match LL.many k s.1 with
       | some w=>R.ok ((s.2.root (rid d 0 0) w).put d (rfB (rid d 0 0) len))
       | none=>none)
     | false=>none)
   | _,_=>none)
 | _=>none
def qnF (M:MB)(X:SX)(F:SF)(d:Nat):Op->R SF
 | .assign x=>qcw M F d (evB F x)
 | .box _ x=>(F.clearR M (rid d 0 0)).bd fun G=>qrJ M G d x
 | .alloc e=>qmq M X.T F d e
 | .buildSlice t len ⟨parts⟩=>qiO M X F d t len parts
 | .makeSlice t l c=>qqP M X F d t l c
 | .call ⟨.builtin .append,⟨[x,y]⟩,⟨[t,t']⟩⟩=>(match nq t t',X.T t with
   | true,some ⟨.sl e,_,_,_,_⟩=>(match X.T e with
     | some ty=>(F.dropR M (rid d 0 0,[])).bd fun G=>qdz M ty d x y G
     | none=>none)
   | _,_=>none)
 | o=>(qqi M X.T F o).bd fun v=>R.ok (F.put d v)
theorem Yp (X:SX)(F:SF)(d:Nat)(op:Op):(qnF qn X F d op).Sim fun G=>wop std X.T false F.er d op=some G.er:=by
 unfold qnF
 split
 . rename_i x
   refine (qeD F d _).mono fun G hG=>?_
   rw [ja] at hG
   exact hG
 . refine R.Sim.bd (F.clearR_sim _) fun G hG=>(qoe G d _).mono fun H hH=>?_
   simp only [wop,hG,hH]
 . rename_i e
   unfold qmq
   split
   . rename_i ty ht
     split
     . rename_i zs hz
       obtain ⟨h1,h2⟩:=qcC _ hz
       refine R.Sim.bd (F.clearR_sim _) fun G hG=>R.Sim.ok ?_
       simp only [wop,ht,h2,hG,<-h1]
       rfl
     . exact R.Sim.none'
   . exact R.Sim.none'
 . rename_i t len parts
   unfold qiO
   split
   . rename_i e _ _ _ _ ht
     split
     . rename_i ty k hte hk
       split
       . rename_i hc
         refine R.Sim.bd (F.clearR_sim _) fun G hG=>R.Sim.bd (Y0 _ _ _ _ G) fun s hs=>?_
         split
         . rename_i w hw
           refine R.Sim.ok ?_
           have:=LL.many_er k _ hw
           simp only [wop,ht,hte,hc,hG,hs,SF.put_er,SF.root_er,this]
           rfl
         . exact R.Sim.none'
       . exact R.Sim.none'
     . exact R.Sim.none'
   . exact R.Sim.none'
 . rename_i t l c
   unfold qqP
   split
   . rename_i e _ _ _ _ ht
     split
     . rename_i ty k hte hk
       split
       . rename_i k1 n k2 m hl hm
         split
         . rename_i hc
           split
           . rename_i zs hz
             obtain ⟨h1,h2⟩:=qcC _ hz
             split
             . rename_i x hx
               split
               . rename_i y hy
                 refine R.Sim.bd (F.clearR_sim _) fun G hG=>R.Sim.mk fun hp=>?_
                 obtain ⟨h3,h4,h5⟩:=hp.two
                 have h3:n=m:=h3
                 subst h3
                 obtain ⟨z,hz1,hz2⟩:=LL.rep_ro hy
                 have hxo:=LL.one_ro hx
                 rw [hz1] at hxo
                 injection hxo with hxo
                 have hzz:z=ka false ty.zero:=by rw [hxo,<-W.erL_eq,h1]
                 have hl':ev1 F.er l=.fz (.int k1 n):=by rw [<-qI,hl];rfl
                 have hm':ev1 F.er c=.fz (.int k2 n):=by rw [<-qI,hm];rfl
                 have hr:std.oRep n (ka false ty.zero)=some y.ro:=by
                  show (if 0<=n/\n<=(lim:Int) then some (List.replicate n.toNat (ka false ty.zero)) else none)=_
                  rw [if_pos ⟨h4,h5⟩,hz2,hzz]
                  rfl
                 have hb:std.bEq n n=true:=by show (n == n)=true;simp
                 have hlen:std.oLen y.ro=y.len qn:=LL.len_ro y
                 simp only [wop,ht,hte,hl',hm',hb,hc,h2,hr,hG,hlen,Bool.and_self,Bool.true_and,Bool.and_true]
                 rfl
               . exact R.Sim.none'
             . exact R.Sim.none'
           . exact R.Sim.none'
         . exact R.Sim.none'
       . exact R.Sim.none'
     . exact R.Sim.none'
   . exact R.Sim.none'
 . rename_i x y t t'
   split
   . rename_i e _ _ _ _ htt ht
     split
     . rename_i ty hte
       refine R.Sim.bd (F.dropR_sim _) fun G hG=>(qeO ty d x y G).mono fun H hH=>?_
       have hG:F.er.drop std (rid d 0 0,[])=G.er:=hG
       simp only [wop,htt,ht,hte,hG,hH]
     . exact R.Sim.none'
   . exact R.Sim.none'
 . rename_i h1 h2 h3 h4 h5 h6
   refine R.Sim.bd (qgb X.T F op) fun v hv=>R.Sim.ok ?_
   have:wop std X.T false F.er d op=qjT std F.er d (qop std X.T F.er op):=by
    unfold wop
    split<;>first
     | rfl
     | exact (h1 _ rfl).elim
     | exact (h2 _ _ rfl).elim
     | exact (h3 _ rfl).elim
     | exact (h4 _ _ _ rfl).elim
     | exact (h5 _ _ _ rfl).elim
     | exact (h6 _ _ _ _ rfl).elim
   rw [this,hv]
   rfl
def qnr (M:MB)(F:SF):TV B->R (V1 D)
 | .v (g,as)=>(match qir as with
   | true=>(qbu M F as).bd fun l=>R.ok (g,l)
   | false=>none)
 | .tup _=>none
theorem qko (F:SF)(x:TV B):(qnr qn F x).Sim fun y=>qfg std F.er (x.er B.erL)=some (kb D.erL y):=by
 unfold qnr
 split
 . rename_i g as
   split
   . rename_i hok
     refine R.Sim.bd (Jq F as) fun l hl=>R.Sim.ok ?_
     simp only [TV.er,kb,qfg,vf,hok,hl]
   . exact R.Sim.none'
 . exact R.Sim.none'
def qd9 (M:MB)(F:SF):List Operand->R (List (V1 D))
 | []=>R.ok []
 | x::r=>(qnr M F (evB F x)).bd fun y=>(qd9 M F r).bd fun ys=>R.ok (y::ys)
theorem WQ (F:SF):∀ (l:List Operand),(qd9 qn F l).Sim fun ys=>Je std F.er l=some (qx D.erL ys)
 | []=>R.Sim.ok rfl
 | x::r=>by
   simp only [qd9]
   refine R.Sim.bd (qko F _) fun y hy=>R.Sim.bd (WQ F r) fun ys hys=>R.Sim.ok ?_
   rw [ja] at hy
   simp only [Je,hy,hys]
   rfl
mutual
def B.isFzB:B->Bool
 | .fz _=>true
 | .clo _ caps=>YY caps
 | _=>false
def YY:List B->Bool
 | []=>true
 | a::r=>match a.isFzB with | true=>YY r | false=>false
end
mutual
theorem qmM:(x:B)->x.er.isFz=x.isFzB
 | .un=>rfl
 | .ud=>rfl
 | .fz d=>rfl
 | .rf ..=>rfl
 | .pp ..=>rfl
 | .clo f caps=>by simp only [B.er,A.isFz,B.isFzB,Ww caps]
theorem Ww:(l:List B)->Kt (B.erL l)=YY l
 | []=>rfl
 | a::r=>by simp only [B.erL,Kt,YY,qmM a,Ww r];cases a.isFzB<;>rfl
end
def qri:TV B->Bool
 | .v (_,as)=>YY as
 | .tup _=>false
theorem qps (x:TV B):(x.er B.erL).isFz=qri x:=by
 cases x with
 | v x=>exact Ww x.2
 | tup xs=>rfl
def wO (F:SF):List Operand->Bool
 | []=>true
 | x::r=>match qri (evB F x) with | true=>wO F r | false=>false
theorem qas (F:SF):∀ l,JO F.er l=wO F l
 | []=>rfl
 | x::r=>by simp only [JO,wO,<-ja,qps,qas F r];cases qri (evB F x)<;>rfl
def yg (M:MB)(F:SF)(f:Operand):R (FuncId×List D) :=
 match z6 F f with
 | .fz (.fn g caps)=>R.ok (g,caps)
 | .clo g caps=>(match qir caps with
   | true=>(qbu M F caps).bd fun l=>R.ok (g,l)
   | false=>none)
 | _=>none
theorem Vl (F:SF)(f:Operand):(yg qn F f).Sim fun r=>callee std F.er f=some (r.1,D.erL r.2):=by
 unfold yg
 split
 . rename_i g caps h
   refine R.Sim.ok ?_
   have:ev1 F.er f=.fz (.fn g (D.erL caps)):=by rw [<-qI,h];rfl
   simp only [callee,this]
 . rename_i g caps h
   split
   . rename_i hok
     refine R.Sim.bd (Jq F caps) fun l hl=>R.Sim.ok ?_
     have:ev1 F.er f=.clo g (B.erL caps):=by rw [<-qI,h];rfl
     simp only [callee,this,vf,hok,hl]
   . exact R.Sim.none'
 . exact R.Sim.none'
def Qw:List D->List (V1 D)
 | []=>[]
 | c::r=>(false,[c])::Qw r
theorem qev (l:List D):qx D.erL (Qw l)=Zc (D.erL l):=by induction l with | nil=>rfl | cons a r ih=>simp only [Qw,qx,D.erL,Zc,ih];rfl
theorem Kp {α β:Type}(f:List α->List β)(l r:List (V1 α)):qx f (l++r)=qx f l++qx f r:=by induction l with | nil=>rfl | cons a l ih=>simp [qx,ih]
mutual
def W.cleanB:W->Bool
 | .un=>false
 | .fz d=>(match d with | .sl (.i [])=>true | .un | .sl _ | .ptr _ | .mp _=>false | .fn _ caps=>(match caps with | []=>true | _::_=>false) | _=>true)
 | .osl x=>x.clean
 | .onil=>true
 | .obx cs=>wI cs
def wI:List W->Bool
 | []=>true
 | a::r=>match a.cleanB with | true=>wI r | false=>false
end
mutual
theorem qlp:(o:W)->o.cleanB=true->o.er.cleanM std=true
 | .un,h=>by simp [W.cleanB] at h
 | .fz d,h=>by
   cases d<;>simp only [W.cleanB] at h<;>first | rfl | (cases h;done) | skip
   case sl x =>
    by_cases hx:x=.i []
    . subst hx;rfl
    . exfalso
      revert h
      cases x with
      | i l=>cases l with
        | nil=>exact absurd rfl hx
        | cons _ _=>intro h;cases h
      | _=>intro h;cases h
   case fn f caps=>cases caps with | nil=>rfl | cons _ _=>simp at h
 | .osl x,h=>LL.clean_ro x h
 | .onil,_=>rfl
 | .obx cs,h=>wk cs h
theorem wk:(l:List W)->wI l=true->O.cleanML std (W.erL l)=true
 | [],_=>rfl
 | a::r,h=>by
   simp only [wI] at h
   split at h
   . rename_i ha
     simp only [W.erL,O.cleanML,qlp a ha,wk r h]
   . cases h
end
def nzD:D->Option D
 | .fn f [c]=>(match nq f qaY with | true=>some c | false=>none)
 | _=>none
def nzW:W->Option D
 | .fz d=>nzD d
 | _=>none
theorem qnc (d:D):nzC d.er=(nzD d).map D.er:=by
 cases d with
 | fn f caps =>
   match caps with
   | []=>rfl
   | [c] =>
     simp only [D.er,D.erL,nzC,nzD]
     cases nq f qaY<;>rfl
   | _::_::_=>rfl
 | _=>rfl
theorem qgW (o:W):nzO o.er=(nzW o).map D.er:=by
 cases o with
 | fz d=>exact qnc d
 | _=>rfl
def yn:List W->Bool
 | []=>true
 | o::r=>match nzW o with | none=>yn r | some _=>false
theorem Ye:∀ l:List W,Zl (W.erL l)=yn l
 | []=>rfl
 | o::r=>by
   simp only [W.erL,Zl,yn,qgW]
   cases nzW o with
   | none=>exact Ye r
   | some d=>rfl
def qog (M:MB)(q:SP)(o:W):B:=match nzW o with
 | some c=>.fz c
 | none=>qrk M q o
theorem qqn (q:SP)(o:W):(qog qn q o).er=qlT std q.er o.er:=by
 unfold qog qlT
 rw [qgW]
 cases nzW o with
 | none=>exact qjX q o
 | some d=>rfl
def Jx:List W->Bool
 | []=>true
 | o::r=>match nzW o with
   | some _=>Jx r
   | none=>(match wI [o] with | true=>Jx r | false=>false)
theorem Kn:∀ l:List W,Jx l=true->Zo std (W.erL l)=true
 | [],_=>rfl
 | o::r,h=>by
   simp only [Jx] at h
   simp only [W.erL,Zo,qgM,qgW]
   cases hz:nzW o with
   | some d =>
     rw [hz] at h
     exact Kn r h
   | none =>
     rw [hz] at h
     dsimp only at h
     split at h
     . rename_i hc
       have h1:=wk [o] hc
       simp only [W.erL,O.cleanML] at h1
       cases hk:o.er.cleanM std with
       | false=>rw [hk] at h1;cases h1
       | true=>simp only [Option.map_none,hk];exact Kn r h
     . cases h
def vm:List (V1 W)->Bool
 | []=>true
 | x::r=>match Jx x.2 with | true=>vm r | false=>false
def vb:TV W->Bool
 | .v x=>Jx x.2
 | .tup xs=>vm xs
theorem y7 {r:TV W}(h:vb r=true):(r.er W.erL).cleanM std=true:=by
 cases r with
 | v x=>exact Kn x.2 h
 | tup xs =>
   have key:∀ l:List (V1 W),vm l=true->JI std (qx W.erL l)=true:=by
    intro l
    induction l with
    | nil=>intro _;rfl
    | cons x l ih =>
      intro h
      simp only [vm] at h
      split at h
      . rename_i hx
        simp only [qx,JI,kb,Kn x.2 hx,ih h]
      . cases h
   exact key xs h
def qeT (M:MB)(d k:Nat):Nat->List W->List B
 | _,[]=>[]
 | j,o::r=>qog M (rid d k j,[]) o::qeT M d k (j+1) r
def Ju (d k:Nat):Nat->List W->List (Nat×W)
 | _,[]=>[]
 | j,o::r=>match o.isFz with
   | true=>Ju d k (j+1) r
   | false=>(rid d k j,o)::Ju d k (j+1) r
def qcE (M:MB)(d:Nat):Nat->List (V1 W)->List (V1 B)
 | _,[]=>[]
 | k,x::r=>(x.1,qeT M d k 0 x.2)::qcE M d (k+1) r
def Qh {α:Type}:List α->List α->List α
 | [],r=>r
 | a::l,r=>a::Qh l r
theorem jM {α:Type}(l r:List α):Qh l r=l++r:=by induction l with | nil=>rfl | cons a l ih=>simp [Qh,ih]
def ve (d:Nat):Nat->List (V1 W)->List (Nat×W)
 | _,[]=>[]
 | k,x::r=>Qh (Ju d k 0 x.2) (ve d (k+1) r)
def yB (M:MB)(d:Nat):TV W->TV B
 | .v (g,os)=>.v (g,qeT M d 0 0 os)
 | .tup xs=>.tup (qcE M d 0 xs)
def Js (d:Nat):TV W->List (Nat×W)
 | .v (_,os)=>Ju d 0 0 os
 | .tup xs=>ve d 0 xs
theorem yW (d k:Nat):∀ (l:List W) (j:Nat),B.erL (qeT qn d k j l)=VN std d k j (W.erL l)
 | [],j=>rfl
 | o::r,j=>by simp only [qeT,B.erL,W.erL,VN,qqn,yW d k r];rfl
theorem Z9 (d k:Nat):∀ (l:List W) (j:Nat),zy (Ju d k j l)=Z5 d k j (W.erL l)
 | [],j=>rfl
 | o::r,j=>by
   simp only [Ju,W.erL,Z5,W.isFz_er]
   cases o.isFz with
   | true=>exact Z9 d k r (j+1)
   | false=>simp only [zy,Z9 d k r]
theorem Vj (l r:List (Nat×W)):zy (l++r)=zy l++zy r:=by induction l with | nil=>rfl | cons a l ih=>obtain ⟨i,o⟩:=a;simp [zy,ih]
theorem vk (d:Nat)(r:TV W):(yB qn d r).er B.erL=qaM std d (r.er W.erL):=by
 cases r with
 | v x=>obtain ⟨g,os⟩:=x;simp only [yB,TV.er,kb,qaM,yW]
 | tup xs =>
   have key:∀ (l:List (V1 W)) (k:Nat),qx B.erL (qcE qn d k l)=J6 std d k (qx W.erL l):=by
    intro l
    induction l with
    | nil=>intro k;rfl
    | cons x l ih=>intro k;simp only [qcE,qx,kb,J6,yW,ih]
   simp only [yB,TV.er,qaM,key]
theorem Kg (d:Nat)(r:TV W):zy (Js d r)=zY d (r.er W.erL):=by
 cases r with
 | v x=>obtain ⟨g,os⟩:=x;exact Z9 d 0 os 0
 | tup xs =>
   have key:∀ (l:List (V1 W)) (k:Nat),zy (ve d k l)=Z1 d k (qx W.erL l):=by
    intro l
    induction l with
    | nil=>intro k;rfl
    | cons x l ih=>intro k;simp only [ve,jM,Vj,qx,kb,Z1,Z9,ih]
   exact key xs 0
def SF.clearsR (M:MB)(F:SF):List (Nat×W)->R SF
 | []=>R.ok F
 | (id,_)::r=>(F.clearR M id).bd fun G=>G.clearsR M r
def SF.addsB (F:SF):List (Nat×W)->SF
 | []=>F
 | (id,o)::r=>(F.root id o).addsB r
theorem Vn:∀ (l:List (Nat×W)) (F:SF),(F.clearsR qn l).Sim fun G=>F.er.clears std (zy l)=G.er
 | [],F=>R.Sim.ok rfl
 | (id,o)::r,F=>by
   simp only [SF.clearsR]
   exact R.Sim.bd (F.clearR_sim id) fun G hG=>(Vn r G).mono fun H hH=>by simp only [zy,Fr.clears,hG,hH]
theorem Y3:∀ (l:List (Nat×W)) (F:SF),(F.addsB l).er=F.er.adds (zy l)
 | [],F=>rfl
 | (id,o)::r,F=>by simp only [SF.addsB,Y3 r,zy,Fr.adds,SF.root_er]
def vZ.fitsVs:List (V1 W)->Bool
 | []=>true
 | x::r=>match nle (cnt x.2) 64 with | true=>vZ.fitsVs r | false=>false
def vZ:TV W->Bool
 | .v (_,os)=>nle (cnt os) 64
 | .tup xs=>match nle (cnt xs) 64 with | true=>vZ.fitsVs xs | false=>false
theorem qfL {α β:Type}(f:α->β)(l:List α):cnt (l.map f)=cnt l:=by simp [kL]
theorem qdM {r:TV W}(h:vZ r=true):TV.fits (r.er W.erL)=true:=by
 cases r with
 | v x =>
   obtain ⟨g,os⟩:=x
   have h':nle (cnt os) 64=true:=h
   simpa only [TV.er,kb,TV.fits,W.erL_eq,qfL] using h'
 | tup xs =>
   have key:∀ l:List (V1 W),vZ.fitsVs l=true->qbX (qx W.erL l)=true:=by
    intro l
    induction l with
    | nil=>intro _;rfl
    | cons x l ih =>
      intro h
      simp only [vZ.fitsVs] at h
      split at h
      . rename_i hx
        simp only [qx,qbX,kb,W.erL_eq,qfL,hx]
        exact ih h
      . cases h
   have hl:∀ l:List (V1 W),cnt (qx W.erL l)=cnt l:=by intro l;induction l with | nil=>rfl | cons x l ih=>simp [qx,cnt,ih]
   simp only [vZ] at h
   split at h
   . rename_i hx
     simp only [TV.er,TV.fits,hl,hx,key xs h,Bool.and_self]
   . cases h
def SF.importB (M:MB)(F:SF)(d:Nat)(r:TV W):R SF:=match vZ r with
 | true=>(F.clearsR M (Js d r)).bd fun G=>R.ok ((G.addsB (Js d r)).put d (yB M d r))
 | false=>none
theorem W9 (F:SF)(d:Nat)(r:TV W):(F.importB qn d r).Sim fun G=>F.er.import std d (r.er W.erL)=some G.er:=by
 unfold SF.importB
 split
 . rename_i hf
   refine R.Sim.bd (Vn _ F) fun G hG=>R.Sim.ok ?_
   unfold Fr.import
   rw [qdM hf]
   dsimp only
   rw [<-Kg,hG,SF.put_er,Y3,vk]
 . exact R.Sim.none'
abbrev Qs:=FuncId->List (V1 D)->R (TV W)
def qp (P:Program)(ora:Qs):Prop:=∀ g as,R.Sim (ora g as) fun r=>zJ P g (qx D.erL as) (r.er W.erL)
def qmJ (M:MB)(ora:Qs)(F:SF)(d:Nat)(f:Operand)(args:List Operand):R SF :=
 (yg M F f).bd fun g=>(qd9 M F args).bd fun as=>(ora g.1 (Qh as (Qw g.2))).bd fun r=>(match wO F (f::args) with
   | true=>F.importB M d r
   | false=>(match vb r with
     | true=>F.importB M d r
     | false=>none))
open Classical in
noncomputable def qaH (g:FuncId)(as:List (V1 C))(r:TV O):Ora:=fun g' as'=>if g'=g/\as'=as then some r else none
theorem qkx {P:Program}{ora:Qs}(hO:qp P ora)(F:SF)(d:Nat)(f:Operand)(args:List Operand):(qmJ qn ora F d f args).Sim fun G=>∃ g as r,zJ P g as r/\Y4 std (qaH g as r) F.er d f args=some G.er:=by
 unfold qmJ
 refine R.Sim.bd (Vl F f) fun g hg=>R.Sim.bd (WQ F args) fun as has=>R.Sim.bd (hO g.1 _) fun r hr=>?_
 have key:∀ G:SF,F.er.import std d (r.er W.erL)=some G.er->(wO F (f::args)=true\/vb r=true)->∃ g as r,zJ P g as r/\Y4 std (qaH g as r) F.er d f args=some G.er:=by
  intro G hG hc
  refine ⟨_,_,_,hr,?_⟩
  unfold Y4 qnP
  simp only [hg,has]
  have h1:qaH g.1 (qx D.erL (Qh as (Qw g.2))) (r.er W.erL) g.1 (qx D.erL as++Zc (D.erL g.2))=some (r.er W.erL):=by
   unfold qaH
   rw [if_pos ⟨rfl,by rw [jM,Kp,qev]⟩]
  simp only [h1,qas]
  rcases hc with hc | hc
  . simp only [hc,hG]
  . cases hl:wO F (f::args) with
    | true=>simp only [hG]
    | false=>simp only [y7 hc,hG]
 split
 . rename_i hl
   exact (W9 F d r).mono fun G hG=>key G hG (.inl hl)
 . split
   . rename_i hc
     exact (W9 F d r).mono fun G hG=>key G hG (.inr hc)
   . exact R.Sim.none'
end Go.Proofs.YtifnopmkdempdaaGreat.Ai
namespace Go.Proofs.YtifnopmkdempdaaGreat.Ai
open Go
variable [qi]
def qnN (M:MB)(k:Nat)(F:SF):TV B->R (V1 W×SF)
 | .v (g,as)=>(match nle (cnt as) 64 with
   | true=>(Zw M (qB qC [] (true,k)) 0 (cnt as) F as).bd fun s=>(match yn s.1 with | true=>R.ok ((g,s.1),s.2) | false=>none)
   | false=>none)
 | .tup _=>none
theorem qk8 (k:Nat)(F:SF)(x:TV B):(qnN qn k F x).Sim fun r=>qpX std false k F.er (x.er B.erL)=some (kb W.erL r.1,r.2.er):=by
 unfold qnN
 split
 . rename_i g as
   split
   . rename_i hc
     refine R.Sim.bd (WP qC [] (true,k) _ F as) fun s hs=>?_
     have hs':jC std false (qAt qC [] k) 0 F.er idA (B.erL as)=some (W.erL s.1,s.2.er):=hs
     split
     . rename_i hm
       refine R.Sim.ok ?_
       simp only [TV.er,kb,qpX,V4,hc,hs',Ye,hm]
     . exact R.Sim.none'
   . exact R.Sim.none'
 . exact R.Sim.none'
def qa2 (M:MB)(T:Nat->Option Ty)(F:SF):ResultVar->R (TV B)
 | .tmp t=>(match nlt t PH with | true=>R.ok (qa unB F.tm t) | false=>none)
 | .cell a t=>(match nlt a PH,T t with
   | true,some ty=>(qcX M F ty.size (qkr (qa unB F.tm a))).bd fun as=>oR (qpN ty.agg as)
   | _,_=>none)
theorem W1 (T:Nat->Option Ty)(F:SF)(r:ResultVar):(qa2 qn T F r).Sim fun x=>qc8 std T F.er r=some (x.er B.erL):=by
 cases r with
 | tmp t =>
   unfold qa2
   dsimp only
   split
   . rename_i hph
     refine R.Sim.ok ?_
     simp only [qc8,hph]
     rw [show qa unT F.er.tm t=(qa unB F.tm t).er B.erL from QE _ _]
   . exact R.Sim.none'
 | cell c t =>
   unfold qa2
   dsimp only
   split
   . rename_i ty hph ht
     refine R.Sim.bd (yH F _ _) fun as has=>Yr fun v hv=>?_
     simp only [qc8,hph,ht]
     rw [show qa unT F.er.tm c=(qa unB F.tm c).er B.erL from QE _ _,<-qdD,has]
     exact qiR hv
   . exact R.Sim.none'
def qdv (M:MB)(T:Nat->Option Ty):Nat->SF->List ResultVar->R (List (V1 W))
 | _,_,[]=>R.ok []
 | k,F,rv::r=>(qa2 M T F rv).bd fun v=>(qnN M k F v).bd fun x=>(qdv M T (k+1) x.2 r).bd fun xs=>R.ok (x.1::xs)
theorem yA (T:Nat->Option Ty):∀ (rs:List ResultVar) (k:Nat) (F:SF),(qdv qn T k F rs).Sim fun xs=>vR std T false k F.er rs=some (qx W.erL xs)
 | [],k,F=>R.Sim.ok rfl
 | rv::r,k,F=>by
   simp only [qdv]
   refine R.Sim.bd (W1 T F rv) fun v hv=>R.Sim.bd (qk8 k F _) fun x hx=>R.Sim.bd (yA T r (k+1) x.2) fun xs hxs=>R.Sim.ok ?_
   simp only [vR,hv,hx,hxs,qx]
def yl (M:MB)(T:Nat->Option Ty)(F:SF)(rs:Array ResultVar):R (TV W) :=
 match rs with
 | ⟨rs⟩=>(match nle (cnt rs) 64 with
   | true=>(F.dropR M (qC,[])).bd fun G=>(qdv M T 0 G rs).bd fun xs=>(match xs with
     | [x]=>R.ok (.v x)
     | xs=>R.ok (.tup xs))
   | false=>none)
theorem Vh (T:Nat->Option Ty)(F:SF)(rs:Array ResultVar):(yl qn T F rs).Sim fun r=>QH std T false F.er rs=some (r.er W.erL):=by
 obtain ⟨rs⟩:=rs
 unfold yl
 dsimp only
 split
 . rename_i hc
   refine R.Sim.bd (F.dropR_sim _) fun G hG=>R.Sim.bd (yA T rs 0 G) fun xs hxs=>?_
   have hG:F.er.drop std (qC,[])=G.er:=hG
   split
   . refine R.Sim.ok ?_
     simp only [QH,hc,hG,hxs,qx]
     rfl
   . rename_i h
     refine R.Sim.ok ?_
     simp only [QH,hc,hG,hxs]
     match xs,h with
     | [],_=>rfl
     | [x],h=>exact (h x rfl).elim
     | x::y::r,_=>rfl
 . exact R.Sim.none'
def qoU (M:MB)(F:SF):B->R W
 | .fz d=>(match nzD d with | none=>R.ok (.fz d) | some _=>none)
 | .rf p _ off len=>(F.atR M p).bd fun o=>(match o with
   | .osl x=>(match x.clean with
     | true=>(match x.cut M off len with
       | some y=>some ([M.pLeN (M.nAdd off len) (x.len M)],.fz (.fn qaY [.sl y]))
       | none=>none)
     | false=>none)
   | _=>none)
 | _=>none
theorem y8 {x:LL}(h:x.clean=true):x.here=true:=by
 cases x
 case node o g l=>cases g with | none=>rfl | some _=>simp [LL.clean] at h
 case ii o g l=>cases g with | none=>rfl | some _=>simp [LL.clean] at h
 all_goals rfl
theorem qoq (F:SF):(x:B)->(qoU qn F x).Sim fun o=>qh7 std F.er x.er=some o.er
 | .un=>R.Sim.none'
 | .ud=>R.Sim.none'
 | .pp ..=>R.Sim.none'
 | .clo ..=>R.Sim.none'
 | .fz d=>by
   simp only [qoU]
   split
   . rename_i hd
     refine R.Sim.ok ?_
     simp only [B.er,qh7,qnc,hd,Option.map_none]
     rfl
   . exact R.Sim.none'
 | .rf p g off len=>by
   simp only [qoU]
   refine R.Sim.bd (F.atR_sim p) fun o ho=>?_
   split
   . rename_i x
     split
     . rename_i hc
       split
       . rename_i y hy
         refine R.Sim.mk fun hp=>?_
         have h1:off+len<=x.len qn:=hp.one
         have hcl:std.oClean x.ro=true:=LL.clean_ro x hc
         have hy':y.here=true:=by
          unfold LL.cut at hy
          split at hy<;>first | (simp only [Option.some.injEq] at hy;subst hy;rfl) | cases hy
         have e:WE std F.er (.rf p.er off len)=some (.sl y.rc):=by
          simp only [WE,ho]
          show (match decide (off+len<=x.ro.length),std.oClean x.ro with | true,true=>some (C.sl (O.frzLL ((x.ro.drop off).take len))) | _,_=>none)=_
          rw [LL.len_ro,decide_eq_true h1,hcl,<-LL.cut_ro hy,LL.frz_ro y hy']
         simp only [B.er,qh7,e]
         rfl
       . exact R.Sim.none'
     . exact R.Sim.none'
   . exact R.Sim.none'
def qjB (M:MB)(F:SF):List B->R (List W)
 | []=>R.ok []
 | x::r=>(qoU M F x).bd fun y=>(qjB M F r).bd fun ys=>R.ok (y::ys)
theorem qa4 (F:SF):(l:List B)->(qjB qn F l).Sim fun os=>qah std F.er (B.erL l)=some (W.erL os)
 | []=>R.Sim.ok rfl
 | x::r=>by
   simp only [qjB]
   exact R.Sim.bd (qoq F x) fun y hy=>R.Sim.bd (qa4 F r) fun ys hys=>R.Sim.ok (by simp only [B.erL,qah,hy,hys,W.erL])
def qjJ (M:MB)(T:Nat->Option Ty)(F:SF):List ResultVar->R (List (V1 W))
 | []=>R.ok []
 | rv::r=>(qa2 M T F rv).bd fun v=>(match v with
   | .v x=>(qjB M F x.2).bd fun os=>(qjJ M T F r).bd fun xs=>R.ok ((x.1,os)::xs)
   | .tup _=>none)
theorem qa9 (T:Nat->Option Ty)(F:SF):∀ rs:List ResultVar,(qjJ qn T F rs).Sim fun xs=>vo std T F.er rs=some (qx W.erL xs)
 | []=>R.Sim.ok rfl
 | rv::r=>by
   simp only [qjJ]
   refine R.Sim.bd (W1 T F rv) fun v hv=>?_
   split
   . rename_i x
     refine R.Sim.bd (qa4 F x.2) fun os hos=>R.Sim.bd (qa9 T F r) fun xs hxs=>R.Sim.ok ?_
     obtain ⟨g,as⟩:=x
     simp only [vo,hv,TV.er,kb,hos,hxs,qx]
   . exact R.Sim.none'
def qqN:List (V1 W)->TV W
 | [x]=>.v x
 | xs=>.tup xs
theorem qob (xs:List (V1 W)):qjL (qx W.erL xs)=(qqN xs).er W.erL:=by
 match xs with
 | []=>rfl
 | [x]=>rfl
 | x::y::r=>rfl
mutual
def B.idsB:B->List Nat
 | .rf p _ _ _=>[p.1]
 | .pp p _ _=>[p.1]
 | .clo _ caps=>Vk caps
 | _=>[]
def Vk:List B->List Nat
 | []=>[]
 | a::r=>Qh a.idsB (Vk r)
end
mutual
theorem qo2:(x:B)->x.er.ids=x.idsB
 | .un=>rfl
 | .ud=>rfl
 | .fz d=>rfl
 | .rf ..=>rfl
 | .pp ..=>rfl
 | .clo f caps=>by simp only [B.er,A.ids,B.idsB,KB caps]
theorem KB:(l:List B)->A.idsL (B.erL l)=Vk l
 | []=>rfl
 | a::r=>by simp only [B.erL,A.idsL,Vk,jM,qo2 a,KB r]
end
def qjn:List (V1 B)->List Nat
 | []=>[]
 | x::r=>Qh (Vk x.2) (qjn r)
def qoN:TV B->List Nat
 | .v x=>Vk x.2
 | .tup xs=>qjn xs
theorem qet (x:TV B):(x.er B.erL).ids=qoN x:=by
 cases x with
 | v x=>exact KB x.2
 | tup xs =>
   have key:∀ l:List (V1 B),qkO (qx B.erL l)=qjn l:=by
    intro l
    induction l with
    | nil=>rfl
    | cons x l ih=>simp only [qx,qkO,kb,qjn,jM,KB,ih]
   exact key xs
def JK (F:SF):List Nat->List (Nat×TV B)
 | []=>[]
 | t::r=>(t,qa unB F.tm t)::JK F r
def yD:List (Nat×TV B)->List Nat
 | []=>[]
 | (_,x)::r=>Qh (qoN x) (yD r)
def yc (F:SF):List Nat->List (Nat×W)->List (Nat×W)
 | [],acc=>acc
 | id::r,acc=>yc F r (match has acc id with | true=>acc | false=>Qh acc [(id,qa .un F.tb id)])
def SF.keepB (F:SF)(l:List Nat):SF:={ F with tm:=JK F l,tb:=yc F (yD (JK F l)) [] }
theorem ZI (F:SF)(l:List Nat):(F.keepB l).er=F.er.keep l:=by
 have h1:∀ l,jm (JK F l)=Qr F.er l:=by
  intro l
  induction l with
  | nil=>rfl
  | cons t l ih=>simp only [JK,jm,Qr,ih];rw [show qa unT F.er.tm t=(qa unB F.tm t).er B.erL from QE _ _]
 have h2:∀ l:List (Nat×TV B),Vm (jm l)=yD l:=by
  intro l
  induction l with
  | nil=>rfl
  | cons x l ih=>obtain ⟨t,x⟩:=x;simp only [jm,Vm,yD,jM,qet,ih]
 have h3:∀ (l:List Nat) (acc:List (Nat×W)),zy (yc F l acc)=KC F.er l (zy acc):=by
  intro l
  induction l with
  | nil=>intro acc;rfl
  | cons id l ih =>
    intro acc
    simp only [yc,KC,ih,qh8]
    cases has acc id with
    | true=>rfl
    | false =>
      dsimp only
      rw [jM,Vj]
      rw [show qa .un F.er.tb id=(qa .un F.tb id).er from VV _ _]
      rfl
 unfold SF.keepB Fr.keep SF.er
 simp only
 have:=h3 (yD (JK F l)) []
 rw [this,<-h2,h1]
 rfl
structure LE (F G:Fr):Prop where
 n:G.n=F.n
 tm:∀ t,qa unT G.tm t=qa unT F.tm t
 tb:∀ id,qa .un G.tb id=qa .un F.tb id
 has:∀ id,has G.tb id=has F.tb id
theorem LE.refl (F:Fr):LE F F:=⟨rfl,fun _=>rfl,fun _=>rfl,fun _=>rfl⟩
theorem LE.trans {F G H:Fr}(h:LE F G)(k:LE G H):LE F H:=⟨k.n.trans h.n,fun t=>(k.tm t).trans (h.tm t),fun t=>(k.tb t).trans (h.tb t),fun t=>(k.has t).trans (h.has t)⟩
theorem LE.fr {F G:Fr}(h:LE F G){J:qk}{σ:Gh}{w:World}{vt:Nat->Value}(hF:FR F σ w vt)(hd:Dom F σ []):FR G σ w vt/\Dom G σ []:=by
 refine ⟨⟨hF.inj,hF.lt,hF.old,fun id=>by rw [h.tb];exact hF.tb id,fun t=>by rw [h.tm];exact hF.tm t⟩,fun g x hx=>?_⟩
 rcases hd g x hx with h1 | h1
 . left
   have:G.at std x.p=F.at std x.p:=by unfold Fr.at;rw [h.tb]
   rw [this]
   exact h1
 . exact .inr h1
theorem Ex.le [zh] {P:Program}{ks:List K}{F G:Fr}{Post:Fr->Prop}(h:LE F G)(hx:Ex P ks G Post):Ex P ks F Post :=
 hx.weak h.n fun _ σ _ _ hF hd=>⟨σ,(h.fr hF hd).1,(h.fr hF hd).2,qJ.refl _ _⟩
theorem LE.agree {F G H:Fr}(h:LE F G){X:List Nat}(ha:jS F H X):jS G H X :=
 ⟨fun t ht=>(ha.tm t ht).trans (h.tm t).symm,fun t ht id hid=>by rw [h.tm] at hid;exact (ha.tb t ht id hid).trans (h.tb id).symm⟩
theorem kv.le {P:Program}{all:Array Oper}{F G:Fr}{o:Oper}{it:It}(h:LE F G)(ha:kv P all G o it):kv P all F o it :=
 fun H hn hag hf=>ha H (hn.trans h.n.symm) (h.agree hag) hf
def SF.know (F:SF)(t:Nat)(b:Bool):SF:=F.put t (.v (false,[.fz (.bool true b)]))
theorem qpU {F:SF}{t:Nat}{b:Bool}(h:∃ kn,qa unB F.tm t=.v (false,[.fz (.bool kn b)])):LE F.er (F.know t b).er:=by
 obtain ⟨kn,h⟩:=h
 refine ⟨rfl,fun t'=>?_,fun _=>rfl,fun _=>rfl⟩
 show qa unT ((t,_)::F.er.tm) t'=_
 rw [@qu qN]
 split
 . rename_i e
   subst e
   rw [show qa unT F.er.tm t=(qa unB F.tm t).er B.erL from QE _ _,h]
   rfl
 . rfl
end Go.Proofs.YtifnopmkdempdaaGreat.Ai
namespace Go.Proofs.YtifnopmkdempdaaGreat.Ai
open Go
variable [qi]
def Zp (ops:List Oper)(a:List Nat)(k i:Nat)(o:Oper):Bool:=match o.dst with
 | none=>false
 | some d=>(List.range k).all fun j=>match ops[j]? with
   | some o'=>(match o'.dst with
     | some d'=>(!(nq d d')||nq i j)&&(!((lkM ops o).contains d')||((a.getD i 0).testBit j&&nlt j i))
     | none=>false)
   | none=>false
def kF (ed:Oper->List Nat):List Oper->List Nat->List Nat
 | [],acc=>acc
 | o::r,acc=>kF ed r (acc++[(ed o).foldl (fun s e=>s ||| (1 <<< e) ||| acc.getD e 0) 0])
def qbi (ops:List Oper)(k:Nat):Bool :=
 nle k ops.length&&(List.range ops.length).all fun i=>match ops[i]? with
  | some o=>(o.after.toList.all fun e=>ws e&&nlt e.on i)&&(match nlt i k with
    | true=>Zp ops (kF Qm ops []) k i o
    | false=>nq ((kF Qm ops []).getD i 0) (2 ^ i-1))
  | none=>false
def YT (md:Region.Mode)(ops:List Oper):Nat->List Nat->List Nat
 | 0,done=>done.reverse
 | n+1,done=>match (List.range ops.length).find? (fun i=>!(done.contains i)&&(match ops[i]? with | some o=>(KT md o).all fun e=>done.contains e | none=>false)) with
   | some i=>YT md ops n (i::done)
   | none=>done.reverse
def Vg (ops:List Oper)(md:Region.Mode)(ord:List Nat):Bool:=(List.range ops.length).all fun i=>match ops[i]? with
 | some o=>(KT md o).all fun e=>nlt e ops.length&&nlt (ord.idxOf e) (ord.idxOf i)
 | none=>false
def Y8 (ops:List Oper):Bool :=
 ((List.range ops.length).all fun i=>match ops[i]? with
   | some o=>((zd o).all fun e=>nlt e i)&&Zp ops (kF zd ops []) ops.length i o
   | none=>false)&&(Vg ops .any (YT .any ops ops.length [])&&(Vg ops .text (YT .text ops ops.length [])&&Vg ops .gc (YT .gc ops ops.length [])))
def qak (ops:List Oper)(s:Nat)(ls:List Nat):Bool :=
 nlt s ops.length&&((ls.all fun l=>nlt l s)&&(((List.range ops.length).all fun i=>match ops[i]? with
  | some o=>((zd o).all fun e=>nlt e i)&&(match nlt i s with
    | true=>Zp ops (kF zd ops []) s i o
    | false=>(List.range i).all fun j=>((kF zd ops []).getD i 0).testBit j||ls.contains j)
  | none=>false)&&(Vg ops .any (YT .any ops ops.length [])&&(Vg ops .text (YT .text ops ops.length [])&&Vg ops .gc (YT .gc ops ops.length [])))))
def qaX (a:List Nat)(i j:Nat):Prop:=(a.getD i 0).testBit j=true
theorem qnv (ed:Oper->List Nat):∀ (ops:List Oper) (acc:List Nat),∃ r,kF ed ops acc=acc++r:=by
 intro ops
 induction ops with
 | nil=>intro acc;exact ⟨[],by simp [kF]⟩
 | cons o ops ih =>
   intro acc
   obtain ⟨r,hr⟩:=ih (acc++[(ed o).foldl (fun s e=>s ||| (1 <<< e) ||| acc.getD e 0) 0])
   exact ⟨[(ed o).foldl (fun s e=>s ||| (1 <<< e) ||| acc.getD e 0) 0]++r,by simp only [kF,hr,List.append_assoc]⟩
theorem qm8 (acc:List Nat)(j:Nat):∀ (es:List Nat) (s:Nat),(es.foldl (fun s e=>s ||| (1 <<< e) ||| acc.getD e 0) s).testBit j=true->s.testBit j=true\/∃ e∈es,e=j\/(acc.getD e 0).testBit j=true:=by
 intro es
 induction es with
 | nil=>intro s h;exact .inl h
 | cons e es ih =>
   intro s h
   rcases ih _ h with h | ⟨e',he,h⟩
   . simp only [Nat.testBit_or,Bool.or_eq_true] at h
     rcases h with (h | h) | h
     . exact .inl h
     . right
       refine ⟨e,List.mem_cons_self,.inl ?_⟩
       rw [Nat.one_shiftLeft,Nat.testBit_two_pow] at h
       simpa using h
     . exact .inr ⟨e,List.mem_cons_self,.inr h⟩
   . exact .inr ⟨e',List.mem_cons_of_mem _ he,h⟩
theorem qan (ed:Oper->List Nat):∀ (ops:List Oper) (acc:List Nat) (i j:Nat) (o:Oper),ops[i]?=some o->((kF ed ops acc).getD (acc.length+i) 0).testBit j=true->∃ e∈ed o,e=j\/((kF ed ops acc).getD e 0).testBit j=true:=by
 intro ops
 induction ops with
 | nil=>intro acc i j o h;simp at h
 | cons o0 ops ih =>
   intro acc i j o h ht
   cases i with
   | zero =>
     simp only [List.getElem?_cons_zero,Option.some.injEq] at h
     subst h
     obtain ⟨r,hr⟩:=qnv ed ops (acc++[(ed o0).foldl (fun s e=>s ||| (1 <<< e) ||| acc.getD e 0) 0])
     have e1:kF ed (o0::ops) acc=acc++[(ed o0).foldl (fun s e=>s ||| (1 <<< e) ||| acc.getD e 0) 0]++r:=by simp only [kF];exact hr
     rw [e1] at ht ⊢
     have h2:(acc++[(ed o0).foldl (fun s e=>s ||| (1 <<< e) ||| acc.getD e 0) 0]++r).getD (acc.length+0) 0=(ed o0).foldl (fun s e=>s ||| (1 <<< e) ||| acc.getD e 0) 0:=by simp [List.getD_eq_getElem?_getD]
     rw [h2] at ht
     rcases qm8 acc j _ 0 ht with h | ⟨e,he,h⟩
     . simp at h
     . refine ⟨e,he,h.imp id fun h=>?_⟩
       have hlt:e<acc.length:=by
        rcases Nat.lt_or_ge e acc.length with hl | hl
        . exact hl
        . simp [List.getD_eq_getElem?_getD,List.getElem?_eq_none hl] at h
       rw [List.append_assoc]
       simp only [List.getD_eq_getElem?_getD,List.getElem?_append_left hlt] at h ⊢
       exact h
   | succ i =>
     simp only [List.getElem?_cons_succ] at h
     have:=ih (acc++[(ed o0).foldl (fun s e=>s ||| (1 <<< e) ||| acc.getD e 0) 0]) i j o h (by
      simp only [kF] at ht
      rw [show acc.length+(i+1)=(acc++[(ed o0).foldl (fun s e=>s ||| (1 <<< e) ||| acc.getD e 0) 0]).length+i by simp;omega] at ht
      exact ht)
     simpa only [kF] using this
theorem qbv {ops:List Oper}{k:Nat}(h:qbi ops k=true):k<=ops.length/\∀ (i:Nat) (o:Oper),ops[i]?=some o->(∀ e∈o.after.toList,ws e=true/\e.on<i) ∧
 (i<k->Zp ops (kF Qm ops []) k i o=true)/\(k<=i->(kF Qm ops []).getD i 0=2 ^ i-1):=by
 simp only [qbi,Bool.and_eq_true] at h
 refine ⟨qz h.1,fun i o ho=>?_⟩
 have hi:i<ops.length:=(List.getElem?_eq_some_iff.1 ho).1
 have h2:=List.all_eq_true.1 h.2 i (List.mem_range.2 hi)
 rw [ho] at h2
 simp only [Bool.and_eq_true] at h2
 obtain ⟨h3,h4⟩:=h2
 refine ⟨fun e he=>?_,fun hk=>?_,fun hk=>?_⟩
 . have:=List.all_eq_true.1 h3 e he
   simp only [Bool.and_eq_true] at this
   exact ⟨this.1,Nat.lt_of_succ_le (qz this.2)⟩
 . have hb:nlt i k=true:=Wz hk
   rw [hb] at h4
   exact h4
 . have hb:nlt i k=false:=by
    cases hc:nlt i k with
    | false=>rfl
    | true=>have:=Nat.lt_of_succ_le (qz hc);omega
   rw [hb] at h4
   exact Nat.eq_of_beq_eq_true h4
theorem qid {ops:List Oper}{k:Nat}(h:qbi ops k=true):qlH ops k (qaX (kF Qm ops [])):=by
 obtain ⟨h1,h2⟩:=qbv h
 refine ⟨h1,fun i o ho=>(h2 i o ho).1,fun i j o ho ha=>?_,fun i j hk hi hj=>?_⟩
 . exact qan Qm ops [] i j o ho (by simpa [qaX] using ha)
 . have:=(h2 i _ (List.getElem?_eq_getElem hi)).2.2 hk
   unfold qaX
   rw [this]
   simp [Nat.testBit_two_pow_sub_one,hj]
theorem qgC {ops:List Oper}(h:Y8 ops=true):qa6 ops (qaX (kF zd ops []))/\∀ (i:Nat) (o:Oper),ops[i]?=some o->Zp ops (kF zd ops []) ops.length i o=true:=by
 simp only [Y8,Bool.and_eq_true] at h
 obtain ⟨h1,h2,h3,h4⟩:=h
 have key:∀ (i:Nat) (o:Oper),ops[i]?=some o->(∀ e∈zd o,e<i)/\Zp ops (kF zd ops []) ops.length i o=true:=by
  intro i o ho
  have:=List.all_eq_true.1 h1 i (List.mem_range.2 (List.getElem?_eq_some_iff.1 ho).1)
  rw [ho] at this
  simp only [Bool.and_eq_true] at this
  exact ⟨fun e he=>Nat.lt_of_succ_le (qz (List.all_eq_true.1 this.1 e he)),this.2⟩
 have top:∀ (md:Region.Mode) (ord:List Nat),Vg ops md ord=true->∃ rank:Nat->Nat,∀ (i:Nat) (o:Oper),ops[i]?=some o->∀ e∈KT md o,e<ops.length/\rank e<rank i:=by
  intro md ord h
  refine ⟨fun i=>ord.idxOf i,fun i o ho e he=>?_⟩
  have:=List.all_eq_true.1 h i (List.mem_range.2 (List.getElem?_eq_some_iff.1 ho).1)
  rw [ho] at this
  have:=List.all_eq_true.1 this e he
  simp only [Bool.and_eq_true] at this
  exact ⟨Nat.lt_of_succ_le (qz this.1),Nat.lt_of_succ_le (qz this.2)⟩
 refine ⟨⟨fun i o ho=>(key i o ho).1,fun i j o ho ha=>qan zd ops [] i j o ho (by simpa [qaX] using ha),fun md=>?_⟩,fun i o ho=>(key i o ho).2⟩
 cases md with
 | text=>exact top _ _ h3
 | gc=>exact top _ _ h4
 | any=>exact top _ _ h2
theorem qhD {ops:List Oper}{s:Nat}{ls:List Nat}(h:qak ops s ls=true):qbI ops s ls (qaX (kF zd ops []))/\∀ (i:Nat) (o:Oper),ops[i]?=some o->i<s->Zp ops (kF zd ops []) s i o=true:=by
 simp only [qak,Bool.and_eq_true] at h
 obtain ⟨hs,hl,h1,h2,h3,h4⟩:=h
 have hs:=Nat.lt_of_succ_le (qz hs)
 have key:∀ (i:Nat) (o:Oper),ops[i]?=some o->(∀ e∈zd o,e<i)/\(i<s->Zp ops (kF zd ops []) s i o=true)/\(s<=i->∀ j,j<i->j∉ls->qaX (kF zd ops []) i j):=by
  intro i o ho
  have:=List.all_eq_true.1 h1 i (List.mem_range.2 (List.getElem?_eq_some_iff.1 ho).1)
  rw [ho] at this
  simp only [Bool.and_eq_true] at this
  obtain ⟨k1,k2⟩:=this
  refine ⟨fun e he=>Nat.lt_of_succ_le (qz (List.all_eq_true.1 k1 e he)),fun hi=>?_,fun hi j hj hne=>?_⟩
  . have hb:nlt i s=true:=Wz hi
    rw [hb] at k2
    exact k2
  . have hb:nlt i s=false:=by
     cases hc:nlt i s with
     | false=>rfl
     | true=>have:=Nat.lt_of_succ_le (qz hc);omega
    rw [hb] at k2
    have:=List.all_eq_true.1 k2 j (List.mem_range.2 hj)
    simp only [Bool.or_eq_true,Bool.and_eq_true] at this
    rcases this with h | h6
    . exact h
    . exact absurd (List.contains_iff_mem.1 h6) hne
 have top:∀ (md:Region.Mode) (ord:List Nat),Vg ops md ord=true->∃ rank:Nat->Nat,∀ (i:Nat) (o:Oper),ops[i]?=some o->∀ e∈KT md o,e<ops.length/\rank e<rank i:=by
  intro md ord h
  refine ⟨fun i=>ord.idxOf i,fun i o ho e he=>?_⟩
  have:=List.all_eq_true.1 h i (List.mem_range.2 (List.getElem?_eq_some_iff.1 ho).1)
  rw [ho] at this
  have:=List.all_eq_true.1 this e he
  simp only [Bool.and_eq_true] at this
  exact ⟨Nat.lt_of_succ_le (qz this.1),Nat.lt_of_succ_le (qz this.2)⟩
 refine ⟨⟨⟨fun i o ho=>(key i o ho).1,fun i j o ho ha=>qan zd ops [] i j o ho (by simpa [qaX] using ha),fun md=>?_⟩,hs,fun l hm=>Nat.lt_of_succ_le (qz (List.all_eq_true.1 hl l hm)),fun i j hi hil hj hne=>(key i _ (List.getElem?_eq_getElem hil)).2.2 hi j hj hne⟩,fun i o ho=>(key i o ho).2.1⟩
 cases md with
 | text=>exact top _ _ h3
 | gc=>exact top _ _ h4
 | any=>exact top _ _ h2
def VP (M:MB):List Prop->Prop->Prop
 | [],K=>K
 | p::r,K=>M.pAnd p (VP M r K)
theorem je:∀ (ps:List Prop) (K:Prop),VP qn ps K->Holds ps/\K
 | [],K,h=>⟨(fun p hp=>by cases hp),h⟩
 | p::r,K,h=>by
   obtain ⟨h1,h2⟩:p/\VP qn r K:=h
   obtain ⟨h3,h4⟩:=je r K h2
   exact ⟨fun q hq=>(List.mem_cons.1 hq).elim (fun e=>e▸h1) (h3 q),h4⟩
def qrH (all:List Oper)(g:Nat):Option Nat:=match KG all g with
 | some ⟨some t,_,_,_,_,_⟩=>(match nlt t PH with | true=>some t | false=>none)
 | _=>none
def qjO (M:MB)(F:SF)(t:Nat)(b:Bool)(K1 K2:SF->Prop):Prop :=
 M.pAnd (M.pImp b (K1 (F.know t true))) (M.pImp (M.bNot b) (K2 (F.know t false)))
def Jp (M:MB)(all:List Oper)(F:SF)(o:Oper)(doK skipK:SF->Prop):Prop :=
 match o.guard with
 | none=>doK F
 | some (g,want)=>(match qrH all g with
   | some t=>(match qa unB F.tm t with
     | .v (false,[.fz (.bool kn b)])=>(match kn with
       | true=>(match b with
         | true=>(match want with | true=>doK F | false=>skipK F)
         | false=>(match want with | true=>skipK F | false=>doK F))
       | false=>(match want with
         | true=>qjO M F t b doK skipK
         | false=>qjO M F t b skipK doK))
     | .v (false,[.ud])=>skipK F
     | _=>M.pNo 1)
   | none=>M.pNo 2)
def w6 (M:MB)(F:SF)(o:Oper)(K:SF->Prop):Prop :=
 match o.op with
 | .pick (.tmp t) _ _=>(match qa unB F.tm t with
   | .v (false,[.fz (.bool kn b)])=>(match kn with
     | true=>K F
     | false=>qjO M F t b K K)
   | _=>K F)
 | _=>K F
theorem KN {F:SF}{t:Nat}{b kn:Bool}{K1 K2:SF->Prop}(hl:qa unB F.tm t=.v (false,[.fz (.bool kn b)]))(h:qjO qn F t b K1 K2) :
 LE F.er (F.know t b).er/\qa unB (F.know t b).tm t=.v (false,[.fz (.bool true b)])/\((b=true/\K1 (F.know t b))\/(b=false/\K2 (F.know t b))):=by
 refine ⟨qpU ⟨kn,hl⟩,by simp [SF.know,SF.put,qa],?_⟩
 obtain ⟨h1,h2⟩:(b=true->K1 (F.know t true))/\((!b)=true->K2 (F.know t false)):=h
 cases b with
 | true=>exact .inl ⟨rfl,h1 rfl⟩
 | false=>exact .inr ⟨rfl,h2 rfl⟩
theorem qbC {F:SF}{all:List Oper}{g t:Nat}(h:qrH all g=some t):ZC F.er ⟨all⟩ g=(qkr (qa unB F.tm t)).er:=by
 unfold qrH at h
 unfold ZC
 dsimp only
 split at h
 . rename_i t' _ _ _ _ _ hn
   split at h
   . rename_i hph
     simp only [Option.some.injEq] at h
     subst h
     rw [hn]
     dsimp only
     rw [hph]
     dsimp only
     rw [qdD,<-show qa unT F.er.tm t'=(qa unB F.tm t').er B.erL from QE _ _]
   . cases h
 . cases h
theorem Ku {F:SF}{all:List Oper}{o:Oper}{doK skipK:SF->Prop}(h:Jp qn all F o doK skipK) :
 ∃ F':SF,LE F.er F'.er/\((ko F'.er ⟨all⟩ o true/\doK F')\/(ko F'.er ⟨all⟩ o false/\skipK F')):=by
 unfold Jp at h
 split at h
 . rename_i hg
   exact ⟨F,LE.refl _,.inl ⟨by unfold ko;rw [hg],h⟩⟩
 . rename_i g want hg
   split at h
   . rename_i t ht
     have key:∀ (F':SF) (b kn:Bool),qa unB F'.tm t=.v (false,[.fz (.bool kn b)])->ko F'.er ⟨all⟩ o (b == want):=by
      intro F' b kn hl
      unfold ko
      rw [hg]
      refine .inl ?_
      rw [qbC ht,hl]
      cases b<;>cases want<;>rfl
     split at h
     . rename_i kn b hl
       split at h
       . split at h
         . split at h
           . exact ⟨F,LE.refl _,.inl ⟨key F _ _ hl,h⟩⟩
           . exact ⟨F,LE.refl _,.inr ⟨key F _ _ hl,h⟩⟩
         . split at h
           . exact ⟨F,LE.refl _,.inr ⟨key F _ _ hl,h⟩⟩
           . exact ⟨F,LE.refl _,.inl ⟨key F _ _ hl,h⟩⟩
       . split at h
         . obtain ⟨h1,h2,h3⟩:=KN hl h
           refine ⟨_,h1,?_⟩
           have:=key _ _ _ h2
           rcases h3 with ⟨rfl,h3⟩ | ⟨rfl,h3⟩
           . exact .inl ⟨this,h3⟩
           . exact .inr ⟨this,h3⟩
         . obtain ⟨h1,h2,h3⟩:=KN hl h
           refine ⟨_,h1,?_⟩
           have:=key _ _ _ h2
           rcases h3 with ⟨rfl,h3⟩ | ⟨rfl,h3⟩
           . exact .inr ⟨this,h3⟩
           . exact .inl ⟨this,h3⟩
     . rename_i hl
       refine ⟨F,LE.refl _,.inr ⟨?_,h⟩⟩
       unfold ko
       rw [hg]
       refine .inr ⟨rfl,?_⟩
       rw [qbC ht,hl]
       rfl
     . exact h.elim
   . exact h.elim
theorem K4 {F:SF}{o:Oper}{K:SF->Prop}(h:w6 qn F o K):∃ F':SF,LE F.er F'.er/\K F':=by
 unfold w6 at h
 split at h
 . split at h
   . rename_i kn b hl
     split at h
     . exact ⟨F,LE.refl _,h⟩
     . obtain ⟨h1,_,h3⟩:=KN hl h
       exact ⟨_,h1,h3.elim (fun x=>x.2) (fun x=>x.2)⟩
   . exact ⟨F,LE.refl _,h⟩
 . exact ⟨F,LE.refl _,h⟩
theorem ko.le {F G:Fr}{all:Array Oper}{o:Oper}{b:Bool}(h:LE F G)(hw:ko F all o b):ko G all o b:=by
 refine KZ hw ⟨fun t _=>h.tm t,fun t _ id _=>h.tb id⟩
abbrev ItB:=Nat×List (Nat×W)×TV B
def VM (it:ItB):It:=(it.1,zy it.2.1,it.2.2.er B.erL)
def SF.apB (F:SF)(it:ItB):SF:=(F.addsB it.2.1).put it.1 it.2.2
theorem qnE (F:SF)(it:ItB):(F.apB it).er=F.er.ap (VM it):=by unfold SF.apB Fr.ap;rw [SF.put_er,Y3];rfl
def qrg:TV B->Bool
 | .v (false,[.fz .nilsl])=>false
 | .v (false,[.fz _])=>true
 | _=>false
theorem qqc {x:TV B}(h:qrg x=true):qrq (x.er B.erL)=true:=by
 unfold qrg at h
 split at h
 . cases h
 . rename_i d hd
   cases d<;>first | rfl | exact (hd rfl).elim
 . cases h
def qp0 (M:MB)(X:SX)(ora:Qs)(F:SF)(o:Oper):R ItB :=
 match o.dst with
 | none=>none
 | some d=>(match zL F.n d with
   | true=>(match o.op with
     | .call ⟨.value f,⟨args⟩,_⟩=>(yg M F f).bd fun g=>(qd9 M F args).bd fun as=>(ora g.1 (Qh as (Qw g.2))).bd fun r=>(match vZ r with
       | true=>(match wO F (f::args) with
         | true=>R.ok (d,Js d r,yB M d r)
         | false=>(match vb r with
           | true=>R.ok (d,Js d r,yB M d r)
           | false=>none))
       | false=>none)
     | .alloc e=>(match X.T e with
       | some ty=>(match zWL ty.zero with
         | some zs=>R.ok (d,[(rid d 0 0,.obx zs)],ppB (rid d 0 0))
         | none=>none)
       | none=>none)
     | .assign x=>(match qrg (evB F x) with
       | true=>R.ok (d,[],evB F x)
       | false=>none)
     | op=>(qqi M X.T F op).bd fun v=>R.ok (d,[],v))
   | false=>none)
theorem qrK {M:Ops}{T:Nat->Option Ty}{kn:Bool}{ora:Ora}{F:Fr}{o:Oper}{d:Nat}(hd:o.dst=some d)(hlt:zL F.n d=true)(h1:∀ f args ts,o.op=.call ⟨.value f,⟨args⟩,ts⟩->False)(h2:∀ e,o.op=.alloc e->False)(h3:∀ e,o.op=.assign e->False) :
 WW M T kn ora F o=(match qop M T F o.op with | some (.val x)=>some (d,[],x) | _=>none):=by
 unfold WW
 rw [hd]
 dsimp only
 rw [hlt]
 dsimp only
 split
 . rename_i he;exact (h1 _ _ _ he).elim
 . rename_i he;exact (h2 _ he).elim
 . rename_i he;exact (h3 _ he).elim
 . rfl
theorem qmW {P:Program}(X:SX){ora:Qs}(hO:qp P ora)(F:SF)(o:Oper):(qp0 qn X ora F o).Sim fun it=>o.dst=some it.1/\∃ ora':Ora,(∀ g as r,ora' g as=some r->zJ P g as r)/\WW std X.T false ora' F.er o=some (VM it):=by
 unfold qp0
 split
 . exact R.Sim.none'
 . rename_i d hd
   split
   . rename_i hlt
     have hlt:zL F.er.n d=true:=hlt
     split
     . rename_i f args ts hop
       refine R.Sim.bd (Vl F f) fun g hg=>R.Sim.bd (WQ F args) fun as has=>R.Sim.bd (hO g.1 _) fun r hr=>?_
       split
       . rename_i hf
         have h1:qaH g.1 (qx D.erL (Qh as (Qw g.2))) (r.er W.erL) g.1 (qx D.erL as++Zc (D.erL g.2))=some (r.er W.erL):=by
          unfold qaH
          rw [if_pos ⟨rfl,by rw [jM,Kp,qev]⟩]
         have key:(wO F (f::args)=true\/vb r=true)->∃ ora':Ora,(∀ g as r,ora' g as=some r->zJ P g as r)/\WW std X.T false ora' F.er o=some (VM (d,Js d r,yB qn d r)):=by
          intro hc
          refine ⟨qaH g.1 (qx D.erL (Qh as (Qw g.2))) (r.er W.erL),?_,?_⟩
          . intro g' as' r' h'
            unfold qaH at h'
            split at h'
            . rename_i hh
              simp only [Option.some.injEq] at h'
              subst h'
              rw [hh.1,hh.2]
              exact hr
            . cases h'
          . unfold WW qnP
            simp only [hd,hlt,hop,hg,has,h1,qdM hf,qas]
            rcases hc with hc | hc
            . simp only [hc,VM,Kg,vk]
            . cases hl:wO F (f::args) with
              | true=>simp only [VM,Kg,vk]
              | false=>simp only [y7 hc,VM,Kg,vk]
         split
         . rename_i hl;exact R.Sim.ok ⟨hd,key (.inl hl)⟩
         . split
           . rename_i hc;exact R.Sim.ok ⟨hd,key (.inr hc)⟩
           . exact R.Sim.none'
       . exact R.Sim.none'
     . rename_i e hop
       split
       . rename_i ty ht
         split
         . rename_i zs hz
           obtain ⟨h1,h2⟩:=qcC _ hz
           refine R.Sim.ok ⟨hd,fun _ _=>none,(fun _ _ _ h=>by cases h),?_⟩
           unfold WW
           simp only [hd,hlt,hop,ht,h2,VM,zy,W.er,<-h1]
           rfl
         . exact R.Sim.none'
       . exact R.Sim.none'
     . rename_i x hop
       split
       . rename_i hs
         refine R.Sim.ok ⟨hd,fun _ _=>none,(fun _ _ _ h=>by cases h),?_⟩
         have hs:=qqc hs
         rw [ja] at hs
         unfold WW
         simp only [hd,hlt,hop,hs,VM,zy,ja]
       . exact R.Sim.none'
     . rename_i h1 h2 h3
       refine R.Sim.bd (qgb X.T F o.op) fun v hv=>R.Sim.ok ⟨hd,fun _ _=>none,(fun _ _ _ h=>by cases h),?_⟩
       rw [qrK hd hlt h1 h2 h3,hv]
       rfl
   . exact R.Sim.none'
def qrR (X:SX)(d t len:Nat):R ItB :=
 match X.T t with
 | some ⟨.sl e,_,_,_,_⟩=>(match X.T e with
   | some ty=>(match nq 0 len&&nle len 4096&&nlt 0 ty.size&&nle ty.size 4096 with
     | true=>R.ok (d,[(rid d 0 0,.onil)],rfB (rid d 0 0) len)
     | false=>none)
   | none=>none)
 | _=>none
def qhf (M:MB)(F:SF):B->R Bool
 | .fz .nilsl=>R.ok true
 | .rf (r,[]) _ off len=>(F.atR M (r,[])).bd fun o=>(match o with
   | .onil=>some ([M.pEqN off 0,M.pEqN len 0],true)
   | _=>none)
 | _=>none
def qgG:B->Option (Option LL)
 | .fz .nilsl=>some none
 | .fz (.sl zs)=>some (some zs.thaw)
 | _=>none
def qsu (M:MB)(X:SX)(F:SF)(d:Nat)(x y:Operand)(t t':Nat):R ItB :=
 match nq t t',X.T t with
 | true,some ⟨.sl e,_,_,_,_⟩=>(match X.T e with
   | some ty=>(qhf M F (z6 F x)).bd fun _=>(match qgG (z6 F y) with
     | some z=>(match nle ty.bytes 4096&&nlt 0 ty.size&&nq (cnt ty.zero) ty.size&&qqs ty.size z with
       | true=>some ([M.pLeLim (qae M z)],(d,[(rid d 0 0,qqZ z)],rfB (rid d 0 0) (qae M z)))
       | false=>none)
     | none=>none)
   | none=>none)
 | _,_=>none
def qrY (X:SX)(d t len i:Nat)(x:Operand):R ItB :=
 match X.T t with
 | some ⟨.sl e,_,_,_,_⟩=>(match X.T e,x with
   | some ty,.const (.int .i64 n)=>(match nq 1 len&&nle len 4096&&nlt 0 ty.size&&nle ty.size 4096&&(nq i 0&&nq 1 ty.size) with
     | true=>R.ok (d,[(rid d 0 0,.osl (.i [n]))],rfB (rid d 0 0) len)
     | false=>none)
   | _,_=>none)
 | _=>none
def qr3 (M:MB)(X:SX)(d t:Nat)(l c:Operand):R ItB :=
 match X.T t with
 | some ⟨.sl e,_,_,_,_⟩=>(match X.T e,l,c with
   | some ty,.const (.int _ n),.const (.int _ m)=>(match nle ty.bytes 4096&&nlt 0 ty.size&&nq (cnt ty.zero) ty.size with
     | true=>(match ty.zero with
       | [.int .i64 0]=>some ([M.pEqI n m,M.pRep n],(d,[(rid d 0 0,.osl (.i (M.rep (M.toN n) 0)))],rfB (rid d 0 0) (M.len (M.rep (M.toN n) (0:Int)))))
       | _=>none)
     | false=>none)
   | _,_,_=>none)
 | _=>none
def isK:Op->Bool
 | .buildSlice _ _ ⟨[]⟩=>true
 | .buildSlice _ _ ⟨[(_,.const _)]⟩=>true
 | .makeSlice _ (.const _) (.const _)=>true
 | .call ⟨.builtin .append,⟨[_,_]⟩,⟨[_,_]⟩⟩=>true
 | _=>false
def qnW (M:MB)(X:SX)(F:SF)(o:Oper):R ItB :=
 match o.dst with
 | none=>none
 | some d=>(match zL F.n d with
   | true=>(match o.op with
     | .buildSlice t len ⟨[]⟩=>qrR X d t len
     | .buildSlice t len ⟨[(i,x)]⟩=>qrY X d t len i x
     | .makeSlice t l c=>qr3 M X d t l c
     | .call ⟨.builtin .append,⟨[x,y]⟩,⟨[t,t']⟩⟩=>qsu M X F d x y t t'
     | _=>none)
   | false=>none)
def qpV (F:SF)(o:Oper):Option ItB:=match o.op with
 | .nilCheck x=>(match o.dst with
   | some d=>(match zL F.n d with
     | true=>(match z6 F x with
       | .fz (.ptr cs)=>some (d,[],.v (false,[.fz (.ptr cs)]))
       | _=>none)
     | false=>none)
   | none=>none)
 | _=>none
def qn3 (M:MB)(X:SX)(ora:Qs)(F:SF)(o:Oper):R ItB:=match isK o.op with
 | true=>qnW M X F o
 | false=>(match qpV F o with
   | some it=>R.ok it
   | none=>qp0 M X ora F o)
theorem qgT (F:SF)(x:B):(qhf qn F x).Sim fun _=>Vt std F.er x.er=true:=by
 unfold qhf
 split
 . exact R.Sim.ok rfl
 . rename_i r w off len
   refine R.Sim.bd (F.atR_sim _) fun o ho=>?_
   split
   . refine R.Sim.mk fun hp=>?_
     obtain ⟨h1,h2⟩:=hp.two
     have h1:off=0:=h1
     have h2:len=0:=h2
     subst h1 h2
     have ho':F.er.at std (r,[])=.osl []:=ho
     show (match F.er.at std (r,[]) with | .osl []=>std.nEq 0 0&&std.nEq 0 0 | _=>false)=true
     rw [ho']
     rfl
   . exact R.Sim.none'
 . exact R.Sim.none'
theorem qlq {x:B}{z:Option LL}(h:qgG x=some z):qbV std x.er=some (oro z):=by
 unfold qgG at h
 split at h
 . injection h with h;subst h;rfl
 . rename_i zs
   injection h with h
   subst h
   simp only [B.er,D.er,qbV,oro,LL.thaw_ro]
   rfl
 . cases h
theorem qlm (X:SX)(F:SF)(o:Oper):(qnW qn X F o).Sim fun it=>o.dst=some it.1/\YO std X.T F.er o=some (VM it):=by
 unfold qnW
 split
 . exact R.Sim.none'
 . rename_i d hd
   split
   . rename_i hlt
     have hlt:zL F.er.n d=true:=hlt
     split
     . rename_i t len hop
       unfold qrR
       split
       . rename_i e g1 g2 g3 g4 ht
         split
         . rename_i ty hte
           split
           . rename_i hok
             refine R.Sim.ok ⟨hd,?_⟩
             unfold YO bsK
             simp only [hd,hlt,hop,ht,hte,hok]
             rfl
           . exact R.Sim.none'
         . exact R.Sim.none'
       . exact R.Sim.none'
     . rename_i t len i x hop
       unfold qrY
       split
       . rename_i e g1 g2 g3 g4 ht
         split
         . rename_i ty n hte
           split
           . rename_i hok
             refine R.Sim.ok ⟨hd,?_⟩
             unfold YO bsC
             simp only [hd,hlt,hop,ht,hte,hok]
             rfl
           . exact R.Sim.none'
         . exact R.Sim.none'
       . exact R.Sim.none'
     . rename_i t l c hop
       unfold qr3
       split
       . rename_i e g1 g2 g3 g4 ht
         split
         . rename_i ty k1 n k2 m hte
           split
           . rename_i hc
             split
             . rename_i hz
               refine R.Sim.mk fun hp=>⟨hd,?_⟩
               obtain ⟨h3,h4,h5⟩:=hp.two
               have h3:n=m:=h3
               subst h3
               have hr:std.oRep n (ka false ty.zero)=some (roI (List.replicate n.toNat 0)):=by
                show (if 0<=n/\n<=(lim:Int) then some (List.replicate n.toNat (ka false ty.zero)) else none)=_
                rw [if_pos ⟨h4,h5⟩,hz]
                simp [ka,roI]
               have hb:std.bEq n n=true:=by show (n == n)=true;simp
               have hlen:std.oLen (roI (List.replicate n.toNat 0))=(List.replicate n.toNat (0:Int)).length:=by show (roI _).length=_;simp [roI]
               have hnu:ZL ty.zero=true:=by rw [hz];rfl
               unfold YO mkC
               simp only [hd,hlt,hop,ht,hte,hb,hc,hnu,hr,hlen,Bool.and_self,Bool.true_and,Bool.and_true]
               rfl
             . exact R.Sim.none'
           . exact R.Sim.none'
         . exact R.Sim.none'
       . exact R.Sim.none'
     . rename_i x y t t' hop
       unfold qsu
       split
       . rename_i e g1 g2 g3 g4 htt ht
         split
         . rename_i ty hte
           refine R.Sim.bd (qgT F _) fun _ hb=>?_
           split
           . rename_i z hz
             split
             . rename_i hok
               refine R.Sim.mk fun hp=>⟨hd,?_⟩
               have h6:std.nLe (std.oLen (oro z)) lim=true:=by
                have:qae qn z<=lim:=hp.one
                show decide ((oro z).length<=lim)=true
                rw [vh]
                simpa using this
               have hz:=qlq hz
               rw [qI] at hb hz
               simp only [Bool.and_eq_true] at hok
               obtain ⟨⟨⟨h1,h2⟩,h3⟩,h4⟩:=hok
               unfold YO apK
               simp only [hd,hlt,hop,htt,ht,hte,hb,hz,h6,h1,h2,h3,qdB h4,Bool.and_self]
               have h8:std.oLen (oro z)=qae qn z:=vh z
               rw [h8]
               simp only [VM,zy,qjI]
               rfl
             . exact R.Sim.none'
           . exact R.Sim.none'
         . exact R.Sim.none'
       . exact R.Sim.none'
     . exact R.Sim.none'
   . exact R.Sim.none'
theorem qn0 {P:Program}{X:SX}(hT:kD P X.T){ora:Qs}(hO:qp P ora){all:Array Oper}(F:SF)(o:Oper)(hw:ko F.er all o true):(qn3 qn X ora F o).Sim fun it=>o.dst=some it.1/\kv P all F.er o (VM it):=by
 unfold qn3
 split
 . exact (qlm X F o).mono fun it h=>⟨h.1,kv.of_aopK hT hw h.2⟩
 . split
   . rename_i it hn
     unfold qpV at hn
     split at hn
     . rename_i x hop
       split at hn
       . rename_i d hd
         split at hn
         . rename_i hlt
           have hlt:zL F.er.n d=true:=hlt
           split at hn
           . rename_i cs hx
             injection hn with hn
             subst hn
             exact R.Sim.ok ⟨hd,kv.of_nil hw hd hlt hop (by rw [<-qI,hx];rfl)⟩
           . cases hn
         . cases hn
       . cases hn
     . cases hn
   exact (qmW X hO F o).mono fun it h=>by
    obtain ⟨h1,ora',hO',hag⟩:=h
    exact ⟨h1,kv.of_aop hT hO' hw hag⟩
def qhX:List Nat->Nat->Bool
 | [],_=>false
 | a::r,n=>match nq a n with | true=>true | false=>qhX r n
theorem yE {l:List Nat}{n:Nat}:qhX l n=true↔n∈l:=by
 induction l with
 | nil=>simp [qhX]
 | cons a r ih =>
   simp only [qhX,List.mem_cons]
   cases h:nq a n with
   | true=>obtain rfl:=Nat.eq_of_beq_eq_true h;simp
   | false =>
     have:¬n=a:=fun e=>by subst e;simp at h
     simp [ih,this]
def Wu (all:List Oper)(DS:List Nat)(t:Nat):List Nat->Bool
 | []=>true
 | id::r=>match nq (Nat.div id 4096) t with
   | true=>Wu all DS t r
   | false=>(match qhX DS (Nat.div id 4096) with
     | true=>(match qhX (mvL all t) (Nat.div id 4096) with | true=>Wu all DS t r | false=>false)
     | false=>Wu all DS t r)
def qeg (all:List Oper)(F:SF)(DS:List Nat):List Nat->Bool
 | []=>true
 | t::r=>match Wu all DS t (qoN (qa unB F.tm t)) with | true=>qeg all F DS r | false=>false
def qju (F0:SF)(d:Nat):List (Nat×W)->Bool
 | []=>true
 | (id,_)::r=>match has F0.tb id with
   | true=>false
   | false=>(match nq (Nat.div id 4096) d with | true=>qju F0 d r | false=>false)
theorem qh3 {all:List Oper}{DS:List Nat}{t:Nat}{l:List Nat}(h:Wu all DS t l=true):∀ id∈l,id / 4096=t\/id / 4096∉DS\/id / 4096∈mvL all t:=by
 induction l with
 | nil=>intro id hid;cases hid
 | cons a r ih =>
   simp only [Wu] at h
   intro id hid
   split at h
   . rename_i he
     rcases List.mem_cons.1 hid with rfl | hid
     . exact .inl (Nat.eq_of_beq_eq_true he)
     . exact ih h id hid
   . split at h
     . split at h
       . rename_i hm
         rcases List.mem_cons.1 hid with rfl | hid
         . exact .inr (.inr (yE.1 hm))
         . exact ih h id hid
       . cases h
     . rename_i hm
       rcases List.mem_cons.1 hid with rfl | hid
       . exact .inr (.inl (fun hh=>by have:=yE.2 hh;rw [show id / 4096=Nat.div id 4096 from rfl,hm] at this;cases this))
       . exact ih h id hid
theorem qbm {all:List Oper}{F:SF}{DS:List Nat}{l:List Nat}(h:qeg all F DS l=true):∀ t∈l,∀ id∈(qa unT F.er.tm t).ids,id / 4096=t\/id / 4096∉DS\/id / 4096∈mvL all t:=by
 induction l with
 | nil=>intro t ht;cases ht
 | cons a r ih =>
   simp only [qeg] at h
   split at h
   . rename_i hc
     intro t ht
     rcases List.mem_cons.1 ht with rfl | ht
     . rw [show qa unT F.er.tm t=(qa unB F.tm t).er B.erL from QE _ _,qet]
       exact qh3 hc
     . exact ih h t ht
   . cases h
theorem qmd {F0:SF}{d:Nat}{l:List (Nat×W)}(h:qju F0 d l=true):qeZ F0.er (zy l)/\∀ id o,(id,o)∈zy l->id / 4096=d:=by
 induction l with
 | nil=>exact ⟨(fun id o hm=>by cases hm),(fun id o hm=>by cases hm)⟩
 | cons a r ih =>
   obtain ⟨i,w⟩:=a
   simp only [qju] at h
   split at h
   . cases h
   . rename_i hh
     split at h
     . rename_i he
       obtain ⟨h1,h2⟩:=ih h
       refine ⟨fun id o hm=>?_,fun id o hm=>?_⟩
       . rcases List.mem_cons.1 hm with e | hm
         . injection e with e _;subst e;rw [show F0.er.tb=zy F0.tb from rfl,qh8];exact hh
         . exact h1 id o hm
       . rcases List.mem_cons.1 hm with e | hm
         . injection e with e _;subst e;exact Nat.eq_of_beq_eq_true he
         . exact h2 id o hm
     . cases h
def wpD (M:MB)(X:SX)(ora:Qs)(all:List Oper)(F0:SF)(DS:List Nat):List Oper->SF->(SF->Prop)->Prop
 | [],F,K=>K F
 | o::l,F,K=>Jp M all F o
   (fun F1=>w6 M F1 o fun F2=>(match qn3 M X ora F2 o with
     | some (ps,it)=>(match qeg all F2 DS (Qh (opL o.op) (gdT ⟨all⟩ o)) with
       | true=>(match qju F0 it.1 it.2.1 with
         | true=>VP M ps (wpD M X ora all F0 DS l (F2.apB it) K)
         | false=>M.pNo 3)
       | false=>M.pNo 4)
     | none=>M.pNo 5))
   (fun F1=>(match o.dst with
     | some d=>(match nlt d PH with
       | true=>(match qeg all F1 DS (Qh (opL o.op) (gdT ⟨all⟩ o)) with
         | true=>wpD M X ora all F0 DS l (F1.apB (d,[],.v (false,[.ud]))) K
         | false=>M.pNo 6)
       | false=>M.pNo 8)
     | none=>M.pNo 7))
def qgv:Op->Bool
 | .extract _ _=>true
 | .move _=>true
 | .load _ _=>true
 | .fieldAddr _ _ _=>true
 | _=>false
theorem qpr {M:MB}{X:SX}{ora:Qs}{F:SF}{o:Oper}{ps:List Prop}{it:ItB}(h:qn3 M X ora F o=some (ps,it))(hn:qgv o.op=true):it.2.1=[]:=by
 unfold qn3 at h
 cases ho:o.op<;>rw [ho] at hn h<;>first | cases hn | skip
 all_goals (
  simp only [isK] at h
  have hnx:qpV F o=none:=by unfold qpV;rw [ho]
  rw [hnx] at h
  dsimp only at h
  unfold qp0 at h
  rw [ho] at h
  split at h
  . cases h
  . split at h
    . dsimp only at h
      unfold R.bd at h
      split at h
      . cases h
      . split at h
        . cases h
        . rename_i hb
          unfold R.ok at hb
          simp only [Option.some.injEq,Prod.mk.injEq] at hb h
          obtain ⟨_,hb⟩:=hb
          obtain ⟨_,h⟩:=h
          rw [<-h,<-hb]
    . cases h)
def frs (F:Fr)(its:List It)(i:Nat):Fr:=(its.take i).foldl Fr.ap F
theorem LE.ap {F G:Fr}(h:LE F G)(it:It):LE (F.ap it) (G.ap it):=by
 have htb:∀ H:Fr,(H.ap it).tb=it.2.1.reverse++H.tb:=fun H=>qiG _ _
 have htm:∀ H:Fr,(H.ap it).tm=(it.1,it.2.2)::H.tm:=by intro H;show (it.1,it.2.2)::(H.adds it.2.1).tm=_;rw [(@JB qN it.2.1 H).1]
 refine ⟨?_,fun t=>?_,fun id=>?_,fun id=>?_⟩
 . show (G.adds it.2.1).n=(F.adds it.2.1).n;rw [(@JB qN it.2.1 G).2,(@JB qN it.2.1 F).2,h.n]
 . rw [htm,htm,@qu qN,@qu qN,h.tm]
 . rw [htb,htb,@kM qN,@kM qN,h.tb]
 . rw [htb,htb,@Q6 qN,@Q6 qN,h.has]
structure qfP (P:Program)(all:List Oper)(F0:SF)(DS:List Nat)(F:Fr)(o:Oper)(x:It):Prop where
 item:kv P ⟨all⟩ F o x
 dst:o.dst=some x.1
 fr:qeZ F0.er x.2.1
 blk:∀ id o',(id,o')∈x.2.1->id / 4096=x.1
 ids:∀ t∈lkT ⟨all⟩ o,∀ id∈(qa unT F.tm t).ids,id / 4096∈lkM all o\/id / 4096∉DS
 nr:qgv o.op=true->x.2.1=[]
theorem qmB {all:List Oper}{o:Oper}{t n:Nat}{Q:Prop}(ht:t∈lkT ⟨all⟩ o)(h:n=t\/Q\/n∈mvL all t):n∈lkM all o\/Q:=by
 rcases h with rfl | h | h
 . exact .inl (List.mem_append_left _ ht)
 . exact .inr h
 . exact .inl (List.mem_append_right _ (List.mem_flatMap.2 ⟨t,ht,h⟩))
theorem v7 {P:Program}{X:SX}(hT:kD P X.T){ora:Qs}(hO:qp P ora){all:List Oper}{F0:SF}{DS:List Nat}{K:SF->Prop}:∀ (l:List Oper) (F:SF) (Fc:Fr),LE Fc F.er->wpD qn X ora all F0 DS l F K →
 ∃ (its:List It) (G:SF),its.length=l.length/\K G/\LE (frs Fc its l.length) G.er/\∀ (i:Nat) (o:Oper) (x:It),l[i]?=some o->its[i]?=some x->qfP P all F0 DS (frs Fc its i) o x:=by
 intro l
 induction l with
 | nil=>intro F Fc hl h;exact ⟨[],F,rfl,h,hl,fun i o x ho=>by simp at ho⟩
 | cons o l ih =>
   intro F Fc hl h
   simp only [wpD] at h
   obtain ⟨F1,h1,h2⟩:=Ku h
   have go:∀ (F2:SF) (it:It) (F3:SF),LE Fc F2.er->F3.er=F2.er.ap it->wpD qn X ora all F0 DS l F3 K->qfP P all F0 DS Fc o it →
    ∃ (its:List It) (G:SF),its.length=(o::l).length/\K G/\LE (frs Fc its (o::l).length) G.er/\∀ (i:Nat) (o':Oper) (x:It),(o::l)[i]?=some o'->its[i]?=some x->qfP P all F0 DS (frs Fc its i) o' x:=by
    intro F2 it F3 hle he hw hit
    obtain ⟨its,G,k1,k2,k3,k4⟩:=ih F3 (Fc.ap it) (by rw [he];exact hle.ap it) hw
    refine ⟨it::its,G,by simp [k1],k2,k3,fun i o' x ho hx=>?_⟩
    cases i with
    | zero =>
      simp only [List.getElem?_cons_zero,Option.some.injEq] at ho hx
      subst ho hx
      exact hit
    | succ i=>exact k4 i o' x (by simpa using ho) (by simpa using hx)
   have hlk:∀ t∈lkT ⟨all⟩ o,t∈Qh (opL o.op) (gdT ⟨all⟩ o):=by intro t ht;rw [jM];exact ht
   rcases h2 with ⟨hw,h2⟩ | ⟨hw,h2⟩
   . obtain ⟨F2,h3,h4⟩:=K4 h2
     split at h4
     . rename_i ps it hit
       split at h4
       . rename_i hc1
         split at h4
         . rename_i hc2
           obtain ⟨hps,h5⟩:=je ps _ h4
           obtain ⟨hdst,hag⟩:=qn0 hT hO F2 o (hw.le h3) ps it hit hps
           have hle:LE Fc F2.er:=(hl.trans h1).trans h3
           obtain ⟨hf1,hf2⟩:=qmd hc2
           refine go F2 (VM it) _ hle (qnE F2 it) h5 ⟨?_,hdst,hf1,hf2,?_,fun hnr=>?_⟩
           . exact kv.le hle hag
           . intro t ht id hid
             rw [<-hle.tm t] at hid
             exact qmB ht (qbm hc1 t (hlk t ht) id hid)
           . show zy it.2.1=[]
             rw [qpr hit hnr]
             rfl
         . exact h4.elim
       . exact h4.elim
     . exact h4.elim
   . split at h2
     . rename_i d hd
       split at h2
       . rename_i hph
         split at h2
         . rename_i hc1
           have hle:LE Fc F1.er:=hl.trans h1
           refine go F1 (d,[],.v (false,[.ud])) _ hle (qnE F1 _) h2 ⟨?_,hd,fun id o hm=>by (cases hm),fun id o hm=>by (cases hm),?_,fun _=>rfl⟩
           . exact kv.le hle (kv.of_skip hd hph hw)
           . intro t ht id hid
             rw [<-hle.tm t] at hid
             exact qmB ht (qbm hc1 t (hlk t ht) id hid)
         . exact h2.elim
       . exact h2.elim
     . exact h2.elim
end Go.Proofs.YtifnopmkdempdaaGreat.Ai
namespace Go.Proofs.YtifnopmkdempdaaGreat.Ai
open Go
variable [qi]
def zZ (P:Program)(g:FuncId)(args:List (V1 B))(tb:List (Nat×W))(ph:List B)(r:TV B)(tb':List (Nat×W))(ph':List B):Prop :=
 Vr P g (qx B.erL args) (zy tb) (B.erL ph) (r.er B.erL) (zy tb') (B.erL ph')
def qsv:LK->SP->B
 | .sl n,p=>.rf p true 0 n
 | .bx,p=>.pp p (true,0) 0
theorem qpF (k:LK)(p:SP):(qsv k p).er=jT k p.er:=by cases k<;>rfl
def qlz:Nat->List (LK×W)->List (Nat×W)
 | _,[]=>[]
 | i,x::r=>(lrt i,x.2)::qlz (i+1) r
def qkJ:Nat->List (LK×W)->List B
 | _,[]=>[]
 | i,x::r=>qsv x.1 (lrt i,[])::qkJ (i+1) r
def q8 (P:Program)(X:SX):Prop:=∀ g as ls,R.Sim (X.OW g as ls) fun res=>zZ P g as (qlz 0 ls) (qkJ 0 ls) res.1 res.2.1 res.2.2
def vr (F:SF)(f:Operand):R (FuncId×List B):=match z6 F f with
 | .fz (.fn g caps)=>R.ok (g,fzB caps)
 | .clo g caps=>R.ok (g,caps)
 | _=>none
theorem qdh (F:SF)(f:Operand):(vr F f).Sim fun r=>Jy F.er f=some (r.1,B.erL r.2):=by
 unfold vr
 split
 . rename_i g caps h
   refine R.Sim.ok ?_
   have:ev1 F.er f=.fz (.fn g (D.erL caps)):=by rw [<-qI,h];rfl
   unfold Jy
   rw [this]
   simp only [qh1]
 . rename_i g caps h
   refine R.Sim.ok ?_
   have:ev1 F.er f=.clo g (B.erL caps):=by rw [<-qI,h];rfl
   unfold Jy
   rw [this]
 . exact R.Sim.none'
def qdp (F:SF):List Operand->R (List (V1 B))
 | []=>R.ok []
 | x::r=>match evB F x with
   | .v y=>(qdp F r).bd fun l=>R.ok (y::l)
   | .tup _=>none
theorem yJ (F:SF):∀ xs:List Operand,(qdp F xs).Sim fun l=>YW F.er xs=some (qx B.erL l)
 | []=>R.Sim.ok rfl
 | x::r=>by
   simp only [qdp]
   split
   . rename_i y hy
     refine R.Sim.bd (yJ F r) fun l hl=>R.Sim.ok ?_
     have:ev F.er x=.v (kb B.erL y):=by rw [<-ja,hy];rfl
     simp only [YW,this,hl]
     rfl
   . exact R.Sim.none'
def Wi:List B->List (V1 B)
 | []=>[]
 | c::r=>(false,[c])::Wi r
theorem qlw (l:List B):qx B.erL (Wi l)=Kv (B.erL l):=by induction l with | nil=>rfl | cons a l ih=>simp only [Wi,qx,B.erL,Kv,ih];rfl
def qjp (M:MB)(F:SF):B->R (SP×LK×W)
 | .rf q true off n=>(F.atR M q).bd fun o=>(match o with
   | .osl x=>some ([M.pEqN off 0,M.pEqN n (x.len M)],(q,.sl n,.osl x))
   | .onil=>some ([M.pEqN off 0,M.pEqN n 0],(q,.sl n,.onil))
   | _=>none)
 | .pp q i j=>(match i,j with
   | (true,0),0=>(F.atR M q).bd fun o=>(match o with
     | .obx cs=>R.ok (q,.bx,.obx cs)
     | _=>none)
   | _,_=>none)
 | _=>none
def qcY:LK->O->Prop
 | .sl n,.osl xs=>xs.length=n
 | .bx,.obx _=>True
 | _,_=>False
theorem qbS (F:SF)(b:B):(qjp qn F b).Sim fun r=>b.er=jT r.2.1 r.1.er/\F.er.at std r.1.er=r.2.2.er/\qcY r.2.1 r.2.2.er:=by
 unfold qjp
 split
 . rename_i q off n
   refine R.Sim.bd (F.atR_sim q) fun o ho=>?_
   split
   . rename_i x
     refine R.Sim.mk fun hp=>?_
     obtain ⟨h1,h2⟩:=hp.two
     have h1:off=0:=h1
     have h2:n=x.len qn:=h2
     subst h1 h2
     exact ⟨rfl,ho,LL.len_ro x⟩
   . refine R.Sim.mk fun hp=>?_
     obtain ⟨h1,h2⟩:=hp.two
     have h1:off=0:=h1
     have h2:n=0:=h2
     subst h1 h2
     exact ⟨rfl,ho,rfl⟩
   . exact R.Sim.none'
 . split
   . refine R.Sim.bd (F.atR_sim _) fun o ho=>?_
     split
     . exact R.Sim.ok ⟨rfl,ho,trivial⟩
     . exact R.Sim.none'
   . exact R.Sim.none'
 . exact R.Sim.none'
def qqz (all:List (V1 B))(k j:Nat):Option B:=match nth all k with
 | some x=>nth x.2 j
 | none=>none
def qch (M:MB)(F:SF)(all:List (V1 B)):List (Nat×Nat)->R (List (SP×LK×W))
 | []=>R.ok []
 | (k,j)::r=>(match qqz all k j with
   | some b=>(qjp M F b).bd fun x=>(qch M F all r).bd fun l=>R.ok (x::l)
   | none=>none)
theorem yZ (F:SF)(all:List (V1 B)):∀ ps:List (Nat×Nat),(qch qn F all ps).Sim fun l=>∀ x∈l,F.er.at std x.1.er=x.2.2.er/\qcY x.2.1 x.2.2.er/\∃ (k:Nat) (y:V1 A) (j:Nat),(qx B.erL all)[k]?=some y/\y.2[j]?=some (jT x.2.1 x.1.er)
 | []=>R.Sim.ok (fun x h=>by cases h)
 | (k,j)::r=>by
   simp only [qch]
   split
   . rename_i b hb
     refine R.Sim.bd (qbS F b) fun x hx=>R.Sim.bd (yZ F all r) fun l hl=>R.Sim.ok ?_
     intro z hz
     rcases List.mem_cons.1 hz with rfl | hz
     . refine ⟨hx.2.1,hx.2.2,?_⟩
       unfold qqz at hb
       rw [qv] at hb
       cases hk:all[k]? with
       | none=>rw [hk] at hb;cases hb
       | some y =>
         rw [hk] at hb
         dsimp only at hb
         rw [qv] at hb
         refine ⟨k,kb B.erL y,j,by rw [qbr,hk];rfl,?_⟩
         show (B.erL y.2)[j]?=_
         rw [B.erL_eq,List.getElem?_map,hb]
         simp [hx.1]
     . exact hl z hz
   . exact R.Sim.none'
def qlD:List SP->Nat->SP->Option (Option SP)
 | [],_,_=>some none
 | q::L,i,x=>match nq x.1 q.1 with
   | true=>(match vC q.2 x.2 with
     | some (some s)=>some (some (lrt i,s))
     | some none=>qlD L (i+1) x
     | none=>none)
   | false=>qlD L (i+1) x
theorem qhp:∀ (L:List zg) (qs:List SP) (i:Nat),L.map (·.q)=qs.map SP.er->∀ (x:SP) (r:Option SP),qlD qs i x=some r->ren (inL i L) x.er=r.map SP.er:=by
 intro L
 induction L with
 | nil =>
   intro qs i hq x r h
   have:qs=[]:=by simpa using hq.symm
   subst this
   simp only [qlD,Option.some.injEq] at h
   subst h
   rfl
 | cons l L ih =>
   intro qs i hq x r h
   cases qs with
   | nil=>simp at hq
   | cons q qs =>
     simp only [List.map_cons,List.cons.injEq] at hq
     obtain ⟨h1,h2⟩:=hq
     simp only [qlD] at h
     simp only [inL,ren]
     rw [h1]
     show (match nq x.1 q.1 with | true=>(match pre std (ixs q.2) (ixs x.2) with | some s=>some ((lrt i,([]:List (Nat×Nat))).1,(lrt i,([]:List (Nat×Nat))).2++s) | none=>ren (inL (i+1) L) x.er) | false=>ren (inL (i+1) L) x.er)=_
     split at h
     . split at h
       . rename_i s hs
         rw [zo _ _ hs]
         simp only [Option.some.injEq] at h
         subst h
         simp [SP.er]
       . rename_i hs
         rw [zo _ _ hs]
         exact ih qs (i+1) h2 x r h
       . cases h
     . exact ih qs (i+1) h2 x r h
def WZ:List SP->SP->Option (Option SP)
 | [],x=>some (some x)
 | q::L,x=>match nq x.1 q.1 with
   | true=>(match vC q.2 x.2 with
     | some (some [])=>some (some x)
     | some (some (_::_))=>some none
     | some none=>WZ L x
     | none=>none)
   | false=>WZ L x
theorem qb7:∀ (L:List zg) (qs:List SP),L.map (·.q)=qs.map SP.er->∀ (x:SP) (r:Option SP),WZ qs x=some r->Qx L x.er=r.map SP.er:=by
 intro L
 induction L with
 | nil =>
   intro qs hq x r h
   have:qs=[]:=by simpa using hq.symm
   subst this
   simp only [WZ,Option.some.injEq] at h
   subst h
   rfl
 | cons l L ih =>
   intro qs hq x r h
   cases qs with
   | nil=>simp at hq
   | cons q qs =>
     simp only [List.map_cons,List.cons.injEq] at hq
     obtain ⟨h1,h2⟩:=hq
     simp only [WZ] at h
     simp only [Qx]
     rw [h1]
     show (match nq x.1 q.1 with | true=>(match pre std (ixs q.2) (ixs x.2) with | some []=>some x.er | some (_::_)=>none | none=>Qx L x.er) | false=>Qx L x.er)=_
     split at h
     . split at h
       . rename_i hs
         rw [zo _ _ hs]
         simp only [Option.some.injEq] at h
         subst h
         rfl
       . rename_i a s hs
         rw [zo _ _ hs]
         simp only [Option.some.injEq] at h
         subst h
         obtain ⟨⟨k,i⟩,j⟩:=a
         rfl
       . rename_i hs
         rw [zo _ _ hs]
         exact ih qs h2 x r h
       . cases h
     . exact ih qs h2 x r h
def qpY (p q:SP):Bool:=match nq p.1 q.1 with
 | false=>true
 | true=>(match vC p.2 q.2,vC q.2 p.2 with
   | some none,some none=>true
   | _,_=>false)
theorem YJ {p q:SP}(h:qpY p q=true):¬Und p.er q.er/\¬Und q.er p.er:=by
 unfold qpY at h
 split at h
 . rename_i he
   refine ⟨fun hu=>?_,fun hu=>?_⟩
   . have:q.1=p.1:=hu.1
     rw [this,jx] at he
     cases he
   . have:p.1=q.1:=hu.1
     rw [this,jx] at he
     cases he
 . split at h
   . rename_i h1 h2
     have h1:=zo _ _ h1
     have h2:=zo _ _ h2
     refine ⟨fun ⟨_,s,hs⟩=>?_,fun ⟨_,s,hs⟩=>?_⟩
     . have hs:ixs q.2=ixs p.2++s:=hs
       rw [hs,jW] at h1
       cases h1
     . have hs:ixs p.2=ixs q.2++s:=hs
       rw [hs,jW] at h2
       cases h2
   . cases h
def qcO (p:SP):List SP->Bool
 | []=>true
 | q::r=>match qpY p q with | true=>qcO p r | false=>false
def Yl:List SP->Bool
 | []=>true
 | p::r=>match qcO p r with | true=>Yl r | false=>false
theorem qh4 {p:SP}:∀ {l:List SP},qcO p l=true->∀ q∈l,qpY p q=true:=by
 intro l
 induction l with
 | nil=>intro _ q h;cases h
 | cons a l ih =>
   intro h q hq
   simp only [qcO] at h
   split at h
   . rename_i h1
     rcases List.mem_cons.1 hq with rfl | hq
     . exact h1
     . exact ih h q hq
   . cases h
theorem vd:∀ {l:List SP},Yl l=true->jf (l.map SP.er):=by
 intro l
 induction l with
 | nil=>intro _ i j p p' hi;simp at hi
 | cons a l ih =>
   intro h i j p p' hi hj hu
   simp only [Yl] at h
   split at h
   . rename_i h1
     have hc:=qh4 h1
     cases i with
     | zero =>
       cases j with
       | zero=>rfl
       | succ j =>
         exfalso
         simp only [List.map_cons,List.getElem?_cons_zero,Option.some.injEq] at hi
         simp only [List.map_cons,List.getElem?_cons_succ,List.getElem?_map] at hj
         cases hb:l[j]? with
         | none=>rw [hb] at hj;simp at hj
         | some b =>
           rw [hb] at hj
           simp at hj
           subst hi hj
           exact (YJ (hc b (List.mem_of_getElem? hb))).1 hu
     | succ i =>
       cases j with
       | zero =>
         exfalso
         simp only [List.map_cons,List.getElem?_cons_zero,Option.some.injEq] at hj
         simp only [List.map_cons,List.getElem?_cons_succ,List.getElem?_map] at hi
         cases hb:l[i]? with
         | none=>rw [hb] at hi;simp at hi
         | some b =>
           rw [hb] at hi
           simp at hi
           subst hi hj
           exact (YJ (hc b (List.mem_of_getElem? hb))).2 hu
       | succ j=>exact congrArg (·+1) (ih h i j p p' (by simpa using hi) (by simpa using hj) hu)
   . cases h
structure zr where
 q:SP
 k:LK
 o:W
 r:SP
 z:W
def zr.er (l:zr):zg:=⟨l.q.er,l.k,l.o.er,l.r.er,l.z.er⟩
def qs2:W->W->Bool
 | .osl x,.osl y=>nq x.sz y.sz
 | .onil,_=>true
 | _,.onil=>true
 | .obx _,.obx _=>true
 | _,_=>false
def qmA (M:MB)(tb:List (Nat×W))(x:SP×LK×W)(b:B):R zr :=
 (qjp M ⟨0,[],tb⟩ b).bd fun y=>(match x.2.1,y.2.1 with
   | .sl n,.sl m=>(match qs2 x.2.2 y.2.2 with
     | true=>some ([M.pEqN m n],⟨x.1,.sl n,x.2.2,y.1,y.2.2⟩)
     | false=>none)
   | .bx,.bx=>R.ok ⟨x.1,.bx,x.2.2,y.1,y.2.2⟩
   | _,_=>none)
def qi7 (M:MB)(tb:List (Nat×W)):List (SP×LK×W)->List B->R (List zr)
 | [],[]=>R.ok []
 | x::l,b::bs=>(qmA M tb x b).bd fun y=>(qi7 M tb l bs).bd fun r=>R.ok (y::r)
 | _,_=>none
theorem qj7 (tb:List (Nat×W))(x:SP×LK×W)(b:B)(hk:qcY x.2.1 x.2.2.er) :
 (qmA qn tb x b).Sim fun l=>l.q=x.1/\l.k=x.2.1/\l.o=x.2.2/\b.er=jT l.k l.r.er/\(Fr.mk 0 [] (zy tb)).at std l.r.er=l.z.er/\l.k.ok l.o.er l.z.er:=by
 unfold qmA
 refine R.Sim.bd (qbS _ b) fun y ⟨h1,h2,h3⟩=>?_
 obtain ⟨q,k,o⟩:=x
 obtain ⟨r,k',z⟩:=y
 dsimp only at *
 cases k with
 | sl n =>
   cases k' with
   | bx=>exact R.Sim.none'
   | sl m =>
     dsimp only
     split
     . rename_i hs
       refine R.Sim.mk fun hp=>?_
       have e:m=n:=hp.one
       subst e
       refine ⟨rfl,rfl,rfl,h1,h2,?_⟩
       dsimp only
       cases o with
       | osl x =>
         cases z with
         | osl y =>
           refine ⟨hk,h3,fun a ha c hc=>?_⟩
           have:=QX.1 hs
           rw [x.ro_sz a ha,y.ro_sz c hc,this]
         | onil=>exact ⟨hk,h3,fun a ha c hc=>by cases hc⟩
         | _=>exact h3.elim
       | onil =>
         cases z with
         | osl y=>exact ⟨hk,h3,fun a ha=>by cases ha⟩
         | onil=>exact ⟨hk,h3,fun a ha=>by cases ha⟩
         | _=>exact h3.elim
       | _=>exact hk.elim
     . exact R.Sim.none'
 | bx =>
   cases k' with
   | sl m=>exact R.Sim.none'
   | bx =>
     refine R.Sim.ok ⟨rfl,rfl,rfl,h1,h2,?_⟩
     dsimp only
     cases o<;>first | exact hk.elim | skip
     cases z<;>first | exact h3.elim | trivial
theorem qbB (tb:List (Nat×W)):∀ (l:List (SP×LK×W)) (bs:List B),(∀ x∈l,qcY x.2.1 x.2.2.er) →
 (qi7 qn tb l bs).Sim fun r=>r.map (·.q)=l.map (·.1)/\r.map (fun y=>(y.k,y.o))=l.map (·.2)/\B.erL bs=phR (r.map zr.er)/\∀ y∈r,(Fr.mk 0 [] (zy tb)).at std y.r.er=y.z.er/\y.k.ok y.o.er y.z.er
 | [],[],_=>R.Sim.ok ⟨rfl,rfl,rfl,fun y h=>by cases h⟩
 | x::l,b::bs,hk=>by
   simp only [qi7]
   refine R.Sim.bd (qj7 tb x b (hk x List.mem_cons_self)) fun y ⟨h1,h2,h3,h4,h5,h6⟩=>R.Sim.bd (qbB tb l bs (fun z hz=>hk z (List.mem_cons_of_mem _ hz))) fun r ⟨k1,k2,k3,k4⟩=>R.Sim.ok ⟨?_,?_,?_,?_⟩
   . simp [h1,k1]
   . simp [h2,h3,k2]
   . simp only [B.erL,List.map_cons,phR,k3,h4];rfl
   . intro z hz
     rcases List.mem_cons.1 hz with rfl | hz
     . exact ⟨h5,h6⟩
     . exact k4 z hz
 | [],_::_,_=>R.Sim.none'
 | _::_,[],_=>R.Sim.none'
def V0 (M:MB)(F:SF):List zr->R SF
 | []=>R.ok F
 | l::L=>(V0 M F L).bd fun G=>G.setR M l.q l.z
theorem Ve (F:SF):∀ L:List zr,(V0 qn F L).Sim fun G=>kH std F.er (L.map zr.er)=G.er
 | []=>R.Sim.ok rfl
 | l::L=>by
   simp only [V0]
   refine R.Sim.bd (Ve F L) fun G hG=>(G.setR_sim l.q l.z).mono fun H hH=>?_
   simp only [List.map_cons,kH,hG]
   exact hH
def qsW:List zr->List SP
 | []=>[]
 | l::L=>l.q::qsW L
def rsW:List zr->List SP
 | []=>[]
 | l::L=>l.r::rsW L
theorem qg8 (L:List zr):(L.map zr.er).map (·.q)=(qsW L).map SP.er:=by induction L with | nil=>rfl | cons l L ih=>simp only [List.map_cons,qsW,ih];rfl
theorem qrz (L:List zr):(L.map zr.er).map (·.r)=(rsW L).map SP.er:=by induction L with | nil=>rfl | cons l L ih=>simp only [List.map_cons,rsW,ih];rfl
def sps:List (SP×LK×W)->List SP
 | []=>[]
 | x::r=>x.1::sps r
def kos:List (SP×LK×W)->List (LK×W)
 | []=>[]
 | x::r=>x.2::kos r
theorem qrC (l:List (SP×LK×W)):sps l=l.map (·.1):=by induction l with | nil=>rfl | cons x r ih=>simp [sps,ih]
theorem qqX (l:List (SP×LK×W)):kos l=l.map (·.2):=by induction l with | nil=>rfl | cons x r ih=>simp [kos,ih]
theorem qo9 (L:List zr):qsW L=L.map (·.q):=by induction L with | nil=>rfl | cons l L ih=>simp [qsW,ih]
def qfk (M:MB):List zr->B->R B
 | _,.fz d=>R.ok (.fz d)
 | l::L,.rf p g off n=>(match nq p.1 l.r.1 with
   | true=>(match vC l.r.2 p.2,l.k with
     | some (some []),.sl m=>some ([M.pLeN (M.nAdd off n) m],.rf l.q g off n)
     | some none,_=>qfk M L (.rf p g off n)
     | _,_=>none)
   | false=>qfk M L (.rf p g off n))
 | _,_=>none
theorem YX {l:zg}{L:List zg}{a b:A}(h:vS L a b):vS (l::L) a b:=by
 cases h with
 | fz _ h=>exact .fz _ h
 | rf i l m off len hl hk hle=>exact .rf (i+1) l m off len (by simpa using hl) hk hle
theorem WJ:∀ (L:List zr) (x:B),(qfk qn L x).Sim fun y=>vS (L.map zr.er) x.er y.er
 | [],.fz d=>R.Sim.ok (.fz _ rfl)
 | _::_,.fz d=>R.Sim.ok (.fz _ rfl)
 | l::L,.rf p g off n=>by
   simp only [qfk]
   split
   . rename_i hn
     split
     . rename_i m h1 hk
       refine R.Sim.mk fun hp=>?_
       have hp:off+n<=m:=hp.one
       have e:=wW (zo _ _ h1)
       have hq:p.er=(l.er).r:=Prod.ext (QX.1 hn) (by rw [show p.er.2=ixs p.2 from rfl,e];simp [zr.er,SP.er,ixs])
       show vS _ (.rf p.er off n) (.rf l.q.er off n)
       rw [hq]
       exact .rf 0 l.er m off n rfl hk hp
     . exact (WJ L _).mono fun y hy=>YX hy
     . exact R.Sim.none'
   . exact (WJ L _).mono fun y hy=>YX hy
 | [],.un=>R.Sim.none'
 | [],.ud=>R.Sim.none'
 | [],.rf ..=>R.Sim.none'
 | [],.pp ..=>R.Sim.none'
 | [],.clo ..=>R.Sim.none'
 | _::_,.un=>R.Sim.none'
 | _::_,.ud=>R.Sim.none'
 | _::_,.pp ..=>R.Sim.none'
 | _::_,.clo ..=>R.Sim.none'
def qaq (M:MB)(L:List zr):List B->R (List B)
 | []=>R.ok []
 | x::r=>(qfk M L x).bd fun y=>(qaq M L r).bd fun ys=>R.ok (y::ys)
theorem wz (L:List zr):∀ l:List B,(qaq qn L l).Sim fun l'=>(B.erL l).length=(B.erL l').length/\∀ (j:Nat) (a b:A),(B.erL l)[j]?=some a->(B.erL l')[j]?=some b->vS (L.map zr.er) a b
 | []=>R.Sim.ok ⟨rfl,fun j a b h=>by simp [B.erL] at h⟩
 | x::r=>by
   simp only [qaq]
   refine R.Sim.bd (WJ L x) fun y hy=>R.Sim.bd (wz L r) fun ys ⟨h1,h2⟩=>R.Sim.ok ⟨by simp [B.erL,h1],fun j a b ha hb=>?_⟩
   cases j with
   | zero=>simp [B.erL] at ha hb;subst ha hb;exact hy
   | succ j=>exact h2 j a b (by simpa [B.erL] using ha) (by simpa [B.erL] using hb)
def yh (M:MB)(L:List zr):List (V1 B)->R (List (V1 B))
 | []=>R.ok []
 | x::r=>(qaq M L x.2).bd fun y=>(yh M L r).bd fun ys=>R.ok ((x.1,y)::ys)
theorem VE (L:List zr):∀ l:List (V1 B),(yh qn L l).Sim fun l'=>(qx B.erL l).length=(qx B.erL l').length/\∀ (k:Nat) (x y:V1 A),(qx B.erL l)[k]?=some x->(qx B.erL l')[k]?=some y->qjQ (L.map zr.er) x y
 | []=>R.Sim.ok ⟨rfl,fun j a b h=>by simp [qx] at h⟩
 | x::r=>by
   simp only [yh]
   refine R.Sim.bd (wz L x.2) fun y ⟨k1,k2⟩=>R.Sim.bd (VE L r) fun ys ⟨h1,h2⟩=>R.Sim.ok ⟨by simp [qx,h1],fun j a b ha hb=>?_⟩
   cases j with
   | zero=>simp [qx] at ha hb;subst ha hb;exact ⟨rfl,k1,k2⟩
   | succ j=>exact h2 j a b (by simpa [qx] using ha) (by simpa [qx] using hb)
def qmu (M:MB)(L:List zr):TV B->R (TV B)
 | .v x=>(qaq M L x.2).bd fun y=>R.ok (.v (x.1,y))
 | .tup xs=>(yh M L xs).bd fun ys=>R.ok (.tup ys)
theorem qh0 (L:List zr)(r:TV B):(qmu qn L r).Sim fun r'=>qmI (L.map zr.er) (r.er B.erL) (r'.er B.erL):=by
 cases r with
 | v x=>exact R.Sim.bd (wz L x.2) fun y ⟨h1,h2⟩=>R.Sim.ok ⟨rfl,h1,h2⟩
 | tup xs=>exact R.Sim.bd (VE L xs) fun ys ⟨h1,h2⟩=>R.Sim.ok ⟨h1,h2⟩
def qhb (M:MB)(X:SX)(F:SF)(d:Nat)(f:Operand)(args:List Operand):R SF :=
 (vr F f).bd fun g=>(qdp F args).bd fun as=>(match X.S g.1 with
   | some ps=>(qch M F (Qh as (Wi g.2)) ps).bd fun ls=>(match qle (qlD (sps ls) 0) (Qh as (Wi g.2)) with
     | some as'=>(X.OW g.1 as' (kos ls)).bd fun res=>(qi7 M res.2.1 ls res.2.2).bd fun L=>(qmu M L res.1).bd fun rr=>(match Yl (qsW L) with
      | true=>(match Yl (rsW L) with
        | true=>(V0 M F L).bd fun G=>(G.trR (WZ (qsW L))).bd fun H=>R.ok (H.put d rr)
        | false=>none)
      | false=>none)
     | none=>none)
   | none=>none)
theorem qjD:∀ (L:List zr) (i:Nat),zy (qlz i (L.map fun y=>(y.k,y.o)))=tbL i (L.map zr.er)
 | [],_=>rfl
 | l::L,i=>by simp only [List.map_cons,qlz,zy,tbL,qjD L (i+1)];rfl
theorem qi4:∀ (L:List zr) (i:Nat),B.erL (qkJ i (L.map fun y=>(y.k,y.o)))=phL i (L.map zr.er)
 | [],_=>rfl
 | l::L,i=>by simp only [List.map_cons,qkJ,B.erL,phL,qi4 L (i+1),qpF];rfl
theorem qgz {P:Program}{X:SX}(hW:q8 P X)(F:SF){o:Oper}{d:Nat}(hdst:o.dst=some d)(hok:zL F.n d=true){f:Operand}{args:List Operand}{ts:Array TypeId}(ho:o.op=.call ⟨.value f,⟨args⟩,ts⟩) :
 (qhb qn X F d f args).Sim fun G=>zf P F.er o G.er:=by
 unfold qhb
 refine R.Sim.bd (qdh F f) fun g hg=>R.Sim.bd (yJ F args) fun as has=>?_
 split
 . rename_i ps hps
   refine R.Sim.bd (yZ F _ ps) fun ls hls=>?_
   split
   . rename_i as' htr
     refine R.Sim.bd (hW g.1 as' (kos ls)) fun res hres=>?_
     . refine R.Sim.bd (qbB res.2.1 ls res.2.2 (fun x hx=>(hls x hx).2.1)) fun L ⟨l1,l2,l3,l4⟩=>R.Sim.bd (qh0 L res.1) fun rr hrr=>?_
       split
       . rename_i ha
         split
         . rename_i hr
           refine R.Sim.bd (Ve F L) fun G hG=>R.Sim.bd (G.trR_sim (qb7 (L.map zr.er) (qsW L) (qg8 L))) fun H hH=>R.Sim.ok ?_
           rw [SF.put_er,<-hH,<-hG]
           have hqs:qsW L=sps ls:=by rw [qo9,qrC,l1]
           have hall:qx B.erL (Qh as (Wi g.2))=qx B.erL as++Kv (B.erL g.2):=by rw [jM,Kp,qlw]
           refine zf.of_callW hdst hok ho hg has hrr (tb':=zy res.2.1) ⟨by rw [qg8];exact vd ha,by rw [qrz];exact vd hr,?_,?_,?_⟩ ?_
           . intro l hl
             obtain ⟨y,hy,rfl⟩:=List.mem_map.1 hl
             refine ⟨?_,(l4 y hy).2⟩
             have h1:y.q∈L.map (·.q):=List.mem_map.2 ⟨y,hy,rfl⟩
             obtain ⟨i,hi⟩:=List.getElem?_of_mem hy
             have e1:(L.map (·.q))[i]?=some y.q:=by rw [List.getElem?_map,hi];rfl
             have e2:(L.map fun y=>(y.k,y.o))[i]?=some (y.k,y.o):=by rw [List.getElem?_map,hi];rfl
             rw [l1,List.getElem?_map] at e1
             rw [l2,List.getElem?_map] at e2
             cases hx:ls[i]? with
             | none=>rw [hx] at e1;simp at e1
             | some x =>
               rw [hx] at e1 e2
               simp only [Option.map_some,Option.some.injEq] at e1 e2
               have:=(hls x (List.mem_of_getElem? hx)).1
               rw [e1,e2] at this
               exact this
           . intro l hl
             obtain ⟨y,hy,rfl⟩:=List.mem_map.1 hl
             exact (l4 y hy).1
           . intro l hl
             obtain ⟨y,hy,rfl⟩:=List.mem_map.1 hl
             obtain ⟨i,hi⟩:=List.getElem?_of_mem hy
             have e1:(L.map (·.q))[i]?=some y.q:=by rw [List.getElem?_map,hi];rfl
             have e2:(L.map fun y=>(y.k,y.o))[i]?=some (y.k,y.o):=by rw [List.getElem?_map,hi];rfl
             rw [l1,List.getElem?_map] at e1
             rw [l2,List.getElem?_map] at e2
             cases hx:ls[i]? with
             | none=>rw [hx] at e1;simp at e1
             | some x =>
               rw [hx] at e1 e2
               simp only [Option.map_some,Option.some.injEq] at e1 e2
               have:=(hls x (List.mem_of_getElem? hx)).2.2
               rw [e1,e2,hall] at this
               exact this
           . unfold zZ at hres
             rw [qqX,<-l2,qjD,qi4,l3] at hres
             have:=wG (τ':=ren (inL 0 (L.map zr.er))) (qhp (L.map zr.er) (sps ls) 0 (by rw [qg8,hqs])) _ htr
             rw [hall,@jN qN] at this
             rw [this]
             exact hres
         . exact R.Sim.none'
       . exact R.Sim.none'
   . exact R.Sim.none'
 . exact R.Sim.none'
end Go.Proofs.YtifnopmkdempdaaGreat.Ai
namespace Go.Proofs.YtifnopmkdempdaaGreat.Ai
open Go
variable [qi]
def yK {α:Type}:List α->Nat->List α
 | _,0=>[]
 | [],_+1=>[]
 | a::r,n+1=>a::yK r n
theorem qfa {α:Type}(l:List α)(n:Nat):yK l n=l.take n:=by
 induction l generalizing n with
 | nil=>cases n<;>rfl
 | cons a r ih=>cases n<;>simp [yK,ih]
def J7:List Oper->List Nat
 | []=>[]
 | o::r=>match o.dst with | some d=>d::J7 r | none=>J7 r
def drS (n:Nat):Nat:=Nat.mod n 65536
def qr5:Nat->Nat->List Nat
 | 0,_=>[]
 | f+1,n=>match nq n 0 with
   | true=>[]
   | false=>Nat.pred (Nat.mod n 256)::qr5 f (Nat.div n 256)
def qnw (n:Nat):List Nat:=qr5 6 (Nat.div n 65536)
def kZ (dr:Nat->Nat):Code->Bool
 | .region id ⟨ops⟩ true=>match nlt (dr id) 65536 with
   | true=>qbi ops (dr id)||(nq (dr id) ops.length&&Y8 ops)
   | false=>qak ops (drS (dr id)) (qnw (dr id))
 | .seq a b=>kZ dr a&&kZ dr b
 | .cond _ a b=>kZ dr a&&kZ dr b
 | .block _ b=>kZ dr b
 | .loop b=>kZ dr b
 | _=>true
def kOK (dr:Nat->Nat):K->Bool
 | .c x=>kZ dr x
 | .lp b=>kZ dr b
 | _=>true
def qhR (M:MB)(X:SX)(F:SF)(t:TypeId)(x:Operand):R SF :=
 match X.T t with
 | some ⟨.sl e,_,_,_,_⟩=>(match X.T e with
   | some ⟨_,_,1,_,[.int .i64 0]⟩=>(match z6 F x with
     | .rf (r,[]) _ off len=>(F.atR M (r,[])).bd fun o=>(match o with
       | .osl (.i l)=>some ([M.pLeN (M.nAdd off len) (M.len l)],{ F with tb:=(r,.osl (.i (M.zap l off len 0)))::del F.tb r })
       | _=>none)
     | _=>none)
   | _=>none)
 | _=>none
theorem qg5 (X:SX)(F:SF)(t:TypeId)(x:Operand):(qhR qn X F t x).Sim fun G=>qdn std X.T F.er t x=some G.er:=by
 unfold qhR
 split
 . rename_i e g1 g2 g3 g4 ht
   split
   . rename_i k0 ag by0 hte
     split
     . rename_i r w off len hx
       refine R.Sim.bd (F.atR_sim (r,[])) fun o ho=>?_
       split
       . rename_i l
         refine R.Sim.mk fun hp=>?_
         have h1:off+len<=l.length:=hp.one
         have hv:ev1 F.er x=.rf (r,[]) off len:=by rw [<-qI,hx];rfl
         have ho:F.er.at std (r,[])=.osl (roI l):=ho
         have h2:(std.nLe (std.nAdd off len) (std.oLen (roI l))&&std.oSz 1 (roI l)&&std.oFlat (roI l))=true:=by
          simp [std,roI,h1,O.isFz]
         have h3:(roI (kY l off len 0))=kY (roI l) off len [.fz (.int .i64 0)]:=by unfold roI;rw [yx]
         unfold qdn
         simp only [ht,hte,hv,qg6,ho,h2]
         show some (F.er.re r (.osl (kY (roI l) off len [.fz (.int .i64 0)])))=some ⟨F.n,jm F.tm,zy ((r,.osl (.i (kY l off len 0)))::del F.tb r)⟩
         rw [<-h3]
         simp only [zy,<-YM]
         rfl
       . exact R.Sim.none'
     . exact R.Sim.none'
   . exact R.Sim.none'
 . exact R.Sim.none'
def qph:List B->R (List D)
 | []=>R.ok []
 | .fz d::r=>(match d with
   | .un=>none
   | _=>(qph r).bd fun l=>R.ok (d::l))
 | _=>none
theorem qe6:∀ l:List B,(qph l).Sim fun ds=>B.erL l=fzL (D.erL ds)/\okL (B.erL l)=true
 | []=>R.Sim.ok ⟨rfl,rfl⟩
 | .fz d::r=>by
   simp only [qph]
   split
   . exact R.Sim.none'
   . rename_i hd
     refine R.Sim.bd (qe6 r) fun ds ⟨h1,h2⟩=>R.Sim.ok ⟨by simp only [B.erL,B.er,D.erL,fzL,h1],?_⟩
     simp only [B.erL,B.er,okL,h2]
     cases d<;>first | rfl | exact (hd rfl).elim
 | .un::_=>R.Sim.none'
 | .ud::_=>R.Sim.none'
 | .rf ..::_=>R.Sim.none'
 | .pp ..::_=>R.Sim.none'
 | .clo ..::_=>R.Sim.none'
def qmQ (F:SF)(d:Nat)(x:Operand):R SF:=match evB F x with
 | .v (_,as)=>(qph as).bd fun ds=>R.ok (F.put d (.v (false,[.fz (.ptr ds)])))
 | .tup _=>none
theorem qj6 {P:Program}(F:SF){o:Oper}{d:Nat}(hd:o.dst=some d)(hlt:zL F.er.n d=true){e:TypeId}{x:Operand}(ho:o.op=.box e x):(qmQ F d x).Sim fun G=>zf P F.er o G.er:=by
 unfold qmQ
 split
 . rename_i g as hx
   refine R.Sim.bd (qe6 as) fun ds ⟨h1,h2⟩=>R.Sim.ok ?_
   rw [SF.put_er]
   refine zf.of_boxF hd hlt ho (as:=D.erL ds) ?_ (by rw [<-h1];exact h2)
   rw [<-ja,hx,<-h1]
   rfl
 . exact R.Sim.none'
noncomputable def qoL:jX:=match qi.fut with | some g=>g | none=>fun _=>false
theorem qkQ (h:qi.fut.isSome=true):qi.fut=some qoL:=by
 unfold qoL
 cases hh:qi.fut with
 | none=>rw [hh] at h;cases h
 | some g=>rfl
def qb5 (X:SX)(t:Nat):Bool:=match X.T t with
 | some ⟨.str,_,_,_,_⟩=>true
 | _=>false
theorem qaa {X:SX}{t:Nat}(h:qb5 X t=true):∃ ty,X.T t=some ty/\ty.kind=.str:=by
 unfold qb5 at h
 split at h
 . rename_i he;exact ⟨_,he,rfl⟩
 . cases h
def qq9 (X:SX)(F:SF)(t:Nat)(m k x:Operand):R SF :=
 match X.T t with
 | some ⟨.mp kt _,_,_,_,_⟩=>(match qb5 X kt with
   | true=>(match z6 F m,z6 F k,z6 F x with
     | .fz (.mp g),.fz (.str s),.fz (.bool _ b)=>some ([b=g s],F)
     | _,_,_=>none)
   | false=>none)
 | _=>none
theorem qn4 {P:Program}{X:SX}(hT:kD P X.T)(F:SF){o:Oper}(hd:o.dst=none){t:Nat}{m k x:Operand}(hop:o.op=.mapUpdate t m k x):(qq9 X F t m k x).Sim fun G=>zf P F.er o G.er:=by
 unfold qq9
 split
 . rename_i kt et a1 a2 a3 a4 ht
   split
   . rename_i hk
     obtain ⟨tk,h1,h2⟩:=qaa hk
     split
     . rename_i g s kn b hm hs hx
       refine R.Sim.mk fun hp=>?_
       have hb:b=g s:=hp.one
       refine zf.of_mapUpdate hT ht rfl h1 h2 hd hop (g:=g) (s:=s) ?_ ?_ ?_
       . rw [<-qI,hm];rfl
       . rw [<-qI,hs];rfl
       . rw [<-qI,hx,<-hb];rfl
     . exact R.Sim.none'
   . exact R.Sim.none'
 . exact R.Sim.none'
def qrM (F:SF)(d:Nat)(x:Operand):R SF:=match z6 F x with
 | .fz (.ptr cs)=>R.ok (F.put d (.v (false,[.fz (.ptr cs)])))
 | _=>none
theorem qol {P:Program}(F:SF){o:Oper}{d:Nat}(hd:o.dst=some d)(hlt:zL F.er.n d=true){x:Operand}(hop:o.op=.nilCheck x):(qrM F d x).Sim fun G=>zf P F.er o G.er:=by
 unfold qrM
 split
 . rename_i cs hx
   refine R.Sim.ok ?_
   rw [SF.put_er]
   exact zf.of_nilCheck hd hlt hop (by rw [<-qI,hx];rfl)
 . exact R.Sim.none'
noncomputable def qoc (F:SF)(d:Nat):R SF:=some ([qi.fut.isSome=true],F.put d (.v (false,[.fz (.mp qoL)])))
theorem qhw {P:Program}(F:SF){o:Oper}{d:Nat}(hd:o.dst=some d)(hlt:zL F.er.n d=true){t:Nat}(hop:o.op=.makeMap t none):(qoc F d).Sim fun G=>zf P F.er o G.er:=by
 refine R.Sim.mk fun hp=>?_
 rw [SF.put_er]
 exact zf.of_makeMap hd hlt hop (qkQ hp.one)
noncomputable def opB (M:MB)(X:SX)(ora:Qs)(F:SF)(o:Oper):R SF :=
 match o.dst with
 | none=>(match o.op with
   | .store t a x=>(match X.T t with
     | some ty=>qhu M F ty.size a x
     | none=>none)
   | .call ⟨.builtin .clear,⟨[x]⟩,⟨[t]⟩⟩=>qhR M X F t x
   | .mapUpdate t m k x=>qq9 X F t m k x
   | _=>none)
 | some d=>(match zL F.n d with
   | true=>(match o.op with
     | .call ⟨.value f,⟨args⟩,_⟩=>(match (match vr F f with | some (_,g)=>X.S g.1 | none=>none) with
       | some _=>qhb M X F d f args
       | none=>qmJ M ora F d f args)
     | .box e x=>(match X.FB d with
       | true=>qmQ F d x
       | false=>qnF M X F d (.box e x))
     | .assign x=>(match X.FB d with
       | true=>R.ok (F.put d (evB F x))
       | false=>qnF M X F d (.assign x))
     | .makeMap _ none=>qoc F d
     | .nilCheck x=>qrM F d x
     | op=>qnF M X F d op)
   | false=>none)
theorem qc0 {P:Program}{X:SX}(hT:kD P X.T)(hW:q8 P X){ora:Qs}(hO:qp P ora)(F:SF)(o:Oper):(opB qn X ora F o).Sim fun G=>zf P F.er o G.er:=by
 have none':∀ g as r,(fun _ _=>none:Ora) g as=some r->zJ P g as r:=fun _ _ _ h=>by cases h
 unfold opB
 split
 . rename_i hd
   split
   . rename_i t a x hop
     split
     . rename_i ty ht
       refine (qhP F ty.size a x).mono fun G hG=>?_
       refine zf.of_opS (kn:=false) hT none' ?_
       unfold opS
       simp only [hd,hop,ht]
       exact hG
     . exact R.Sim.none'
   . rename_i x t hop
     exact (qg5 X F t x).mono fun G hG=>zf.of_clear hT hd hop hG
   . rename_i t m k x hop
     exact qn4 hT F hd hop
   . exact R.Sim.none'
 . rename_i d hd
   split
   . rename_i hlt
     have hlt:zL F.er.n d=true:=hlt
     split
     . rename_i f args ts hop
       split
       . exact qgz hW F hd hlt hop
       . refine (qkx hO F d f args).mono fun G ⟨g,as,r,h1,h2⟩=>?_
         refine zf.of_opS (kn:=false) (ora:=qaH g as r) hT ?_ ?_
         . intro g' as' r' h'
           unfold qaH at h'
           split at h'
           . rename_i hh
             simp only [Option.some.injEq] at h'
             subst h'
             rw [hh.1,hh.2]
             exact h1
           . cases h'
         . unfold opS
           simp only [hd,hlt,hop]
           exact h2
     . rename_i e x hop
       split
       . exact qj6 F hd hlt hop
       . refine (Yp X F d (.box e x)).mono fun G hG=>zf.of_opS (kn:=false) hT none' ?_
         unfold opS
         rw [hd]
         dsimp only
         rw [hlt]
         dsimp only
         rw [hop]
         exact hG
     . rename_i x hop
       split
       . refine R.Sim.ok ?_
         rw [SF.put_er,ja]
         exact zf.of_asgP hd hlt hop
       . refine (Yp X F d (.assign x)).mono fun G hG=>zf.of_opS (kn:=false) hT none' ?_
         unfold opS
         rw [hd]
         dsimp only
         rw [hlt]
         dsimp only
         rw [hop]
         exact hG
     . rename_i hop
       exact qhw F hd hlt hop
     . rename_i x hop
       exact qol F hd hlt hop
     . rename_i h1 _ _ _ _
       refine (Yp X F d o.op).mono fun G hG=>zf.of_opS (kn:=false) hT none' ?_
       unfold opS
       rw [hd]
       dsimp only
       rw [hlt]
       dsimp only
       split
       . rename_i he;exact (h1 _ _ _ he).elim
       . exact hG
   . exact R.Sim.none'
def qqO:B->Option LL
 | .fz (.sl y)=>some y
 | _=>none
def qhF (X:SX)(F:SF)(o:Oper):Option (Nat×LL) :=
 match o.op with
 | .binOp .eql t x (.const (.slice none 0 0)) _=>(match qqO (z6 F x),X.T t,o.dst with
   | some y,some ⟨.sl _,_,_,_,_⟩,some d=>(match zL F.n d with | true=>some (d,y) | false=>none)
   | _,_,_=>none)
 | _=>none
theorem qgF {X:SX}{F:SF}{o:Oper}{d:Nat}{y:LL}(h:qhF X F o=some (d,y)):∃ t e g1 g2 g3 g4 x tn,X.T t=some ⟨.sl e,g1,g2,g3,g4⟩/\o.dst=some d/\zL F.er.n d=true/\o.op=.binOp .eql t x (.const (.slice none 0 0)) tn/\qjr (ev1 F.er x)=true/\ev1 F.er x=.fz (.sl y.rc):=by
 unfold qhF at h
 split at h
 . rename_i t x tn hop
   split at h
   . rename_i y' e g1 g2 g3 g4 d' hx ht hd
     split at h
     . rename_i hlt
       simp only [Option.some.injEq,Prod.mk.injEq] at h
       obtain ⟨rfl,rfl⟩:=h
       have hv:ev1 F.er x=.fz (.sl y'.rc):=by
        rw [<-qI]
        unfold qqO at hx
        split at hx
        . rename_i hv
          rw [hv]
          simp only [Option.some.injEq] at hx
          subst hx
          rfl
        . cases hx
       refine ⟨t,e,g1,g2,g3,g4,x,tn,ht,hd,hlt,hop,?_,hv⟩
       rw [hv]
       rfl
     . cases h
   . cases h
 . cases h
def qng (X:SX)(F:SF)(o:Oper):Option (Nat×jX×ByteArray) :=
 match o.op with
 | .lookup t x ix true=>(match X.T t,o.dst with
   | some ⟨.mp kt et,_,_,_,_⟩,some d=>(match qb5 X kt,X.T et,zL F.n d,z6 F x,z6 F ix with
     | true,some _,true,.fz (.mp g),.fz (.str s)=>some (d,g,s)
     | _,_,_,_,_=>none)
   | _,_=>none)
 | _=>none
theorem qf6 {P:Program}{X:SX} [zh] (hT:kD P X.T){F:SF}{o:Oper}{d:Nat}{g:jX}{s:ByteArray}(h:qng X F o=some (d,g,s)){ks:List K}{Post:Fr->Prop}{all:Array Oper}{l:List Oper}(hw:ko F.er all o true)
 (hy:Ex P (.r all l::ks) (F.put d (.tup [(false,[.fz (.bool false (g s))]),(false,[.fz (.bool true true)])])).er Post) (hno:Ex P (.r all l::ks) (F.put d (.tup [(false,[.un]),(false,[.fz (.bool true false)])])).er Post):Ex P (.r all (o::l)::ks) F.er Post:=by
 unfold qng at h
 split at h
 . rename_i t x ix hop
   split at h
   . rename_i kt et a1 a2 a3 a4 d' ht hd
     split at h
     . rename_i te g' s' hk he hlt hx hi
       simp only [Option.some.injEq,Prod.mk.injEq] at h
       obtain ⟨rfl,rfl,rfl⟩:=h
       obtain ⟨tk,h1,h2⟩:=qaa hk
       have hlt:zL F.er.n d'=true:=hlt
       refine Ex.op_look hT ht rfl h1 h2 he hw hd hlt hop (g:=g') (s:=s') (by rw [<-qI,hx];rfl) (by rw [<-qI,hi];rfl) ?_ ?_
       . rw [SF.put_er] at hy;exact hy
       . rw [SF.put_er] at hno;exact hno
     . cases h
   . cases h
 . cases h
def qq2 {α:Type}:Option α->Bool
 | none=>true
 | some _=>false
theorem qjN {α:Type}{x:Option α}(h:qq2 x=true):x=none:=by cases x with | none=>rfl | some _=>cases h
theorem Jr:∀ (l:List Oper) (n:Nat),KG l n=l[n]?
 | [],n=>rfl
 | o::r,0=>rfl
 | o::r,n+1=>by simp only [KG,Jr r n,List.getElem?_cons_succ]
theorem zf.le {P:Program}{F G H:Fr}{o:Oper}(h:LE F G)(ho:zf P G o H):zf P F o H:=by
 intro J a w σ hfut hF hd hn
 obtain ⟨h1,h2⟩:=h.fr hF hd
 have:=ho J a w σ hfut h1 h2 (by rw [h.n];exact hn)
 intro b k cs ops i rest hoi hw
 obtain ⟨a',w',σ',k1,k2,k3,k4,k5,k6,k7⟩:=this b k cs ops i rest hoi hw
 exact ⟨a',w',σ',k1,k2,k3,k4,k5.trans h.n,k6,k7⟩
theorem LE.put {F G:Fr}(h:LE F G)(d:Nat)(x:TV A):LE (F.put d x) (G.put d x):=by
 refine ⟨h.n,fun t=>?_,h.tb,h.has⟩
 show qa unT ((d,x)::G.tm) t=qa unT ((d,x)::F.tm) t
 rw [@qu qN,@qu qN,h.tm]
def qmD {α:Type}(M:MB)(p:α->Prop):List α->Prop
 | []=>True
 | x::r=>M.pAnd (p x) (qmD M p r)
theorem yX {α:Type}{p:α->Prop}:∀ {l:List α},qmD qn p l->∀ x∈l,p x
 | _::_,h,_,hx=>by
   obtain ⟨h1,h2⟩:p _/\qmD qn p _:=h
   rcases List.mem_cons.1 hx with rfl | hx
   . exact h1
   . exact yX h2 _ hx
noncomputable def qoA (M:MB)(X:SX)(ora:Qs)(ops:List Oper)(K:Nat->SF->Prop):Nat->List Nat->Nat->SF->Prop
 | _,[],j,F=>K j F
 | 0,_::_,_,_=>M.pNo 20
 | n+1,l::r,j,F=>qmD M (fun m=>match KG ops m with
   | some o=>(match Jj o (l::r) with
     | true=>(match qq2 o.guard with
       | true=>(match opB M X ora F o with
         | some (ps,G)=>VP M ps (qoA M X ora ops K n ((l::r).filter fun x=>!nq x m) (match nq m j with | true=>j+1 | false=>j) G)
         | none=>M.pNo 20)
       | false=>M.pNo 21)
     | false=>True)
   | none=>True) (j::l::r)
def JD (ops:List Oper):List Nat->SF->Option SF
 | [],F=>some F
 | l::r,F=>match KG ops l with
   | some o=>(match qgv o.op,o.dst with
     | true,some d=>JD ops r (F.put d unB)
     | _,_=>none)
   | none=>none
noncomputable def qhV (M:MB)(X:SX)(ora:Qs)(ops:List Oper)(os:Oper)(s:Nat)(ls:List Nat)(F:SF)(K:Nat->SF->Prop):Prop :=
 match JD ops ls F with
 | some G=>(match opB M X ora G os with
   | some (ps,H)=>VP M ps (qoA M X ora ops K 12 ls (s+1) H)
   | none=>M.pNo 25)
 | none=>M.pNo 26
noncomputable def qhH (M:MB)(X:SX)(ora:Qs)(ops:List Oper)(os:Oper)(s:Nat)(ls:List Nat)(F:SF)(K:Nat->SF->Prop):Prop :=
 match JD ops ls F with
 | some _=>qmD M (fun suf=>match v8 ops ls suf&&Jj os suf with
   | true=>qhV M X ora ops os s suf F K
   | false=>True) (qaF ls)
 | none=>M.pNo 26
theorem Vv {P:Program}{X:SX}(hT:kD P X.T)(hW:q8 P X){ora:Qs}(hO:qp P ora){ops:List Oper}{K:Nat->SF->Prop}{Q:Nat->Fr->Prop}(hK:∀ j G,K j G->Q j G.er):∀ (n:Nat) (ls:List Nat) (j:Nat) (F:SF),qoA qn X ora ops K n ls j F->qls P ops Q n ls j F.er
 | 0,[],j,F,h=>hK j F h
 | _+1,[],j,F,h=>hK j F h
 | 0,_::_,_,_,h=>h.elim
 | n+1,l::r,j,F,h=>by
   intro m o hm ho hfr
   have h1:=yX h m (by rcases hm with h | h;exact List.mem_cons_of_mem _ h;rw [h];exact List.mem_cons_self)
   rw [Jr,ho] at h1
   dsimp only at h1
   rw [hfr] at h1
   dsimp only at h1
   split at h1
   . rename_i hg
     split at h1
     . rename_i ps G hG
       obtain ⟨hps,h1⟩:=je ps _ h1
       exact ⟨G.er,qjN hg,qc0 hT hW hO F o ps G hG hps,Vv hT hW hO hK n _ _ G h1⟩
     . exact h1.elim
   . exact h1.elim
theorem ZD {P:Program}{ops:List Oper}{its:List It}{F0:SF}{DS:List Nat}{Gs:Nat->Fr}{k:Nat}(hit:∀ (i:Nat) (o:Oper),i<k->ops[i]?=some o->∃ x,its[i]?=some x/\qfP P ops F0 DS (Gs i) o x):∀ (ls:List Nat) (F G:SF) (Fc:Fr),(∀ l∈ls,l<k)->LE Fc F.er->JD ops ls F=some G->LE (jl its ls Fc) G.er/\∀ l∈ls,∀ x,its[l]?=some x->x.2.1=[]
 | [],F,G,Fc,_,hle,h=>by simp only [JD,Option.some.injEq] at h;subst h;exact ⟨hle,fun _ hl=>by cases hl⟩
 | l::r,F,G,Fc,hk,hle,h=>by
   simp only [JD] at h
   split at h
   . rename_i o ho
     rw [Jr] at ho
     split at h
     . rename_i d hnr hd
       obtain ⟨x,hx,hok⟩:=hit l o (hk l List.mem_cons_self) ho
       have hdx:dOf its l=d:=by
        unfold dOf
        rw [hx]
        have:=hok.dst
        rw [hd] at this
        injection this with this
        exact this.symm
       obtain ⟨h1,h2⟩:=ZD hit r (F.put d unB) G (Fc.put (dOf its l) unT) (fun m hm=>hk m (List.mem_cons_of_mem _ hm)) (by rw [hdx];exact hle.put d unT) h
       refine ⟨h1,fun m hm y hy=>?_⟩
       rcases List.mem_cons.1 hm with rfl | hm
       . rw [hx] at hy
         injection hy with hy
         subst hy
         exact hok.nr hnr
       . exact h2 m hm y hy
     . cases h
   . cases h
theorem qb2 {P:Program}{X:SX}(hT:kD P X.T)(hW:q8 P X){ora:Qs}(hO:qp P ora){ops:List Oper}{os:Oper}{its:List It}{F0:SF}{DS:List Nat}{Gs:Nat->Fr}{k s:Nat}(hit:∀ (i:Nat) (o:Oper),i<k->ops[i]?=some o->∃ x,its[i]?=some x/\qfP P ops F0 DS (Gs i) o x)
 {K:Nat->SF->Prop} {Q:Nat->Fr->Prop} (hK:∀ j G,K j G->Q j G.er) {F:SF} {Fc:Fr} (hle:LE Fc F.er) (ls:List Nat) (hl:∀ l∈ls,l<k) (h:qhH qn X ora ops os s ls F K):(∀ suf∈qaF ls,v8 ops ls suf=true->Jj os suf=true->∃ FB,zf P (jl its suf Fc) os FB/\qls P ops Q 12 suf (s+1) FB)/\∀ l∈ls,∀ x,its[l]?=some x->x.2.1=[]:=by
 unfold qhH at h
 split at h
 . rename_i G0 hG0
   refine ⟨fun suf hs hc hf=>?_,(ZD hit ls F G0 Fc hl hle hG0).2⟩
   have h:=yX h suf hs
   rw [hc,hf] at h
   have h:qhV qn X ora ops os s suf F K:=h
   have hsl:∀ l∈suf,l<k:=fun l hm=>hl l (YP hs l hm)
   unfold qhV at h
   split at h
   . rename_i G hG
     obtain ⟨h1,h2⟩:=ZD hit suf F G Fc hsl hle hG
     split at h
     . rename_i ps H hH
       obtain ⟨hps,h⟩:=je ps _ h
       exact ⟨H.er,zf.le h1 (qc0 hT hW hO G os ps H hH hps),Vv hT hW hO hK 12 suf (s+1) H h⟩
     . exact h.elim
   . exact h.elim
 . exact h.elim
noncomputable def wp (M:MB)(X:SX)(dr:Nat->Nat)(lv:Nat->List Nat)(ora:Qs)(fin:SF->Prop)(L N:List K->SF->Prop):Nat->List K->SF->Prop
 | 0,ks,F=>N ks F
 | n+1,ks,F=>(match ks with
   | []=>fin F
   | .bl _::ks=>wp M X dr lv ora fin L N n ks F
   | .lp b::ks=>wp M X dr lv ora fin L N n (.c (.loop b)::ks) F
   | .c x::ks=>(match x with
     | .skip=>wp M X dr lv ora fin L N n ks F
     | .region id ⟨ops⟩ d=>(match d with
       | false=>wp M X dr lv ora fin L N n (.r ⟨ops⟩ ops::ks) F
       | true=>(match nlt (dr id) 65536 with
         | true=>wpD M X ora ops F (J7 (yK ops (dr id))) (yK ops (dr id)) F fun G=>wp M X dr lv ora fin L N n (.r ⟨ops⟩ (Qy ops (dr id))::ks) G
         | false=>wpD M X ora ops F (J7 (yK ops (drS (dr id)))) (yK ops (drS (dr id))) F fun G=>(match KG ops (drS (dr id)) with
           | some os=>(match qq2 os.guard with
             | true=>qhH M X ora ops os (drS (dr id)) (qnw (dr id)) G fun j GA=>wp M X dr lv ora fin L N n (.r ⟨ops⟩ (Qy ops j)::ks) GA
             | false=>M.pNo 23)
           | none=>M.pNo 24)))
     | .seq a b=>wp M X dr lv ora fin L N n (.c a::.c b::ks) F
     | .cond y a b=>(match z6 F y with
       | .fz (.bool kn t)=>(match kn with
         | true=>(match t with
           | true=>wp M X dr lv ora fin L N n (.c a::ks) F
           | false=>wp M X dr lv ora fin L N n (.c b::ks) F)
         | false=>M.pAnd (M.pImp t (wp M X dr lv ora fin L N n (.c a::ks) F)) (M.pImp (M.bNot t) (wp M X dr lv ora fin L N n (.c b::ks) F)))
       | _=>M.pNo 10)
     | .block id b=>wp M X dr lv ora fin L N n (.c b::.bl id::ks) F
     | .loop b=>L (.c b::.lp b::ks) (F.keepB (lv (Wy b)))
     | .exit id=>(match JW id ks with
       | some ks'=>wp M X dr lv ora fin L N n ks' F
       | none=>M.pNo 11)
     | .ret=>fin F
     | _=>M.pNo 12)
   | .r all l::ks=>(match l with
     | []=>wp M X dr lv ora fin L N n ks F
     | o::l=>(match all with
       | ⟨al⟩=>Jp M al F o
         (fun F1=>w6 M F1 o fun F2=>(match qhF X F2 o with
           | some (d,y)=>M.pAnd (M.pImp (M.bEq (M.nI (y.len M)) 0) (wp M X dr lv ora fin L N n (.r ⟨al⟩ l::ks) (F2.put d (.v (false,[.fz (.bool true true)]))))) (wp M X dr lv ora fin L N n (.r ⟨al⟩ l::ks) (F2.put d (.v (false,[.fz (.bool true false)]))))
           | none=>(match qng X F2 o with
             | some (d,g,s)=>M.pAnd (wp M X dr lv ora fin L N n (.r ⟨al⟩ l::ks) (F2.put d (.tup [(false,[.fz (.bool false (g s))]),(false,[.fz (.bool true true)])]))) (wp M X dr lv ora fin L N n (.r ⟨al⟩ l::ks) (F2.put d (.tup [(false,[.un]),(false,[.fz (.bool true false)])])))
             | none=>(match opB M X ora F2 o with
               | some (ps,G)=>VP M ps (wp M X dr lv ora fin L N n (.r ⟨al⟩ l::ks) G)
               | none=>M.pNo 13))))
         (fun F1=>(match o.dst with
           | some d=>(match nlt d PH with | true=>wp M X dr lv ora fin L N n (.r ⟨al⟩ l::ks) (F1.put d (.v (false,[.ud]))) | false=>M.pNo 16)
           | none=>wp M X dr lv ora fin L N n (.r ⟨al⟩ l::ks) F1)))))
theorem Zr {α:Type}{l:List α}{k i:Nat}(h:i<k):(l.take k)[i]?=l[i]?:=by simp [List.getElem?_take,h]
theorem qgq {P:Program}{ops:List Oper}{k:Nat}{a:List Nat}{F:SF}{its:List It}(hle:k<=ops.length)(hall:∀ (i:Nat) (o:Oper),ops[i]?=some o->i<k->Zp ops a k i o=true)
 (k1:its.length=(ops.take k).length) (k4:∀ (i:Nat) (o:Oper) (x:It),(ops.take k)[i]?=some o->its[i]?=some x->qfP P ops F (J7 (ops.take k)) (frs F.er its i) o x) :
 Dyn ops k (qaX a) F.er its (frs F.er its)/\(∀ (i:Nat) (o:Oper) (x:It),ops[i]?=some o->its[i]?=some x->kv P ⟨ops⟩ (frs F.er its i) o x)/\(ops.take k).length=k:=by
 have hlen:its.length=k:=by rw [k1,List.length_take];omega
 have get:∀ (i:Nat) (x:It),its[i]?=some x->∃ o,i<k/\ops[i]?=some o/\qfP P ops F (J7 (ops.take k)) (frs F.er its i) o x:=by
  intro i x hx
  have hi:i<k:=by rw [<-hlen];exact (List.getElem?_eq_some_iff.1 hx).1
  have ho:ops[i]?=some ops[i]:=List.getElem?_eq_getElem (by omega)
  exact ⟨ops[i],hi,ho,k4 i _ x (by rw [Zr hi];exact ho) hx⟩
 have hmem:∀ (j:Nat) (y:It),its[j]?=some y->y.1∈J7 (ops.take k):=by
  intro j y hy
  obtain ⟨o,hj,ho,hio⟩:=get j y hy
  have hin:o∈ops.take k:=List.mem_of_getElem? (i:=j) (by rw [Zr hj];exact ho)
  have key:∀ l:List Oper,o∈l->y.1∈J7 l:=by
   intro l
   induction l with
   | nil=>intro h;cases h
   | cons a l ihl =>
     intro hm
     simp only [J7]
     rcases List.mem_cons.1 hm with rfl | hm
     . rw [hio.dst];exact List.mem_cons_self
     . split
       . exact List.mem_cons_of_mem _ (ihl hm)
       . exact ihl hm
  exact key _ hin
 have hpair:∀ (i j:Nat) (o o':Oper) (d d':Nat),i<k->j<k->ops[i]?=some o->ops[j]?=some o'->o.dst=some d->o'.dst=some d' →
  (d=d'->i=j)/\(d'∈lkM ops o->qaX a i j/\j<i):=by
  intro i j o o' d d' hi hj ho ho' hd hd'
  have:=hall i o ho hi
  unfold Zp at this
  rw [hd] at this
  dsimp only at this
  have:=List.all_eq_true.1 this j (List.mem_range.2 hj)
  rw [ho'] at this
  dsimp only at this
  rw [hd'] at this
  simp only [Bool.and_eq_true,Bool.or_eq_true,Bool.not_eq_true'] at this
  obtain ⟨h1,h2⟩:=this
  refine ⟨fun e=>?_,fun hm=>?_⟩
  . subst e
    rcases h1 with h1 | h1
    . simp at h1
    . exact Nat.eq_of_beq_eq_true h1
  . rcases h2 with h2 | h2
    . rw [List.contains_iff_mem.2 hm] at h2;cases h2
    . exact ⟨h2.1,Nat.lt_of_succ_le (qz h2.2)⟩
 refine ⟨⟨hlen,?_,?_,?_,?_,?_,rfl,?_⟩,?_,by rw [List.length_take];omega⟩
 . intro i j x y hx hy he
   obtain ⟨o,hi,ho,hio⟩:=get i x hx
   obtain ⟨o',hj,ho',hjo⟩:=get j y hy
   exact (hpair i j o o' _ _ hi hj ho ho' hio.dst hjo.dst).1 he
 . intro i j o y hi ho hy hm
   obtain ⟨o',hj,ho',hjo⟩:=get j y hy
   obtain ⟨x,hx⟩:∃ x,its[i]?=some x:=⟨its[i]'(by omega),List.getElem?_eq_getElem _⟩
   obtain ⟨o2,_,ho2,hio⟩:=get i x hx
   rw [ho] at ho2
   injection ho2 with ho2
   subst ho2
   exact (hpair i j o o' _ _ hi hj ho ho' hio.dst hjo.dst).2 hm
 . intro j y hy
   obtain ⟨o,_,_,hjo⟩:=get j y hy
   exact hjo.fr
 . intro j y hy
   obtain ⟨o,_,_,hjo⟩:=get j y hy
   exact hjo.blk
 . intro i o hi ho t ht id' hid j y hy he
   obtain ⟨x,hx⟩:∃ x,its[i]?=some x:=⟨its[i]'(by omega),List.getElem?_eq_getElem _⟩
   obtain ⟨o2,_,ho2,hio⟩:=get i x hx
   rw [ho] at ho2
   injection ho2 with ho2
   subst ho2
   rcases hio.ids t ht id' hid with h | h
   . exact h
   . rw [he] at h
     exact (h (hmem j y hy)).elim
 . intro i x hx
   unfold frs
   rw [List.take_add_one,hx]
   simp
 . intro i o x ho hx
   obtain ⟨o2,_,ho2,hio⟩:=get i x hx
   rw [ho] at ho2
   injection ho2 with ho2
   subst ho2
   exact hio.item
theorem Yz [zh] {P:Program}{X:SX}(hT:kD P X.T)(hW:q8 P X){dr:Nat->Nat}{lv:Nat->List Nat}{ora:Qs}(hO:qp P ora){fin:SF->Prop}{L N:List K->SF->Prop}{Post:Fr->Prop}(hfin:∀ F,fin F->Post F.er)
 (hL:∀ ks F,(∀ k∈ks,kOK dr k=true)->L ks F->Ex P ks F.er Post) (hN:∀ ks F,(∀ k∈ks,kOK dr k=true)->N ks F->Ex P ks F.er Post):∀ (n:Nat) (ks:List K) (F:SF),(∀ k∈ks,kOK dr k=true)->wp qn X dr lv ora fin L N n ks F->Ex P ks F.er Post:=by
 intro n
 induction n with
 | zero=>intro ks F hk h;exact hN ks F hk h
 | succ n ih =>
   intro ks F hk h
   cases ks with
   | nil=>exact Ex.nil (hfin F h)
   | cons k ks =>
     have hks:∀ k∈ks,kOK dr k=true:=fun x hx=>hk x (List.mem_cons_of_mem _ hx)
     have hk0:=hk k List.mem_cons_self
     have cons1:∀ k',kOK dr k'=true->∀ x∈k'::ks,kOK dr x=true:=fun k' h' x hx=>(List.mem_cons.1 hx).elim (fun e=>e▸h') (hks x)
     have cons2:∀ k' k'',kOK dr k'=true->kOK dr k''=true->∀ x∈k'::k''::ks,kOK dr x=true:=fun k' k'' h' h'' x hx=>(List.mem_cons.1 hx).elim (fun e=>e▸h') (cons1 k'' h'' x)
     cases k with
     | bl id=>exact Ex.bl (ih ks F hks h)
     | lp b=>exact Ex.lp (ih _ F (cons1 _ hk0) h)
     | r all l =>
       obtain ⟨al⟩:=all
       cases l with
       | nil=>exact Ex.reg_end (ih ks F hks h)
       | cons o l =>
         simp only [wp] at h
         obtain ⟨F1,h1,h2⟩:=Ku h
         refine Ex.le h1 ?_
         rcases h2 with ⟨hw,h2⟩ | ⟨hw,h2⟩
         . obtain ⟨F2,h3,h4⟩:=K4 h2
           refine Ex.le h3 ?_
           split at h4
           . rename_i d y hd
             obtain ⟨k1,k2⟩:_/\_:=h4
             obtain ⟨t,e,g1,g2,g3,g4,x,tn,q1,q2,q3,q4,q5,q6⟩:=qgF hd
             refine Ex.op_nil hT q1 (hw.le h3) q2 q3 q4 q5 fun b hb=>?_
             cases b with
             | true =>
               refine ih _ _ (cons1 _ rfl) (k1 ?_)
               have h7:=hb rfl _ q6
               have h8:y.len qn=0:=by rw [<-LL.len_rc,h7];rfl
               show (((y.len qn:Nat):Int) == 0)=true
               rw [h8]
               rfl
             | false=>exact ih _ _ (cons1 _ rfl) k2
           . split at h4
             . rename_i d g s hlk
               obtain ⟨k1,k2⟩:_/\_:=h4
               exact qf6 hT hlk (hw.le h3) (ih _ _ (cons1 _ rfl) k1) (ih _ _ (cons1 _ rfl) k2)
             . split at h4
               . rename_i ps G hG
                 obtain ⟨hps,h5⟩:=je ps _ h4
                 exact Ex.op (hw.le h3) (qc0 hT hW hO F2 o ps G hG hps) (ih _ G (cons1 _ rfl) h5)
               . exact h4.elim
         . refine Ex.op_not hw ?_
           unfold Jh
           split at h2
           . rename_i d hd
             split at h2
             . rename_i hph
               rw [hd]
               dsimp only
               rw [hph]
               exact ih _ _ (cons1 _ rfl) h2
             . exact h2.elim
           . rename_i hd
             rw [hd]
             exact ih _ _ (cons1 _ rfl) h2
     | c x =>
       simp only [wp] at h
       cases x with
       | skip=>exact Ex.skip (ih ks F hks h)
       | region id ops d =>
         obtain ⟨ops⟩:=ops
         cases d with
         | false=>exact Ex.reg (ih _ F (cons1 _ rfl) h)
         | true =>
           dsimp only at h
           have hk0':(match nlt (dr id) 65536 with
            | true=>qbi ops (dr id)||(nq (dr id) ops.length&&Y8 ops)
            | false=>qak ops (drS (dr id)) (qnw (dr id)))=true:=hk0
           split at h
           . rename_i hlt
             rw [hlt] at hk0'
             have hst:(qbi ops (dr id)||(nq (dr id) ops.length&&Y8 ops))=true:=hk0'
             rw [qfa] at h
             rw [Bool.or_eq_true] at hst
             rcases hst with hst | hst
             . obtain ⟨hle,hall⟩:=qbv hst
               obtain ⟨its,G,k1,k2,k3,k4⟩:=v7 hT hO (ops.take (dr id)) F F.er (LE.refl _) h
               obtain ⟨hD,hit,hlt⟩:=qgq hle (fun i o ho hi=>(hall i o ho).2.1 hi) k1 k4
               rw [hlt] at k3
               refine Ex.draw (qid hst) hD hit (Ex.le k3 ?_)
               rw [jL] at k2
               exact ih _ G (cons1 _ rfl) k2
             . simp only [Bool.and_eq_true] at hst
               obtain ⟨hk,hst⟩:=hst
               have hk:=Nat.eq_of_beq_eq_true hk
               obtain ⟨hst2,hall⟩:=qgC hst
               obtain ⟨its,G,k1,k2,k3,k4⟩:=v7 hT hO (ops.take (dr id)) F F.er (LE.refl _) h
               obtain ⟨hD,hit,hlt⟩:=qgq (Nat.le_of_eq hk) (fun i o ho hi=>by rw [hk];exact hall i o ho) k1 k4
               rw [hlt] at k3
               rw [hk] at hD k3 k2
               refine Ex.draw2 hst2 hD hit (Ex.le k3 ?_)
               rw [jL,List.drop_length] at k2
               exact ih _ G (cons1 _ rfl) k2
           . rename_i hlt
             rw [hlt] at hk0'
             have hst:qak ops (drS (dr id)) (qnw (dr id))=true:=hk0'
             obtain ⟨hst4,hall⟩:=qhD hst
             rw [qfa] at h
             obtain ⟨its,G,k1,k2,k3,k4⟩:=v7 hT hO (ops.take (drS (dr id))) F F.er (LE.refl _) h
             obtain ⟨hD,hit,hlt2⟩:=qgq (Nat.le_of_lt hst4.sl) (fun i o ho hi=>hall i o ho hi) k1 k4
             rw [hlt2] at k3
             split at k2
             . rename_i os hos
               rw [Jr] at hos
               split at k2
               . rename_i hgs
                 have hgs:=qjN hgs
                 have hits:∀ (i:Nat) (o:Oper),i<drS (dr id)->ops[i]?=some o->∃ x,its[i]?=some x/\qfP P ops F (J7 (ops.take (drS (dr id)))) (frs F.er its i) o x:=by
                  intro i o hi ho
                  obtain ⟨x,hx⟩:∃ x,its[i]?=some x:=⟨its[i]'(by rw [hD.len];exact hi),List.getElem?_eq_getElem _⟩
                  exact ⟨x,hx,k4 i o x (by rw [Zr hi];exact ho) hx⟩
                 obtain ⟨hV,hxr⟩:=qb2 hT hW hO hits (Q:=fun j G=>Ex P (.r ⟨ops⟩ (ops.drop j)::ks) G Post) (fun j GA hGA=>ih _ GA (cons1 _ rfl) (by rw [jL] at hGA;exact hGA)) k3 (qnw (dr id)) hst4.ll k2
                 exact Ex.draw4 hst4 hD hit hos hgs hxr hV
               . exact k2.elim
             . exact k2.elim
       | seq a b =>
         have hab:kZ dr a=true/\kZ dr b=true:=by simpa [kOK,kZ] using hk0
         exact Ex.seq (ih _ F (cons2 _ _ hab.1 hab.2) h)
       | cond y a b =>
         have hab:kZ dr a=true/\kZ dr b=true:=by simpa [kOK,kZ] using hk0
         dsimp only at h
         split at h
         . rename_i kn t hy
           have hy':ev1 F.er y=.fz (.bool t):=by rw [<-qI,hy];rfl
           have h':(t=true->wp qn X dr lv ora fin L N n (.c a::ks) F)/\(t=false->wp qn X dr lv ora fin L N n (.c b::ks) F):=by
            cases kn with
            | true=>cases t with
              | true=>exact ⟨fun _=>h,fun e=>by cases e⟩
              | false=>exact ⟨(fun e=>by cases e),fun _=>h⟩
            | false =>
              obtain ⟨h1,h2⟩:(t=true->_)/\((!t)=true->_):=h
              exact ⟨h1,fun e=>h2 (by rw [e];rfl)⟩
           clear h
           refine Ex.cond hy' ?_
           cases t with
           | true=>exact ih _ F (cons1 _ hab.1) (h'.1 rfl)
           | false=>exact ih _ F (cons1 _ hab.2) (h'.2 rfl)
         . exact h.elim
       | block id b=>exact Ex.block (ih _ F (cons2 _ _ hk0 rfl) h)
       | loop b =>
         refine Ex.loop (lv (Wy b)) ?_
         rw [<-ZI]
         exact hL _ _ (cons2 _ _ hk0 hk0) h
       | exit id =>
         dsimp only at h
         split at h
         . rename_i ks' hp
           exact Ex.exit hp (ih ks' F (fun k hk'=>hks k ((@ww qN _ _ _ hp).2 k hk')) h)
         . exact h.elim
       | ret=>exact Ex.ret (hfin F h)
       | _=>exact h.elim
def qcd:Nat->List (V1 D)->List (Nat×TV B)
 | _,[]=>[]
 | i,x::r=>(i,.v (x.1,fzB x.2))::qcd (i+1) r
def qq5 (n:Nat)(args:List (V1 D)):SF:=⟨n,qcd 0 args,[]⟩
theorem qp7 (n:Nat)(args:List (V1 D)):(qq5 n args).er=enter n (qx D.erL args):=by
 have key:∀ (l:List (V1 D)) (i:Nat),jm (qcd i l)=Zg i (qx D.erL l):=by
  intro l
  induction l with
  | nil=>intro i;rfl
  | cons x l ih=>intro i;simp only [qcd,jm,qx,Zg,ih,TV.er,kb,qh1]
 unfold qq5 enter SF.er
 simp only [key]
 rfl
def qq1 (M:MB)(F:SF):Array ResultVar->R SF
 | ⟨[.tmp t]⟩=>(match qa unB F.tm t with
   | .v (false,[.rf (r,[]) false off n])=>(F.atR M (r,[])).bd fun o=>(match o with
     | .osl x=>(match x.flat with
       | true=>(match x.here with
         | true=>(match x.cut M 0 n with
           | some y=>(match qkI (qiI (r,[])) F.tm with
             | some tm=>some ([M.pEqN off 0,M.pLtN 0 n,M.pLeN n (x.len M)],⟨F.n,(t,.v (false,[.rf (r,[]) true 0 n]))::tm,(r,.osl y)::del F.tb r⟩)
             | none=>none)
           | none=>none)
         | false=>none)
       | false=>none)
     | _=>none)
   | _=>none)
 | _=>none
theorem qm7 (F:SF)(rs:Array ResultVar):(qq1 qn F rs).Sim fun G=>∃ t r n xs,qj2 F.er t r n xs/\F.er.shr std t r n xs=G.er:=by
 unfold qq1
 split
 . rename_i t
   split
   . rename_i r off n hx
     refine R.Sim.bd (F.atR_sim (r,[])) fun o ho=>?_
     split
     . rename_i x
       split
       . rename_i hfl
         split
         . rename_i hh
           split
           . rename_i y hy
             split
             . rename_i tm htm
               refine R.Sim.mk fun hp=>?_
               obtain ⟨h1,h2,h3⟩:=hp.three
               have h1:off=0:=h1
               have h2:0<n:=h2
               have h3:n<=x.len qn:=h3
               subst h1
               have ho:F.er.at std (r,[])=.osl x.ro:=ho
               refine ⟨t,r,n,x.ro,⟨?_,ho,LL.flat_ro x hfl hh,h2,by rw [LL.len_ro];exact h3⟩,?_⟩
               . show qa unT (jm F.tm) t=_
                 rw [QE,hx]
                 rfl
               . have e1:=wD (τ':=ze std (r,[])) (fun x r' h=>Vo (p:=(r,[])) h) F.tm htm
                 have e2:std.oCut x.ro 0 n=y.ro:=(LL.cut_ro hy).symm
                 unfold Fr.shr
                 rw [e2]
                 show Fr.mk F.n ((t,TV.v (false,[A.rf (r,[]) 0 n]))::ZE (ze std (r,[])) (jm F.tm)) ((r,O.osl y.ro)::del (zy F.tb) r)=_
                 rw [e1,YM]
                 rfl
             . exact R.Sim.none'
           . exact R.Sim.none'
         . exact R.Sim.none'
       . exact R.Sim.none'
     . exact R.Sim.none'
   . exact R.Sim.none'
 . exact R.Sim.none'
def qeH (M:MB)(T:Nat->Option Ty)(rs:Array ResultVar)(R:TV W->Prop)(F:SF):Prop:=match qq1 M F rs with
 | some (ps,G)=>VP M ps (match yl M T G rs with
   | some (ps,r)=>VP M ps (R r)
   | none=>M.pNo 22)
 | none=>(match yl M T F rs with
   | some (ps,r)=>VP M ps (R r)
   | none=>(match rs with
     | ⟨l⟩=>(match qjJ M T F l with
       | some (ps,xs)=>VP M ps (R (qqN xs))
       | none=>M.pNo 14)))
def qqU (T:Nat->Option Ty)(rs:Array ResultVar)(r:TV W)(F:Fr):Prop:=QH std T false F rs=some (r.er W.erL)\/(∃ xs,vo std T F rs.toList=some xs/\qjL xs=r.er W.erL)\/∃ t r0 n xs,qj2 F t r0 n xs/\QH std T false (F.shr std t r0 n xs) rs=some (r.er W.erL)
theorem qf7 {T:Nat->Option Ty}{rs:Array ResultVar}{r:TV W}{F:SF}(h:qeH qn T rs (fun r'=>r'.er W.erL=r.er W.erL) F):qqU T rs r F.er:=by
 unfold qeH at h
 split at h
 . rename_i ps G he
   obtain ⟨h1,h2⟩:=je ps _ h
   split at h2
   . rename_i ps2 r' he2
     obtain ⟨h3,h4⟩:=je ps2 _ h2
     obtain ⟨t,r0,n,xs,h5,h6⟩:=qm7 F rs ps G he h1
     right;right
     refine ⟨t,r0,n,xs,h5,?_⟩
     rw [h6,Vh T G rs ps2 r' he2 h3,h4]
   . exact h2.elim
 . split at h
   . rename_i ps r' he
     obtain ⟨h1,h2⟩:=je ps _ h
     left
     rw [Vh T F rs ps r' he h1,h2]
   . obtain ⟨l⟩:=rs
     dsimp only at h
     split at h
     . rename_i ps xs he
       obtain ⟨h1,h2⟩:=je ps _ h
       right;left
       exact ⟨_,qa9 T F l ps xs he h1,by rw [qob,h2]⟩
     . exact h.elim
def SEx (P:Program)(T:Nat->Option Ty)(dr:Nat->Nat)(rs:Array ResultVar)(ks:List K)(F:SF)(r:TV W):Prop:=(∀ k∈ks,kOK dr k=true)->@Ex _ qao P ks F.er (qqU T rs r)
theorem SEx.walk {P:Program}{X:SX}(hT:kD P X.T){dr:Nat->Nat}(lv:Nat->List Nat){ora:Qs}(hO:qp P ora){rs:Array ResultVar}{ks:List K}{F:SF}{r:TV W}(n:Nat)
 (h:∀ (M:MB) (R:TV W->Prop) (L N:List K->SF->Prop),M=qn->(∀ r',r'.er W.erL=r.er W.erL->R r')->(∀ ks F,SEx P X.T dr rs ks F r->L ks F)->(∀ ks F,SEx P X.T dr rs ks F r->N ks F)->wp M X dr lv ora (qeH M X.T rs R) L N n ks F) (hW:q8 P X:=by exact fun _ _ _=>Y9):SEx P X.T dr rs ks F r:=by
 intro hk
 letI:zh:=qao
 refine Yz hT hW hO (fin:=qeH qn X.T rs fun r'=>r'.er W.erL=r.er W.erL) (L:=fun ks F=>SEx P X.T dr rs ks F r) (N:=fun ks F=>SEx P X.T dr rs ks F r) ?_ (fun ks F hk h=>h hk) (fun ks F hk h=>h hk) n ks F hk (h qn _ _ _ rfl (fun _ h=>h) (fun _ _ h=>h) (fun _ _ h=>h))
 exact fun F hF=>qf7 hF
def qe (P:Program)(g:FuncId)(args:List (V1 D))(r:TV W):Prop:=zJ P g (qx D.erL args) (r.er W.erL)
theorem qe.of {P : Program} {T : Nat → Option Ty} (hT : kD P T) {g : FuncId} {fn : Func} {c : Code} {args : List (V1 D)} {r : TV W} {dr : Nat → Nat} (hf : P.funcs[g]? = some fn) (hb : fn.body = some c) (hnm : (fn.name == "runtime.NumGoroutine") = false) (h1 : (nle (cnt args) fn.ntmps && nle (cnt args) 1000) = true) (hc : kZ dr c = true)
 (h:SEx P T dr fn.results [.c c] (qq5 fn.ntmps args) r):qe P g args r:=by
 rw [Bool.and_eq_true] at h1
 have hl:∀ l:List (V1 D),(qx D.erL l).length=cnt l:=by intro l;induction l with | nil=>rfl | cons x l ih=>simp [qx,cnt,ih]
 refine @zJ.of_Ex _ qao _ _ hT _ _ _ _ _ false hf hb hnm ?_ ?_ ?_
 . rw [hl]
   exact qz h1.1
 . rw [hl]
   exact Nat.le_trans (qz h1.2) (by decide)
 . have:=h (fun k hk=>by simp at hk;subst hk;exact hc)
   rwa [qp7] at this
theorem SEx.ind {P:Program}{T:Nat->Option Ty}{dr:Nat->Nat}{rs:Array ResultVar}{ks:List K}{α:Type}(f:α->SF)(R:α->TV W)(Inv:α->Prop)(μ:α->Nat)(x0:α)(hI:Inv x0)
 (step:∀ x,Inv x->(∀ y,Inv y->μ y<μ x->SEx P T dr rs ks (f y) (R y))->SEx P T dr rs ks (f x) (R x)):SEx P T dr rs ks (f x0) (R x0):=by
 have key:∀ n x,μ x=n->Inv x->SEx P T dr rs ks (f x) (R x):=by
  intro n
  induction n using Nat.strongRecOn with
  | _ n ih =>
    intro x hx hI
    exact step x hI (fun y hy hlt=>ih (μ y) (by omega) y rfl hy)
 exact key _ x0 rfl hI
theorem SEx.keep {P:Program}{T:Nat->Option Ty}{dr:Nat->Nat}{rs:Array ResultVar}{ks:List K}{F:SF}{r:TV W}(l:List Nat)(h:SEx P T dr rs ks (F.keepB l) r):SEx P T dr rs ks F r:=by
 intro hk
 have:=h hk
 rw [ZI] at this
 exact @Ex.weak _ qao _ _ _ _ (F.er.keep l) rfl (fun J σ w vt hF hd=>by letI:=J;exact Kb hF hd l) this
def qqh:List K->Nat
 | .r _ (o::_)::_=>(match o.dst with | some d=>d+1 | none=>0)
 | _=>0
def SF.trimB (F:SF)(lv:Nat->Option (List Nat))(n:Nat):SF:=match lv n with | some l=>F.keepB l | none=>F
theorem SEx.trim {P:Program}{T:Nat->Option Ty}{dr:Nat->Nat}{rs:Array ResultVar}{ks:List K}{F:SF}{r:TV W}(lv:Nat->Option (List Nat))(h:SEx P T dr rs ks (F.trimB lv (qqh ks)) r):SEx P T dr rs ks F r:=by
 unfold SF.trimB at h
 split at h
 . exact SEx.keep _ h
 . exact h
theorem SEx.go {P:Program}{X:SX}(hT:kD P X.T){dr:Nat->Nat}(lv:Nat->List Nat)(lt:Nat->Option (List Nat)){ora:Qs}(hO:qp P ora){rs:Array ResultVar}{ks:List K}{F:SF}{r:TV W}(n:Nat)
 (h:∀ (M:MB) (R:TV W->Prop) (L N:List K->SF->Prop),M=qn->(∀ p q:Prop,p->q->M.pAnd p q)->(∀ (b:Bool) (p:Prop),(b=true->p)->M.pImp b p)->(∀ r',r'.er W.erL=r.er W.erL->R r')->(∀ ks F,SEx P X.T dr rs ks F r->L ks F) →
   (∀ ks F,wp M X dr lv ora (qeH M X.T rs R) L N n ks (F.trimB lt (qqh ks))->N ks F)->wp M X dr lv ora (qeH M X.T rs R) L N n ks F) (hW:q8 P X:=by exact fun _ _ _=>Y9):SEx P X.T dr rs ks F r:=by
 have key:∀ ks F,wp qn X dr lv ora (qeH qn X.T rs fun r'=>r'.er W.erL=r.er W.erL) (fun ks F=>SEx P X.T dr rs ks F r) (fun ks F=>SEx P X.T dr rs ks F r) n ks F->SEx P X.T dr rs ks F r:=by
  intro ks F hw hk
  letI:zh:=qao
  refine Yz hT hW hO (fin:=qeH qn X.T rs fun r'=>r'.er W.erL=r.er W.erL) (L:=fun ks F=>SEx P X.T dr rs ks F r) (N:=fun ks F=>SEx P X.T dr rs ks F r) ?_ (fun ks F hk h=>h hk) (fun ks F hk h=>h hk) n ks F hk hw
  exact fun F hF=>qf7 hF
 exact key ks F (h qn _ _ _ rfl (fun _ _ h1 h2=>⟨h1,h2⟩) (fun _ _ h=>h) (fun _ h=>h) (fun _ _ h=>h) (fun ks F hw=>SEx.trim lt (key ks _ hw)))
theorem SEx.same {P:Program}{T:Nat->Option Ty}{dr:Nat->Nat}{rs:Array ResultVar}{ks:List K}{F G:SF}{r r':TV W}(h:SEx P T dr rs ks G r')(he:G.er=F.er)(hr:r'.er W.erL=r.er W.erL):SEx P T dr rs ks F r:=by
 intro hk
 have:=h hk
 unfold qqU at this ⊢
 rw [he,hr] at this
 exact this
end Go.Proofs.YtifnopmkdempdaaGreat.Ai
namespace Go.Proofs.YtifnopmkdempdaaGreat.Ai
open Go
variable [qi]
theorem qq.frzOwn [qk] {w:World}{σ σ':Gh}(hst:kQ w σ w σ'){p:qj}{o:O}{v:Value}(h:qq w σ p o v):o.clean=true →
 (∀ g s n cap sz,σ g=some ⟨(p.1,p.2++s),n,cap,sz⟩->jO σ' g)->qt w σ' o.frz v:=by
 induction h with
 | un p v hv=>intro h;cases h
 | fz p c v h=>exact fun _ _=>h.move (Nat.le_refl _) hst
 | oslz p b=>exact fun _ _=>qt.sl [] 0 b 0 (fun _ _=>undef) (Nat.le_refl _) (by simp) (by simp) (by simp) (by simp)
 | osl p xs e sz g cap cur us hh hc hcm hl hs hg hm hr ih =>
   intro hcl hfr
   simp only [O.clean,O.cleanLL_eq,List.all_eq_true] at hcl
   have hlen:(O.frzLL xs).length=xs.length:=by simp [O.frzLL_eq]
   show qt w σ' (.sl (O.frzLL xs)) _
   rw [<-hlen]
   have hget:∀ (i j:Nat) (y:List C) (c:C),(O.frzLL xs)[i]?=some y->y[j]?=some c->∃ y' o,xs[i]?=some y'/\y'[j]?=some o/\c=o.frz:=by
    intro i j y c hi hj
    rw [O.frzLL_eq,List.getElem?_map] at hi
    cases hx:xs[i]? with
    | none=>rw [hx] at hi;simp at hi
    | some y' =>
      rw [hx] at hi
      simp at hi
      subst hi
      rw [List.getElem?_map] at hj
      cases ho:y'[j]? with
      | none=>rw [ho] at hj;simp at hj
      | some o=>rw [ho] at hj;simp at hj;exact ⟨y',o,rfl,ho,hj.symm⟩
   refine qt.sl _ sz _ cap us (by omega) ?_ (fun _=>⟨_,rfl,rfl,kR hh,hfr g [] _ _ _ (by simpa using hg)⟩) ?_ ?_
   . intro y hy
     rw [O.frzLL_eq] at hy
     obtain ⟨y',hy',rfl⟩:=List.mem_map.1 hy
     simpa using hs y' hy'
   . intro ad e i j y c hi hj
     injection e with e
     subst e
     obtain ⟨y',o,h1,h2,rfl⟩:=hget i j y c hi hj
     rw [qZ]
     simp only [World.cell?,hh]
     simpa using hm i j y' o h1 h2
   . intro i j y c hi hj
     obtain ⟨y',o,h1,h2,rfl⟩:=hget i j y c hi hj
     refine ih i j y' o h1 h2 (hcl y' (List.mem_of_getElem? h1) o (List.mem_of_getElem? h2)) fun g s n cap sz hg=>?_
     exact hfr g ((i,j)::s) n cap sz (by simpa using hg)
 | obx p cs g e cells us n' cap sz hh hl hg hm hr ih =>
   intro hcl hfr
   simp only [O.clean,O.cleanL_eq,List.all_eq_true] at hcl
   show qt w σ' (.ptr (O.frzL cs)) _
   have hget:∀ (j:Nat) (c:C),(O.frzL cs)[j]?=some c->∃ o,cs[j]?=some o/\c=o.frz:=by
    intro j c hj
    rw [O.frzL_eq,List.getElem?_map] at hj
    cases ho:cs[j]? with
    | none=>rw [ho] at hj;simp at hj
    | some o=>rw [ho] at hj;simp at hj;exact ⟨o,rfl,hj.symm⟩
   refine qt.ptr _ _ us rfl (kR hh) (hfr g [] _ _ _ (by simpa using hg)) ?_ ?_
   . intro j c hj
     obtain ⟨o,h1,rfl⟩:=hget j c hj
     rw [qZ]
     simp only [World.cell?,hh]
     simpa using hm j o h1
   . intro j c hj
     obtain ⟨o,h1,rfl⟩:=hget j c hj
     refine ih j o h1 (hcl o (List.mem_of_getElem? h1)) fun g s n cap sz hg=>?_
     exact hfr g ((0,j)::s) n cap sz (by simpa using hg)
def FzA (r:Nat)(c:C)(n:Nat)(a b:A):Prop:=(a=.rf (r,[]) 0 n/\b=.fz c)\/(b=a/\r∉a.ids)
def FzL (r:Nat)(c:C)(n:Nat)(x y:List A):Prop:=x.length=y.length/\∀ (j:Nat) (a b:A),x[j]?=some a->y[j]?=some b->FzA r c n a b
def FzT (r:Nat)(c:C)(n:Nat):TV A->TV A->Prop
 | .v x,.v y=>x.1=y.1/\FzL r c n x.2 y.2
 | .tup xs,.tup ys=>xs.length=ys.length/\∀ (k:Nat) (x y:V1 A),xs[k]?=some x->ys[k]?=some y->x.1=y.1/\FzL r c n x.2 y.2
 | _,_=>False
theorem FzL.back {r:Nat}{c:C}{n:Nat}{x y:List A}(h:FzL r c n x y){j:Nat}{b:A}(hb:y[j]?=some b):∃ a,x[j]?=some a/\FzA r c n a b:=by
 have hj:j<x.length:=by rw [h.1];exact (List.getElem?_eq_some_iff.1 hb).1
 exact ⟨x[j],List.getElem?_eq_getElem hj,h.2 j _ b (List.getElem?_eq_getElem hj) hb⟩
structure qsL (F:Fr)(r:Nat)(xs:List (List O))(G:Fr):Prop where
 n:G.n=F.n
 lies:F.at std (r,[])=.osl xs
 cl:O.cleanLL xs=true
 tb:∀ id,qa .un G.tb id=if id=r then .un else qa .un F.tb id
 tm:∀ t,FzT r (.sl (O.frzLL xs)) xs.length (qa unT F.tm t) (qa unT G.tm t)
theorem qmk {F G:Fr}{r:Nat}{xs:List (List O)}(h:qsL F r xs G){J:qk}{σ:Gh}{w:World}{vt:Nat->Value}(hF:FR F σ w vt)(hd:Dom F σ [])(hnf:@NF qao J σ):∃ σ',FR G σ' w vt/\Dom G σ' []/\qJ w σ w σ':=by
 let σ':Gh:=fun g=>match σ g with | some y=>if y.p.1=r then none else some y | none=>none
 have hk:∀ g y,σ g=some y->y.p.1≠r->σ' g=some y:=by intro g y hy hi;simp only [σ',hy,if_neg hi]
 have hsub:∀ g y,σ' g=some y->σ g=some y/\y.p.1≠r:=by
  intro g y hy
  simp only [σ'] at hy
  split at hy
  . rename_i z hz
    split at hy
    . cases hy
    . rename_i hi;injection hy with hy;subst hy;exact ⟨hz,hi⟩
  . cases hy
 have hst:kQ w σ w σ':=⟨fun b _ h0=>by simp only [σ',h0],fun _ _ _=>.inl rfl⟩
 obtain ⟨u,hu⟩:=zl hF (r,[])
 rw [h.lies] at hu
 have hfree:∀ g s n cap sz,σ g=some ⟨(r,[]++s),n,cap,sz⟩->jO σ' g:=fun g s n cap sz hg=>⟨by simp only [σ',hg,if_true],hnf rfl g _ hg⟩
 have hown:∀ v,ql w σ (.rf (r,[]) 0 xs.length) v->qt w σ' (.sl (O.frzLL xs)) v:=by
  intro v hv
  have hfz:qt w σ' (.sl (O.frzLL xs)) u:=hu.frzOwn hst h.cl hfree
  generalize hlen:xs.length=len at hv
  cases hv with
  | rz _ _ b =>
    have:xs=[]:=List.eq_nil_of_length_eq_zero hlen
    subst this
    exact qt.sl [] 0 b 0 (fun _ _=>undef) (Nat.le_refl _) (by simp) (by simp) (by simp) (by simp)
  | rf _ _ _ g n cap sz hg hl hn =>
    cases hu with
    | oslz =>
      simp only [List.length_nil] at hlen
      subst hlen
      exact qt.sl [] 0 _ _ (fun _ _=>undef) (Nat.zero_le _) (by simp) (by simp) (by simp) (by simp)
    | osl _ _ e sz' g' cap' cur us hh hc hcm hl2 hs hg' hm hr =>
      obtain rfl:=hF.inj _ _ _ _ hg hg' rfl
      rw [hg] at hg'
      simp only [Option.some.injEq,Own.mk.injEq] at hg'
      obtain ⟨_,rfl,rfl,rfl⟩:=hg'
      rw [<-hlen,Nat.zero_mul,Nat.sub_zero]
      exact hfz
 have hA:∀ {a b:A} {v:Value},FzA r (.sl (O.frzLL xs)) xs.length a b->ql w σ a v->ql w σ' b v:=by
  intro a b v hab ha
  rcases hab with ⟨rfl,rfl⟩ | ⟨rfl,hi⟩
  . exact .fz _ _ (hown v ha)
  . exact ha.kept (S:=fun id=>id≠r) hk hst (fun id hid e=>hi (e▸hid))
 have hL:∀ {x y:V1 A} {v:Value},x.1=y.1->FzL r (.sl (O.frzLL xs)) xs.length x.2 y.2->qU (fun _=>ql w σ) x v->qU (fun _=>ql w σ') y v:=by
  intro x y v hg hl hx
  obtain ⟨g,as⟩:=x
  obtain ⟨g',bs⟩:=y
  obtain rfl:g=g':=hg
  cases g with
  | true =>
    obtain ⟨cs,rfl,h1,h2⟩:=hx
    refine ⟨cs,rfl,by rw [h1];exact hl.1,fun j b hj=>?_⟩
    obtain ⟨a,ha,hab⟩:=hl.back hj
    obtain ⟨u,h3,h4⟩:=h2 j a ha
    exact ⟨u,h3,hA hab h4⟩
  | false =>
    match as,bs,hl,hx with
    | [a],[b],hl,hx=>exact hA (hl.2 0 a b rfl rfl) hx
    | [a],[],hl,_=>simp [FzL] at hl
    | [a],_::_::_,hl,_=>simp [FzL] at hl
 refine ⟨σ',⟨fun g g' x y hx hy he=>hF.inj g g' x y (hsub g x hx).1 (hsub g' y hy).1 he,fun g x hx=>hF.lt g x (hsub g x hx).1,hF.old,fun id=>?_,fun t=>?_⟩,fun g x hx=>?_,⟨hst,Nat.le_refl _,rfl,rfl,rfl⟩⟩
 . rw [h.tb]
   split
   . exact ⟨.bool false,.un _ _ rfl⟩
   . rename_i hi
     obtain ⟨v,hv⟩:=hF.tb id
     exact ⟨v,hv.move (Nat.le_refl _) hst _ fun g s n cap sz hg _=>⟨rfl,hk g _ hg hi⟩⟩
 . have h1:=h.tm t
   have h2:=hF.tm t
   generalize qa unT F.tm t=x at h1 h2
   generalize qa unT G.tm t=y at h1
   cases x with
   | v x=>cases y with
     | v y=>exact hL h1.1 h1.2 h2
     | tup _=>exact h1.elim
   | tup xs'=>cases y with
     | v y=>exact h1.elim
     | tup ys =>
       obtain ⟨vs,e,h3,h4⟩:=h2
       refine ⟨vs,e,h3.trans h1.1,fun k y hk'=>?_⟩
       have hlt:k<xs'.length:=by rw [h1.1];exact (List.getElem?_eq_some_iff.1 hk').1
       obtain ⟨u,h5,h6⟩:=h4 k _ (List.getElem?_eq_getElem hlt)
       obtain ⟨h7,h8⟩:=h1.2 k _ y (List.getElem?_eq_getElem hlt) hk'
       exact ⟨u,h5,hL h7 h8 h6⟩
 . obtain ⟨h1,h2⟩:=hsub g x hx
   rcases hd g x h1 with h3 | ⟨_,_,_,h3,_⟩
   . left
     unfold Fr.at at h3 ⊢
     rw [h.tb,if_neg h2]
     exact h3
   . cases h3
def qre (r:Nat)(d:D):B->Option (List Nat×B)
 | .rf p w off len=>match nq p.1 r with
   | false=>some ([],.rf p w off len)
   | true=>(match p.2,off with
     | [],0=>some ([len],.fz d)
     | _,_=>none)
 | .pp p i j=>match nq p.1 r with
   | false=>some ([],.pp p i j)
   | true=>none
 | .clo f caps=>match qhX (Vk caps) r with
   | false=>some ([],.clo f caps)
   | true=>none
 | x=>some ([],x)
def qkN (r:Nat)(d:D):List B->Option (List Nat×List B)
 | []=>some ([],[])
 | a::l=>match qre r d a,qkN r d l with
   | some x,some y=>some (Qh x.1 y.1,x.2::y.2)
   | _,_=>none
def qdX (r:Nat)(d:D):List (V1 B)->Option (List Nat×List (V1 B))
 | []=>some ([],[])
 | a::l=>match qkN r d a.2,qdX r d l with
   | some x,some y=>some (Qh x.1 y.1,(a.1,x.2)::y.2)
   | _,_=>none
def qpp (r:Nat)(d:D):TV B->Option (List Nat×TV B)
 | .v x=>match qkN r d x.2 with
   | some y=>some (y.1,.v (x.1,y.2))
   | none=>none
 | .tup xs=>match qdX r d xs with
   | some y=>some (y.1,.tup y.2)
   | none=>none
def qmG (r:Nat)(d:D):List (Nat×TV B)->Option (List Nat×List (Nat×TV B))
 | []=>some ([],[])
 | a::l=>match qpp r d a.2,qmG r d l with
   | some x,some y=>some (Qh x.1 y.1,(a.1,x.2)::y.2)
   | _,_=>none
theorem qcp {l r:List Nat}{n:Nat}(h:∀ x∈Qh l r,x=n):(∀ x∈l,x=n)/\∀ x∈r,x=n:=by
 rw [jM] at h
 exact ⟨fun x hx=>h x (List.mem_append_left _ hx),fun x hx=>h x (List.mem_append_right _ hx)⟩
theorem qoa {a b:Nat}(h:nq a b=false):a≠b:=fun e=>by subst e;simp at h
theorem qpw {r:Nat}{d:D}{n:Nat}{b:B}{x:List Nat×B}(h:qre r d b=some x)(hn:∀ m∈x.1,m=n):FzA r d.er n b.er x.2.er:=by
 unfold qre at h
 split at h
 . rename_i p w off len
   split at h
   . rename_i hne
     injection h with h;subst h
     exact .inr ⟨rfl,by simp only [B.er,A.ids,SP.er,List.mem_singleton];exact fun e=>qoa hne e.symm⟩
   . rename_i he
     have he2:=Nat.eq_of_beq_eq_true he
     clear he
     split at h
     . rename_i hp
       injection h with h;subst h
       obtain rfl:=hn _ List.mem_cons_self
       obtain ⟨p1,p2⟩:=p
       dsimp only at hp he2
       subst hp he2
       exact .inl ⟨rfl,rfl⟩
     . cases h
 . rename_i p i j
   split at h
   . rename_i hne
     injection h with h;subst h
     exact .inr ⟨rfl,by simp only [B.er,A.ids,SP.er,List.mem_singleton];exact fun e=>qoa hne e.symm⟩
   . cases h
 . rename_i f caps
   split at h
   . rename_i hm
     injection h with h;subst h
     refine .inr ⟨rfl,fun hh=>?_⟩
     have hh:r∈Vk caps:=by rw [<-KB];simpa only [B.er,A.ids] using hh
     rw [yE.2 hh] at hm
     cases hm
   . cases h
 . rename_i h1 h2 h3
   injection h with h;subst h
   refine .inr ⟨rfl,?_⟩
   cases b with
   | un=>simp [B.er,A.ids]
   | ud=>simp [B.er,A.ids]
   | fz d=>simp [B.er,A.ids]
   | rf p w o l=>exact (h1 p w o l rfl).elim
   | pp p i j=>exact (h2 p i j rfl).elim
   | clo f c=>exact (h3 f c rfl).elim
theorem qds {r:Nat}{d:D}{n:Nat}:∀ {l:List B} {x:List Nat×List B},qkN r d l=some x->(∀ m∈x.1,m=n)->FzL r d.er n (B.erL l) (B.erL x.2)
 | [],x,h,_=>by simp only [qkN,Option.some.injEq] at h;subst h;exact ⟨rfl,fun j a b h=>by simp [B.erL] at h⟩
 | a::l,x,h,hn=>by
   simp only [qkN] at h
   split at h
   . rename_i y z hy hz
     injection h with h;subst h
     obtain ⟨h1,h2⟩:=qcp hn
     have h3:=qpw hy h1
     have h4:=qds hz h2
     refine ⟨by simp only [B.erL,List.length_cons,h4.1],fun j a' b' ha hb=>?_⟩
     cases j with
     | zero=>simp only [B.erL,List.getElem?_cons_zero,Option.some.injEq] at ha hb;subst ha hb;exact h3
     | succ j=>exact h4.2 j a' b' (by simpa [B.erL] using ha) (by simpa [B.erL] using hb)
   . cases h
theorem qdS {r:Nat}{d:D}{n:Nat}:∀ {l:List (V1 B)} {x:List Nat×List (V1 B)},qdX r d l=some x->(∀ m∈x.1,m=n)->(qx B.erL l).length=(qx B.erL x.2).length/\∀ (k:Nat) (p q:V1 A),(qx B.erL l)[k]?=some p->(qx B.erL x.2)[k]?=some q->p.1=q.1/\FzL r d.er n p.2 q.2
 | [],x,h,_=>by simp only [qdX,Option.some.injEq] at h;subst h;exact ⟨rfl,fun j a b h=>by simp [qx] at h⟩
 | a::l,x,h,hn=>by
   simp only [qdX] at h
   split at h
   . rename_i y z hy hz
     injection h with h;subst h
     obtain ⟨h1,h2⟩:=qcp hn
     have h3:=qds hy h1
     have h4:=qdS hz h2
     refine ⟨by simp only [qx,List.length_cons,h4.1],fun j a' b' ha hb=>?_⟩
     cases j with
     | zero=>simp only [qx,List.getElem?_cons_zero,Option.some.injEq] at ha hb;subst ha hb;exact ⟨rfl,h3⟩
     | succ j=>exact h4.2 j a' b' (by simpa [qx] using ha) (by simpa [qx] using hb)
   . cases h
theorem qpl {r:Nat}{d:D}{n:Nat}{t:TV B}{x:List Nat×TV B}(h:qpp r d t=some x)(hn:∀ m∈x.1,m=n):FzT r d.er n (t.er B.erL) (x.2.er B.erL):=by
 cases t with
 | v t =>
   simp only [qpp] at h
   split at h
   . rename_i y hy
     injection h with h;subst h
     exact ⟨rfl,qds hy hn⟩
   . cases h
 | tup ts =>
   simp only [qpp] at h
   split at h
   . rename_i y hy
     injection h with h;subst h
     exact qdS hy hn
   . cases h
theorem qjf {r:Nat}{d:D}{n:Nat}:∀ {l:List (Nat×TV B)} {x:List Nat×List (Nat×TV B)},qmG r d l=some x->(∀ m∈x.1,m=n)->∀ t,FzT r d.er n (qa unT (jm l) t) (qa unT (jm x.2) t)
 | [],x,h,_=>by
   simp only [qmG,Option.some.injEq] at h;subst h
   intro t
   refine ⟨rfl,rfl,fun j a b ha hb=>.inr ?_⟩
   cases j with
   | zero=>simp only [jm,qa,unT,List.getElem?_cons_zero,Option.some.injEq] at ha hb;subst ha hb;exact ⟨rfl,by simp [A.ids]⟩
   | succ j=>simp [jm,qa,unT] at ha
 | a::l,x,h,hn=>by
   simp only [qmG] at h
   split at h
   . rename_i y z hy hz
     injection h with h;subst h
     obtain ⟨h1,h2⟩:=qcp hn
     intro t
     obtain ⟨k,v⟩:=a
     simp only [jm,qa]
     cases nq k t with
     | true=>exact qpl hy h1
     | false=>exact qjf hz h2 t
   . cases h
theorem qlO (l:List (Nat×O))(r id:Nat):qa .un (del l r) id=if id=r then .un else qa .un l id:=by
 induction l with
 | nil=>simp [del,qa]
 | cons x l ih =>
   obtain ⟨k,v⟩:=x
   simp only [del]
   cases hk:nq k r with
   | true =>
     have hk:=Nat.eq_of_beq_eq_true hk
     subst hk
     show qa .un (del l k) id=_
     rw [ih]
     split
     . rfl
     . rename_i hne
       simp only [qa]
       have:nq k id=false:=by cases h:nq k id with | false=>rfl | true=>exact absurd (Nat.eq_of_beq_eq_true h).symm hne
       rw [this]
       rfl
   | false =>
     show qa .un ((k,v)::del l r) id=_
     simp only [qa]
     cases h:nq k id with
     | true =>
       have h:=Nat.eq_of_beq_eq_true h
       subst h
       rw [if_neg (qoa hk)]
       rfl
     | false=>exact ih
theorem SEx.freeze {P:Program}{T:Nat->Option Ty}{dr:Nat->Nat}{rs:Array ResultVar}{ks:List K}{n:Nat}{tm:List (Nat×TV B)}{tb:List (Nat×W)}{res:TV W}(r:Nat){x:LL}{y:List Nat×List (Nat×TV B)}
 (hx:qa .un tb r=.osl x) (hc:x.clean=true) (hy:qmG r (.sl x.thaw) tm=some y) (hl:∀ m∈y.1,m=x.len qn) (h:SEx P T dr rs ks ⟨n,y.2,del tb r⟩ res):SEx P T dr rs ks ⟨n,tm,tb⟩ res:=by
 intro hk
 letI:zh:=qao
 refine Ex.weakN (G:=(SF.mk n y.2 (del tb r)).er) rfl (fun J σ w vt hF hd hnf=>?_) (h hk)
 have hh:=y8 hc
 have e1:O.frzLL x.ro=x.rc:=LL.frz_ro x hh
 have e2:(D.sl x.thaw).er=.sl (O.frzLL x.ro):=by rw [e1];cases x<;>rfl
 have e3:x.len qn=x.ro.length:=(LL.len_ro x).symm
 refine qmk (F:=(SF.mk n tm tb).er) (G:=(SF.mk n y.2 (del tb r)).er) (r:=r) (xs:=x.ro) ⟨rfl,?_,LL.clean_ro x hc,fun id=>?_,fun t=>?_⟩ hF hd hnf
 . show (qa .un (zy tb) r).at std []=_
   rw [VV,hx]
   rfl
 . show qa .un (zy (del tb r)) id=_
   rw [<-YM]
   exact qlO _ _ _
 . rw [<-e2,<-e3]
   exact qjf hy hl t
end Go.Proofs.YtifnopmkdempdaaGreat.Ai
namespace Go.Proofs.YtifnopmkdempdaaGreat.Ai
open Go
variable [qi]
abbrev RW:=TV B×List (Nat×W)×List B
def RW.eqv (x y:RW):Prop:=x.1.er B.erL=y.1.er B.erL/\zy x.2.1=zy y.2.1/\B.erL x.2.2=B.erL y.2.2
def qcl (M:MB)(T:Nat->Option Ty)(F:SF):List ResultVar->R (List (V1 B))
 | []=>R.ok []
 | rv::r=>(qa2 M T F rv).bd fun v=>(match v with
   | .v x=>(qcl M T F r).bd fun l=>R.ok (x::l)
   | .tup _=>none)
theorem qay (T:Nat->Option Ty)(F:SF):∀ rs:List ResultVar,(qcl qn T F rs).Sim fun xs=>VA T F.er rs=some (qx B.erL xs)
 | []=>R.Sim.ok rfl
 | rv::r=>by
   simp only [qcl]
   refine R.Sim.bd (W1 T F rv) fun v hv=>?_
   split
   . refine R.Sim.bd (qay T F r) fun l hl=>R.Sim.ok ?_
     simp only [VA,hv,hl,TV.er,qx]
   . exact R.Sim.none'
def qqQ:List (V1 B)->TV B
 | [x]=>.v x
 | xs=>.tup xs
theorem qnV (xs:List (V1 B)):qn8 (qx B.erL xs)=(qqQ xs).er B.erL:=by
 match xs with
 | []=>rfl
 | [x]=>rfl
 | x::y::r=>rfl
def qk4 (F:SF):Nat->Nat->List B
 | _,0=>[]
 | i,m+1=>qkr (qa unB F.tm (PH+i))::qk4 F (i+1) m
def qiU (F:SF):Nat->Nat->Bool
 | _,0=>true
 | i,m+1=>match qa unB F.tm (PH+i) with
   | .v (false,[_])=>qiU F (i+1) m
   | _=>false
theorem qoV (F:SF):∀ (m i:Nat),qiU F i m=true->∀ (k:Nat) (x:A),(B.erL (qk4 F i m))[k]?=some x->qa unT F.er.tm (PH+(i+k))=.v (false,[x]):=by
 intro m
 induction m with
 | zero=>intro i _ k x h;simp [qk4,B.erL] at h
 | succ m ih =>
   intro i h k x hk
   simp only [qiU] at h
   split at h
   . rename_i b hb
     cases k with
     | zero =>
       simp only [qk4,B.erL,hb,qkr,List.getElem?_cons_zero,Option.some.injEq] at hk
       show qa unT (jm F.tm) (PH+(i+0))=_
       rw [QE,Nat.add_zero,hb,<-hk]
       rfl
     | succ k =>
       simp only [qk4,B.erL,List.getElem?_cons_succ] at hk
       rw [show i+(k+1)=i+1+k by omega]
       exact ih (i+1) h k x hk
   . cases h
def qcr:List ResultVar->List Nat
 | []=>[]
 | .tmp t::r=>t::qcr r
 | .cell a _::r=>a::qcr r
def qmH:Nat->Nat->List Nat
 | _,0=>[]
 | i,m+1=>(PH+i)::qmH (i+1) m
def qbl (M:MB)(T:Nat->Option Ty)(rs:Array ResultVar)(m:Nat)(R:RW->Prop)(F:SF):Prop:=match rs with
 | ⟨rs⟩=>(match F.keepB (Qh (qcr rs) (qmH 0 m)) with
   | G=>(match qiU G 0 m with
     | true=>(match qcl M T G rs with
       | some (ps,xs)=>VP M ps (R (qqQ xs,G.tb,qk4 G 0 m))
       | none=>M.pNo 17)
     | false=>M.pNo 18))
def qnT (T:Nat->Option Ty)(rs:Array ResultVar)(x:RW):Fr->Prop:=fun F'=>∃ l,(∃ xs,VA T (F'.keep l) rs.toList=some xs/\qn8 xs=x.1.er B.erL) ∧
 (∀ (i:Nat) (y:A),(B.erL x.2.2)[i]?=some y->qa unT (F'.keep l).tm (PH+i)=.v (false,[y]))/\(F'.keep l).tb=zy x.2.1
theorem qfR {T:Nat->Option Ty}{rs:Array ResultVar}{m:Nat}{x:RW}{F:SF}(h:qbl qn T rs m (fun y=>RW.eqv y x) F):qnT T rs x F.er:=by
 obtain ⟨rs⟩:=rs
 unfold qbl at h
 dsimp only at h
 split at h
 . rename_i hph
   split at h
   . rename_i ps xs he
     obtain ⟨h1,h2,h3,h4⟩:=je ps _ h
     refine ⟨Qh (qcr rs) (qmH 0 m),⟨qx B.erL xs,?_,?_⟩,?_,?_⟩
     . rw [<-ZI]
       exact qay T _ rs ps xs he h1
     . rw [qnV];exact h2
     . intro i y hy
       rw [<-ZI]
       rw [<-h4] at hy
       have:=qoV _ m 0 hph i y hy
       rwa [Nat.zero_add] at this
     . rw [<-ZI]
       exact h3
   . exact h.elim
 . exact h.elim
def zP (P:Program)(T:Nat->Option Ty)(dr:Nat->Nat)(rs:Array ResultVar)(ks:List K)(F:SF)(x:RW):Prop:=(∀ k∈ks,kOK dr k=true)->@Ex _ qqr P ks F.er (qnT T rs x)
theorem zP.keep {P:Program}{T:Nat->Option Ty}{dr:Nat->Nat}{rs:Array ResultVar}{ks:List K}{F:SF}{r:RW}(l:List Nat)(h:zP P T dr rs ks (F.keepB l) r):zP P T dr rs ks F r:=by
 intro hk
 have:=h hk
 rw [ZI] at this
 exact @Ex.weak _ qqr _ _ _ _ (F.er.keep l) rfl (fun J σ w vt hF hd=>by letI:=J;exact Kb hF hd l) this
theorem zP.trim {P:Program}{T:Nat->Option Ty}{dr:Nat->Nat}{rs:Array ResultVar}{ks:List K}{F:SF}{r:RW}(lv:Nat->Option (List Nat))(h:zP P T dr rs ks (F.trimB lv (qqh ks)) r):zP P T dr rs ks F r:=by
 unfold SF.trimB at h
 split at h
 . exact zP.keep _ h
 . exact h
theorem zP.go {P:Program}{X:SX}(hT:kD P X.T){dr:Nat->Nat}(lv:Nat->List Nat)(lt:Nat->Option (List Nat)){ora:Qs}(hO:qp P ora){rs:Array ResultVar}{ks:List K}{F:SF}{r:RW}(n m:Nat)
 (h:∀ (M:MB) (R:RW->Prop) (L N:List K->SF->Prop),M=qn->(∀ p q:Prop,p->q->M.pAnd p q)->(∀ (b:Bool) (p:Prop),(b=true->p)->M.pImp b p)->(∀ r',RW.eqv r' r->R r')->(∀ ks F,zP P X.T dr rs ks F r->L ks F) →
   (∀ ks F,wp M X dr lv ora (qbl M X.T rs m R) L N n ks (F.trimB lt (qqh ks))->N ks F)->wp M X dr lv ora (qbl M X.T rs m R) L N n ks F) (hW:q8 P X:=by exact fun _ _ _=>Y9):zP P X.T dr rs ks F r:=by
 have key:∀ ks F,wp qn X dr lv ora (qbl qn X.T rs m fun r'=>RW.eqv r' r) (fun ks F=>zP P X.T dr rs ks F r) (fun ks F=>zP P X.T dr rs ks F r) n ks F->zP P X.T dr rs ks F r:=by
  intro ks F hw hk
  letI:zh:=qqr
  exact Yz hT hW hO (fin:=qbl qn X.T rs m fun r'=>RW.eqv r' r) (L:=fun ks F=>zP P X.T dr rs ks F r) (N:=fun ks F=>zP P X.T dr rs ks F r) (fun F hF=>qfR hF) (fun ks F hk h=>h hk) (fun ks F hk h=>h hk) n ks F hk hw
 exact key ks F (h qn _ _ _ rfl (fun _ _ h1 h2=>⟨h1,h2⟩) (fun _ _ h=>h) (fun _ h=>h) (fun _ _ h=>h) (fun ks F hw=>zP.trim lt (key ks _ hw)))
theorem zP.same {P:Program}{T:Nat->Option Ty}{dr:Nat->Nat}{rs:Array ResultVar}{ks:List K}{F G:SF}{r r':RW}(h:zP P T dr rs ks G r')(he:G.er=F.er)(hr:RW.eqv r' r):zP P T dr rs ks F r:=by
 intro hk
 have:=h hk
 rw [he] at this
 unfold qnT at this ⊢
 obtain ⟨h1,h2,h3⟩:=hr
 rw [h1,h2,h3] at this
 exact this
theorem zP.ind {P:Program}{T:Nat->Option Ty}{dr:Nat->Nat}{rs:Array ResultVar}{ks:List K}{α:Type}(f:α->SF)(R:α->RW)(Inv:α->Prop)(μ:α->Nat)(x0:α)(hI:Inv x0)
 (step:∀ x,Inv x->(∀ y,Inv y->μ y<μ x->zP P T dr rs ks (f y) (R y))->zP P T dr rs ks (f x) (R x)):zP P T dr rs ks (f x0) (R x0):=by
 have key:∀ n x,μ x=n->Inv x->zP P T dr rs ks (f x) (R x):=by
  intro n
  induction n using Nat.strongRecOn with
  | _ n ih =>
    intro x hx hI
    exact step x hI (fun y hy hlt=>ih (μ y) (by omega) y rfl hy)
 exact key _ x0 rfl hI
theorem zP.idx {P:Program}{T:Nat->Option Ty}{dr:Nat->Nat}{rs:Array ResultVar}{ks:List K}(n:Nat)(f:Nat->SF)(R:Nat->RW)
 (step:∀ i,i<=n->(i<n->zP P T dr rs ks (f (i+1)) (R (i+1)))->zP P T dr rs ks (f i) (R i)):zP P T dr rs ks (f 0) (R 0) :=
 zP.ind f R (fun i=>i<=n) (fun i=>n-i) 0 (Nat.zero_le _) fun i hi ih=>step i hi fun h=>ih (i+1) (by omega) (by omega)
def V5:Nat->List (V1 B)->List (Nat×TV B)
 | _,[]=>[]
 | i,x::r=>(i,.v x)::V5 (i+1) r
def qja:Nat->List B->List (Nat×TV B)
 | _,[]=>[]
 | i,x::r=>(PH+i,.v (false,[x]))::qja (i+1) r
def qrd (n:Nat)(args:List (V1 B))(ph:List B)(tb:List (Nat×W)):SF:=⟨n,Qh (V5 0 args) (qja 0 ph),tb⟩
theorem qqe (n:Nat)(args:List (V1 B))(ph:List B)(tb:List (Nat×W)):(qrd n args ph tb).er=wv n (qx B.erL args) (B.erL ph) (zy tb):=by
 have h1:∀ (l:List (V1 B)) (i:Nat),jm (V5 i l)=Q5 i (qx B.erL l):=by
  intro l
  induction l with
  | nil=>intro i;rfl
  | cons x l ih=>intro i;simp only [V5,jm,qx,Q5,ih,TV.er]
 have h2:∀ (l:List B) (i:Nat),jm (qja i l)=qef i (B.erL l):=by
  intro l
  induction l with
  | nil=>intro i;rfl
  | cons x l ih=>intro i;simp only [qja,jm,B.erL,qef,ih,TV.er,kb]
 have h3:∀ l r:List (Nat×TV B),jm (l++r)=jm l++jm r:=by
  intro l r
  induction l with
  | nil=>rfl
  | cons x l ih=>obtain ⟨t,x⟩:=x;simp only [List.cons_append,jm,ih]
 unfold qrd wv SF.er
 simp only [jM,h3,h1,h2]
theorem zZ.of {P : Program} {T : Nat → Option Ty} (hT : kD P T) {g : FuncId} {fn : Func} {c : Code} {args : List (V1 B)} {tb : List (Nat × W)} {ph : List B} {r : RW} {dr : Nat → Nat} (hf : P.funcs[g]? = some fn) (hb : fn.body = some c) (hnm : (fn.name == "runtime.NumGoroutine") = false)
 (h1:(nle (cnt args) fn.ntmps&&nle (cnt args) 1000)=true) (hc:kZ dr c=true) (h:zP P T dr fn.results [.c c] (qrd fn.ntmps args ph tb) r):zZ P g args tb ph r.1 r.2.1 r.2.2:=by
 rw [Bool.and_eq_true] at h1
 have hl:∀ l:List (V1 B),(qx B.erL l).length=cnt l:=by intro l;induction l with | nil=>rfl | cons x l ih=>simp [qx,cnt,ih]
 refine Vr.of_Ex hT hf hb hnm ?_ ?_ ?_
 . rw [hl]
   exact qz h1.1
 . rw [hl]
   exact Nat.le_trans (qz h1.2) (by decide)
 . have:=h (fun k hk=>by simp at hk;subst hk;exact hc)
   rwa [qqe] at this
def qsA:List Nat->Nat->Bool
 | [],_=>false
 | x::r,d=>match nq x d with | true=>true | false=>qsA r d
abbrev WrW:=List (V1 B)->List (LK×W)->R RW
def kI:List (Nat×WrW)->FuncId->WrW
 | [],_,_,_=>none
 | (k,f)::r,g,xs,ls=>match nq k g with | true=>f xs ls | false=>kI r g xs ls
def wU (P:Program)(g:FuncId)(f:WrW):Prop:=∀ xs ls,R.Sim (f xs ls) fun res=>zZ P g xs (qlz 0 ls) (qkJ 0 ls) res.1 res.2.1 res.2.2
def qca (P:Program)(ow:FuncId->WrW):Prop:=∀ g xs ls,R.Sim (ow g xs ls) fun res=>zZ P g xs (qlz 0 ls) (qkJ 0 ls) res.1 res.2.1 res.2.2
theorem jr {P:Program}:qca P (kI []):=fun _ _ _=>R.Sim.none'
theorem zQ {P:Program}{k:Nat}{f:WrW}{r:List (Nat×WrW)}(h:wU P k f)(hr:qca P (kI r)):qca P (kI ((k,f)::r)):=by
 intro g xs ls
 simp only [kI]
 split
 . rename_i e
   obtain rfl:=QX.1 e
   exact h xs ls
 . exact hr g xs ls
def SX.withF (X:SX)(l:List Nat):SX:={ X with FB:=fun d=>qsA l d }
theorem SX.withF_ok {P:Program}{X:SX}{l:List Nat}(h:q8 P X):q8 P (X.withF l):=h
def SX.withW (X:SX)(S:List (Nat×List (Nat×Nat)))(ow:FuncId->WrW):SX:={ X with S:=fun g=>qa none (S.map fun x=>(x.1,some x.2)) g,OW:=ow }
theorem SX.withW_ok {P:Program}{X:SX}{S:List (Nat×List (Nat×Nat))}{ow:FuncId->WrW}(h:qca P ow):q8 P (X.withW S ow):=h
end Go.Proofs.YtifnopmkdempdaaGreat.Ai
namespace Go.Proofs.YtifnopmkdempdaaGreat.Ai
open Go
variable [qi]
theorem qkL {P:Program}{l:List (Nat×Option Ty)}(h:∀ p∈l,p.2=none\/kS P p.1=p.2):kD P (qa none l):=by
 intro t y ht
 induction l with
 | nil=>simp [qa] at ht
 | cons a r ih =>
   obtain ⟨k,v⟩:=a
   simp only [qa] at ht
   cases hb:nq k t with
   | true =>
     rw [hb] at ht
     obtain rfl:=Nat.eq_of_beq_eq_true hb
     have ht:v=some y:=ht
     subst ht
     rcases h _ List.mem_cons_self with h | h
     . cases h
     . exact h
   | false =>
     rw [hb] at ht
     exact ih (fun p hp=>h p (List.mem_cons_of_mem _ hp)) ht
def aI (n:Int):V1 D:=(false,[.int .i64 n])
def aS (s:ByteArray):V1 D:=(false,[.str s])
def aIs (l:List Int):V1 D:=(false,[.sl (.i l)])
def qrU (l:List (List Int)):V1 D:=(false,[.sl (.ii false none l)])
def Yx (q:Tie):V1 D:=(true,q.d)
def vc (q:qh):V1 D:=(true,q.d)
def yP (l:List Tie):V1 D:=(false,[.sl (.tie l)])
def WV (l:List qh):V1 D:=(false,[.sl (.node false none l)])
def aF (f:FuncId)(caps:List D):V1 D:=(false,[.fn f caps])
structure qm where
 nodes:List qh
 ties:List Tie
 hor:Int
structure qf where
 now:Int
 times:List Int
 vals:List Int
def qm.d (t:qm):List D:=[.sl (.node false none t.nodes),.sl (.tie t.ties),.int .i64 t.hor]
def qf.d (t:qf):List D:=[.int .i64 t.now,.sl (.i t.times),.sl (.i t.vals)]
def qP (t:qm):V1 D:=(true,t.d)
def qG (t:qf):V1 D:=(true,t.d)
structure Dc (α:Type) where
 enc:α->V1 D
 dec:V1 D->Option α
 ok:∀ x a,dec x=some a->kb D.erL x=kb D.erL (enc a)
def dcI:Dc Int:=⟨aI,fun | (false,[.int .i64 n])=>some n | _=>none,by intro x a h;split at h<;>first | (simp only [Option.some.injEq] at h;subst h;rfl) | cases h⟩
def dcS:Dc ByteArray:=⟨aS,fun | (false,[.str n])=>some n | _=>none,by intro x a h;split at h<;>first | (simp only [Option.some.injEq] at h;subst h;rfl) | cases h⟩
def kC:Dc (List Int):=⟨aIs,fun | (false,[.sl (.i l)])=>some l | _=>none,by intro x a h;split at h<;>first | (simp only [Option.some.injEq] at h;subst h;rfl) | cases h⟩
def qsd:Dc (List (List Int)):=⟨qrU,fun | (false,[.sl (.ii _ _ l)])=>some l | (false,[.sl (.i [])])=>some [] | _=>none,by intro x a h;split at h<;>first | (simp only [Option.some.injEq] at h;subst h;rfl) | cases h⟩
def KI:Dc (List Tie):=⟨yP,fun | (false,[.sl (.tie l)])=>some l | (false,[.sl (.i [])])=>some [] | _=>none,by intro x a h;split at h<;>first | (simp only [Option.some.injEq] at h;subst h;rfl) | cases h⟩
def v6:Dc (List qh):=⟨WV,fun | (false,[.sl (.node _ _ l)])=>some l | (false,[.sl (.i [])])=>some [] | _=>none,by intro x a h;split at h<;>first | (simp only [Option.some.injEq] at h;subst h;rfl) | cases h⟩
def Yk:Dc Tie:=⟨Yx,fun
 | (true,[.int .i64 x1,.int .i64 x2,.int .i64 x3,.int .i64 x4,.bool _ x5])=>some ⟨x1,x2,x3,x4,x5⟩
 | _=>none,by intro x a h;split at h<;>first | (simp only [Option.some.injEq] at h;subst h;rfl) | cases h⟩
def wm:Dc qh:=⟨vc,fun
 | (true,[.str x1,.sl (.i x2),.int .i64 x3])=>some ⟨x1,x2,x3⟩
 | _=>none,by intro x a h;split at h<;>first | (simp only [Option.some.injEq] at h;subst h;rfl) | cases h⟩
def qc1:D->Option (List Tie)
 | .sl (.tie l)=>some l
 | .sl (.i [])=>some []
 | _=>none
def VT:D->Option (List qh)
 | .sl (.node _ _ l)=>some l
 | .sl (.i [])=>some []
 | _=>none
theorem qbe {d:D}{l:List Tie}(h:qc1 d=some l):d.er=.sl (l.map Tie.rc):=by
 unfold qc1 at h;split at h<;>first | (simp only [Option.some.injEq] at h;subst h;rfl) | cases h
theorem qaw {d:D}{l:List qh}(h:VT d=some l):d.er=.sl (l.map qh.rc):=by
 unfold VT at h;split at h<;>first | (simp only [Option.some.injEq] at h;subst h;rfl) | cases h
def qO:Dc qm:=⟨qP,fun
 | (true,[d,e,.int .i64 x3])=>(match VT d,qc1 e with | some x1,some x2=>some ⟨x1,x2,x3⟩ | _,_=>none)
 | _=>none,by
   intro x a h
   split at h
   . split at h
     . rename_i hd he
       simp only [Option.some.injEq] at h;subst h;simp only [kb,D.erL,qaw hd,qbe he,qP,qm.d];rfl
     . cases h
   . cases h⟩
def qH:Dc qf:=⟨qG,fun
 | (true,[.int .i64 x1,.sl (.i x2),.sl (.i x3)])=>some ⟨x1,x2,x3⟩
 | _=>none,by intro x a h;split at h<;>first | (simp only [Option.some.injEq] at h;subst h;rfl) | cases h⟩
def rB (b:Bool):TV W:=.v (false,[.fz (.bool false b)])
def rI (n:Int):TV W:=.v (false,[.fz (.int .i64 n)])
def rS (s:ByteArray):TV W:=.v (false,[.fz (.str s)])
def rIs (l:List Int):TV W:=.v (false,[.osl (.i l)])
def Zs (l:List (List Int)):TV W:=.v (false,[.osl (.ii true none l)])
def qmx (l:List Tie):TV W:=.v (false,[.osl (.tie l)])
def qif (l:List qh):TV W:=.v (false,[.osl (.node true none l)])
def qm.w (t:qm):List W:=[.osl (.node true none t.nodes),.osl (.tie t.ties),.fz (.int .i64 t.hor)]
def qf.w (t:qf):List W:=[.fz (.int .i64 t.now),.osl (.i t.times),.osl (.i t.vals)]
def qsx (q:Tie):TV W:=.v (true,fzW q.d)
def qqu (q:qh):TV W:=.v (true,q.w true)
def qqy (t:qm):TV W:=.v (true,t.w)
def kX (t:qf):TV W:=.v (true,t.w)
abbrev eR (r:TV W):TV O:=r.er W.erL
@[simp] theorem jy (k b b'):eR (.v (false,[.fz (.bool k b)]))=eR (rB b')↔b=b':=by simp [eR,TV.er,kb,W.erL,W.er,D.er,rB]
@[simp] theorem Kz (n n'):eR (.v (false,[.fz (.int .i64 n)]))=eR (rI n')↔n=n':=by simp [eR,TV.er,kb,W.erL,W.er,D.er,rI]
theorem qe.er {P:Program}{g:FuncId}{as as':List (V1 D)}{r r':TV W}(h:qe P g as r)(ha:qx D.erL as'=qx D.erL as)(hr:eR r'=eR r):qe P g as' r':=by
 unfold qe at h ⊢
 rw [ha,show r'.er W.erL=r.er W.erL from hr]
 exact h
abbrev Wr:=List (V1 D)->R (TV W)
def qK:List (Nat×Wr)->Qs
 | [],_,_=>none
 | (k,f)::r,g,xs=>match nq k g with | true=>f xs | false=>qK r g xs
def qy (P:Program)(g:FuncId)(f:Wr):Prop:=∀ xs,R.Sim (f xs) fun r=>qe P g xs r
theorem qd {P:Program}:qp P (qK []):=fun _ _=>R.Sim.none'
theorem qb {P:Program}{k:Nat}{f:Wr}{r:List (Nat×Wr)}(h:qy P k f)(hr:qp P (qK r)):qp P (qK ((k,f)::r)):=by
 intro g xs
 simp only [qK]
 split
 . rename_i e
   obtain rfl:=Nat.eq_of_beq_eq_true e
   exact h xs
 . exact hr g xs
def w1 {α:Type}(a:Dc α)(f:α->TV W)(p:α->List Prop):Wr
 | [x]=>match a.dec x with | some x=>some (p x,f x) | none=>none
 | _=>none
def w2 {α β:Type}(a:Dc α)(b:Dc β)(f:α->β->TV W)(p:α->β->List Prop):Wr
 | [x,y]=>match a.dec x,b.dec y with | some x,some y=>some (p x y,f x y) | _,_=>none
 | _=>none
def w3 {α β γ:Type}(a:Dc α)(b:Dc β)(c:Dc γ)(f:α->β->γ->TV W)(p:α->β->γ->List Prop):Wr
 | [x,y,z]=>match a.dec x,b.dec y,c.dec z with | some x,some y,some z=>some (p x y z,f x y z) | _,_,_=>none
 | _=>none
theorem zC {P:Program}{g:FuncId}{α:Type}{a:Dc α}{f:α->TV W}{p:α->List Prop}(h:∀ x,Holds (p x)->qe P g [a.enc x] (f x)):qy P g (w1 a f p):=by
 intro xs
 unfold w1
 split
 . split
   . rename_i hx
     exact R.Sim.mk fun hp=>(h _ hp).er (by simp only [qx,a.ok _ _ hx]) rfl
   . exact R.Sim.none'
 . exact R.Sim.none'
theorem qD {P:Program}{g:FuncId}{α β:Type}{a:Dc α}{b:Dc β}{f:α->β->TV W}{p:α->β->List Prop}(h:∀ x y,Holds (p x y)->qe P g [a.enc x,b.enc y] (f x y)):qy P g (w2 a b f p):=by
 intro xs
 unfold w2
 split
 . split
   . rename_i hx hy
     exact R.Sim.mk fun hp=>(h _ _ hp).er (by simp only [qx,a.ok _ _ hx,b.ok _ _ hy]) rfl
   . exact R.Sim.none'
 . exact R.Sim.none'
theorem Qj {P:Program}{g:FuncId}{α β γ:Type}{a:Dc α}{b:Dc β}{c:Dc γ}{f:α->β->γ->TV W}{p:α->β->γ->List Prop}(h:∀ x y z,Holds (p x y z)->qe P g [a.enc x,b.enc y,c.enc z] (f x y z)):qy P g (w3 a b c f p):=by
 intro xs
 unfold w3
 split
 . split
   . rename_i hx hy hz
     exact R.Sim.mk fun hp=>(h _ _ _ hp).er (by simp only [qx,a.ok _ _ hx,b.ok _ _ hy,c.ok _ _ hz]) rfl
   . exact R.Sim.none'
 . exact R.Sim.none'
end Go.Proofs.YtifnopmkdempdaaGreat.Ai
namespace Go.Proofs.YtifnopmkdempdaaGreat.Ai
open Go Go.RowKit
instance fenceFree:qk:=qN
inductive Sh where
 | bool
 | int (k:IntKind)
 | str
 | sl (e:Sh)
 | st (fs:List Sh)
mutual
def Sh.n:Sh->Nat
 | .st fs=>Sh.nL fs
 | _=>1
def Sh.nL:List Sh->Nat
 | []=>0
 | s::r=>s.n+Sh.nL r
end
mutual
def Wt:Sh->List C->Prop
 | .bool,xs=>∃ b,xs=[.bool b]
 | .int k,xs=>∃ n,xs=[.int k n]/\k.min<=n/\n<=k.max
 | .str,xs=>∃ s,xs=[.str s]/\s.size<=maxLen
 | .sl e,xs=>∃ ys,xs=[.sl ys]/\ys.length<=maxLen/\∀ y,y∈ys->Wt e y
 | .st fs,xs=>WtL fs xs
def WtL:List Sh->List C->Prop
 | [],xs=>xs=[]
 | s::r,xs=>∃ a b,xs=a++b/\Wt s a/\WtL r b
end
mutual
theorem Wt.len:(s:Sh)->{xs:List C}->Wt s xs->xs.length=s.n
 | .bool,_,⟨_,h⟩=>by subst h;rfl
 | .int _,_,⟨_,h,_⟩=>by subst h;rfl
 | .str,_,⟨_,h,_⟩=>by subst h;rfl
 | .sl _,_,⟨_,h,_⟩=>by subst h;rfl
 | .st fs,_,h=>WtL.len fs h
theorem WtL.len:(l:List Sh)->{xs:List C}->WtL l xs->xs.length=Sh.nL l
 | [],_,h=>by have h:_=[]:=h;subst h;rfl
 | s::r,_,⟨a,b,h,h1,h2⟩=>by subst h;simp [Sh.nL,Wt.len s h1,WtL.len r h2]
end
def shL (f:TypeId->Option Sh)(P:Program):Nat->List Field->Option (List Sh×Nat)
 | off,[]=>some ([],off)
 | off,x::r=>match f x.type with
   | some s=>if x.offset=off/\P.cellsOf x.type=s.n then (match shL f P (off+s.n) r with | some (l,m)=>some (s::l,m) | none=>none) else none
   | none=>none
def Yd (P:Program):Nat->TypeId->Option Sh
 | 0,_=>none
 | n+1,t=>match P.underlying t with
   | some .bool=>some .bool
   | some (.int k)=>some (.int k)
   | some .string=>some .str
   | some (.slice e)=>match Yd P n e with
     | some s=>if P.cellsOf e=s.n/\0<s.n then some (.sl s) else none
     | none=>none
   | some (.struct fs)=>match shL (Yd P n) P 0 fs.toList with
     | some (l,m)=>if P.cellsOf t=m then some (.st l) else none
     | none=>none
   | _=>none
def Jm (w:World)(xs:List C)(cs:List Value):Prop:=xs.length=cs.length/\∀ (j:Nat) (c:C),xs[j]?=some c->∃ u,cs[j]?=some u/\zT w c u
theorem Jm.one {w:World}{c:C}{u:Value}(h:zT w c u):Jm w [c] [u]:=⟨rfl,fun j c' hj=>by
 cases j with
 | zero=>simp at hj;subst hj;exact ⟨u,rfl,h⟩
 | succ j=>simp at hj⟩
theorem Jm.append {w:World}{xs xs':List C}{cs cs':List Value}(h:Jm w xs cs)(h':Jm w xs' cs'):Jm w (xs++xs') (cs++cs'):=by
 refine ⟨by simp [h.1,h'.1],fun j c hj=>?_⟩
 by_cases hlt:j<xs.length
 . rw [List.getElem?_append_left hlt] at hj
   obtain ⟨u,h1,h2⟩:=h.2 j c hj
   exact ⟨u,by rw [List.getElem?_append_left (by rw [<-h.1];exact hlt)];exact h1,h2⟩
 . rw [List.getElem?_append_right (by omega)] at hj
   obtain ⟨u,h1,h2⟩:=h'.2 _ c hj
   exact ⟨u,by rw [List.getElem?_append_right (by rw [<-h.1];omega),<-h.1];exact h1,h2⟩
theorem qfT {α:Type}(p:Nat->α->Prop):∀ n:Nat,(∀ i,i<n->∃ y,p i y)->∃ ys:List α,ys.length=n/\∀ (i:Nat) (y:α),ys[i]?=some y->p i y:=by
 intro n
 induction n with
 | zero=>intro _;exact ⟨[],rfl,fun i y h=>by simp at h⟩
 | succ n ih =>
   intro h
   obtain ⟨ys,h1,h2⟩:=ih (fun i hi=>h i (by omega))
   obtain ⟨y,hy⟩:=h n (by omega)
   refine ⟨ys++[y],by simp [h1],fun i z hz=>?_⟩
   by_cases hlt:i<ys.length
   . rw [List.getElem?_append_left hlt] at hz;exact h2 i z hz
   . rw [List.getElem?_append_right (by omega)] at hz
     have hi:i-ys.length=0:=by
      rcases Nat.eq_zero_or_pos (i-ys.length) with e | e
      . exact e
      . rw [List.getElem?_eq_none (by simp;omega)] at hz;cases hz
     rw [hi] at hz
     simp at hz
     subst hz
     rw [show i=n by omega]
     exact hy
theorem WT {α β:Type}{f:α->Option β}:∀ {l:List α} {r:List β},l.mapM f=some r->r.length=l.length/\∀ (i:Nat) (x:α),l[i]?=some x->∃ y,r[i]?=some y/\f x=some y:=by
 intro l
 induction l with
 | nil=>intro r h;simp at h;subst h;exact ⟨rfl,fun i x h=>by simp at h⟩
 | cons a l ih =>
   intro r h
   simp only [List.mapM_cons] at h
   cases hf:f a with
   | none=>rw [hf] at h;simp at h
   | some b =>
     rw [hf] at h
     cases hr:l.mapM f with
     | none=>rw [hr] at h;simp at h
     | some r' =>
       rw [hr] at h
       simp at h
       subst h
       obtain ⟨h1,h2⟩:=ih hr
       refine ⟨by simp [h1],fun i x hx=>?_⟩
       cases i with
       | zero=>simp at hx;subst hx;exact ⟨b,rfl,hf⟩
       | succ i=>obtain ⟨y,h3,h4⟩:=h2 i x (by simpa using hx);exact ⟨y,by simpa using h3,h4⟩
theorem cells?_inv {w:World}{base:Nat}{a:Addr}{n:Nat}{cs:List Value}(h:w.cells? base a n=some cs):cs.length=n/\∀ j,j<n->∃ u,cs[j]?=some u/\w.cell? (a.add j)=some u:=by
 unfold World.cells? at h
 split at h
 . obtain ⟨h1,h2⟩:=WT h
   refine ⟨by simpa using h1,fun j hj=>?_⟩
   obtain ⟨y,h3,h4⟩:=h2 j j (by simp [hj])
   exact ⟨y,h3,h4⟩
 . cases h
theorem qfx {w:World}{P:Program}{f:TypeId->Option Sh}{g:TypeId->List Value->Prop}(hf:∀ t s cs,f t=some s->g t cs->∃ xs,Wt s xs/\Jm w xs cs):∀ (fs:List Field) (off:Nat) (l:List Sh) (m:Nat) (cs:List Value),shL f P off fs=some (l,m) →
 cs.length=m->(∀ x∈fs,g x.type ((cs.drop x.offset).take (P.cellsOf x.type)))->off<=m/\∃ xs,WtL l xs/\Jm w xs (cs.drop off):=by
 intro fs
 induction fs with
 | nil =>
   intro off l m cs h hl _
   simp [shL] at h
   obtain ⟨rfl,rfl⟩:=h
   exact ⟨Nat.le_refl _,[],rfl,by rw [List.drop_eq_nil_of_le (by omega)];exact ⟨rfl,fun j c h=>by simp at h⟩⟩
 | cons x fs ih =>
   intro off l m cs h hl hg
   simp only [shL] at h
   split at h
   . rename_i s hs
     split at h
     . rename_i hx
       obtain ⟨hx1,hx2⟩:=hx
       split at h
       . rename_i l' m' hrec
         simp at h
         obtain ⟨rfl,rfl⟩:=h
         obtain ⟨h1,xs,h2,h3⟩:=ih _ _ _ cs hrec hl (fun y hy=>hg y (List.mem_cons_of_mem _ hy))
         obtain ⟨ys,h4,h5⟩:=hf _ _ _ hs (hg x List.mem_cons_self)
         refine ⟨by omega,ys++xs,⟨ys,xs,rfl,h4,h2⟩,?_⟩
         have hcat:cs.drop off=(cs.drop off).take s.n++cs.drop (off+s.n):=by
          rw [<-List.drop_drop,List.take_append_drop]
         rw [hcat]
         rw [hx1,hx2] at h5
         exact h5.append h3
       . cases h
     . cases h
   . cases h
theorem qh9 {H:Type}{enc:TypeId×Value->H}{P:Program}{w:World}{base:Nat}{sp:Nat->Bool}:∀ (n:Nat) (t:TypeId) (s:Sh),Yd P n t=some s->∀ (fuel:Nat) (cs:List Value) (x:DataW H×List MemPlace),DataW.trod enc P w base sp true fuel t cs=some x →
 ∃ xs,Wt s xs/\Jm w xs cs:=by
 intro n
 induction n with
 | zero=>intro t s h;simp [Yd] at h
 | succ n ih =>
   intro t s h fuel cs x hx
   cases fuel with
   | zero=>simp [DataW.trod] at hx
   | succ fuel =>
     simp only [Yd] at h
     unfold DataW.trod at hx
     split at h
     . rename_i hu
       rw [hu] at hx
       simp at h
       subst h
       dsimp only at hx
       clear ih
       split at hx<;>simp_all
       rename_i b
       exact ⟨[.bool b],⟨b,rfl⟩,.one (zT.bool b)⟩
     . rename_i k hu
       rw [hu] at hx
       simp at h
       subst h
       dsimp only at hx
       clear ih
       split at hx<;>simp_all
       obtain ⟨⟨rfl,h1⟩,_⟩:=hx
       simp [Lit.wf] at h1
       exact ⟨[.int _ _],⟨_,rfl,h1.1,h1.2⟩,.one (zT.int _ _)⟩
     . rename_i hu
       rw [hu] at hx
       simp at h
       subst h
       dsimp only at hx
       clear ih
       split at hx<;>simp_all
       rename_i b
       exact ⟨[.str b],⟨b,rfl,hx.1⟩,.one (zT.str b)⟩
     . rename_i e hu
       rw [hu] at hx
       split at h
       . rename_i s' he
         split at h
         . rename_i hsz
           simp at h
           subst h
           have ih':∀ (cs:List Value) (x:DataW H×List MemPlace),DataW.trod enc P w base sp true fuel e cs=some x->∃ xs,Wt s' xs/\Jm w xs cs:=fun cs x hx=>ih e s' he fuel cs x hx
           clear ih
           dsimp only at hx
           split at hx
           all_goals first
            | (rename_i h1;cases h1;done)
            | skip
           . exact ⟨[.sl []],⟨[],rfl,Nat.zero_le _,fun y hy=>by cases hy⟩,.one (zT.sl [] s'.n none 0 (fun _ _=>undef) (Nat.le_refl _) (fun y hy=>by cases hy) (fun h=>(h rfl).elim) (fun ad h=>by cases h) (fun i j y c h=>by simp at h))⟩
           . rename_i e' a len cap heq
             injection heq with heq
             injection heq with heq
             subst heq
             split at hx
             . rename_i hc
               obtain ⟨_,hlc,hcm⟩:=hc
               cases hel:(List.range len).mapM (fun i=>(w.cells? base (a.add (i * P.cellsOf e)) (P.cellsOf e)).bind (DataW.trod enc P w base sp true fuel e)) with
               | none=>rw [hel] at hx;simp at hx
               | some elems =>
                 obtain ⟨_,hm⟩:=WT hel
                 obtain ⟨ys,hyl,hys⟩:=qfT (fun i (y:List C)=>Wt s' y/\y.length=s'.n/\∀ (j:Nat) (c:C),y[j]?=some c->∃ u,w.cell? ((a.add (i * s'.n)).add j)=some u/\zT w c u) len (by
                  intro i hi
                  obtain ⟨z,_,hz⟩:=hm i i (by simp [hi])
                  cases hcs:w.cells? base (a.add (i * P.cellsOf e)) (P.cellsOf e) with
                  | none=>rw [hcs] at hz;simp at hz
                  | some csi =>
                    rw [hcs] at hz
                    obtain ⟨xs,h1,h2⟩:=ih' csi z hz
                    obtain ⟨h3,h4⟩:=cells?_inv hcs
                    refine ⟨xs,h1,Wt.len s' h1,fun j c hj=>?_⟩
                    obtain ⟨u,h5,h6⟩:=h2.2 j c hj
                    have hjl:j<P.cellsOf e:=by rw [<-h3];exact (List.getElem?_eq_some_iff.1 h5).1
                    obtain ⟨u',h7,h8⟩:=h4 j hjl
                    rw [h5] at h7
                    injection h7 with h7
                    subst h7
                    rw [hsz.1] at h8
                    exact ⟨u,h8,h6⟩)
                 refine ⟨[.sl ys],⟨ys,rfl,by omega,fun y hy=>?_⟩,?_⟩
                 . obtain ⟨i,hi⟩:=List.mem_iff_getElem?.1 hy
                   exact (hys i y hi).1
                 . have hspot:ys≠[]->a.spot=none/\a.block<w.heap.size:=by
                    intro hne
                    obtain ⟨y,hy⟩:=kK (l:=ys) (i:=0) (by cases ys with | nil=>exact absurd rfl hne | cons _ _=>simp)
                    obtain ⟨_,h2,h3⟩:=hys 0 y hy
                    obtain ⟨c,hc⟩:=kK (l:=y) (i:=0) (by omega)
                    obtain ⟨u,h4,_⟩:=h3 0 c hc
                    have h4':w.cell? a=some u:=by simpa [Addr.add] using h4
                    refine ⟨?_,qie h4'⟩
                    unfold World.cell? at h4'
                    split at h4'
                    . split at h4'
                      . cases h4'
                      . rename_i hs;simpa using hs
                    . cases h4'
                   rw [<-hyl]
                   refine Jm.one (zT.sl ys s'.n (some a) cap (fun i j=>(w.cell? ((a.add (i * s'.n)).add j)).getD undef) (by omega) (fun y hy=>?_) (fun hne=>⟨a,rfl,(hspot hne).1,(hspot hne).2,jU _⟩) ?_ ?_)
                   . obtain ⟨i,hi⟩:=List.mem_iff_getElem?.1 hy
                     exact (hys i y hi).2.1
                   . intro ad hab i j y c hi hj
                     injection hab with hab
                     subst hab
                     obtain ⟨u,h1,_⟩:=(hys i y hi).2.2 j c hj
                     have hne:ys≠[]:=by intro e;subst e;simp at hi
                     rw [h1,<-JN (hspot hne).1,h1]
                     rfl
                   . intro i j y c hi hj
                     obtain ⟨u,h1,h2⟩:=(hys i y hi).2.2 j c hj
                     simp only [h1,Option.getD_some]
                     exact h2
             . cases hx
           . cases hx
         . cases h
       . cases h
     . rename_i fs hu
       rw [hu] at hx
       split at h
       . rename_i l m hsl
         split at h
         . rename_i hcl
           simp at h
           subst h
           dsimp only at hx
           split at hx
           . rename_i hlen
             cases hm:fs.toList.mapM (fun f=>DataW.trod enc P w base sp true fuel f.type ((cs.drop f.offset).take (P.cellsOf f.type))) with
             | none=>rw [hm] at hx;simp at hx
             | some r =>
               obtain ⟨_,h2⟩:=WT hm
               obtain ⟨_,xs,h3,h4⟩:=qfx (w:=w) (P:=P) (f:=Yd P n) (g:=fun t cs=>∃ x,DataW.trod enc P w base sp true fuel t cs=some x) (fun t s cs hs ⟨x,hx⟩=>ih t s hs fuel cs x hx) fs.toList 0 l m cs hsl (by rw [hlen,hcl]) (by
                intro f hf
                obtain ⟨i,hi⟩:=List.mem_iff_getElem?.1 hf
                obtain ⟨y,_,hy⟩:=h2 i f hi
                exact ⟨y,hy⟩)
               exact ⟨xs,h3,by simpa using h4⟩
           . cases hx
         . cases h
       . cases h
     . cases h
end Go.Proofs.YtifnopmkdempdaaGreat.Ai
namespace Go.Proofs.YtifnopmkdempdaaGreat.Ai
open Go Go.RowKit Go.ChangeShapes
instance fenceFree':qk:=qN
def Sh.isSt:Sh->Bool
 | .st _=>true
 | _=>false
def qaf:List Sh->List (V1 C)->Prop
 | [],xs=>xs=[]
 | s::r,xs=>∃ y ys,xs=(s.isSt,y)::ys/\Wt s y/\qaf r ys
theorem qlE {H:Type}{enc:TypeId×Value->H}{P:Program}{W:World}{sp:Nat->Bool}{n:Nat}{t:TypeId}{s:Sh}(hs:Yd P n t=some s){r:Reach}{base b0:Nat}{v:Value}{d:DataW H}{ps:List MemPlace}(hok:Value.okWide P W r b0 t v)
 (h:DataW.Trod enc P W base sp true t v d ps):∃ xs,Wt s xs/\qU (fun _=>@qt qN W (fun _=>none)) (s.isSt,xs) v:=by
 obtain ⟨fuel,h⟩:=h
 obtain ⟨xs,h1,h2⟩:=qh9 n t s hs fuel _ _ h
 refine ⟨xs,h1,?_⟩
 cases n with
 | zero=>simp [Yd] at hs
 | succ n =>
   have one:∀ c:C,xs=[c]->v.cells=#[v]->s.isSt=false->qU (fun _=>@qt qN W (fun _=>none)) (s.isSt,xs) v:=by
    intro c hc hv hst
    subst hc
    rw [hst]
    obtain ⟨u,h3,h4⟩:=h2.2 0 c rfl
    rw [hv] at h3
    simp at h3
    subst h3
    exact h4
   have hv1:∀ u:TypeDesc,P.underlying t=some u->(∀ fs,u≠.struct fs)->(∀ m e,u≠.array m e)->Cell.okWide P W r b0 t v:=by
    intro u hu h3 h4
    unfold Value.okWide at hok
    rw [hu] at hok
    cases u<;>first | exact hok | exact absurd rfl (h3 _) | exact absurd rfl (h4 _ _)
   simp only [Yd] at hs
   split at hs
   . rename_i hu
     simp at hs
     subst hs
     have hc:=hv1 _ hu (by simp) (by simp)
     obtain ⟨b,hb⟩:=h1
     refine one _ hb ?_ rfl
     unfold Cell.okWide Cell.ok at hc
     simp only [hu] at hc
     cases v<;>first | rfl | exact hc.elim
   . rename_i k hu
     simp at hs
     subst hs
     have hc:=hv1 _ hu (by simp) (by simp)
     obtain ⟨b,hb,_⟩:=h1
     refine one _ hb ?_ rfl
     unfold Cell.okWide Cell.ok at hc
     simp only [hu] at hc
     cases v<;>first | rfl | exact hc.elim
   . rename_i hu
     simp at hs
     subst hs
     have hc:=hv1 _ hu (by simp) (by simp)
     obtain ⟨b,hb,_⟩:=h1
     refine one _ hb ?_ rfl
     unfold Cell.okWide Cell.ok at hc
     simp only [hu] at hc
     cases v<;>first | rfl | exact hc.elim
   . rename_i e hu
     have hc:=hv1 _ hu (by simp) (by simp)
     have hcells:v.cells=#[v]:=by
      unfold Cell.okWide Cell.ok at hc
      simp only [hu] at hc
      cases v<;>first | rfl | exact hc.elim
     split at hs
     . split at hs
       . simp at hs
         subst hs
         obtain ⟨ys,hb,_⟩:=h1
         exact one _ hb hcells rfl
       . cases hs
     . cases hs
   . rename_i fs hu
     split at hs
     . split at hs
       . simp at hs
         subst hs
         unfold Value.okWide at hok
         rw [hu] at hok
         obtain ⟨cs,rfl,_⟩:=hok
         refine ⟨cs,rfl,?_,?_⟩
         . have:=h2.1
           simpa [Value.cells] using this.symm
         . intro j c hj
           obtain ⟨u,h3,h4⟩:=h2.2 j c hj
           exact ⟨u,by simpa [Value.cells] using h3,h4⟩
       . cases hs
     . cases hs
   . cases hs
theorem qmc {H:Type}{enc:TypeId×Value->H}{P:Program}{W:World}{sp:Nat->Bool}{n:Nat}{r:Reach}{base b0:Nat}:∀ (ts:List TypeId) (shs:List Sh) (vs:List Value) (ds:List (DataW H)) (ps:List MemPlace),ts.map (Yd P n)=shs.map some →
 (∀ (j:Nat) t v,ts[j]?=some t->vs[j]?=some v->Value.okWide P W r b0 t v)->DataW.TrodAll enc P W base sp true ts vs ds ps →
 vs.length=ts.length/\∃ xs,qaf shs xs/\xs.length=vs.length/\∀ (k:Nat) (x:V1 C),xs[k]?=some x->∃ u,vs[k]?=some u/\qU (fun _=>@qt qN W (fun _=>none)) x u:=by
 intro ts
 induction ts with
 | nil =>
   intro shs vs ds ps hsh hok h
   obtain ⟨rfl,rfl,rfl⟩:=trodAll_nil h
   have:shs=[]:=by cases shs<;>simp_all
   subst this
   exact ⟨rfl,[],rfl,rfl,fun k x hk=>by simp at hk⟩
 | cons t ts ih =>
   intro shs vs ds ps hsh hok h
   obtain ⟨v,vs',d,ds',p,q,rfl,rfl,rfl,h0,hr⟩:=trodAll_cons h
   cases shs with
   | nil=>simp at hsh
   | cons s shs =>
     simp only [List.map_cons,List.cons.injEq] at hsh
     obtain ⟨h1,xs,h2,h3,h4⟩:=ih shs vs' ds' q hsh.2 (fun j t v ht hv=>hok (j+1) t v (by simpa using ht) (by simpa using hv)) hr
     obtain ⟨y,h5,h6⟩:=qlE hsh.1 (hok 0 t v rfl rfl) h0
     refine ⟨by simp [h1],(s.isSt,y)::xs,⟨y,xs,rfl,h5,h2⟩,by simp [h3],fun k x hk=>?_⟩
     cases k with
     | zero=>simp at hk;subst hk;exact ⟨v,rfl,h6⟩
     | succ k=>obtain ⟨u,h7,h8⟩:=h4 k x (by simpa using hk);exact ⟨u,by simpa using h7,h8⟩
theorem qlW {H:Type}{enc:TypeId×Value->H}{P:Program}(hl:laidOutB P=true){W W':World}(hb:Below W.heap.size W W'):∀ (ts:List TypeId) (vs:List Value) (ds:List (DataW H)) (ps:List MemPlace),(ts.all fun t=>P.readableRec t&&decide (t<P.types.size))=true →
 DataW.TrodAll enc P W 0 (fun _=>true) true ts vs ds ps->(∀ x∈ps,x.block<W.heap.size)->DataW.TrodAll enc P W' 0 (fun b=>decide (b<W.heap.size)) true ts vs ds ps:=by
 intro ts
 induction ts with
 | nil=>intro vs ds ps _ h _;obtain ⟨rfl,rfl,rfl⟩:=trodAll_nil h;exact rfl
 | cons t ts ih =>
   intro vs ds ps ht h hlt
   obtain ⟨v,vs',d,ds',p,q,rfl,rfl,rfl,h0,hr⟩:=trodAll_cons h
   simp only [List.all_cons,Bool.and_eq_true,decide_eq_true_eq] at ht
   exact ⟨p,q,Below.trod hl ht.1.1 ht.1.2 h0 hb (fun x hx=>hlt x (List.mem_append.2 (.inl hx))),ih vs' ds' q ht.2 hr (fun x hx=>hlt x (List.mem_append.2 (.inr hx))),rfl⟩
def qsp:TV O:=.v (false,[.fz (.bool true)])
@[reducible] def qac [qi] (n:Nat):qk:=⟨fun _=>False,fun _=>.bool false,n,fun _=>none,qi.fut⟩
theorem qoJ [qi] {P:Program}{g:FuncId}{W:World}{args:Array Value}{xs:List (V1 C)}(h:zJ P g xs qsp)(hl:xs.length=args.toList.length)(hk:∀ (k:Nat) (x:V1 C),xs[k]?=some x->∃ u,args.toList[k]?=some u/\qU (fun _=>@qt qN W (fun _=>none)) x u) :
 Calls P g args W fun e W'=>e=.returned (.bool true)/\Below W.heap.size W W':=by
 refine (h.2 (qac W.heap.size) W args rfl (@Kw.mk (qac W.heap.size) _ (fun b hb=>hb.elim) (Nat.le_refl _)) (by simpa using hl.symm) (fun k x hx=>?_)).mono ?_
 . obtain ⟨u,h1,h2⟩:=hk k x hx
   refine ⟨u,by simpa using h1,qU.imp (fun j c v hr=>?_) h2⟩
   refine qt.swap hr (fun b _ hb=>⟨rfl,fun h=>h⟩) fun b hb=>?_
   unfold qk.memo
   show (if b<0 then none else none)=(if b<W.heap.size then none else _)
   rw [if_pos hb,if_neg (by omega)]
 . rintro e W' ⟨v,rfl,hres⟩
   obtain ⟨σr,_,_,hrep,_⟩:=@jG.rep (qac W.heap.size) _ _ _ _ hres
   have hv:@qq (qac W.heap.size) W' σr (qC,[(0,0)]) (.fz (.bool true)) v:=hrep
   have:v=.bool true:=by
    cases hv with
    | fz _ _ _ h=>exact @qt.bool_inv (qac W.heap.size) _ _ _ _ h
   subst this
   have hb:=@jG.below (qac W.heap.size) _ _ _ _ hres
   refine ⟨rfl,@zM.os (qac W.heap.size) _ _ hb,@zM.tape (qac W.heap.size) _ _ hb,@zM.output (qac W.heap.size) _ _ hb,@zM.size (qac W.heap.size) _ _ hb,fun b hlt=>?_⟩
   rcases @zM.heap (qac W.heap.size) _ _ hb b hlt with h | ⟨g,x,x',h1,_⟩
   . exact h
   . exfalso
     unfold qk.memo at h1
     have h1:(if b<W.heap.size then none else qi.fut)=some g:=h1
     rw [if_pos hlt] at h1
     cases h1
end Go.Proofs.YtifnopmkdempdaaGreat.Ai
namespace Go.Proofs.YtifnopmkdempdaaGreat.Ai
open Go
theorem qeP (n:Nat):@NatCast.natCast Int instNatCastInt n=(n:Int):=rfl
theorem Cue.eta (q:Cue):(⟨q.name,q.after,q.atEnd,q.low,q.high,q.min,q.max,q.free,q.cond,q.watch,q.device⟩:Cue)=q:=rfl
theorem Tie.eta (q:Tie):(⟨q.src,q.dst,q.low,q.high,q.free⟩:Tie)=q:=rfl
theorem Edge.eta (q:Go.Proofs.YtifnopmkdempdaaGreat.Ai.Edge):(⟨q.src,q.dst,q.w⟩:Go.Proofs.YtifnopmkdempdaaGreat.Ai.Edge)=q:=rfl
theorem Ql.eta (q:Ql):(⟨q.src,q.dst,q.low,q.high⟩:Ql)=q:=rfl
theorem qh.eta (q:qh):(⟨q.name,q.label,q.watch⟩:qh)=q:=rfl
def inI (n:Int):Prop:=IntKind.min .i64<=n/\n<=IntKind.max .i64
theorem Zf (n:Int):inI n↔-9223372036854775808<=n/\n<=9223372036854775807:=Iff.rfl
theorem yq {α:Type}{e:Sh}{f:α->List C}{P:α->Prop}(he:∀ y,Wt e y->∃ a,y=f a/\P a):∀ {ys:List (List C)},(∀ y,y∈ys->Wt e y)->∃ l:List α,ys=l.map f/\∀ a∈l,P a
 | [],_=>⟨[],rfl,fun _ h=>by cases h⟩
 | y::ys,h=>by
   obtain ⟨a,h1,h2⟩:=he y (h y List.mem_cons_self)
   obtain ⟨l,h3,h4⟩:=yq he (ys:=ys) (fun z hz=>h z (List.mem_cons_of_mem _ hz))
   exact ⟨a::l,by rw [h1,h3];rfl,fun b hb=>(List.mem_cons.1 hb).elim (fun e=>e▸h2) (h4 b)⟩
theorem qb0 {y:List C}(h:Wt (.sl (.int .i64)) y):∃ l:List Int,y=[(D.sl (.i l)).er]/\l.length<=maxLen/\∀ n∈l,inI n:=by
 obtain ⟨ys,rfl,h1,h2⟩:=h
 obtain ⟨l,rfl,h3⟩:=yq (f:=fun n:Int=>[C.int .i64 n]) (P:=inI) (fun y hy=>by obtain ⟨n,h1,h2⟩:=hy;exact ⟨n,h1,h2⟩) h2
 exact ⟨l,rfl,by simpa using h1,h3⟩
def qnB:Sh:=.st [.str,.sl (.int .i64),.int .i64]
def qqv:Sh:=.st [.int .i64,.int .i64,.int .i64,.int .i64,.bool]
def qhd:Sh:=.st [.sl qnB,.sl qqv,.int .i64]
def qdr:Sh:=.st [.int .i64,.sl (.int .i64),.sl (.int .i64)]
structure qnD (q:qh):Prop where
 name:q.name.size<=maxLen
 len:q.label.length<=maxLen
 label:∀ n∈q.label,inI n
 watch:inI q.watch
structure qqJ (q:Tie):Prop where
 src:inI q.src
 dst:inI q.dst
 low:inI q.low
 high:inI q.high
structure qcP (t:qm):Prop where
 len:t.nodes.length<=maxLen
 tlen:t.ties.length<=maxLen
 nodes:∀ q∈t.nodes,qnD q
 ties:∀ q∈t.ties,qqJ q
 hor:inI t.hor
structure yj (t:qf):Prop where
 now:inI t.now
 len:t.times.length<=maxLen
 vlen:t.vals.length<=maxLen
 times:∀ n∈t.times,inI n
 vals:∀ n∈t.vals,inI n
theorem qpu {y:List C}(h:Wt qnB y):∃ q:qh,y=D.erL q.d/\qnD q:=by
 obtain ⟨_,_,rfl,⟨x1,rfl,h1⟩,h⟩:=h
 obtain ⟨_,_,rfl,h2,h⟩:=h
 obtain ⟨_,_,rfl,⟨x3,rfl,h3⟩,h⟩:=h
 obtain rfl:=h
 obtain ⟨l,rfl,h4,h5⟩:=qb0 h2
 exact ⟨⟨x1,l,x3⟩,rfl,h1,h4,h5,h3⟩
theorem qrx {y:List C}(h:Wt qqv y):∃ q:Tie,y=D.erL q.d/\qqJ q:=by
 obtain ⟨_,_,rfl,⟨x1,rfl,h1⟩,h⟩:=h
 obtain ⟨_,_,rfl,⟨x2,rfl,h2⟩,h⟩:=h
 obtain ⟨_,_,rfl,⟨x3,rfl,h3⟩,h⟩:=h
 obtain ⟨_,_,rfl,⟨x4,rfl,h4⟩,h⟩:=h
 obtain ⟨_,_,rfl,⟨x5,rfl⟩,h⟩:=h
 obtain rfl:=h
 exact ⟨⟨x1,x2,x3,x4,x5⟩,rfl,h1,h2,h3,h4⟩
theorem qo6 {y:List C}(h:Wt qhd y):∃ t:qm,y=D.erL t.d/\qcP t:=by
 obtain ⟨_,_,rfl,⟨ys,rfl,h1,h2⟩,h⟩:=h
 obtain ⟨_,_,rfl,⟨zs,rfl,h3,h4⟩,h⟩:=h
 obtain ⟨_,_,rfl,⟨x3,rfl,h5⟩,h⟩:=h
 obtain rfl:=h
 obtain ⟨l,rfl,h6⟩:=yq (fun y hy=>qpu hy) h2
 obtain ⟨ts,rfl,h7⟩:=yq (fun y hy=>qrx hy) h4
 exact ⟨⟨l,ts,x3⟩,rfl,by simpa using h1,by simpa using h3,h6,h7,h5⟩
theorem qot {y:List C}(h:Wt qdr y):∃ t:qf,y=D.erL t.d/\yj t:=by
 obtain ⟨_,_,rfl,⟨x1,rfl,h1⟩,h⟩:=h
 obtain ⟨_,_,rfl,h2,h⟩:=h
 obtain ⟨_,_,rfl,h3,h⟩:=h
 obtain rfl:=h
 obtain ⟨l,rfl,h4,h5⟩:=qb0 h2
 obtain ⟨m,rfl,h6,h7⟩:=qb0 h3
 exact ⟨⟨x1,l,m⟩,rfl,h1,h4,h6,h5,h7⟩
theorem qhl {ys:List (V1 C)}(h:qaf [] ys):ys=[]:=h
theorem VG {s:Sh}{r:List Sh}{ys:List (V1 C)}(h:qaf (s::r) ys):∃ y zs,ys=(s.isSt,y)::zs/\Wt s y/\qaf r zs:=h
end Go.Proofs.YtifnopmkdempdaaGreat.Ai
