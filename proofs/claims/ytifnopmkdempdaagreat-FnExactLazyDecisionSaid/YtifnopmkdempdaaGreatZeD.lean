/- The law's proof, part 4 of 11: what of its author's texts it needs; no condition. -/
import Derived.Carry
import Derived.ChangeShapes
import Derived.Test.YtifnopmkdempdaaGreatZeC
set_option linter.unusedSectionVars false
set_option linter.unusedSimpArgs false
set_option linter.unusedVariables false
namespace Go.Proofs.YtifnopmkdempdaaGreat.Ai
open Go
theorem R.Sim.mk {α:Type}{ps:List Prop}{a:α}{Q:α->Prop}(h:Holds ps->Q a):R.Sim (some (ps,a)) Q:=by
 intro qs b e hp;injection e with e;injection e with e1 e2;subst e1 e2;exact h hp
def qqc:Option B->Option (Option Int)
 | none=>some none
 | some (.fz (.int _ n))=>some (some n)
 | some _=>none
def lhB (M:MB):Option Int->Option Int->Nat->R (Nat×Nat)
 | none,none,len=>R.ok (0,len)
 | some l,none,len=>some ([M.pGeZ l,M.pLeN (M.toN l) len],(M.toN l,len))
 | none,some h,len=>some ([M.pGeZ h,M.pLeN (M.toN h) len],(0,M.toN h))
 | some l,some h,len=>some ([M.pGeZ l,M.pGeZ h,M.pLeN (M.toN l) (M.toN h),M.pLeN (M.toN h) len],(M.toN l,M.toN h))
theorem Holds.four {p q r t:Prop}(h:Holds [p,q,r,t]):p/\q/\r/\t:=⟨h p (by simp),h q (by simp),h r (by simp),h t (by simp)⟩
theorem qdo (lo hi:Option Int)(len:Nat):(lhB qn lo hi len).Sim fun r=>std.lh lo hi len=some r/\r.1<=r.2/\r.2<=len:=by
 cases lo with
 | none =>
   cases hi with
   | none=>exact R.Sim.ok ⟨rfl,Nat.zero_le _,Nat.le_refl _⟩
   | some h =>
     refine R.Sim.mk fun hp=>?_
     obtain ⟨h1,h2⟩:=hp.two
     simp only [qn] at h1 h2
     refine ⟨?_,Nat.zero_le _,h2⟩
     show Z4 none (some h) len=_
     simp only [Z4]
     rw [if_pos ⟨h1,by omega⟩]
     rfl
 | some l =>
   cases hi with
   | none =>
     refine R.Sim.mk fun hp=>?_
     obtain ⟨h1,h2⟩:=hp.two
     simp only [qn] at h1 h2
     refine ⟨?_,h2,Nat.le_refl _⟩
     show Z4 (some l) none len=_
     simp only [Z4]
     rw [if_pos ⟨h1,by omega⟩]
     rfl
   | some h =>
     refine R.Sim.mk fun hp=>?_
     obtain ⟨h1,h2,h3,h4⟩:=hp.four
     simp only [qn] at h1 h2 h3 h4
     refine ⟨?_,h3,h4⟩
     show Z4 (some l) (some h) len=_
     simp only [Z4]
     rw [if_pos ⟨h1,by omega,by omega⟩]
     rfl
def evO (F:SF):Option Operand->Option B
 | none=>none
 | some x=>some (z6 F x)
theorem qon (F:SF)(x:Option Operand):(evO F x).map B.er=Qt F.er x:=by
 cases x with
 | none=>rfl
 | some y=>simp only [evO,Option.map_some,qK,Qt]
theorem qjz {x:Option B}{r:Option Int}(h:qqc x=some r):bnd (x.map B.er)=some r:=by
 unfold qqc at h
 split at h
 . simp only [Option.some.injEq] at h;subst h;rfl
 . simp only [Option.some.injEq] at h;subst h;rfl
 . cases h
def qj8:Option B->Bool
 | none=>true
 | some _=>false
def qdK (M:MB)(F:SF)(str:Bool)(size:Nat)(x:B)(lo hi mx:Option B):R (TV B) :=
 match qj8 mx with
 | false=>none
 | true=>(match qqc lo,qqc hi with
   | some lo,some hi=>(match str with
     | true=>(match x with
       | .fz (.str s)=>(lhB M lo hi (M.sLen s)).bd fun r=>R.ok (.v (false,[.fz (.str (M.sCut s r.1 r.2))]))
       | _=>none)
     | false=>(match x with
       | .fz (.sl x)=>(match nq x.sz size with
         | true=>(lhB M lo hi (x.len M)).bd fun r=>(match x.cut M r.1 (M.nSub r.2 r.1) with
           | some y=>R.ok (.v (false,[.fz (.sl y)]))
           | none=>none)
         | false=>none)
       | .rf p _ off len=>(F.atR M p).bd fun o=>(match o with
         | .osl x=>(match nq x.sz size with
           | true=>(lhB M lo hi len).bd fun r=>some ([M.pLeN (M.nAdd off len) (x.len M)],.v (false,[.rf p false (M.nAdd off r.1) (M.nSub r.2 r.1)]))
           | false=>none)
         | _=>none)
       | _=>none))
   | _,_=>none)
theorem qdq {α:Type}{l:List (List α)}{n:Nat}(h:∀ y∈l,y.length=n):(l.all fun y=>y.length == n)=true:=by
 rw [List.all_eq_true];intro y hy;simp [h y hy]
theorem YU (F:SF)(str:Bool)(size:Nat)(x:B)(lo hi mx:Option B):(qdK qn F str size x lo hi mx).Sim fun v =>
 (match str with | true=>YN std x.er (lo.map B.er) (hi.map B.er) (mx.map B.er) | false=>ZC std F.er size x.er (lo.map B.er) (hi.map B.er) (mx.map B.er))=some (.val (v.er B.erL)):=by
 unfold qdK
 split
 . exact R.Sim.none'
 . rename_i hmx
   have hm:mx.map B.er=none:=by cases mx with | none=>rfl | some _=>simp [qj8] at hmx
   rw [hm]
   split
   . rename_i lo' hi' hl hh
     have hl:=qjz hl
     have hh:=qjz hh
     cases str with
     | true =>
       dsimp only
       split
       . rename_i s
         refine R.Sim.bd (qdo lo' hi' _) fun r hr=>R.Sim.ok ?_
         simp only [B.er,D.er,YN,hl,hh]
         have:std.lh lo' hi' (std.sLen s)=some r:=hr.1
         rw [this]
         rfl
       . exact R.Sim.none'
     | false =>
       dsimp only
       split
       . rename_i x
         split
         . rename_i hsz
           obtain hsz:=Nat.eq_of_beq_eq_true hsz
           refine R.Sim.bd (qdo lo' hi' _) fun r hr=>?_
           split
           . rename_i y hy
             refine R.Sim.ok ?_
             simp only [B.er,D.er,ZC,hl,hh]
             have h1:std.lh lo' hi' (std.cLen x.rc)=some r:=by have:=hr.1;show Z4 lo' hi' x.rc.length=_;rw [LL.len_rc];exact this
             have h2:std.cSz size x.rc=true:=qdq (by rw [<-hsz];exact x.rc_sz)
             rw [h1,h2]
             show some (QR.val (.v (false,[.fz (.sl ((x.rc.drop r.1).take (r.2-r.1)))])))=_
             have h3:=LL.cut_rc hy
             rw [show qn.nSub r.2 r.1=r.2-r.1 from rfl] at h3
             rw [<-h3]
             rfl
           . exact R.Sim.none'
         . exact R.Sim.none'
       . rename_i p w off len
         refine R.Sim.bd (F.atR_sim p) fun o ho=>?_
         split
         . rename_i x
           split
           . rename_i hsz
             obtain hsz:=Nat.eq_of_beq_eq_true hsz
             refine R.Sim.bd (qdo lo' hi' _) fun r hr=>R.Sim.mk fun hp=>?_
             simp only [B.er,ZC,hl,hh,ho,W.er]
             have h2:(std.oSz size x.ro&&std.nLe (std.nAdd off len) (std.oLen x.ro))=true:=by
              have h3:std.oSz size x.ro=true:=qdq (by rw [<-hsz];exact x.ro_sz)
              have h4:off+len<=x.len qn:=hp.one
              rw [h3]
              show decide (off+len<=x.ro.length)=true
              rw [LL.len_ro]
              simpa using h4
             rw [hr.1,h2]
             rfl
           . exact R.Sim.none'
         . exact R.Sim.none'
       . exact R.Sim.none'
   . exact R.Sim.none'
def qhv (off:Nat):B->Option B
 | .pp p i j=>some (.pp p i (j+off))
 | .fz (.ptr cs)=>some (.fz (.ptr (QD cs off)))
 | _=>none
theorem qmO {off:Nat}{x y:B}(h:qhv off x=some y):qae off x.er=some y.er:=by
 unfold qhv at h
 split at h
 . simp only [Option.some.injEq] at h;subst h;rfl
 . simp only [Option.some.injEq] at h;subst h;simp only [B.er,D.er,qae,D.erL_eq,qb3]
 . cases h
def qiv (M:MB)(F:SF)(size:Nat)(x i:B):R B :=
 match i with
 | .fz (.int _ n)=>(match x with
   | .rf p w off len=>(F.atR M p).bd fun o=>(match o with
     | .osl y=>(match nq y.sz size with
       | true=>(match w with
         | true=>some ([M.pIx n len,M.pEqN off 0,M.pEqN len (y.len M)],.pp p (false,M.toN n) 0)
         | false=>some ([M.pIx n len,M.pLeN (M.nAdd off len) (y.len M)],.pp p (false,M.nAdd off (M.toN n)) 0))
       | false=>none)
     | _=>none)
   | .fz (.sl y)=>(match nq y.sz size with
     | true=>some ([M.pIx n (y.len M)],.fz (.ptr (y.atD M (M.toN n))))
     | false=>none)
   | _=>none)
 | _=>none
theorem qpY (x:LL)(n:Nat)(M:MB):(x.atD M n).length=x.sz:=by cases x<;>rfl
theorem qhd (F:SF)(size:Nat)(x i:B):(qiv qn F size x i).Sim fun y=>Kh std x.er i.er=some y.er/\QB std F.er size y.er=true:=by
 unfold qiv
 split
 . rename_i k n
   split
   . rename_i p w off len
     refine R.Sim.bd (F.atR_sim p) fun o ho=>?_
     split
     . rename_i y
       split
       . rename_i hsz
         obtain hsz:=Nat.eq_of_beq_eq_true hsz
         have key:0<=n->n<len->off+len<=y.len qn->Kh std (B.rf p w off len).er (B.fz (.int k n)).er=some (A.pp p.er (off+n.toNat) 0)/\QB std F.er size (A.pp p.er (off+n.toNat) 0)=true:=by
          intro h1 h2 h3
          have hix:std.ix n len=some n.toNat:=if_pos ⟨h1,h2⟩
          refine ⟨by simp only [B.er,D.er,Kh,hix];rfl,?_⟩
          have hlt:off+n.toNat<y.ro.length:=by rw [LL.len_ro];omega
          have hg:std.oGet y.ro (off+n.toNat)=some y.ro[off+n.toNat]:=List.getElem?_eq_getElem hlt
          simp only [QB,ho,W.er,hg]
          have:=y.ro_sz _ (List.getElem_mem hlt)
          rw [kV,this,hsz]
          simp
         split
         . refine R.Sim.mk fun hp=>?_
           obtain ⟨⟨h1,h2⟩,h3,h4⟩:=hp.three
           have h3:off=0:=h3
           have h4:len=y.len qn:=h4
           have:=key h1 h2 (by omega)
           subst h3
           simpa [B.er,qn] using this
         . refine R.Sim.mk fun hp=>?_
           obtain ⟨⟨h1,h2⟩,h3⟩:=hp.two
           exact key h1 h2 h3
       . exact R.Sim.none'
     . exact R.Sim.none'
   . rename_i y
     split
     . rename_i hsz
       obtain hsz:=Nat.eq_of_beq_eq_true hsz
       refine R.Sim.mk fun hp=>?_
       obtain ⟨h1,h2⟩:=hp.one
       have hlt:n.toNat<y.len qn:=by omega
       have hix:std.ix n (std.cLen y.rc)=some n.toNat:=by
        show (if 0<=n/\n<(y.rc.length:Int) then some n.toNat else none)=_
        rw [LL.len_rc,if_pos ⟨h1,h2⟩]
       have hg:std.cGet y.rc n.toNat=some ((y.atD qn n.toNat).map D.er):=LL.rc_get y _ hlt
       refine ⟨by simp only [B.er,D.er,Kh,hix,hg,D.erL_eq];rfl,?_⟩
       simp only [B.er,D.er,QB,D.erL_eq,kV,List.length_map]
       show nq (y.atD qn n.toNat).length size=true
       rw [qpY,hsz]
       simp
     . exact R.Sim.none'
   . exact R.Sim.none'
 . exact R.Sim.none'
def qsD (M:MB):B->Option Int
 | .fz (.sl x)=>some (M.nI (x.len M))
 | .fz .nilsl=>some 0
 | .rf _ _ _ len=>some (M.nI len)
 | _=>none
theorem qp4 {x:B}{n:Int}(h:qsD qn x=some n):qp6 std x.er=some n:=by
 unfold qsD at h
 split at h
 . rename_i x
   simp only [Option.some.injEq] at h
   subst h
   show some (std.nI (x.rc.length))=_
   rw [LL.len_rc]
   rfl
 . simp only [Option.some.injEq] at h;subst h;rfl
 . simp only [Option.some.injEq] at h;subst h;rfl
 . cases h
def qg3 (M:MB)(F:SF):B->R ByteArray
 | .fz .nilsl=>R.ok (M.sOf [])
 | .fz (.sl (.u l))=>R.ok (M.sOf l)
 | .rf p _ off len=>(F.atR M p).bd fun o=>(match o with
   | .osl (.u l)=>some ([M.pEqN off 0,M.pEqN len (M.len l)],M.sOf l)
   | .onil=>some ([M.pEqN off 0,M.pEqN len 0],M.sOf [])
   | _=>none)
 | _=>none
theorem qoP (l:List Int):ZB (l.map fun n=>[C.int .u8 n])=some (l.map fun n=>UInt8.ofNat n.toNat):=by
 induction l with
 | nil=>rfl
 | cons a r ih=>simp [ZB,ih]
theorem qgS (F:SF)(x:B):(qg3 qn F x).Sim fun s=>∃ xs,ZF std F.er x.er=some xs/\std.sOf xs=some s:=by
 have key:∀ l:List Int,std.sOf (l.map fun n=>[C.int .u8 n])=some (qn.sOf l):=by
  intro l;show (ZB _).map _=_;rw [qoP];rfl
 unfold qg3
 split
 . exact R.Sim.ok ⟨[],rfl,key []⟩
 . exact R.Sim.ok ⟨_,rfl,key _⟩
 . rename_i p w off len
   refine R.Sim.bd (F.atR_sim p) fun o ho=>?_
   split
   . rename_i l
     refine R.Sim.mk fun hp=>?_
     obtain ⟨h1,h2⟩:=hp.two
     have h1:off=0:=h1
     have h2:len=l.length:=h2
     subst h1 h2
     refine ⟨l.map fun n=>[C.int .u8 n],?_,key l⟩
     simp only [B.er,ZF,ho,W.er,LL.ro]
     show (match decide (0+l.length<=(l.map fun n=>[O.fz (C.int .u8 n)]).length) with | true=>some (O.frzLL (((l.map fun n=>[O.fz (C.int .u8 n)]).drop 0).take l.length)) | false=>none)=_
     rw [List.drop_zero,List.take_of_length_le (by simp)]
     simp [O.frzLL_eq,O.frz,Function.comp_def]
   . refine R.Sim.mk fun hp=>?_
     obtain ⟨h1,h2⟩:=hp.two
     have h1:off=0:=h1
     have h2:len=0:=h2
     subst h1 h2
     refine ⟨[],?_,key []⟩
     simp only [B.er,ZF,ho,W.er]
     rfl
   . exact R.Sim.none'
 . exact R.Sim.none'
mutual
def B.okB:B->Bool
 | .un=>false
 | .ud=>false
 | .fz .un=>false
 | .clo _ caps=>qik caps
 | _=>true
def qik:List B->Bool
 | []=>true
 | a::r=>match a.okB with | true=>qik r | false=>false
end
mutual
theorem qs1:(x:B)->x.er.ok=x.okB
 | .un=>rfl
 | .ud=>rfl
 | .fz d=>by cases d<;>rfl
 | .rf ..=>rfl
 | .pp ..=>rfl
 | .clo f caps=>by simp only [B.er,A.ok,B.okB,vm caps]
theorem vm:(l:List B)->okL (B.erL l)=qik l
 | []=>rfl
 | a::r=>by simp only [B.erL,okL,qik,qs1 a,vm r];cases a.okB<;>rfl
end
theorem yn (l:List B):cnt (B.erL l)=cnt l:=by induction l with | nil=>rfl | cons a r ih=>simp [B.erL,cnt,ih]
def qbb:List B->Nat->List B->Option (List B)
 | as,0,[]=>some as
 | [],_,_=>none
 | a::r,off+1,cs=>match qbb r off cs with | some l=>some (a::l) | none=>none
 | _::r,0,c::cs=>match qbb r 0 cs with | some l=>some (c::l) | none=>none
theorem qdX:∀ (as:List B) (off:Nat) (cs:List B) {r:List B},qbb as off cs=some r->putCells (B.erL as) off (B.erL cs)=some (B.erL r)
 | as,0,[],r,h=>by
   have:qbb as 0 []=some as:=by cases as<;>rfl
   rw [this] at h
   simp only [Option.some.injEq] at h
   subst h
   cases as<;>rfl
 | [],0,_::_,r,h=>by simp [qbb] at h
 | [],off+1,[],r,h=>by simp [qbb] at h
 | [],off+1,_::_,r,h=>by simp [qbb] at h
 | a::as,off+1,cs,r,h=>by
   simp only [qbb] at h
   split at h
   . rename_i l hl
     simp only [Option.some.injEq] at h
     subst h
     simp only [B.erL,putCells,qdX as off cs hl]
   . cases h
 | a::as,0,c::cs,r,h=>by
   simp only [qbb] at h
   split at h
   . rename_i l hl
     simp only [Option.some.injEq] at h
     subst h
     have:=qdX as 0 cs hl
     simp only [B.erL,putCells,this]
   . cases h
def qac (F:SF)(fs:List (Nat×Nat×Bool)):List B->List (Nat×Operand)->Option (List B)
 | as,[]=>some as
 | as,(i,x)::r=>match nth fs i with
   | some (off,size,_)=>(match evB F x with
     | .v (_,cs)=>(match qik cs with
       | true=>(match nq (cnt cs) size with
         | true=>(match qbb as off cs with | some as'=>qac F fs as' r | none=>none)
         | false=>none)
       | false=>none)
     | .tup _=>none)
   | none=>none
theorem qbC (F:SF)(fs:List (Nat×Nat×Bool)):∀ (l:List (Nat×Operand)) (as:List B) {r:List B},qac F fs as l=some r->ZN F.er fs (B.erL as) l=some (B.erL r)
 | [],as,r,h=>by simp only [qac,Option.some.injEq] at h;subst h;rfl
 | (i,x)::l,as,r,h=>by
   simp only [qac] at h
   split at h
   . rename_i off size g hi
     split at h
     . rename_i g' cs hx
       split at h
       . rename_i hok
         split at h
         . rename_i hsz
           split at h
           . rename_i as' hp
             simp only [ZN,hi,<-je,hx,TV.er,kf,vm,hok,yn,hsz,Bool.and_self,qdX as off cs hp]
             exact qbC F fs l as' h
           . cases h
         . cases h
       . cases h
     . cases h
   . cases h
def zD:C->Option B
 | .un=>some .un
 | .int k n=>some (.fz (.int k n))
 | .bool b=>some (.fz (.bool true b))
 | .str s=>some (.fz (.str s))
 | .nilsl=>some (.fz .nilsl)
 | _=>none
def zDL:List C->Option (List B)
 | []=>some []
 | c::r=>match zD c,zDL r with | some d,some l=>some (d::l) | _,_=>none
theorem qnd:∀ (l:List C) {r:List B},zDL l=some r->B.erL r=fzU l
 | [],r,h=>by simp only [zDL,Option.some.injEq] at h;subst h;rfl
 | c::l,r,h=>by
   simp only [zDL] at h
   split at h
   . rename_i d l' hd hl
     simp only [Option.some.injEq] at h
     subst h
     have h1:=qnd l hl
     cases c<;>simp only [zD] at hd<;>first | (cases hd;done) | (injection hd with hd;subst hd;simp only [B.erL,B.er,D.er,h1,fzU,zA])
   . cases h
def qjQ (F:SF):List Operand->List B
 | []=>[]
 | x::r=>z6 F x::qjQ F r
theorem qoF (F:SF)(l:List Operand):B.erL (qjQ F l)=qcx F.er l:=by induction l with | nil=>rfl | cons a r ih=>simp only [qjQ,B.erL,qcx,qK,ih]
def vD (x:R D):R (TV B):=x.bd fun d=>R.ok (.v (false,[.fz d]))
def vB (x:Option B):R (TV B):=match x with | some b=>R.ok (.v (false,[b])) | none=>none
def qqW (M:MB)(T:Nat->Option Ty)(F:SF):Op->R (TV B)
 | .move x=>R.ok (evB F x)
 | .pick c a b=>(match z6 F c with
   | .fz (.bool true b')=>R.ok (match b' with | true=>evB F a | false=>evB F b)
   | _=>none)
 | .binOp op t x y _=>(match T t with
   | some ty=>vD (qsc M ty.kind op (z6 F x) (z6 F y))
   | none=>none)
 | .unOp op _ x=>vD (qr1 M op (z6 F x))
 | .load t x=>(match T t with
   | some ty=>(qcl M F ty.size (z6 F x)).bd fun as=>oR (qrm ty.agg as)
   | none=>none)
 | .fieldAddr t x f=>(match T t with
   | some ⟨.st fs,_,_,_,_⟩=>(match nth fs f with
     | some (_,0,_)=>none
     | some (off,_+1,_)=>vB (qhv off (z6 F x))
     | none=>none)
   | _=>none)
 | .indexAddr t x i=>(match T t with
   | some ⟨.sl e,_,_,_,_⟩=>(match T e with
     | some ty=>(qiv M F ty.size (z6 F x) (z6 F i)).bd fun a=>R.ok (.v (false,[a]))
     | none=>none)
   | _=>none)
 | .index t x i=>(match T t with
   | some ⟨.str,_,_,_,_⟩=>(match z6 F x,z6 F i with
     | .fz (.str s),.fz (.int _ n)=>some ([M.pIx n (M.sLen s)],.v (false,[.fz (.int .u8 (M.sAt s (M.toN n)))]))
     | _,_=>none)
   | _=>none)
 | .slice t x lo hi mx=>(match T t with
   | some ⟨.str,_,_,_,_⟩=>qdK M F true 0 (z6 F x) (evO F lo) (evO F hi) (evO F mx)
   | some ⟨.sl e,_,_,_,_⟩=>(match T e with
     | some ty=>qdK M F false ty.size (z6 F x) (evO F lo) (evO F hi) (evO F mx)
     | none=>none)
   | _=>none)
 | .convert s t x=>(match T s,T t with
   | some ⟨ks,_,_,_,_⟩,some ⟨.int k,_,_,_,_⟩=>(match z6 F x with
     | .fz (.int _ n)=>(match ks with
       | .int _=>R.ok (.v (false,[.fz (.int k (M.iWrap k n))]))
       | _=>none)
     | _=>none)
   | some ⟨.str,_,_,_,_⟩,some ⟨.str,_,_,_,_⟩=>(match z6 F x with
     | .fz (.str s)=>R.ok (.v (false,[.fz (.str s)]))
     | _=>none)
   | some ⟨.sl e,_,_,_,_⟩,some ⟨.str,_,_,_,_⟩=>(match T e with
     | some ⟨.int .u8,_,_,_,_⟩=>(qg3 M F (z6 F x)).bd fun s=>R.ok (.v (false,[.fz (.str s)]))
     | _=>none)
   | _,_=>none)
 | .extract x i=>(match evB F x with
   | .tup xs=>(match nth xs i with
     | some y=>R.ok (.v y)
     | none=>none)
   | _=>none)
 | .makeFunc (.func f) ⟨[]⟩ ⟨caps⟩=>R.ok (.v (false,[.clo f (qjQ F caps)]))
 | .build t ⟨parts⟩=>(match T t with
   | some ⟨.st fs,_,_,_,z⟩=>(match zDL z with
     | some ds=>(match qac F fs ds parts with
       | some as=>R.ok (.v (true,as))
       | none=>none)
     | none=>none)
   | _=>none)
 | .call ⟨.builtin .len,⟨[x]⟩,⟨[t]⟩⟩=>(match T t with
  | some ⟨.str,_,_,_,_⟩=>(match z6 F x with | .fz (.str s)=>R.ok (.v (false,[.fz (.int .i64 (M.nI (M.sLen s)))])) | _=>none)
  | some ⟨.sl _,_,_,_,_⟩=>(match qsD M (z6 F x) with | some n=>R.ok (.v (false,[.fz (.int .i64 n)])) | none=>none)
  | _=>none)
 | .call ⟨.builtin .max,⟨[x,y]⟩,_⟩=>(match z6 F x,z6 F y with
  | .fz (.int k a),.fz (.int k' b)=>(match wA k k' with | true=>R.ok (.v (false,[.fz (.int k (M.iMax a b))])) | false=>none)
  | _,_=>none)
 | .call ⟨.builtin .min,⟨[x,y]⟩,_⟩=>(match z6 F x,z6 F y with
  | .fz (.int k a),.fz (.int k' b)=>(match wA k k' with | true=>R.ok (.v (false,[.fz (.int k (M.iMin a b))])) | false=>none)
  | _,_=>none)
 | _=>none
theorem qb4 (xs:List (V1 B))(i:Nat):(qx B.erL xs)[i]?=(xs[i]?).map (kf B.erL):=by
 induction xs generalizing i with
 | nil=>simp [qx]
 | cons x r ih=>cases i<;>simp [qx,ih]
theorem qea (T:Nat->Option Ty)(F:SF)(op:Op):(qqW qn T F op).Sim fun v=>qop std T F.er op=some (.val (v.er B.erL)):=by
 unfold qqW
 split
 . exact R.Sim.ok (by simp only [qop,je])
 . rename_i c a b
   split
   . rename_i b' hc
     refine R.Sim.ok ?_
     have:ev1 F.er c=.fz (.bool b'):=by rw [<-qK,hc];rfl
     simp only [qop,this]
     cases b'<;>simp only [je]
   . exact R.Sim.none'
 . split
   . rename_i ty ht
     refine R.Sim.bd (qnS _ _ _ _) fun d hd=>R.Sim.ok ?_
     simp only [qop,ht,<-qK,hd]
     rfl
   . exact R.Sim.none'
 . refine R.Sim.bd (qnu _ _) fun d hd=>R.Sim.ok ?_
   simp only [qop,<-qK,hd]
   rfl
 . split
   . rename_i ty ht
     refine R.Sim.bd (Yi F _ _) fun as has=>yN fun v hv=>?_
     simp only [qop,ht,<-qK,has,qjB hv]
   . exact R.Sim.none'
 . split
   . rename_i fs g1 g2 g3 g4 ht
     split
     . exact R.Sim.none'
     . rename_i off sz g5 hf
       unfold vB
       split
       . rename_i y hy
         refine R.Sim.ok ?_
         simp only [qop,ht,hf,<-qK,qmO hy]
         rfl
       . exact R.Sim.none'
     . exact R.Sim.none'
   . exact R.Sim.none'
 . split
   . rename_i e g1 g2 g3 g4 ht
     split
     . rename_i ty hte
       refine R.Sim.bd (qhd F _ _ _) fun y ⟨h1,h2⟩=>R.Sim.ok ?_
       simp only [qop,ht,hte,<-qK,h1,h2]
       rfl
     . exact R.Sim.none'
   . exact R.Sim.none'
 . split
   . rename_i g1 g2 g3 g4 ht
     split
     . rename_i s k n hx hi
       refine R.Sim.mk fun hp=>?_
       obtain ⟨h1,h2⟩:=hp.one
       have h2:n<(s.size:Int):=h2
       have hlt:n.toNat<s.size:=by omega
       have hs:std.sAt s n=some (qn.sAt s (qn.toN n)):=by
        show (if 0<=n then (s[n.toNat]?).map (fun b=>(b.toNat:Int)) else none)=_
        rw [if_pos h1]
        simp [qn,hlt]
       simp only [qop,ht,<-qK,hx,hi,B.er,D.er,qiQ,hs,qms]
       rfl
     . exact R.Sim.none'
   . exact R.Sim.none'
 . split
   . rename_i g1 g2 g3 g4 ht
     refine (YU F true 0 _ _ _ _).mono fun v hv=>?_
     simp only [qon,qK] at hv
     simp only [qop,ht]
     exact hv
   . rename_i e g1 g2 g3 g4 ht
     split
     . rename_i ty hte
       refine (YU F false _ _ _ _ _).mono fun v hv=>?_
       simp only [qon,qK] at hv
       simp only [qop,ht,hte]
       exact hv
     . exact R.Sim.none'
   . exact R.Sim.none'
 . split
   . rename_i ks _ _ _ _ k _ _ _ _ hs ht
     split
     . rename_i k' n hx
       split
       . refine R.Sim.ok ?_
         simp only [qop,hs,ht,<-qK,hx,B.er,D.er]
         rfl
       . exact R.Sim.none'
     . exact R.Sim.none'
   . rename_i hs ht
     split
     . rename_i s hx
       refine R.Sim.ok ?_
       simp only [qop,hs,ht,<-qK,hx,B.er,D.er]
       rfl
     . exact R.Sim.none'
   . rename_i e _ _ _ _ _ _ _ _ hs ht
     split
     . rename_i hte
       refine R.Sim.bd (qgS F _) fun s ⟨xs,h1,h2⟩=>R.Sim.ok ?_
       simp only [qop,hs,ht,hte,<-qK,h1,h2]
       rfl
     . exact R.Sim.none'
   . exact R.Sim.none'
 . split
   . rename_i xs hx
     split
     . rename_i y hy
       refine R.Sim.ok ?_
       rw [qv] at hy
       simp only [qop,<-je,hx,TV.er,qv,qb4,hy,Option.map_some]
     . exact R.Sim.none'
   . exact R.Sim.none'
 . refine R.Sim.ok ?_
   simp only [qop,TV.er,kf,B.erL,B.er,qoF]
 . split
   . rename_i fs _ _ _ z ht
     split
     . rename_i ds hz
       have h1:=qnd z hz
       split
       . rename_i as has
         refine R.Sim.ok ?_
         have:=qbC F fs _ _ has
         rw [h1] at this
         simp only [qop,ht,this]
         rfl
       . exact R.Sim.none'
     . exact R.Sim.none'
   . exact R.Sim.none'
 . split
   . rename_i ht
     split
     . rename_i s hx
       refine R.Sim.ok ?_
       simp only [qop,ht,<-qK,hx,B.er,D.er]
       rfl
     . exact R.Sim.none'
   . rename_i ht
     split
     . rename_i n hn
       refine R.Sim.ok ?_
       simp only [qop,ht,<-qK,qp4 hn]
       rfl
     . exact R.Sim.none'
   . exact R.Sim.none'
 . split
   . rename_i k a k' b hx hy
     split
     . rename_i hk
       refine R.Sim.ok ?_
       simp only [qop,qef,evC,<-qK,hx,hy,B.er,D.er,C?,Ja,mxA,hk]
       rfl
     . exact R.Sim.none'
   . exact R.Sim.none'
 . split
   . rename_i k a k' b hx hy
     split
     . rename_i hk
       refine R.Sim.ok ?_
       simp only [qop,qef,evC,<-qK,hx,hy,B.er,D.er,C?,Ja,mxA,hk]
       rfl
     . exact R.Sim.none'
   . exact R.Sim.none'
 . exact R.Sim.none'
end Go.Proofs.YtifnopmkdempdaaGreat.Ai
namespace Go.Proofs.YtifnopmkdempdaaGreat.Ai
open Go
theorem jz (a b:Nat):std.nEq a b=(a == b):=rfl
def qg8 (M:MB)(F:SF)(a:B)(q:SP):R (W×Option SP) :=
 match a with
 | .fz .nilsl=>R.ok (.onil,none)
 | .fz .un=>none
 | .fz d=>R.ok (.fz d,none)
 | .rf p _ off len=>(F.atR M p).bd fun o=>(match o with
   | .osl x=>(match nq p.1 q.1 with
     | false=>some ([M.pEqN off 0,M.pEqN len (x.len M)],(.osl x,some p))
     | true=>none)
   | .onil=>(match nq p.1 q.1 with
     | false=>some ([M.pEqN off 0,M.pEqN len 0],(.onil,some p))
     | true=>none)
   | _=>none)
 | .pp p i j=>(F.atR M p).bd fun o=>(match o with
   | .obx cs=>(match i with
     | (true,0)=>(match j with
       | 0=>(match nq p.1 q.1 with
         | false=>R.ok (.obx cs,some p)
         | true=>none)
       | _+1=>none)
     | _=>none)
   | _=>none)
 | _=>none
theorem qg7 (F:SF)(a:B)(q:SP):(qg8 qn F a q).Sim fun r=>KE std false F.er a.er q.er=some (r.1.er,r.2.map SP.er):=by
 unfold qg8
 split
 . exact R.Sim.ok rfl
 . exact R.Sim.none'
 . rename_i d h1 h2
   refine R.Sim.ok ?_
   cases d<;>first | rfl | exact (h1 rfl).elim | exact (h2 rfl).elim
 . rename_i p w off len
   refine R.Sim.bd (F.atR_sim p) fun o ho=>?_
   split
   . rename_i x
     split
     . rename_i hne
       refine R.Sim.mk fun hp=>?_
       obtain ⟨h1,h2⟩:=hp.two
       have h1:off=0:=h1
       have h2:len=x.len qn:=h2
       subst h1 h2
       have hne':nq p.er.1 q.er.1=false:=hne
       have hl:std.oLen x.ro=x.len qn:=LL.len_ro x
       simp only [B.er,KE,ho,W.er,jz,hne',hl]
       simp
     . exact R.Sim.none'
   . split
     . rename_i hne
       refine R.Sim.mk fun hp=>?_
       obtain ⟨h1,h2⟩:=hp.two
       have h1:off=0:=h1
       have h2:len=0:=h2
       subst h1 h2
       have hne':nq p.er.1 q.er.1=false:=hne
       have hl:std.oLen []=0:=rfl
       simp only [B.er,KE,ho,W.er,jz,hne',hl]
       simp
     . exact R.Sim.none'
   . exact R.Sim.none'
 . rename_i p i j
   refine R.Sim.bd (F.atR_sim p) fun o ho=>?_
   split
   . rename_i cs
     split
     . split
       . split
         . rename_i hne
           refine R.Sim.ok ?_
           have hne':nq p.er.1 q.er.1=false:=hne
           simp only [B.er,KE,ho,W.er,hne']
           rfl
         . exact R.Sim.none'
       . exact R.Sim.none'
     . exact R.Sim.none'
   . exact R.Sim.none'
 . exact R.Sim.none'
def ZK (M:MB)(q:Nat->SP):Nat->Nat->SF->List B->R (List W×SF)
 | _,0,F,[]=>R.ok ([],F)
 | j,n+1,F,a::rest=>(qg8 M F a (q j)).bd fun r=>(match r.2 with
   | none=>(ZK M q (j+1) n F rest).bd fun s=>R.ok (r.1::s.1,s.2)
   | some p=>(F.liftR M p (q j)).bd fun F1=>(match B.trL (qkr p (q j)) rest with
     | some l=>(ZK M q (j+1) n F1 l).bd fun s=>R.ok (r.1::s.1,s.2)
     | none=>none))
 | _,_,_,_=>none
theorem qqs (τ':qk->Option qk)(l:List A):A.trL τ' l=l.map (A.tr τ'):=Qb τ' l
theorem Kj (q:Nat->SP):∀ (n j:Nat) (F:SF) (as:List B),(ZK qn q j n F as).Sim fun r=>∀ (f:A->A) (l:List A),l.map f=B.erL as->jV std false (fun j=>(q j).er) j F.er f l=some (W.erL r.1,r.2.er)
 | 0,j,F,[]=>R.Sim.ok fun f l hl=>by
   cases l with
   | nil=>rfl
   | cons a l=>simp [B.erL] at hl
 | 0,j,F,_::_=>R.Sim.none'
 | n+1,j,F,[]=>R.Sim.none'
 | n+1,j,F,a::rest=>by
   simp only [ZK]
   refine R.Sim.bd (qg7 F a (q j)) fun r hr=>?_
   split
   . rename_i hr2
     rw [hr2] at hr
     refine R.Sim.bd (Kj q n (j+1) F rest) fun s hs=>R.Sim.ok fun f l hl=>?_
     cases l with
     | nil=>simp [B.erL] at hl
     | cons b l =>
       simp only [List.map_cons,B.erL,List.cons.injEq] at hl
       simp only [jV,hl.1,hr,Option.map_none,hs f l hl.2]
       rfl
   . rename_i p hr2
     rw [hr2] at hr
     refine R.Sim.bd (F.liftR_sim p (q j)) fun F1 hF1=>?_
     split
     . rename_i rest' hrest
       refine R.Sim.bd (Kj q n (j+1) F1 rest') fun s hs=>R.Sim.ok fun f l hl=>?_
       cases l with
       | nil=>simp [B.erL] at hl
       | cons b l =>
         simp only [List.map_cons,B.erL,List.cons.injEq] at hl
         have h1:l.map (fun x=>(f x).tr (jC std p.er (q j).er))=B.erL rest':=by
          rw [<-B.trL_sound (fun x r=>VB) rest hrest,qqs,<-hl.2,List.map_map]
          rfl
         have h2:=hs _ l h1
         simp only [jV,hl.1,hr,Option.map_some,hF1,h2]
         rfl
     . exact R.Sim.none'
def qB (r:Nat)(s:jm)(i:Bool×Nat)(j:Nat):SP:=(r,s++[(i,j)])
theorem qe4 (r:Nat)(s:jm)(i:Bool×Nat)(j:Nat):(qB r s i j).er=qAt r (ixs s) i.2 j:=by simp only [qB,SP.er,wT,qAt];rfl
theorem Wu (r:Nat)(s:jm)(i:Bool×Nat)(n:Nat)(F:SF)(as:List B):(ZK qn (qB r s i) 0 n F as).Sim fun x=>jV std false (qAt r (ixs s) i.2) 0 F.er idA (B.erL as)=some (W.erL x.1,x.2.er):=by
 refine (Kj (qB r s i) n 0 F as).mono fun x hx=>?_
 have:=hx idA (B.erL as) (by show List.map (fun a=>a) _=_;simp)
 have hq:(fun j=>(qB r s i j).er)=qAt r (ixs s) i.2:=by funext j;exact qe4 r s i j
 rw [hq] at this
 exact this
theorem qg1 (r:Nat)(s:jm)(i:Bool×Nat)(j n:Nat)(F:SF)(as:List B):(ZK qn (qB r s i) j n F as).Sim fun x=>jV std false (qAt r (ixs s) i.2) j F.er idA (B.erL as)=some (W.erL x.1,x.2.er):=by
 refine (Kj (qB r s i) n j F as).mono fun x hx=>?_
 have:=hx idA (B.erL as) (by show List.map (fun a=>a) _=_;simp)
 have hq:(fun j=>(qB r s i j).er)=qAt r (ixs s) i.2:=by funext j;exact qe4 r s i j
 rw [hq] at this
 exact this
def qjj:TV B->Option (List B)
 | .v (_,as)=>some as
 | .tup _=>none
def ppB (r:Nat):TV B:=.v (false,[.pp (r,[]) (true,0) 0])
def rfB (r len:Nat):TV B:=.v (false,[.rf (r,[]) true 0 len])
def qsA (M:MB)(F:SF)(d:Nat)(x:Operand):R SF :=
 match qjj (evB F x) with
 | some as=>(ZK M (qB (rid d 0 0) [] (true,0)) 0 (cnt as) F as).bd fun s=>R.ok ((s.2.root (rid d 0 0) (.obx s.1)).put d (ppB (rid d 0 0)))
 | none=>none
theorem qpR (F:SF)(d:Nat)(x:Operand):(qsA qn F d x).Sim fun G=>qm7 std false F.er d x=some G.er:=by
 unfold qsA
 split
 . rename_i as has
   have hx:(ev F.er x).cells=some (B.erL as):=by
    rw [<-je]
    unfold qjj at has
    split at has
    . rename_i g as' he
      simp only [Option.some.injEq] at has
      subst has
      rw [he]
      rfl
    . cases has
   refine R.Sim.bd (Wu _ _ _ _ F as) fun s hs=>R.Sim.ok ?_
   unfold qm7
   rw [hx]
   dsimp only
   rw [show qAt (rid d 0 0) [] 0=qAt (rid d 0 0) (ixs []) (true,0).2 from rfl,hs]
   rfl
 . exact R.Sim.none'
def zW:C->Option W
 | .int k n=>some (.fz (.int k n))
 | .bool b=>some (.fz (.bool true b))
 | .str s=>some (.fz (.str s))
 | .nilsl=>some .onil
 | _=>none
def zWL:List C->Option (List W)
 | []=>some []
 | c::r=>match zW c,zWL r with | some d,some l=>some (d::l) | _,_=>none
theorem qdr:∀ (l:List C) {r:List W},zWL l=some r->W.erL r=kd false l/\Z2 l=true
 | [],r,h=>by simp only [zWL,Option.some.injEq] at h;subst h;exact ⟨rfl,rfl⟩
 | c::l,r,h=>by
   simp only [zWL] at h
   split at h
   . rename_i d l' hd hl
     simp only [Option.some.injEq] at h
     subst h
     obtain ⟨h1,h2⟩:=qdr l hl
     cases c<;>simp only [zW] at hd<;>first | (cases hd;done) | (injection hd with hd;subst hd;exact ⟨by simp only [W.erL,W.er,D.er,kd,h1],by simp only [Z2,h2]⟩)
   . cases h
def qo5 (M:MB)(T:Nat->Option Ty)(F:SF)(d:Nat)(e:Nat):R SF :=
 match T e with
 | some ty=>(match zWL ty.zero with
   | some zs=>(F.clearR M (rid d 0 0)).bd fun G=>R.ok ((G.root (rid d 0 0) (.obx zs)).put d (ppB (rid d 0 0)))
   | none=>none)
 | none=>none
def LL.cons1:LL->LL->Option LL
 | .i [x1],.i l=>some (.i (x1::l))
 | .u [x1],.u l=>some (.u (x1::l))
 | .b [x1],.b l=>some (.b (x1::l))
 | .s [x1],.s l=>some (.s (x1::l))
 | .cue [x1],.cue l=>some (.cue (x1::l))
 | .tie [x1],.tie l=>some (.tie (x1::l))
 | .edge [x1],.edge l=>some (.edge (x1::l))
 | .link [x1],.link l=>some (.link (x1::l))
 | .node true none [x1],.node true none l=>some (.node true none (x1::l))
 | .node false none [x1],.node false none l=>some (.node false none (x1::l))
 | .ii true none [x1],.ii true none l=>some (.ii true none (x1::l))
 | .ii false none [x1],.ii false none l=>some (.ii false none (x1::l))
 | _,_=>none
theorem LL.cons1_ro {x y z:LL}(h:x.cons1 y=some z):z.ro=x.ro++y.ro:=by
 unfold LL.cons1 at h
 split at h<;>first | (simp only [Option.some.injEq] at h;subst h;rfl) | cases h
def LL.many (k:EK):List (List W)->Option W
 | []=>some .onil
 | [c]=>(match LL.one k c with | some x=>some (.osl x) | none=>none)
 | c::r=>(match LL.one k c,LL.many k r with
   | some x,some (.osl y)=>(match x.cons1 y with | some z=>some (.osl z) | none=>none)
   | _,_=>none)
theorem LL.many_er (k:EK):∀ (l:List (List W)) {w:W},LL.many k l=some w->w.er=.osl (l.map W.erL)
 | [],w,h=>by simp only [LL.many,Option.some.injEq] at h;subst h;rfl
 | [c],w,h=>by
   simp only [LL.many] at h
   split at h
   . rename_i x hx
     simp only [Option.some.injEq] at h
     subst h
     simp only [W.er,LL.one_ro hx,List.map_cons,List.map_nil,W.erL_eq]
   . cases h
 | c::c'::r,w,h=>by
   simp only [LL.many] at h
   split at h
   . rename_i x y hx hy
     split at h
     . rename_i z hz
       simp only [Option.some.injEq] at h
       subst h
       have:=LL.many_er k (c'::r) hy
       simp only [W.er,O.osl.injEq] at this ⊢
       rw [LL.cons1_ro hz,LL.one_ro hx,this]
       simp [W.erL_eq]
     . cases h
   . cases h
def qdf (M:MB)(r size:Nat):Nat->SF->List (Nat×Operand)->R (List (List W)×SF)
 | _,F,[]=>R.ok ([],F)
 | i,F,(i',x)::rest=>(match nq i' i with
   | true=>(match evB F x with
     | .v (_,as)=>(match nq (cnt as) size with
       | true=>(ZK M (qB r [] (true,i)) 0 (cnt as) F as).bd fun s=>(qdf M r size (i+1) s.2 rest).bd fun t=>R.ok (s.1::t.1,t.2)
       | false=>none)
     | .tup _=>none)
   | false=>none)
theorem Y8 (r size:Nat):∀ (l:List (Nat×Operand)) (i:Nat) (F:SF),(qdf qn r size i F l).Sim fun t=>ZI std false r size i F.er l=some (t.1.map W.erL,t.2.er)
 | [],i,F=>R.Sim.ok rfl
 | (i',x)::l,i,F=>by
   simp only [qdf]
   split
   . rename_i hi
     split
     . rename_i g as hx
       split
       . rename_i hsz
         refine R.Sim.bd (Wu r [] (true,i) _ F as) fun s hs=>R.Sim.bd (Y8 r size l (i+1) s.2) fun t ht=>R.Sim.ok ?_
         have hs':jV std false (qAt r [] i) 0 F.er idA (B.erL as)=some (W.erL s.1,s.2.er):=hs
         simp only [ZI,hi,<-je,hx,TV.er,kf,yn,hsz,hs',ht]
         rfl
       . exact R.Sim.none'
     . exact R.Sim.none'
   . exact R.Sim.none'
def qnQ (M:MB)(F:SF):B->R (Option LL×SF)
 | .fz .nilsl=>R.ok (none,F)
 | .rf p _ off len=>(F.atR M p).bd fun o=>(match o with
   | .osl x=>(F.dropR M p).bd fun G=>some ([M.pEqN off 0,M.pEqN len (x.len M)],(some x,G))
   | .onil=>(F.dropR M p).bd fun G=>some ([M.pEqN off 0,M.pEqN len 0],(none,G))
   | _=>none)
 | _=>none
def oro:Option LL->List (List O)
 | none=>[]
 | some x=>x.ro
theorem qmj (F:SF)(x:B):(qnQ qn F x).Sim fun r=>wg std F.er x.er=some (oro r.1,r.2.er):=by
 unfold qnQ
 split
 . exact R.Sim.ok rfl
 . rename_i p w off len
   refine R.Sim.bd (F.atR_sim p) fun o ho=>?_
   split
   . rename_i x
     refine R.Sim.bd (F.dropR_sim p) fun G hG=>R.Sim.mk fun hp=>?_
     obtain ⟨h1,h2⟩:=hp.two
     have h1:off=0:=h1
     have h2:len=x.len qn:=h2
     subst h1 h2
     have hl:std.oLen x.ro=x.len qn:=LL.len_ro x
     simp only [B.er,wg,ho,W.er,jz,hl,hG]
     simp [oro]
   . refine R.Sim.bd (F.dropR_sim p) fun G hG=>R.Sim.mk fun hp=>?_
     obtain ⟨h1,h2⟩:=hp.two
     have h1:off=0:=h1
     have h2:len=0:=h2
     subst h1 h2
     have hl:std.oLen []=0:=rfl
     simp only [B.er,wg,ho,W.er,jz,hl,hG]
     simp [oro]
   . exact R.Sim.none'
 . exact R.Sim.none'
def qrJ:jm->Bool
 | []=>true
 | _::_=>false
def qpi (M:MB)(F:SF):B->R (Option LL×Option SP)
 | .fz .nilsl=>R.ok (none,none)
 | .fz (.sl zs)=>R.ok (some zs.thaw,none)
 | .rf p w off len=>(F.atR M p).bd fun o=>(match o with
   | .osl x=>(match x.here with
     | true=>(match x.flat with
       | true=>(match w with
         | true=>some ([M.pEqN off 0,M.pEqN len (x.len M)],(some x,none))
         | false=>(match x.cut M off len with
           | some y=>some ([M.pLeN (M.nAdd off len) (x.len M)],(some y,none))
           | none=>none))
       | false=>(match x.some1 with
         | true=>(match qrJ p.2 with
           | true=>some ([M.pEqN off 0,M.pEqN len (x.len M)],(some x,some p))
           | false=>none)
         | false=>none))
     | false=>none)
   | .onil=>some ([M.pEqN off 0,M.pEqN len 0],(none,none))
   | _=>none)
 | _=>none
theorem qmP (F:SF)(x:B):(qpi qn F x).Sim fun r=>KF std F.er x.er=some (oro r.1,r.2.map SP.er):=by
 unfold qpi
 split
 . exact R.Sim.ok rfl
 . rename_i zs
   refine R.Sim.ok ?_
   simp only [B.er,D.er,KF,oro,LL.thaw_ro]
   rfl
 . rename_i p w off len
   refine R.Sim.bd (F.atR_sim p) fun o ho=>?_
   split
   . rename_i x
     split
     . rename_i hh
       split
       . rename_i hf
         have hfl:std.oFlat x.ro=true:=LL.flat_ro x hf hh
         split
         . refine R.Sim.mk fun hp=>?_
           obtain ⟨h1,h2⟩:=hp.two
           have h1:off=0:=h1
           have h2:len=x.len qn:=h2
           subst h1 h2
           have hl:std.oLen x.ro=x.len qn:=LL.len_ro x
           have hn:std.nLe (std.nAdd 0 (x.len qn)) (x.len qn)=true:=by show decide (0+x.len qn<=x.len qn)=true;simp
           simp only [B.er,KF,ho,W.er,hl,hn,hfl,jz]
           simp [oro]
         . split
           . rename_i y hy
             refine R.Sim.mk fun hp=>?_
             have h1:off+len<=x.len qn:=hp.one
             have hl:std.oLen x.ro=x.len qn:=LL.len_ro x
             have hn:std.nLe (std.nAdd off len) (x.len qn)=true:=by show decide (off+len<=x.len qn)=true;simpa using h1
             have hc:std.oCut x.ro off len=y.ro:=(LL.cut_ro hy).symm
             simp only [B.er,KF,ho,W.er,hl,hn,hfl,jz,hc]
             by_cases he:off=0/\len=x.len qn
             . obtain ⟨rfl,rfl⟩:=he
               have:y.ro=x.ro:=by
                rw [LL.cut_ro hy,List.drop_zero,<-LL.len_ro]
                simp
               simp [oro,this]
             . have:(off == 0&&len == x.len qn)=false:=by
                cases hb:(off == 0&&len == x.len qn) with
                | false=>rfl
                | true=>simp at hb;exact absurd hb he
               simp only [this,oro,Option.map_none]
           . exact R.Sim.none'
       . rename_i hf
         split
         . rename_i hs
           split
           . rename_i hn0
             refine R.Sim.mk fun hp=>?_
             obtain ⟨h1,h2⟩:=hp.two
             have h1:off=0:=h1
             have h2:len=x.len qn:=h2
             subst h1 h2
             have hl:std.oLen x.ro=x.len qn:=LL.len_ro x
             have hfl:std.oFlat x.ro=false:=LL.some1_ro x hs hf
             have hn:std.nLe (std.nAdd 0 (x.len qn)) (x.len qn)=true:=by show decide (0+x.len qn<=x.len qn)=true;simp
             obtain ⟨r,s⟩:=p
             cases s with
             | cons _ _=>simp [qrJ] at hn0
             | nil =>
               simp only [B.er,KF,ho,W.er,hl,hn,hfl,jz]
               simp [oro,SP.er,ixs]
           . exact R.Sim.none'
         . exact R.Sim.none'
     . exact R.Sim.none'
   . refine R.Sim.mk fun hp=>?_
     obtain ⟨h1,h2⟩:=hp.two
     have h1:off=0:=h1
     have h2:len=0:=h2
     subst h1 h2
     simp only [B.er,KF,ho,W.er]
     rfl
   . exact R.Sim.none'
 . exact R.Sim.none'
def qrG (M:MB)(F:SF):Option SP->R SF
 | none=>R.ok F
 | some p=>F.dropR M p
def Yg (M:MB):Option LL->Nat
 | none=>0
 | some x=>x.len M
def qr2 (M:MB):Option LL->Option LL->Option (Option LL)
 | none,y=>some y
 | some x,none=>some (some x)
 | some x,some y=>(match x.app M y with | some z=>some (some z) | none=>none)
def qpW (n:Nat):Option LL->Bool
 | none=>true
 | some x=>nq x.sz n
def qsB:Option LL->W
 | none=>.onil
 | some x=>.osl x
theorem vX (x:Option LL):(oro x).length=Yg qn x:=by cases x with | none=>rfl | some x=>exact LL.len_ro x
theorem qjv (x:Option LL):(qsB x).er=.osl (oro x):=by cases x<;>rfl
theorem qqS {x y z:Option LL}(h:qr2 qn x y=some z):oro z=oro x++oro y:=by
 unfold qr2 at h
 split at h
 . simp only [Option.some.injEq] at h;subst h;rfl
 . simp only [Option.some.injEq] at h;subst h;simp [oro]
 . split at h
   . rename_i z' hz
     simp only [Option.some.injEq] at h
     subst h
     exact LL.app_ro hz
   . cases h
theorem qdd {n:Nat}{x:Option LL}(h:qpW n x=true):std.oSz n (oro x)=true:=by
 cases x with
 | none=>rfl
 | some x =>
   have:=Nat.eq_of_beq_eq_true h
   exact qdq (by rw [<-this];exact x.ro_sz)
def qcU (M:MB)(ty:Ty)(d:Nat)(x y:Operand)(F:SF):R SF :=
 (qnQ M F (z6 F x)).bd fun r=>(qpi M r.2 (z6 r.2 y)).bd fun s =>
   (match nle ty.bytes 4096&&nlt 0 ty.size&&nq (cnt ty.zero) ty.size&&qpW ty.size s.1&&qpW ty.size r.1 with
   | true=>(match qr2 M r.1 s.1 with
     | some z=>(qrG M r.2 s.2).bd fun G=>some ([M.pLeLim (M.nAdd (Yg M r.1) (Yg M s.1))],(G.root (rid d 0 0) (qsB z)).put d (rfB (rid d 0 0) (Yg M z)))
     | none=>none)
   | false=>none)
theorem qeU (ty:Ty)(d:Nat)(x y:Operand)(F:SF):(qcU qn ty d x y F).Sim fun G=>Kt std ty d x y F.er=some G.er:=by
 unfold qcU
 refine R.Sim.bd (qmj F _) fun r hr=>R.Sim.bd (qmP r.2 _) fun s hs=>?_
 split
 . rename_i hc
   split
   . rename_i z hz
     have hg:(qrG qn r.2 s.2).Sim fun G=>qbp std r.2.er (s.2.map SP.er)=G.er:=by
      cases s.2 with
      | none=>exact R.Sim.ok rfl
      | some p=>exact r.2.dropR_sim p
     refine R.Sim.bd hg fun G hG=>R.Sim.mk fun hp=>?_
     rw [qK] at hr hs
     unfold Kt
     simp only [hr,hs]
     simp only [Bool.and_eq_true] at hc
     obtain ⟨⟨⟨⟨h1,h2⟩,h3⟩,h4⟩,h5⟩:=hc
     have h6:std.nLe (std.nAdd (std.oLen (oro r.1)) (std.oLen (oro s.1))) lim=true:=by
      have:Yg qn r.1+Yg qn s.1<=lim:=hp.one
      show decide ((oro r.1).length+(oro s.1).length<=lim)=true
      rw [vX,vX]
      simpa using this
     rw [h1,h2,h3,qdd h4,qdd h5,h6]
     have h7:std.oCat (oro r.1) (oro s.1)=oro z:=(qqS hz).symm
     simp only [Bool.and_self,hG,h7]
     have h8:std.oLen (oro z)=Yg qn z:=vX z
     rw [h8,<-qjv]
     rfl
   . exact R.Sim.none'
 . exact R.Sim.none'
def qdC (M:MB)(F:SF)(d:Nat)(x:TV B):R SF :=
 match x with
 | .v (false,[.fz .nilsl])=>(F.clearR M (rid d 0 0)).bd fun G=>R.ok ((G.root (rid d 0 0) .onil).put d (rfB (rid d 0 0) 0))
 | .v (false,[.rf (id,[]) w off len])=>(F.atR M (id,[])).bd fun o=>(match w with
   | true=>(match o with
     | .osl x=>(match nq id (rid d 0 0) with
       | true=>some ([M.pEqN off 0,M.pEqN len (x.len M)],F.put d (.v (false,[.rf (id,[]) w off len])))
       | false=>(F.clearR M (rid d 0 0)).bd fun G=>(G.liftR M (id,[]) (rid d 0 0,[])).bd fun H=>some ([M.pEqN off 0,M.pEqN len (x.len M)],(H.root (rid d 0 0) (.osl x)).put d (rfB (rid d 0 0) len)))
     | .onil=>(match nq id (rid d 0 0) with
       | true=>some ([M.pEqN off 0,M.pEqN len 0],F.put d (.v (false,[.rf (id,[]) w off len])))
       | false=>(F.clearR M (rid d 0 0)).bd fun G=>(G.liftR M (id,[]) (rid d 0 0,[])).bd fun H=>some ([M.pEqN off 0,M.pEqN len 0],(H.root (rid d 0 0) .onil).put d (rfB (rid d 0 0) len)))
     | _=>none)
   | false=>none)
 | x=>R.ok (F.put d x)
theorem qs3 (x:TV B):(∃ id off len,x.er B.erL=TV.v (false,[A.rf (id,[]) off len]))->∃ id w off len,x=.v (false,[.rf (id,[]) w off len]):=by
 rintro ⟨id,off,len,h⟩
 cases x with
 | tup xs=>simp [TV.er] at h
 | v x =>
   obtain ⟨g,as⟩:=x
   simp only [TV.er,kf,TV.v.injEq,Prod.mk.injEq] at h
   obtain ⟨rfl,h⟩:=h
   match as,h with
   | [a],h =>
     simp only [B.erL,List.cons.injEq,and_true] at h
     cases a with
     | rf p w off' len' =>
       obtain ⟨r,s⟩:=p
       cases s with
       | nil =>
         simp only [B.er,A.rf.injEq,SP.er,ixs,Prod.mk.injEq,and_true] at h
         obtain ⟨rfl,rfl,rfl⟩:=h
         exact ⟨_,_,_,_,rfl⟩
       | cons z s=>obtain ⟨⟨k,i⟩,j⟩:=z;simp [B.er,SP.er,ixs] at h
     | _=>simp [B.er] at h
   | [],h=>simp [B.erL] at h
   | _::_::_,h=>simp [B.erL] at h
theorem qq5 (x:TV B):x.er B.erL=TV.v (false,[A.fz .nilsl])->x=.v (false,[.fz .nilsl]):=by
 intro h
 cases x with
 | tup xs=>simp [TV.er] at h
 | v x =>
   obtain ⟨g,as⟩:=x
   simp only [TV.er,kf,TV.v.injEq,Prod.mk.injEq] at h
   obtain ⟨rfl,h⟩:=h
   match as,h with
   | [a],h =>
     simp only [B.erL,List.cons.injEq,and_true] at h
     cases a with
     | fz d=>cases d<;>simp [B.er,D.er] at h;rfl
     | _=>simp [B.er] at h
   | [],h=>simp [B.erL] at h
   | _::_::_,h=>simp [B.erL] at h
theorem qgh (F:SF)(d:Nat)(x:TV B):(qdC qn F d x).Sim fun G=>qg0 std false F.er d (x.er B.erL)=some G.er:=by
 unfold qdC
 split
 . refine R.Sim.bd (F.clearR_sim _) fun G hG=>R.Sim.ok ?_
   show some (F.er.putQ std d .mt)=_
   simp only [Fr.putQ,hG]
   rfl
 . rename_i id w off len
   refine R.Sim.bd (F.atR_sim (id,[])) fun o ho0=>?_
   have ho:F.er.at std (id,[])=o.er:=ho0
   clear ho0
   have key:qg0 std false F.er d ((TV.v (false,[B.rf (id,[]) w off len])).er B.erL)=QS std F.er d (.v (false,[.rf (id,[]) off len])):=rfl
   rw [key]
   split
   . split
     . rename_i x
       have hl:std.oLen x.ro=x.len qn:=LL.len_ro x
       split
       . rename_i hid
         refine R.Sim.mk fun hp=>?_
         obtain ⟨h1,h2⟩:=hp.two
         have h1:off=0:=h1
         have h2:len=x.len qn:=h2
         subst h1 h2
         simp only [QS,hid,ho,W.er,jz,hl]
         simp [SF.put_er,TV.er,kf,B.erL,B.er,SP.er,ixs]
       . rename_i hid
         refine R.Sim.bd (F.clearR_sim _) fun G hG=>R.Sim.bd (G.liftR_sim _ _) fun H hH0=>R.Sim.mk fun hp=>?_
         obtain ⟨h1,h2⟩:=hp.two
         have h1:off=0:=h1
         have h2:len=x.len qn:=h2
         subst h1 h2
         have hH:G.er.lift std (id,[]) (rid d 0 0,[])=H.er:=hH0
         simp only [QS,hid,ho,W.er,jz,hl,hG,hH]
         simp [SF.put_er,SF.root_er,TV.er,kf,B.erL,B.er,SP.er,ixs,rfB,rfV,W.er]
     . have hl:std.oLen []=0:=rfl
       split
       . rename_i hid
         refine R.Sim.mk fun hp=>?_
         obtain ⟨h1,h2⟩:=hp.two
         have h1:off=0:=h1
         have h2:len=0:=h2
         subst h1 h2
         simp only [QS,hid,ho,W.er,jz,hl]
         simp [SF.put_er,TV.er,kf,B.erL,B.er,SP.er,ixs]
       . rename_i hid
         refine R.Sim.bd (F.clearR_sim _) fun G hG=>R.Sim.bd (G.liftR_sim _ _) fun H hH0=>R.Sim.mk fun hp=>?_
         obtain ⟨h1,h2⟩:=hp.two
         have h1:off=0:=h1
         have h2:len=0:=h2
         subst h1 h2
         have hH:G.er.lift std (id,[]) (rid d 0 0,[])=H.er:=hH0
         simp only [QS,hid,ho,W.er,jz,hl,hG,hH]
         simp [SF.put_er,SF.root_er,TV.er,kf,B.erL,B.er,SP.er,ixs,rfB,rfV,W.er]
     . exact R.Sim.none'
   . exact R.Sim.none'
 . rename_i h1 h2
   refine R.Sim.ok ?_
   rw [SF.put_er]
   generalize he:x.er B.erL=y
   unfold qg0
   split
   . exact (h1 (qq5 x he)).elim
   . unfold QS
     split
     . rename_i id off len h3
       obtain ⟨id,w,off,len,rfl⟩:=qs3 x ⟨_,_,_,he⟩
       exact (h2 _ _ _ _ rfl).elim
     . rfl
end Go.Proofs.YtifnopmkdempdaaGreat.Ai
namespace Go.Proofs.YtifnopmkdempdaaGreat.Ai
open Go
variable [qg]
def W.isFz:W->Bool
 | .fz _=>true
 | _=>false
theorem W.isFz_er (o:W):o.er.isFz=o.isFz:=by cases o<;>rfl
def qag (M:MB)(r:Nat)(s:jm)(i:Bool×Nat):Nat->Nat->SF->R SF
 | _,0,F=>R.ok F
 | j,n+1,F=>(F.atR M (qB r s i j)).bd fun o=>(match o.isFz with
   | true=>qag M r s i (j+1) n F
   | false=>(F.dropR M (qB r s i j)).bd fun G=>qag M r s i (j+1) n G)
theorem wX (r:Nat)(s:jm)(i:Bool×Nat):∀ (n j:Nat) (F:SF),(qag qn r s i j n F).Sim fun G=>Zy std r (ixs s) i.2 j n F.er=G.er
 | 0,j,F=>R.Sim.ok rfl
 | n+1,j,F=>by
   simp only [qag]
   refine R.Sim.bd (F.atR_sim _) fun o ho=>?_
   rw [qe4] at ho
   split
   . rename_i hz
     refine (wX r s i n (j+1) F).mono fun G hG=>?_
     simp only [Zy,ho,W.isFz_er,hz,hG]
   . rename_i hz
     refine R.Sim.bd (F.dropR_sim _) fun G hG=>(wX r s i n (j+1) G).mono fun H hH=>?_
     rw [qe4] at hG
     simp only [Zy,ho,W.isFz_er,hz,hG,hH]
def qj9 (M:MB)(r:Nat)(s:jm)(i:Bool×Nat):Nat->SF->List W->R SF
 | _,F,[]=>R.ok F
 | j,F,o::os=>(F.setR M (qB r s i j) o).bd fun G=>qj9 M r s i (j+1) G os
theorem qbo (r:Nat)(s:jm)(i:Bool×Nat):∀ (os:List W) (j:Nat) (F:SF),(qj9 qn r s i j F os).Sim fun G=>qfz std r (ixs s) i.2 j F.er (W.erL os)=G.er
 | [],j,F=>R.Sim.ok rfl
 | o::os,j,F=>by
   simp only [qj9]
   refine R.Sim.bd (F.setR_sim _ o) fun G hG=>(qbo r s i os (j+1) G).mono fun H hH=>?_
   rw [qe4] at hG
   simp only [W.erL,qfz,hG,hH]
theorem vU {α:Type}:∀ (l:List α) (j n:Nat),j+n<=l.length->∃ r,cut l j n=some r
 | l,0,0,_=>⟨[],by cases l<;>rfl⟩
 | [],0,n+1,h=>by simp at h
 | [],j+1,n,h=>by simp at h
 | a::l,j+1,n,h=>by
   obtain ⟨r,hr⟩:=vU l j n (by simp at h;omega)
   exact ⟨r,by cases n<;>exact hr⟩
 | a::l,0,n+1,h=>by
   obtain ⟨r,hr⟩:=vU l 0 n (by simp at h;omega)
   exact ⟨a::r,by simp only [cut,hr]⟩
def qn7 (M:MB)(F:SF)(p:SP)(i:Bool×Nat)(m:Nat):R Unit :=
 (F.atR M p).bd fun o=>(match o with
   | .osl x=>(match nle m x.sz with
     | true=>some ([M.pLtN i.2 (x.len M)],())
     | false=>none)
   | .obx cs=>(match i with
     | (true,0)=>(match nle m (cnt cs) with | true=>R.ok () | false=>none)
     | _=>none)
   | _=>none)
theorem qlT (F:SF)(p:SP)(i:Bool×Nat)(j n:Nat):(qn7 qn F p i (j+n)).Sim fun _=>∃ l,ki std F.er n (.pp p.er i.2 j)=some l:=by
 unfold qn7
 refine R.Sim.bd (F.atR_sim p) fun o ho=>?_
 simp only [ki,ho]
 split
 . rename_i x
   split
   . rename_i hm
     refine R.Sim.mk fun hp=>?_
     have h1:i.2<x.len qn:=hp.one
     have h2:i.2<x.ro.length:=by rw [LL.len_ro];exact h1
     have h3:std.oGet x.ro i.2=some x.ro[i.2]:=List.getElem?_eq_getElem h2
     have h4:=x.ro_sz _ (List.getElem_mem h2)
     obtain ⟨r,hr⟩:=vU x.ro[i.2] j n (by rw [h4];exact qC hm)
     simp only [W.er,h3,hr]
     exact ⟨_,rfl⟩
   . exact R.Sim.none'
 . rename_i cs
   split
   . split
     . rename_i hm
       refine R.Sim.ok ?_
       rw [kV] at hm
       obtain ⟨r,hr⟩:=vU (W.erL cs) j n (by rw [W.erL_eq,List.length_map];exact qC hm)
       simp only [W.er,hr]
       exact ⟨_,rfl⟩
     . exact R.Sim.none'
   . exact R.Sim.none'
 . exact R.Sim.none'
def qhs (M:MB)(F:SF)(size:Nat)(a x:Operand):R SF :=
 match z6 F a with
 | .pp p i j=>(qag M p.1 p.2 i j size F).bd fun F1=>(match evB F1 x with
   | .v (_,as)=>(match nq (cnt as) size&&nlt 0 size with
     | true=>(ZK M (qB p.1 p.2 i) j (cnt as) F1 as).bd fun s=>(qn7 M s.2 p i (j+size)).bd fun _=>qj9 M p.1 p.2 i j s.2 s.1
     | false=>none)
   | .tup _=>none)
 | _=>none
theorem qgO (F:SF)(size:Nat)(a x:Operand):(qhs qn F size a x).Sim fun G=>qai std false F.er size a x=some G.er:=by
 unfold qhs
 split
 . rename_i p i j ha
   refine R.Sim.bd (wX p.1 p.2 i size j F) fun F1 hF1=>?_
   split
   . rename_i g as hx
     split
     . rename_i hc
       refine R.Sim.bd (qg1 p.1 p.2 i j _ F1 as) fun s hs=>R.Sim.bd (qlT s.2 p i j size) fun _ ⟨l,hl⟩=>(qbo p.1 p.2 i s.1 j s.2).mono fun G hG=>?_
       have ha':ev1 F.er a=.pp p.er i.2 j:=by rw [<-qK,ha];rfl
       have hx':ev F1.er x=.v (g,B.erL as):=by rw [<-je,hx];rfl
       unfold qai
       rw [ha']
       dsimp only
       rw [show p.er.1=p.1 from rfl,show p.er.2=ixs p.2 from rfl,hF1,hx']
       dsimp only
       rw [yn,hc]
       dsimp only
       rw [hs]
       dsimp only
       rw [hl]
       dsimp only
       rw [hG]
     . exact R.Sim.none'
   . exact R.Sim.none'
 . exact R.Sim.none'
structure SX where
 T:Nat->Option Ty
 K:Nat->Option EK
 S:FuncId->Option (List (Nat×Nat)):=fun _=>none
 OW:FuncId->List (V1 B)->List (LK×W)->R (TV B×List (Nat×W)×List B):=fun _ _ _=>none
 FB:Nat->Bool:=fun _=>false
def qrP (M:MB)(X:SX)(F:SF)(d:Nat)(t:Nat)(l c:Operand):R SF :=
 match X.T t with
 | some ⟨.sl e,_,_,_,_⟩=>(match X.T e,X.K e with
   | some ty,some k=>(match z6 F l,z6 F c with
     | .fz (.int _ n),.fz (.int _ m)=>(match nle ty.bytes 4096&&nlt 0 ty.size&&nq (cnt ty.zero) ty.size with
       | true=>(match zWL ty.zero with
         | some zs=>(match LL.one k zs with
           | some x=>(match x.rep M (M.toN n) with
             | some y=>(F.clearR M (rid d 0 0)).bd fun G=>some ([M.pEqI n m,M.pRep n],(G.root (rid d 0 0) (.osl y)).put d (rfB (rid d 0 0) (y.len M)))
             | none=>none)
           | none=>none)
         | none=>none)
       | false=>none)
     | _,_=>none)
   | _,_=>none)
 | _=>none
def qi7 (M:MB)(X:SX)(F:SF)(d:Nat)(t len:Nat)(parts:List (Nat×Operand)):R SF :=
 match X.T t with
 | some ⟨.sl e,_,_,_,_⟩=>(match X.T e,X.K e with
   | some ty,some k=>(match nq (cnt parts) len&&nle len 4096&&nlt 0 ty.size&&nle ty.size 4096 with
     | true=>(F.clearR M (rid d 0 0)).bd fun G=>(qdf M (rid d 0 0) ty.size 0 G parts).bd fun s=>(match LL.many k s.1 with
       | some w=>R.ok ((s.2.root (rid d 0 0) w).put d (rfB (rid d 0 0) len))
       | none=>none)
     | false=>none)
   | _,_=>none)
 | _=>none
def qpg (M:MB)(X:SX)(F:SF)(d:Nat):Op->R SF
 | .assign x=>qdC M F d (evB F x)
 | .box _ x=>(F.clearR M (rid d 0 0)).bd fun G=>qsA M G d x
 | .alloc e=>qo5 M X.T F d e
 | .buildSlice t len ⟨parts⟩=>qi7 M X F d t len parts
 | .makeSlice t l c=>qrP M X F d t l c
 | .call ⟨.builtin .append,⟨[x,y]⟩,⟨[t,t']⟩⟩=>(match nq t t',X.T t with
   | true,some ⟨.sl e,_,_,_,_⟩=>(match X.T e with
     | some ty=>(F.dropR M (rid d 0 0,[])).bd fun G=>qcU M ty d x y G
     | none=>none)
   | _,_=>none)
 | o=>(qqW M X.T F o).bd fun v=>R.ok (F.put d v)
theorem YX (X:SX)(F:SF)(d:Nat)(op:Op):(qpg qn X F d op).Sim fun G=>wop std X.T false F.er d op=some G.er:=by
 unfold qpg
 split
 . rename_i x
   refine (qgh F d _).mono fun G hG=>?_
   rw [je] at hG
   exact hG
 . refine R.Sim.bd (F.clearR_sim _) fun G hG=>(qpR G d _).mono fun H hH=>?_
   simp only [wop,hG,hH]
 . rename_i e
   unfold qo5
   split
   . rename_i ty ht
     split
     . rename_i zs hz
       obtain ⟨h1,h2⟩:=qdr _ hz
       refine R.Sim.bd (F.clearR_sim _) fun G hG=>R.Sim.ok ?_
       simp only [wop,ht,h2,hG,<-h1]
       rfl
     . exact R.Sim.none'
   . exact R.Sim.none'
 . rename_i t len parts
   unfold qi7
   split
   . rename_i e _ _ _ _ ht
     split
     . rename_i ty k hte hk
       split
       . rename_i hc
         refine R.Sim.bd (F.clearR_sim _) fun G hG=>R.Sim.bd (Y8 _ _ _ _ G) fun s hs=>?_
         split
         . rename_i w hw
           refine R.Sim.ok ?_
           have:=LL.many_er k _ hw
           simp only [wop,ht,hte,hc,hG,hs,SF.put_er,SF.root_er,this]
           rfl
         . exact R.Sim.none'
       . exact R.Sim.none'
     . exact R.Sim.none'
   . exact R.Sim.none'
 . rename_i t l c
   unfold qrP
   split
   . rename_i e _ _ _ _ ht
     split
     . rename_i ty k hte hk
       split
       . rename_i k1 n k2 m hl hm
         split
         . rename_i hc
           split
           . rename_i zs hz
             obtain ⟨h1,h2⟩:=qdr _ hz
             split
             . rename_i x hx
               split
               . rename_i y hy
                 refine R.Sim.bd (F.clearR_sim _) fun G hG=>R.Sim.mk fun hp=>?_
                 obtain ⟨h3,h4,h5⟩:=hp.two
                 have h3:n=m:=h3
                 subst h3
                 obtain ⟨z,hz1,hz2⟩:=LL.rep_ro hy
                 have hxo:=LL.one_ro hx
                 rw [hz1] at hxo
                 injection hxo with hxo
                 have hzz:z=kd false ty.zero:=by rw [hxo,<-W.erL_eq,h1]
                 have hl':ev1 F.er l=.fz (.int k1 n):=by rw [<-qK,hl];rfl
                 have hm':ev1 F.er c=.fz (.int k2 n):=by rw [<-qK,hm];rfl
                 have hr:std.oRep n (kd false ty.zero)=some y.ro:=by
                  show (if 0<=n/\n<=(lim:Int) then some (List.replicate n.toNat (kd false ty.zero)) else none)=_
                  rw [if_pos ⟨h4,h5⟩,hz2,hzz]
                  rfl
                 have hb:std.bEq n n=true:=by show (n == n)=true;simp
                 have hlen:std.oLen y.ro=y.len qn:=LL.len_ro y
                 simp only [wop,ht,hte,hl',hm',hb,hc,h2,hr,hG,hlen,Bool.and_self,Bool.true_and,Bool.and_true]
                 rfl
               . exact R.Sim.none'
             . exact R.Sim.none'
           . exact R.Sim.none'
         . exact R.Sim.none'
       . exact R.Sim.none'
     . exact R.Sim.none'
   . exact R.Sim.none'
 . rename_i x y t t'
   split
   . rename_i e _ _ _ _ htt ht
     split
     . rename_i ty hte
       refine R.Sim.bd (F.dropR_sim _) fun G hG=>(qeU ty d x y G).mono fun H hH=>?_
       have hG:F.er.drop std (rid d 0 0,[])=G.er:=hG
       simp only [wop,htt,ht,hte,hG,hH]
     . exact R.Sim.none'
   . exact R.Sim.none'
 . rename_i h1 h2 h3 h4 h5 h6
   refine R.Sim.bd (qea X.T F op) fun v hv=>R.Sim.ok ?_
   have:wop std X.T false F.er d op=qjA std F.er d (qop std X.T F.er op):=by
    unfold wop
    split<;>first
     | rfl
     | exact (h1 _ rfl).elim
     | exact (h2 _ _ rfl).elim
     | exact (h3 _ rfl).elim
     | exact (h4 _ _ _ rfl).elim
     | exact (h5 _ _ _ rfl).elim
     | exact (h6 _ _ _ _ rfl).elim
   rw [this,hv]
   rfl
def qoV (M:MB)(F:SF):TV B->R (V1 D)
 | .v (g,as)=>(match qik as with
   | true=>(qbB M F as).bd fun l=>R.ok (g,l)
   | false=>none)
 | .tup _=>none
theorem qlg (F:SF)(x:TV B):(qoV qn F x).Sim fun y=>qfI std F.er (x.er B.erL)=some (kf D.erL y):=by
 unfold qoV
 split
 . rename_i g as
   split
   . rename_i hok
     refine R.Sim.bd (JP F as) fun l hl=>R.Sim.ok ?_
     simp only [TV.er,kf,qfI,vm,hok,hl]
   . exact R.Sim.none'
 . exact R.Sim.none'
def qe1 (M:MB)(F:SF):List Operand->R (List (V1 D))
 | []=>R.ok []
 | x::r=>(qoV M F (evB F x)).bd fun y=>(qe1 M F r).bd fun ys=>R.ok (y::ys)
theorem Wy (F:SF):∀ (l:List Operand),(qe1 qn F l).Sim fun ys=>KY std F.er l=some (qx D.erL ys)
 | []=>R.Sim.ok rfl
 | x::r=>by
   simp only [qe1]
   refine R.Sim.bd (qlg F _) fun y hy=>R.Sim.bd (Wy F r) fun ys hys=>R.Sim.ok ?_
   rw [je] at hy
   simp only [KY,hy,hys]
   rfl
mutual
def B.isFzB:B->Bool
 | .fz _=>true
 | .clo _ caps=>YV caps
 | _=>false
def YV:List B->Bool
 | []=>true
 | a::r=>match a.isFzB with | true=>YV r | false=>false
end
mutual
theorem qpj:(x:B)->x.er.isFz=x.isFzB
 | .un=>rfl
 | .ud=>rfl
 | .fz d=>rfl
 | .rf ..=>rfl
 | .pp ..=>rfl
 | .clo f caps=>by simp only [B.er,A.isFz,B.isFzB,Ws caps]
theorem Ws:(l:List B)->KH (B.erL l)=YV l
 | []=>rfl
 | a::r=>by simp only [B.erL,KH,YV,qpj a,Ws r];cases a.isFzB<;>rfl
end
def qsp:TV B->Bool
 | .v (_,as)=>YV as
 | .tup _=>false
theorem qqY (x:TV B):(x.er B.erL).isFz=qsp x:=by
 cases x with
 | v x=>exact Ws x.2
 | tup xs=>rfl
def w8 (F:SF):List Operand->Bool
 | []=>true
 | x::r=>match qsp (evB F x) with | true=>w8 F r | false=>false
theorem Ya (F:SF):∀ l,J7 F.er l=w8 F l
 | []=>rfl
 | x::r=>by simp only [J7,w8,<-je,qqY,Ya F r];cases qsp (evB F x)<;>rfl
def yh (M:MB)(F:SF)(f:Operand):R (FuncId×List D) :=
 match z6 F f with
 | .fz (.fn g caps)=>R.ok (g,caps)
 | .clo g caps=>(match qik caps with
   | true=>(qbB M F caps).bd fun l=>R.ok (g,l)
   | false=>none)
 | _=>none
theorem VQ (F:SF)(f:Operand):(yh qn F f).Sim fun r=>callee std F.er f=some (r.1,D.erL r.2):=by
 unfold yh
 split
 . rename_i g caps h
   refine R.Sim.ok ?_
   have:ev1 F.er f=.fz (.fn g (D.erL caps)):=by rw [<-qK,h];rfl
   simp only [callee,this]
 . rename_i g caps h
   split
   . rename_i hok
     refine R.Sim.bd (JP F caps) fun l hl=>R.Sim.ok ?_
     have:ev1 F.er f=.clo g (B.erL caps):=by rw [<-qK,h];rfl
     simp only [callee,this,vm,hok,hl]
   . exact R.Sim.none'
 . exact R.Sim.none'
def Qo:List D->List (V1 D)
 | []=>[]
 | c::r=>(false,[c])::Qo r
theorem qfE (l:List D):qx D.erL (Qo l)=Zo (D.erL l):=by induction l with | nil=>rfl | cons a r ih=>simp only [Qo,qx,D.erL,Zo,ih];rfl
theorem Kn {α β:Type}(f:List α->List β)(l r:List (V1 α)):qx f (l++r)=qx f l++qx f r:=by induction l with | nil=>rfl | cons a l ih=>simp [qx,ih]
mutual
def W.cleanB:W->Bool
 | .un=>false
 | .fz d=>(match d with | .sl (.i [])=>true | .un | .sl _ | .ptr _ | .mp _=>false | .fn _ caps=>(match caps with | []=>true | _::_=>false) | _=>true)
 | .osl x=>x.clean
 | .onil=>true
 | .obx cs=>vG cs
def vG:List W->Bool
 | []=>true
 | a::r=>match a.cleanB with | true=>vG r | false=>false
end
mutual
theorem qlm:(o:W)->o.cleanB=true->o.er.cleanM std=true
 | .un,h=>by simp [W.cleanB] at h
 | .fz d,h=>by
   cases d<;>simp only [W.cleanB] at h<;>first | rfl | (cases h;done) | skip
   case sl x =>
    by_cases hx:x=.i []
    . subst hx;rfl
    . exfalso
      revert h
      cases x with
      | i l=>cases l with
        | nil=>exact absurd rfl hx
        | cons _ _=>intro h;cases h
      | _=>intro h;cases h
   case fn f caps=>cases caps with | nil=>rfl | cons _ _=>simp at h
 | .osl x,h=>LL.clean_ro x h
 | .onil,_=>rfl
 | .obx cs,h=>wy cs h
theorem wy:(l:List W)->vG l=true->O.cleanML std (W.erL l)=true
 | [],_=>rfl
 | a::r,h=>by
   simp only [vG] at h
   split at h
   . rename_i ha
     simp only [W.erL,O.cleanML,qlm a ha,wy r h]
   . cases h
end
def nzD:D->Option D
 | .fn f [c]=>(match nq f qa9 with | true=>some c | false=>none)
 | _=>none
def nzW:W->Option D
 | .fz d=>nzD d
 | _=>none
theorem qn8 (d:D):nzC d.er=(nzD d).map D.er:=by
 cases d with
 | fn f caps =>
   match caps with
   | []=>rfl
   | [c] =>
     simp only [D.er,D.erL,nzC,nzD]
     cases nq f qa9<;>rfl
   | _::_::_=>rfl
 | _=>rfl
theorem qiM (o:W):nzO o.er=(nzW o).map D.er:=by
 cases o with
 | fz d=>exact qn8 d
 | _=>rfl
def yl:List W->Bool
 | []=>true
 | o::r=>match nzW o with | none=>yl r | some _=>false
theorem Yl:∀ l:List W,Zl (W.erL l)=yl l
 | []=>rfl
 | o::r=>by
   simp only [W.erL,Zl,yl,qiM]
   cases nzW o with
   | none=>exact Yl r
   | some d=>rfl
def qpB (M:MB)(q:SP)(o:W):B:=match nzW o with
 | some c=>.fz c
 | none=>qsM M q o
theorem qrb (q:SP)(o:W):(qpB qn q o).er=qmX std q.er o.er:=by
 unfold qpB qmX
 rw [qiM]
 cases nzW o with
 | none=>exact qj3 q o
 | some d=>rfl
def J3:List W->Bool
 | []=>true
 | o::r=>match nzW o with
   | some _=>J3 r
   | none=>(match vG [o] with | true=>J3 r | false=>false)
theorem Kb:∀ l:List W,J3 l=true->Zn std (W.erL l)=true
 | [],_=>rfl
 | o::r,h=>by
   simp only [J3] at h
   simp only [W.erL,Zn,qih,qiM]
   cases hz:nzW o with
   | some d =>
     rw [hz] at h
     exact Kb r h
   | none =>
     rw [hz] at h
     dsimp only at h
     split at h
     . rename_i hc
       have h1:=wy [o] hc
       simp only [W.erL,O.cleanML] at h1
       cases hk:o.er.cleanM std with
       | false=>rw [hk] at h1;cases h1
       | true=>simp only [Option.map_none,hk];exact Kb r h
     . cases h
def Wf:List (V1 W)->Bool
 | []=>true
 | x::r=>match J3 x.2 with | true=>Wf r | false=>false
def vT:TV W->Bool
 | .v x=>J3 x.2
 | .tup xs=>Wf xs
theorem qaf {r:TV W}(h:vT r=true):(r.er W.erL).cleanM std=true:=by
 cases r with
 | v x=>exact Kb x.2 h
 | tup xs =>
   have key:∀ l:List (V1 W),Wf l=true->JM std (qx W.erL l)=true:=by
    intro l
    induction l with
    | nil=>intro _;rfl
    | cons x l ih =>
      intro h
      simp only [Wf] at h
      split at h
      . rename_i hx
        simp only [qx,JM,kf,Kb x.2 hx,ih h]
      . cases h
   exact key xs h
def qfD (M:MB)(d k:Nat):Nat->List W->List B
 | _,[]=>[]
 | j,o::r=>qpB M (rid d k j,[]) o::qfD M d k (j+1) r
def JG (d k:Nat):Nat->List W->List (Nat×W)
 | _,[]=>[]
 | j,o::r=>match o.isFz with
   | true=>JG d k (j+1) r
   | false=>(rid d k j,o)::JG d k (j+1) r
def qdz (M:MB)(d:Nat):Nat->List (V1 W)->List (V1 B)
 | _,[]=>[]
 | k,x::r=>(x.1,qfD M d k 0 x.2)::qdz M d (k+1) r
def Qs {α:Type}:List α->List α->List α
 | [],r=>r
 | a::l,r=>a::Qs l r
theorem jL {α:Type}(l r:List α):Qs l r=l++r:=by induction l with | nil=>rfl | cons a l ih=>simp [Qs,ih]
def Wa (d:Nat):Nat->List (V1 W)->List (Nat×W)
 | _,[]=>[]
 | k,x::r=>Qs (JG d k 0 x.2) (Wa d (k+1) r)
def Y9 (M:MB)(d:Nat):TV W->TV B
 | .v (g,os)=>.v (g,qfD M d 0 0 os)
 | .tup xs=>.tup (qdz M d 0 xs)
def JW (d:Nat):TV W->List (Nat×W)
 | .v (_,os)=>JG d 0 0 os
 | .tup xs=>Wa d 0 xs
theorem Yp (d k:Nat):∀ (l:List W) (j:Nat),B.erL (qfD qn d k j l)=ya std d k j (W.erL l)
 | [],j=>rfl
 | o::r,j=>by simp only [qfD,B.erL,W.erL,ya,qrb,Yp d k r];rfl
theorem Ks (d k:Nat):∀ (l:List W) (j:Nat),zF (JG d k j l)=Kc d k j (W.erL l)
 | [],j=>rfl
 | o::r,j=>by
   simp only [JG,W.erL,Kc,W.isFz_er]
   cases o.isFz with
   | true=>exact Ks d k r (j+1)
   | false=>simp only [zF,Ks d k r]
theorem VY (l r:List (Nat×W)):zF (l++r)=zF l++zF r:=by induction l with | nil=>rfl | cons a l ih=>obtain ⟨i,o⟩:=a;simp [zF,ih]
theorem vb (d:Nat)(r:TV W):(Y9 qn d r).er B.erL=qa3 std d (r.er W.erL):=by
 cases r with
 | v x=>obtain ⟨g,os⟩:=x;simp only [Y9,TV.er,kf,qa3,Yp]
 | tup xs =>
   have key:∀ (l:List (V1 W)) (k:Nat),qx B.erL (qdz qn d k l)=wk std d k (qx W.erL l):=by
    intro l
    induction l with
    | nil=>intro k;rfl
    | cons x l ih=>intro k;simp only [qdz,qx,kf,wk,Yp,ih]
   simp only [Y9,TV.er,qa3,key]
theorem KC (d:Nat)(r:TV W):zF (JW d r)=zZ d (r.er W.erL):=by
 cases r with
 | v x=>obtain ⟨g,os⟩:=x;exact Ks d 0 os 0
 | tup xs =>
   have key:∀ (l:List (V1 W)) (k:Nat),zF (Wa d k l)=Ki d k (qx W.erL l):=by
    intro l
    induction l with
    | nil=>intro k;rfl
    | cons x l ih=>intro k;simp only [Wa,jL,VY,qx,kf,Ki,Ks,ih]
   exact key xs 0
def SF.clearsR (M:MB)(F:SF):List (Nat×W)->R SF
 | []=>R.ok F
 | (id,_)::r=>(F.clearR M id).bd fun G=>G.clearsR M r
def SF.addsB (F:SF):List (Nat×W)->SF
 | []=>F
 | (id,o)::r=>(F.root id o).addsB r
theorem Vu:∀ (l:List (Nat×W)) (F:SF),(F.clearsR qn l).Sim fun G=>F.er.clears std (zF l)=G.er
 | [],F=>R.Sim.ok rfl
 | (id,o)::r,F=>by
   simp only [SF.clearsR]
   exact R.Sim.bd (F.clearR_sim id) fun G hG=>(Vu r G).mono fun H hH=>by simp only [zF,Fr.clears,hG,hH]
theorem Y0:∀ (l:List (Nat×W)) (F:SF),(F.addsB l).er=F.er.adds (zF l)
 | [],F=>rfl
 | (id,o)::r,F=>by simp only [SF.addsB,Y0 r,zF,Fr.adds,SF.root_er]
def vn.fitsVs:List (V1 W)->Bool
 | []=>true
 | x::r=>match nle (cnt x.2) 64 with | true=>vn.fitsVs r | false=>false
def vn:TV W->Bool
 | .v (_,os)=>nle (cnt os) 64
 | .tup xs=>match nle (cnt xs) 64 with | true=>vn.fitsVs xs | false=>false
theorem qgy {α β:Type}(f:α->β)(l:List α):cnt (l.map f)=cnt l:=by simp [kV]
theorem qf6 {r:TV W}(h:vn r=true):TV.fits (r.er W.erL)=true:=by
 cases r with
 | v x =>
   obtain ⟨g,os⟩:=x
   have h':nle (cnt os) 64=true:=h
   simpa only [TV.er,kf,TV.fits,W.erL_eq,qgy] using h'
 | tup xs =>
   have key:∀ l:List (V1 W),vn.fitsVs l=true->qcf (qx W.erL l)=true:=by
    intro l
    induction l with
    | nil=>intro _;rfl
    | cons x l ih =>
      intro h
      simp only [vn.fitsVs] at h
      split at h
      . rename_i hx
        simp only [qx,qcf,kf,W.erL_eq,qgy,hx]
        exact ih h
      . cases h
   have hl:∀ l:List (V1 W),cnt (qx W.erL l)=cnt l:=by intro l;induction l with | nil=>rfl | cons x l ih=>simp [qx,cnt,ih]
   simp only [vn] at h
   split at h
   . rename_i hx
     simp only [TV.er,TV.fits,hl,hx,key xs h,Bool.and_self]
   . cases h
def SF.importB (M:MB)(F:SF)(d:Nat)(r:TV W):R SF:=match vn r with
 | true=>(F.clearsR M (JW d r)).bd fun G=>R.ok ((G.addsB (JW d r)).put d (Y9 M d r))
 | false=>none
theorem VA (F:SF)(d:Nat)(r:TV W):(F.importB qn d r).Sim fun G=>F.er.import std d (r.er W.erL)=some G.er:=by
 unfold SF.importB
 split
 . rename_i hf
   refine R.Sim.bd (Vu _ F) fun G hG=>R.Sim.ok ?_
   unfold Fr.import
   rw [qf6 hf]
   dsimp only
   rw [<-KC,hG,SF.put_er,Y0,vb]
 . exact R.Sim.none'
abbrev Qz:=FuncId->List (V1 D)->R (TV W)
def qp (P:Program)(ora:Qz):Prop:=∀ g as,R.Sim (ora g as) fun r=>zt P g (qx D.erL as) (r.er W.erL)
def qn5 (M:MB)(ora:Qz)(F:SF)(d:Nat)(f:Operand)(args:List Operand):R SF :=
 (yh M F f).bd fun g=>(qe1 M F args).bd fun as=>(ora g.1 (Qs as (Qo g.2))).bd fun r=>(match w8 F (f::args) with
   | true=>F.importB M d r
   | false=>(match vT r with
     | true=>F.importB M d r
     | false=>none))
open Classical in
noncomputable def qa2 (g:FuncId)(as:List (V1 C))(r:TV O):Ora:=fun g' as'=>if g'=g/\as'=as then some r else none
theorem ql7 {P:Program}{ora:Qz}(hO:qp P ora)(F:SF)(d:Nat)(f:Operand)(args:List Operand):(qn5 qn ora F d f args).Sim fun G=>∃ g as r,zt P g as r/\YG std (qa2 g as r) F.er d f args=some G.er:=by
 unfold qn5
 refine R.Sim.bd (VQ F f) fun g hg=>R.Sim.bd (Wy F args) fun as has=>R.Sim.bd (hO g.1 _) fun r hr=>?_
 have key:∀ G:SF,F.er.import std d (r.er W.erL)=some G.er->(w8 F (f::args)=true\/vT r=true)->∃ g as r,zt P g as r/\YG std (qa2 g as r) F.er d f args=some G.er:=by
  intro G hG hc
  refine ⟨_,_,_,hr,?_⟩
  unfold YG qoD
  simp only [hg,has]
  have h1:qa2 g.1 (qx D.erL (Qs as (Qo g.2))) (r.er W.erL) g.1 (qx D.erL as++Zo (D.erL g.2))=some (r.er W.erL):=by
   unfold qa2
   rw [if_pos ⟨rfl,by rw [jL,Kn,qfE]⟩]
  simp only [h1,Ya]
  rcases hc with hc | hc
  . simp only [hc,hG]
  . cases hl:w8 F (f::args) with
    | true=>simp only [hG]
    | false=>simp only [qaf hc,hG]
 split
 . rename_i hl
   exact (VA F d r).mono fun G hG=>key G hG (.inl hl)
 . split
   . rename_i hc
     exact (VA F d r).mono fun G hG=>key G hG (.inr hc)
   . exact R.Sim.none'
end Go.Proofs.YtifnopmkdempdaaGreat.Ai
namespace Go.Proofs.YtifnopmkdempdaaGreat.Ai
open Go
variable [qg]
def qoX (M:MB)(k:Nat)(F:SF):TV B->R (V1 W×SF)
 | .v (g,as)=>(match nle (cnt as) 64 with
   | true=>(ZK M (qB qz [] (true,k)) 0 (cnt as) F as).bd fun s=>(match yl s.1 with | true=>R.ok ((g,s.1),s.2) | false=>none)
   | false=>none)
 | .tup _=>none
theorem qlF (k:Nat)(F:SF)(x:TV B):(qoX qn k F x).Sim fun r=>qqL std false k F.er (x.er B.erL)=some (kf W.erL r.1,r.2.er):=by
 unfold qoX
 split
 . rename_i g as
   split
   . rename_i hc
     refine R.Sim.bd (Wu qz [] (true,k) _ F as) fun s hs=>?_
     have hs':jV std false (qAt qz [] k) 0 F.er idA (B.erL as)=some (W.erL s.1,s.2.er):=hs
     split
     . rename_i hm
       refine R.Sim.ok ?_
       simp only [TV.er,kf,qqL,yn,hc,hs',Yl,hm]
     . exact R.Sim.none'
   . exact R.Sim.none'
 . exact R.Sim.none'
def qbP (M:MB)(T:Nat->Option Ty)(F:SF):ResultVar->R (TV B)
 | .tmp t=>(match nlt t PH with | true=>R.ok (qa unB F.tm t) | false=>none)
 | .cell a t=>(match nlt a PH,T t with
   | true,some ty=>(qcl M F ty.size (qlz (qa unB F.tm a))).bd fun as=>oR (qrm ty.agg as)
   | _,_=>none)
theorem W2 (T:Nat->Option Ty)(F:SF)(r:ResultVar):(qbP qn T F r).Sim fun x=>qdT std T F.er r=some (x.er B.erL):=by
 cases r with
 | tmp t =>
   unfold qbP
   dsimp only
   split
   . rename_i hph
     refine R.Sim.ok ?_
     simp only [qdT,hph]
     rw [show qa unT F.er.tm t=(qa unB F.tm t).er B.erL from QJ _ _]
   . exact R.Sim.none'
 | cell c t =>
   unfold qbP
   dsimp only
   split
   . rename_i ty hph ht
     refine R.Sim.bd (Yi F _ _) fun as has=>yN fun v hv=>?_
     simp only [qdT,hph,ht]
     rw [show qa unT F.er.tm c=(qa unB F.tm c).er B.erL from QJ _ _,<-qcY,has]
     exact qjB hv
   . exact R.Sim.none'
def qcB (M:MB)(T:Nat->Option Ty):Nat->SF->List ResultVar->R (List (V1 W))
 | _,_,[]=>R.ok []
 | k,F,rv::r=>(qbP M T F rv).bd fun v=>(qoX M k F v).bd fun x=>(qcB M T (k+1) x.2 r).bd fun xs=>R.ok (x.1::xs)
theorem yZ (T:Nat->Option Ty):∀ (rs:List ResultVar) (k:Nat) (F:SF),(qcB qn T k F rs).Sim fun xs=>Wd std T false k F.er rs=some (qx W.erL xs)
 | [],k,F=>R.Sim.ok rfl
 | rv::r,k,F=>by
   simp only [qcB]
   refine R.Sim.bd (W2 T F rv) fun v hv=>R.Sim.bd (qlF k F _) fun x hx=>R.Sim.bd (yZ T r (k+1) x.2) fun xs hxs=>R.Sim.ok ?_
   simp only [Wd,hv,hx,hxs,qx]
def yA (M:MB)(T:Nat->Option Ty)(F:SF)(rs:Array ResultVar):R (TV W) :=
 match rs with
 | ⟨rs⟩=>(match nle (cnt rs) 64 with
   | true=>(F.dropR M (qz,[])).bd fun G=>(qcB M T 0 G rs).bd fun xs=>(match xs with
     | [x]=>R.ok (.v x)
     | xs=>R.ok (.tup xs))
   | false=>none)
theorem VP (T:Nat->Option Ty)(F:SF)(rs:Array ResultVar):(yA qn T F rs).Sim fun r=>QL std T false F.er rs=some (r.er W.erL):=by
 obtain ⟨rs⟩:=rs
 unfold yA
 dsimp only
 split
 . rename_i hc
   refine R.Sim.bd (F.dropR_sim _) fun G hG=>R.Sim.bd (yZ T rs 0 G) fun xs hxs=>?_
   have hG:F.er.drop std (qz,[])=G.er:=hG
   split
   . refine R.Sim.ok ?_
     simp only [QL,hc,hG,hxs,qx]
     rfl
   . rename_i h
     refine R.Sim.ok ?_
     simp only [QL,hc,hG,hxs]
     match xs,h with
     | [],_=>rfl
     | [x],h=>exact (h x rfl).elim
     | x::y::r,_=>rfl
 . exact R.Sim.none'
def qre (M:MB)(F:SF):B->R W
 | .fz d=>(match nzD d with | none=>R.ok (.fz d) | some _=>none)
 | .rf p _ off len=>(F.atR M p).bd fun o=>(match o with
   | .osl x=>(match x.clean with
     | true=>(match x.cut M off len with
       | some y=>some ([M.pLeN (M.nAdd off len) (x.len M)],.fz (.fn qa9 [.sl y]))
       | none=>none)
     | false=>none)
   | _=>none)
 | _=>none
theorem Yk {x:LL}(h:x.clean=true):x.here=true:=by
 cases x
 case node o g l=>cases g with | none=>rfl | some _=>simp [LL.clean] at h
 case ii o g l=>cases g with | none=>rfl | some _=>simp [LL.clean] at h
 all_goals rfl
theorem qpO (F:SF):(x:B)->(qre qn F x).Sim fun o=>qhA std F.er x.er=some o.er
 | .un=>R.Sim.none'
 | .ud=>R.Sim.none'
 | .pp ..=>R.Sim.none'
 | .clo ..=>R.Sim.none'
 | .fz d=>by
   simp only [qre]
   split
   . rename_i hd
     refine R.Sim.ok ?_
     simp only [B.er,qhA,qn8,hd,Option.map_none]
     rfl
   . exact R.Sim.none'
 | .rf p g off len=>by
   simp only [qre]
   refine R.Sim.bd (F.atR_sim p) fun o ho=>?_
   split
   . rename_i x
     split
     . rename_i hc
       split
       . rename_i y hy
         refine R.Sim.mk fun hp=>?_
         have h1:off+len<=x.len qn:=hp.one
         have hcl:std.oClean x.ro=true:=LL.clean_ro x hc
         have hy':y.here=true:=by
          unfold LL.cut at hy
          split at hy<;>first | (simp only [Option.some.injEq] at hy;subst hy;rfl) | cases hy
         have e:WX std F.er (.rf p.er off len)=some (.sl y.rc):=by
          simp only [WX,ho]
          show (match decide (off+len<=x.ro.length),std.oClean x.ro with | true,true=>some (C.sl (O.frzLL ((x.ro.drop off).take len))) | _,_=>none)=_
          rw [LL.len_ro,decide_eq_true h1,hcl,<-LL.cut_ro hy,LL.frz_ro y hy']
         simp only [B.er,qhA,e]
         rfl
       . exact R.Sim.none'
     . exact R.Sim.none'
   . exact R.Sim.none'
def qkj (M:MB)(F:SF):List B->R (List W)
 | []=>R.ok []
 | x::r=>(qre M F x).bd fun y=>(qkj M F r).bd fun ys=>R.ok (y::ys)
theorem qbW (F:SF):(l:List B)->(qkj qn F l).Sim fun os=>Ys std F.er (B.erL l)=some (W.erL os)
 | []=>R.Sim.ok rfl
 | x::r=>by
   simp only [qkj]
   exact R.Sim.bd (qpO F x) fun y hy=>R.Sim.bd (qbW F r) fun ys hys=>R.Sim.ok (by simp only [B.erL,Ys,hy,hys,W.erL])
def qjH (M:MB)(T:Nat->Option Ty)(F:SF):List ResultVar->R (List (V1 W))
 | []=>R.ok []
 | rv::r=>(qbP M T F rv).bd fun v=>(match v with
   | .v x=>(qkj M F x.2).bd fun os=>(qjH M T F r).bd fun xs=>R.ok ((x.1,os)::xs)
   | .tup _=>none)
theorem qbx (T:Nat->Option Ty)(F:SF):∀ rs:List ResultVar,(qjH qn T F rs).Sim fun xs=>Wg std T F.er rs=some (qx W.erL xs)
 | []=>R.Sim.ok rfl
 | rv::r=>by
   simp only [qjH]
   refine R.Sim.bd (W2 T F rv) fun v hv=>?_
   split
   . rename_i x
     refine R.Sim.bd (qbW F x.2) fun os hos=>R.Sim.bd (qbx T F r) fun xs hxs=>R.Sim.ok ?_
     obtain ⟨g,as⟩:=x
     simp only [Wg,hv,TV.er,kf,hos,hxs,qx]
   . exact R.Sim.none'
def qrS:List (V1 W)->TV W
 | [x]=>.v x
 | xs=>.tup xs
theorem qpo (xs:List (V1 W)):qi8 (qx W.erL xs)=(qrS xs).er W.erL:=by
 match xs with
 | []=>rfl
 | [x]=>rfl
 | x::y::r=>rfl
mutual
def B.idsB:B->List Nat
 | .rf p _ _ _=>[p.1]
 | .pp p _ _=>[p.1]
 | .clo _ caps=>VX caps
 | _=>[]
def VX:List B->List Nat
 | []=>[]
 | a::r=>Qs a.idsB (VX r)
end
mutual
theorem qq7:(x:B)->x.er.ids=x.idsB
 | .un=>rfl
 | .ud=>rfl
 | .fz d=>rfl
 | .rf ..=>rfl
 | .pp ..=>rfl
 | .clo f caps=>by simp only [B.er,A.ids,B.idsB,Jj caps]
theorem Jj:(l:List B)->A.idsL (B.erL l)=VX l
 | []=>rfl
 | a::r=>by simp only [B.erL,A.idsL,VX,jL,qq7 a,Jj r]
end
def qka:List (V1 B)->List Nat
 | []=>[]
 | x::r=>Qs (VX x.2) (qka r)
def qoW:TV B->List Nat
 | .v x=>VX x.2
 | .tup xs=>qka xs
theorem qfT (x:TV B):(x.er B.erL).ids=qoW x:=by
 cases x with
 | v x=>exact Jj x.2
 | tup xs =>
   have key:∀ l:List (V1 B),qmD (qx B.erL l)=qka l:=by
    intro l
    induction l with
    | nil=>rfl
    | cons x l ih=>simp only [qx,qmD,kf,qka,jL,Jj,ih]
   exact key xs
def JL (F:SF):List Nat->List (Nat×TV B)
 | []=>[]
 | t::r=>(t,qa unB F.tm t)::JL F r
def YE:List (Nat×TV B)->List Nat
 | []=>[]
 | (_,x)::r=>Qs (qoW x) (YE r)
def yK (F:SF):List Nat->List (Nat×W)->List (Nat×W)
 | [],acc=>acc
 | id::r,acc=>yK F r (match has acc id with | true=>acc | false=>Qs acc [(id,qa .un F.tb id)])
def SF.keepB (F:SF)(l:List Nat):SF:={ F with tm:=JL F l,tb:=yK F (YE (JL F l)) [] }
theorem ZW (F:SF)(l:List Nat):(F.keepB l).er=F.er.keep l:=by
 have h1:∀ l,jr (JL F l)=QC F.er l:=by
  intro l
  induction l with
  | nil=>rfl
  | cons t l ih=>simp only [JL,jr,QC,ih];rw [show qa unT F.er.tm t=(qa unB F.tm t).er B.erL from QJ _ _]
 have h2:∀ l:List (Nat×TV B),VM (jr l)=YE l:=by
  intro l
  induction l with
  | nil=>rfl
  | cons x l ih=>obtain ⟨t,x⟩:=x;simp only [jr,VM,YE,jL,qfT,ih]
 have h3:∀ (l:List Nat) (acc:List (Nat×W)),zF (yK F l acc)=K0 F.er l (zF acc):=by
  intro l
  induction l with
  | nil=>intro acc;rfl
  | cons id l ih =>
    intro acc
    simp only [yK,K0,ih,qh7]
    cases has acc id with
    | true=>rfl
    | false =>
      dsimp only
      rw [jL,VY]
      rw [show qa .un F.er.tb id=(qa .un F.tb id).er from yC _ _]
      rfl
 unfold SF.keepB Fr.keep SF.er
 simp only
 have:=h3 (YE (JL F l)) []
 rw [this,<-h2,h1]
 rfl
structure LE (F G:Fr):Prop where
 n:G.n=F.n
 tm:∀ t,qa unT G.tm t=qa unT F.tm t
 tb:∀ id,qa .un G.tb id=qa .un F.tb id
 has:∀ id,has G.tb id=has F.tb id
theorem LE.refl (F:Fr):LE F F:=⟨rfl,fun _=>rfl,fun _=>rfl,fun _=>rfl⟩
theorem LE.trans {F G H:Fr}(h:LE F G)(k:LE G H):LE F H:=⟨k.n.trans h.n,fun t=>(k.tm t).trans (h.tm t),fun t=>(k.tb t).trans (h.tb t),fun t=>(k.has t).trans (h.has t)⟩
theorem LE.fr {F G:Fr}(h:LE F G){J:qj}{σ:Gh}{w:World}{vt:Nat->Value}(hF:FR F σ w vt)(hd:Dom F σ []):FR G σ w vt/\Dom G σ []:=by
 refine ⟨⟨hF.inj,hF.lt,hF.old,fun id=>by rw [h.tb];exact hF.tb id,fun t=>by rw [h.tm];exact hF.tm t⟩,fun g x hx=>?_⟩
 rcases hd g x hx with h1 | h1
 . left
   have:G.at std x.p=F.at std x.p:=by unfold Fr.at;rw [h.tb]
   rw [this]
   exact h1
 . exact .inr h1
theorem Ex.le [zj] {P:Program}{ks:List K}{F G:Fr}{Post:Fr->Prop}(h:LE F G)(hx:Ex P ks G Post):Ex P ks F Post :=
 hx.weak h.n fun _ σ _ _ hF hd=>⟨σ,(h.fr hF hd).1,(h.fr hF hd).2,qJ.refl _ _⟩
theorem LE.agree {F G H:Fr}(h:LE F G){X:List Nat}(ha:Qa F H X):Qa G H X :=
 ⟨fun t ht=>(ha.tm t ht).trans (h.tm t).symm,fun t ht id hid=>by rw [h.tm] at hid;exact (ha.tb t ht id hid).trans (h.tb id).symm⟩
theorem kA.le {P:Program}{all:Array Oper}{F G:Fr}{o:Oper}{it:It}(h:LE F G)(ha:kA P all G o it):kA P all F o it :=
 fun H hn hag hf=>ha H (hn.trans h.n.symm) (h.agree hag) hf
def SF.know (F:SF)(t:Nat)(b:Bool):SF:=F.put t (.v (false,[.fz (.bool true b)]))
theorem qrp {F:SF}{t:Nat}{b:Bool}(h:∃ kn,qa unB F.tm t=.v (false,[.fz (.bool kn b)])):LE F.er (F.know t b).er:=by
 obtain ⟨kn,h⟩:=h
 refine ⟨rfl,fun t'=>?_,fun _=>rfl,fun _=>rfl⟩
 show qa unT ((t,_)::F.er.tm) t'=_
 rw [@qu qP]
 split
 . rename_i e
   subst e
   rw [show qa unT F.er.tm t=(qa unB F.tm t).er B.erL from QJ _ _,h]
   rfl
 . rfl
end Go.Proofs.YtifnopmkdempdaaGreat.Ai
namespace Go.Proofs.YtifnopmkdempdaaGreat.Ai
open Go
variable [qg]
def ZD (ops:List Oper)(a:List Nat)(k i:Nat)(o:Oper):Bool:=match o.dst with
 | none=>false
 | some d=>(List.range k).all fun j=>match ops[j]? with
   | some o'=>(match o'.dst with
     | some d'=>(!(nq d d')||nq i j)&&(!((lkM ops o).contains d')||((a.getD i 0).testBit j&&nlt j i))
     | none=>false)
   | none=>false
def kJ (ed:Oper->List Nat):List Oper->List Nat->List Nat
 | [],acc=>acc
 | o::r,acc=>kJ ed r (acc++[(ed o).foldl (fun s e=>s ||| (1 <<< e) ||| acc.getD e 0) 0])
def qb5 (ops:List Oper)(k:Nat):Bool :=
 nle k ops.length&&(List.range ops.length).all fun i=>match ops[i]? with
  | some o=>(o.after.toList.all fun e=>wC e&&nlt e.on i)&&(match nlt i k with
    | true=>ZD ops (kJ Qw ops []) k i o
    | false=>nq ((kJ Qw ops []).getD i 0) (2 ^ i-1))
  | none=>false
def Y2 (md:Region.Mode)(ops:List Oper):Nat->List Nat->List Nat
 | 0,done=>done.reverse
 | n+1,done=>match (List.range ops.length).find? (fun i=>!(done.contains i)&&(match ops[i]? with | some o=>(Jm md o).all fun e=>done.contains e | none=>false)) with
   | some i=>Y2 md ops n (i::done)
   | none=>done.reverse
def Vn (ops:List Oper)(md:Region.Mode)(ord:List Nat):Bool:=(List.range ops.length).all fun i=>match ops[i]? with
 | some o=>(Jm md o).all fun e=>nlt e ops.length&&nlt (ord.idxOf e) (ord.idxOf i)
 | none=>false
def qay (ops:List Oper):Bool :=
 ((List.range ops.length).all fun i=>match ops[i]? with
   | some o=>((ze o).all fun e=>nlt e i)&&ZD ops (kJ ze ops []) ops.length i o
   | none=>false)&&(Vn ops .any (Y2 .any ops ops.length [])&&(Vn ops .text (Y2 .text ops ops.length [])&&Vn ops .gc (Y2 .gc ops ops.length [])))
def YH (ops:List Oper)(s:Nat)(ls:List Nat):Bool :=
 nlt s ops.length&&((ls.all fun l=>nlt l s)&&(((List.range ops.length).all fun i=>match ops[i]? with
  | some o=>((ze o).all fun e=>nlt e i)&&(match nlt i s with
    | true=>ZD ops (kJ ze ops []) s i o
    | false=>(List.range i).all fun j=>((kJ ze ops []).getD i 0).testBit j||ls.contains j)
  | none=>false)&&(Vn ops .any (Y2 .any ops ops.length [])&&(Vn ops .text (Y2 .text ops ops.length [])&&Vn ops .gc (Y2 .gc ops ops.length [])))))
def qa5 (a:List Nat)(i j:Nat):Prop:=(a.getD i 0).testBit j=true
theorem qnE (ed:Oper->List Nat):∀ (ops:List Oper) (acc:List Nat),∃ r,kJ ed ops acc=acc++r:=by
 intro ops
 induction ops with
 | nil=>intro acc;exact ⟨[],by simp [kJ]⟩
 | cons o ops ih =>
   intro acc
   obtain ⟨r,hr⟩:=ih (acc++[(ed o).foldl (fun s e=>s ||| (1 <<< e) ||| acc.getD e 0) 0])
   exact ⟨[(ed o).foldl (fun s e=>s ||| (1 <<< e) ||| acc.getD e 0) 0]++r,by simp only [kJ,hr,List.append_assoc]⟩
theorem qpH (acc:List Nat)(j:Nat):∀ (es:List Nat) (s:Nat),(es.foldl (fun s e=>s ||| (1 <<< e) ||| acc.getD e 0) s).testBit j=true->s.testBit j=true\/∃ e∈es,e=j\/(acc.getD e 0).testBit j=true:=by
 intro es
 induction es with
 | nil=>intro s h;exact .inl h
 | cons e es ih =>
   intro s h
   rcases ih _ h with h | ⟨e',he,h⟩
   . simp only [Nat.testBit_or,Bool.or_eq_true] at h
     rcases h with (h | h) | h
     . exact .inl h
     . right
       refine ⟨e,List.mem_cons_self,.inl ?_⟩
       rw [Nat.one_shiftLeft,Nat.testBit_two_pow] at h
       simpa using h
     . exact .inr ⟨e,List.mem_cons_self,.inr h⟩
   . exact .inr ⟨e',List.mem_cons_of_mem _ he,h⟩
theorem qaI (ed:Oper->List Nat):∀ (ops:List Oper) (acc:List Nat) (i j:Nat) (o:Oper),ops[i]?=some o->((kJ ed ops acc).getD (acc.length+i) 0).testBit j=true->∃ e∈ed o,e=j\/((kJ ed ops acc).getD e 0).testBit j=true:=by
 intro ops
 induction ops with
 | nil=>intro acc i j o h;simp at h
 | cons o0 ops ih =>
   intro acc i j o h ht
   cases i with
   | zero =>
     simp only [List.getElem?_cons_zero,Option.some.injEq] at h
     subst h
     obtain ⟨r,hr⟩:=qnE ed ops (acc++[(ed o0).foldl (fun s e=>s ||| (1 <<< e) ||| acc.getD e 0) 0])
     have e1:kJ ed (o0::ops) acc=acc++[(ed o0).foldl (fun s e=>s ||| (1 <<< e) ||| acc.getD e 0) 0]++r:=by simp only [kJ];exact hr
     rw [e1] at ht ⊢
     have h2:(acc++[(ed o0).foldl (fun s e=>s ||| (1 <<< e) ||| acc.getD e 0) 0]++r).getD (acc.length+0) 0=(ed o0).foldl (fun s e=>s ||| (1 <<< e) ||| acc.getD e 0) 0:=by simp [List.getD_eq_getElem?_getD]
     rw [h2] at ht
     rcases qpH acc j _ 0 ht with h | ⟨e,he,h⟩
     . simp at h
     . refine ⟨e,he,h.imp id fun h=>?_⟩
       have hlt:e<acc.length:=by
        rcases Nat.lt_or_ge e acc.length with hl | hl
        . exact hl
        . simp [List.getD_eq_getElem?_getD,List.getElem?_eq_none hl] at h
       rw [List.append_assoc]
       simp only [List.getD_eq_getElem?_getD,List.getElem?_append_left hlt] at h ⊢
       exact h
   | succ i =>
     simp only [List.getElem?_cons_succ] at h
     have:=ih (acc++[(ed o0).foldl (fun s e=>s ||| (1 <<< e) ||| acc.getD e 0) 0]) i j o h (by
      simp only [kJ] at ht
      rw [show acc.length+(i+1)=(acc++[(ed o0).foldl (fun s e=>s ||| (1 <<< e) ||| acc.getD e 0) 0]).length+i by simp;omega] at ht
      exact ht)
     simpa only [kJ] using this
theorem qce {ops:List Oper}{k:Nat}(h:qb5 ops k=true):k<=ops.length/\∀ (i:Nat) (o:Oper),ops[i]?=some o->(∀ e∈o.after.toList,wC e=true/\e.on<i) ∧
 (i<k->ZD ops (kJ Qw ops []) k i o=true)/\(k<=i->(kJ Qw ops []).getD i 0=2 ^ i-1):=by
 simp only [qb5,Bool.and_eq_true] at h
 refine ⟨qC h.1,fun i o ho=>?_⟩
 have hi:i<ops.length:=(List.getElem?_eq_some_iff.1 ho).1
 have h2:=List.all_eq_true.1 h.2 i (List.mem_range.2 hi)
 rw [ho] at h2
 simp only [Bool.and_eq_true] at h2
 obtain ⟨h3,h4⟩:=h2
 refine ⟨fun e he=>?_,fun hk=>?_,fun hk=>?_⟩
 . have:=List.all_eq_true.1 h3 e he
   simp only [Bool.and_eq_true] at this
   exact ⟨this.1,Nat.lt_of_succ_le (qC this.2)⟩
 . have hb:nlt i k=true:=WJ hk
   rw [hb] at h4
   exact h4
 . have hb:nlt i k=false:=by
    cases hc:nlt i k with
    | false=>rfl
    | true=>have:=Nat.lt_of_succ_le (qC hc);omega
   rw [hb] at h4
   exact Nat.eq_of_beq_eq_true h4
theorem qiz {ops:List Oper}{k:Nat}(h:qb5 ops k=true):qkV ops k (qa5 (kJ Qw ops [])):=by
 obtain ⟨h1,h2⟩:=qce h
 refine ⟨h1,fun i o ho=>(h2 i o ho).1,fun i j o ho ha=>?_,fun i j hk hi hj=>?_⟩
 . exact qaI Qw ops [] i j o ho (by simpa [qa5] using ha)
 . have:=(h2 i _ (List.getElem?_eq_getElem hi)).2.2 hk
   unfold qa5
   rw [this]
   simp [Nat.testBit_two_pow_sub_one,hj]
theorem qhG {ops:List Oper}(h:qay ops=true):qb9 ops (qa5 (kJ ze ops []))/\∀ (i:Nat) (o:Oper),ops[i]?=some o->ZD ops (kJ ze ops []) ops.length i o=true:=by
 simp only [qay,Bool.and_eq_true] at h
 obtain ⟨h1,h2,h3,h4⟩:=h
 have key:∀ (i:Nat) (o:Oper),ops[i]?=some o->(∀ e∈ze o,e<i)/\ZD ops (kJ ze ops []) ops.length i o=true:=by
  intro i o ho
  have:=List.all_eq_true.1 h1 i (List.mem_range.2 (List.getElem?_eq_some_iff.1 ho).1)
  rw [ho] at this
  simp only [Bool.and_eq_true] at this
  exact ⟨fun e he=>Nat.lt_of_succ_le (qC (List.all_eq_true.1 this.1 e he)),this.2⟩
 have top:∀ (md:Region.Mode) (ord:List Nat),Vn ops md ord=true->∃ rank:Nat->Nat,∀ (i:Nat) (o:Oper),ops[i]?=some o->∀ e∈Jm md o,e<ops.length/\rank e<rank i:=by
  intro md ord h
  refine ⟨fun i=>ord.idxOf i,fun i o ho e he=>?_⟩
  have:=List.all_eq_true.1 h i (List.mem_range.2 (List.getElem?_eq_some_iff.1 ho).1)
  rw [ho] at this
  have:=List.all_eq_true.1 this e he
  simp only [Bool.and_eq_true] at this
  exact ⟨Nat.lt_of_succ_le (qC this.1),Nat.lt_of_succ_le (qC this.2)⟩
 refine ⟨⟨fun i o ho=>(key i o ho).1,fun i j o ho ha=>qaI ze ops [] i j o ho (by simpa [qa5] using ha),fun md=>?_⟩,fun i o ho=>(key i o ho).2⟩
 cases md with
 | text=>exact top _ _ h3
 | gc=>exact top _ _ h4
 | any=>exact top _ _ h2
theorem qhg {ops:List Oper}{s:Nat}{ls:List Nat}(h:YH ops s ls=true):qbO ops s ls (qa5 (kJ ze ops []))/\∀ (i:Nat) (o:Oper),ops[i]?=some o->i<s->ZD ops (kJ ze ops []) s i o=true:=by
 simp only [YH,Bool.and_eq_true] at h
 obtain ⟨hs,hl,h1,h2,h3,h4⟩:=h
 have hs:=Nat.lt_of_succ_le (qC hs)
 have key:∀ (i:Nat) (o:Oper),ops[i]?=some o->(∀ e∈ze o,e<i)/\(i<s->ZD ops (kJ ze ops []) s i o=true)/\(s<=i->∀ j,j<i->j∉ls->qa5 (kJ ze ops []) i j):=by
  intro i o ho
  have:=List.all_eq_true.1 h1 i (List.mem_range.2 (List.getElem?_eq_some_iff.1 ho).1)
  rw [ho] at this
  simp only [Bool.and_eq_true] at this
  obtain ⟨k1,k2⟩:=this
  refine ⟨fun e he=>Nat.lt_of_succ_le (qC (List.all_eq_true.1 k1 e he)),fun hi=>?_,fun hi j hj hne=>?_⟩
  . have hb:nlt i s=true:=WJ hi
    rw [hb] at k2
    exact k2
  . have hb:nlt i s=false:=by
     cases hc:nlt i s with
     | false=>rfl
     | true=>have:=Nat.lt_of_succ_le (qC hc);omega
    rw [hb] at k2
    have:=List.all_eq_true.1 k2 j (List.mem_range.2 hj)
    simp only [Bool.or_eq_true,Bool.and_eq_true] at this
    rcases this with h | h6
    . exact h
    . exact absurd (List.contains_iff_mem.1 h6) hne
 have top:∀ (md:Region.Mode) (ord:List Nat),Vn ops md ord=true->∃ rank:Nat->Nat,∀ (i:Nat) (o:Oper),ops[i]?=some o->∀ e∈Jm md o,e<ops.length/\rank e<rank i:=by
  intro md ord h
  refine ⟨fun i=>ord.idxOf i,fun i o ho e he=>?_⟩
  have:=List.all_eq_true.1 h i (List.mem_range.2 (List.getElem?_eq_some_iff.1 ho).1)
  rw [ho] at this
  have:=List.all_eq_true.1 this e he
  simp only [Bool.and_eq_true] at this
  exact ⟨Nat.lt_of_succ_le (qC this.1),Nat.lt_of_succ_le (qC this.2)⟩
 refine ⟨⟨⟨fun i o ho=>(key i o ho).1,fun i j o ho ha=>qaI ze ops [] i j o ho (by simpa [qa5] using ha),fun md=>?_⟩,hs,fun l hm=>Nat.lt_of_succ_le (qC (List.all_eq_true.1 hl l hm)),fun i j hi hil hj hne=>(key i _ (List.getElem?_eq_getElem hil)).2.2 hi j hj hne⟩,fun i o ho=>(key i o ho).2.1⟩
 cases md with
 | text=>exact top _ _ h3
 | gc=>exact top _ _ h4
 | any=>exact top _ _ h2
def V9 (M:MB):List Prop->Prop->Prop
 | [],K=>K
 | p::r,K=>M.pAnd p (V9 M r K)
theorem ji:∀ (ps:List Prop) (K:Prop),V9 qn ps K->Holds ps/\K
 | [],K,h=>⟨(fun p hp=>by cases hp),h⟩
 | p::r,K,h=>by
   obtain ⟨h1,h2⟩:p/\V9 qn r K:=h
   obtain ⟨h3,h4⟩:=ji r K h2
   exact ⟨fun q hq=>(List.mem_cons.1 hq).elim (fun e=>e▸h1) (h3 q),h4⟩
def qsJ (all:List Oper)(g:Nat):Option Nat:=match K5 all g with
 | some ⟨some t,_,_,_,_,_⟩=>(match nlt t PH with | true=>some t | false=>none)
 | _=>none
def qjf (M:MB)(F:SF)(t:Nat)(b:Bool)(K1 K2:SF->Prop):Prop :=
 M.pAnd (M.pImp b (K1 (F.know t true))) (M.pImp (M.bNot b) (K2 (F.know t false)))
def JJ (M:MB)(all:List Oper)(F:SF)(o:Oper)(doK skipK:SF->Prop):Prop :=
 match o.guard with
 | none=>doK F
 | some (g,want)=>(match qsJ all g with
   | some t=>(match qa unB F.tm t with
     | .v (false,[.fz (.bool kn b)])=>(match kn with
       | true=>(match b with
         | true=>(match want with | true=>doK F | false=>skipK F)
         | false=>(match want with | true=>skipK F | false=>doK F))
       | false=>(match want with
         | true=>qjf M F t b doK skipK
         | false=>qjf M F t b skipK doK))
     | .v (false,[.ud])=>skipK F
     | _=>M.pNo 1)
   | none=>M.pNo 2)
def vN (M:MB)(F:SF)(o:Oper)(K:SF->Prop):Prop :=
 match o.op with
 | .pick (.tmp t) _ _=>(match qa unB F.tm t with
   | .v (false,[.fz (.bool kn b)])=>(match kn with
     | true=>K F
     | false=>qjf M F t b K K)
   | _=>K F)
 | _=>K F
theorem KS {F:SF}{t:Nat}{b kn:Bool}{K1 K2:SF->Prop}(hl:qa unB F.tm t=.v (false,[.fz (.bool kn b)]))(h:qjf qn F t b K1 K2) :
 LE F.er (F.know t b).er/\qa unB (F.know t b).tm t=.v (false,[.fz (.bool true b)])/\((b=true/\K1 (F.know t b))\/(b=false/\K2 (F.know t b))):=by
 refine ⟨qrp ⟨kn,hl⟩,by simp [SF.know,SF.put,qa],?_⟩
 obtain ⟨h1,h2⟩:(b=true->K1 (F.know t true))/\((!b)=true->K2 (F.know t false)):=h
 cases b with
 | true=>exact .inl ⟨rfl,h1 rfl⟩
 | false=>exact .inr ⟨rfl,h2 rfl⟩
theorem qbV {F:SF}{all:List Oper}{g t:Nat}(h:qsJ all g=some t):ZH F.er ⟨all⟩ g=(qlz (qa unB F.tm t)).er:=by
 unfold qsJ at h
 unfold ZH
 dsimp only
 split at h
 . rename_i t' _ _ _ _ _ hn
   split at h
   . rename_i hph
     simp only [Option.some.injEq] at h
     subst h
     rw [hn]
     dsimp only
     rw [hph]
     dsimp only
     rw [qcY,<-show qa unT F.er.tm t'=(qa unB F.tm t').er B.erL from QJ _ _]
   . cases h
 . cases h
theorem KJ {F:SF}{all:List Oper}{o:Oper}{doK skipK:SF->Prop}(h:JJ qn all F o doK skipK) :
 ∃ F':SF,LE F.er F'.er/\((ko F'.er ⟨all⟩ o true/\doK F')\/(ko F'.er ⟨all⟩ o false/\skipK F')):=by
 unfold JJ at h
 split at h
 . rename_i hg
   exact ⟨F,LE.refl _,.inl ⟨by unfold ko;rw [hg],h⟩⟩
 . rename_i g want hg
   split at h
   . rename_i t ht
     have key:∀ (F':SF) (b kn:Bool),qa unB F'.tm t=.v (false,[.fz (.bool kn b)])->ko F'.er ⟨all⟩ o (b == want):=by
      intro F' b kn hl
      unfold ko
      rw [hg]
      refine .inl ?_
      rw [qbV ht,hl]
      cases b<;>cases want<;>rfl
     split at h
     . rename_i kn b hl
       split at h
       . split at h
         . split at h
           . exact ⟨F,LE.refl _,.inl ⟨key F _ _ hl,h⟩⟩
           . exact ⟨F,LE.refl _,.inr ⟨key F _ _ hl,h⟩⟩
         . split at h
           . exact ⟨F,LE.refl _,.inr ⟨key F _ _ hl,h⟩⟩
           . exact ⟨F,LE.refl _,.inl ⟨key F _ _ hl,h⟩⟩
       . split at h
         . obtain ⟨h1,h2,h3⟩:=KS hl h
           refine ⟨_,h1,?_⟩
           have:=key _ _ _ h2
           rcases h3 with ⟨rfl,h3⟩ | ⟨rfl,h3⟩
           . exact .inl ⟨this,h3⟩
           . exact .inr ⟨this,h3⟩
         . obtain ⟨h1,h2,h3⟩:=KS hl h
           refine ⟨_,h1,?_⟩
           have:=key _ _ _ h2
           rcases h3 with ⟨rfl,h3⟩ | ⟨rfl,h3⟩
           . exact .inr ⟨this,h3⟩
           . exact .inl ⟨this,h3⟩
     . rename_i hl
       refine ⟨F,LE.refl _,.inr ⟨?_,h⟩⟩
       unfold ko
       rw [hg]
       refine .inr ⟨rfl,?_⟩
       rw [qbV ht,hl]
       rfl
     . exact h.elim
   . exact h.elim
theorem KX {F:SF}{o:Oper}{K:SF->Prop}(h:vN qn F o K):∃ F':SF,LE F.er F'.er/\K F':=by
 unfold vN at h
 split at h
 . split at h
   . rename_i kn b hl
     split at h
     . exact ⟨F,LE.refl _,h⟩
     . obtain ⟨h1,_,h3⟩:=KS hl h
       exact ⟨_,h1,h3.elim (fun x=>x.2) (fun x=>x.2)⟩
   . exact ⟨F,LE.refl _,h⟩
 . exact ⟨F,LE.refl _,h⟩
theorem ko.le {F G:Fr}{all:Array Oper}{o:Oper}{b:Bool}(h:LE F G)(hw:ko F all o b):ko G all o b:=by
 refine Jp hw ⟨fun t _=>h.tm t,fun t _ id _=>h.tb id⟩
abbrev ItB:=Nat×List (Nat×W)×TV B
def ye (it:ItB):It:=(it.1,zF it.2.1,it.2.2.er B.erL)
def SF.apB (F:SF)(it:ItB):SF:=(F.addsB it.2.1).put it.1 it.2.2
theorem qn2 (F:SF)(it:ItB):(F.apB it).er=F.er.ap (ye it):=by unfold SF.apB Fr.ap;rw [SF.put_er,Y0];rfl
def qs2:TV B->Bool
 | .v (false,[.fz .nilsl])=>false
 | .v (false,[.fz _])=>true
 | _=>false
theorem qqH {x:TV B}(h:qs2 x=true):qsH (x.er B.erL)=true:=by
 unfold qs2 at h
 split at h
 . cases h
 . rename_i d hd
   cases d<;>first | rfl | exact (hd rfl).elim
 . cases h
def qqv (M:MB)(X:SX)(ora:Qz)(F:SF)(o:Oper):R ItB :=
 match o.dst with
 | none=>none
 | some d=>(match zQ F.n d with
   | true=>(match o.op with
     | .call ⟨.value f,⟨args⟩,_⟩=>(yh M F f).bd fun g=>(qe1 M F args).bd fun as=>(ora g.1 (Qs as (Qo g.2))).bd fun r=>(match vn r with
       | true=>(match w8 F (f::args) with
         | true=>R.ok (d,JW d r,Y9 M d r)
         | false=>(match vT r with
           | true=>R.ok (d,JW d r,Y9 M d r)
           | false=>none))
       | false=>none)
     | .alloc e=>(match X.T e with
       | some ty=>(match zWL ty.zero with
         | some zs=>R.ok (d,[(rid d 0 0,.obx zs)],ppB (rid d 0 0))
         | none=>none)
       | none=>none)
     | .assign x=>(match qs2 (evB F x) with
       | true=>R.ok (d,[],evB F x)
       | false=>none)
     | op=>(qqW M X.T F op).bd fun v=>R.ok (d,[],v))
   | false=>none)
theorem qsf {M:Ops}{T:Nat->Option Ty}{kn:Bool}{ora:Ora}{F:Fr}{o:Oper}{d:Nat}(hd:o.dst=some d)(hlt:zQ F.n d=true)(h1:∀ f args ts,o.op=.call ⟨.value f,⟨args⟩,ts⟩->False)(h2:∀ e,o.op=.alloc e->False)(h3:∀ e,o.op=.assign e->False) :
 WM M T kn ora F o=(match qop M T F o.op with | some (.val x)=>some (d,[],x) | _=>none):=by
 unfold WM
 rw [hd]
 dsimp only
 rw [hlt]
 dsimp only
 split
 . rename_i he;exact (h1 _ _ _ he).elim
 . rename_i he;exact (h2 _ he).elim
 . rename_i he;exact (h3 _ he).elim
 . rfl
theorem qpl {P:Program}(X:SX){ora:Qz}(hO:qp P ora)(F:SF)(o:Oper):(qqv qn X ora F o).Sim fun it=>o.dst=some it.1/\∃ ora':Ora,(∀ g as r,ora' g as=some r->zt P g as r)/\WM std X.T false ora' F.er o=some (ye it):=by
 unfold qqv
 split
 . exact R.Sim.none'
 . rename_i d hd
   split
   . rename_i hlt
     have hlt:zQ F.er.n d=true:=hlt
     split
     . rename_i f args ts hop
       refine R.Sim.bd (VQ F f) fun g hg=>R.Sim.bd (Wy F args) fun as has=>R.Sim.bd (hO g.1 _) fun r hr=>?_
       split
       . rename_i hf
         have h1:qa2 g.1 (qx D.erL (Qs as (Qo g.2))) (r.er W.erL) g.1 (qx D.erL as++Zo (D.erL g.2))=some (r.er W.erL):=by
          unfold qa2
          rw [if_pos ⟨rfl,by rw [jL,Kn,qfE]⟩]
         have key:(w8 F (f::args)=true\/vT r=true)->∃ ora':Ora,(∀ g as r,ora' g as=some r->zt P g as r)/\WM std X.T false ora' F.er o=some (ye (d,JW d r,Y9 qn d r)):=by
          intro hc
          refine ⟨qa2 g.1 (qx D.erL (Qs as (Qo g.2))) (r.er W.erL),?_,?_⟩
          . intro g' as' r' h'
            unfold qa2 at h'
            split at h'
            . rename_i hh
              simp only [Option.some.injEq] at h'
              subst h'
              rw [hh.1,hh.2]
              exact hr
            . cases h'
          . unfold WM qoD
            simp only [hd,hlt,hop,hg,has,h1,qf6 hf,Ya]
            rcases hc with hc | hc
            . simp only [hc,ye,KC,vb]
            . cases hl:w8 F (f::args) with
              | true=>simp only [ye,KC,vb]
              | false=>simp only [qaf hc,ye,KC,vb]
         split
         . rename_i hl;exact R.Sim.ok ⟨hd,key (.inl hl)⟩
         . split
           . rename_i hc;exact R.Sim.ok ⟨hd,key (.inr hc)⟩
           . exact R.Sim.none'
       . exact R.Sim.none'
     . rename_i e hop
       split
       . rename_i ty ht
         split
         . rename_i zs hz
           obtain ⟨h1,h2⟩:=qdr _ hz
           refine R.Sim.ok ⟨hd,fun _ _=>none,(fun _ _ _ h=>by cases h),?_⟩
           unfold WM
           simp only [hd,hlt,hop,ht,h2,ye,zF,W.er,<-h1]
           rfl
         . exact R.Sim.none'
       . exact R.Sim.none'
     . rename_i x hop
       split
       . rename_i hs
         refine R.Sim.ok ⟨hd,fun _ _=>none,(fun _ _ _ h=>by cases h),?_⟩
         have hs:=qqH hs
         rw [je] at hs
         unfold WM
         simp only [hd,hlt,hop,hs,ye,zF,je]
       . exact R.Sim.none'
     . rename_i h1 h2 h3
       refine R.Sim.bd (qea X.T F o.op) fun v hv=>R.Sim.ok ⟨hd,fun _ _=>none,(fun _ _ _ h=>by cases h),?_⟩
       rw [qsf hd hlt h1 h2 h3,hv]
       rfl
   . exact R.Sim.none'
def qtK (X:SX)(d t len:Nat):R ItB :=
 match X.T t with
 | some ⟨.sl e,_,_,_,_⟩=>(match X.T e with
   | some ty=>(match nq 0 len&&nle len 4096&&nlt 0 ty.size&&nle ty.size 4096 with
     | true=>R.ok (d,[(rid d 0 0,.onil)],rfB (rid d 0 0) len)
     | false=>none)
   | none=>none)
 | _=>none
def qhu (M:MB)(F:SF):B->R Bool
 | .fz .nilsl=>R.ok true
 | .rf (r,[]) _ off len=>(F.atR M (r,[])).bd fun o=>(match o with
   | .onil=>some ([M.pEqN off 0,M.pEqN len 0],true)
   | _=>none)
 | _=>none
def qic:B->Option (Option LL)
 | .fz .nilsl=>some none
 | .fz (.sl zs)=>some (some zs.thaw)
 | _=>none
def qtq (M:MB)(X:SX)(F:SF)(d:Nat)(x y:Operand)(t t':Nat):R ItB :=
 match nq t t',X.T t with
 | true,some ⟨.sl e,_,_,_,_⟩=>(match X.T e with
   | some ty=>(qhu M F (z6 F x)).bd fun _=>(match qic (z6 F y) with
     | some z=>(match nle ty.bytes 4096&&nlt 0 ty.size&&nq (cnt ty.zero) ty.size&&qpW ty.size z with
       | true=>some ([M.pLeLim (Yg M z)],(d,[(rid d 0 0,qsB z)],rfB (rid d 0 0) (Yg M z)))
       | false=>none)
     | none=>none)
   | none=>none)
 | _,_=>none
def qtd (X:SX)(d t len i:Nat)(x:Operand):R ItB :=
 match X.T t with
 | some ⟨.sl e,_,_,_,_⟩=>(match X.T e,x with
   | some ty,.const (.int .i64 n)=>(match nq 1 len&&nle len 4096&&nlt 0 ty.size&&nle ty.size 4096&&(nq i 0&&nq 1 ty.size) with
     | true=>R.ok (d,[(rid d 0 0,.osl (.i [n]))],rfB (rid d 0 0) len)
     | false=>none)
   | _,_=>none)
 | _=>none
def qtr (M:MB)(X:SX)(d t:Nat)(l c:Operand):R ItB :=
 match X.T t with
 | some ⟨.sl e,_,_,_,_⟩=>(match X.T e,l,c with
   | some ty,.const (.int _ n),.const (.int _ m)=>(match nle ty.bytes 4096&&nlt 0 ty.size&&nq (cnt ty.zero) ty.size with
     | true=>(match ty.zero with
       | [.int .i64 0]=>some ([M.pEqI n m,M.pRep n],(d,[(rid d 0 0,.osl (.i (M.rep (M.toN n) 0)))],rfB (rid d 0 0) (M.len (M.rep (M.toN n) (0:Int)))))
       | _=>none)
     | false=>none)
   | _,_,_=>none)
 | _=>none
def isK:Op->Bool
 | .buildSlice _ _ ⟨[]⟩=>true
 | .buildSlice _ _ ⟨[(_,.const _)]⟩=>true
 | .makeSlice _ (.const _) (.const _)=>true
 | .call ⟨.builtin .append,⟨[_,_]⟩,⟨[_,_]⟩⟩=>true
 | _=>false
def qnc (M:MB)(X:SX)(F:SF)(o:Oper):R ItB :=
 match o.dst with
 | none=>none
 | some d=>(match zQ F.n d with
   | true=>(match o.op with
     | .buildSlice t len ⟨[]⟩=>qtK X d t len
     | .buildSlice t len ⟨[(i,x)]⟩=>qtd X d t len i x
     | .makeSlice t l c=>qtr M X d t l c
     | .call ⟨.builtin .append,⟨[x,y]⟩,⟨[t,t']⟩⟩=>qtq M X F d x y t t'
     | _=>none)
   | false=>none)
def qq1 (F:SF)(o:Oper):Option ItB:=match o.op with
 | .nilCheck x=>(match o.dst with
   | some d=>(match zQ F.n d with
     | true=>(match z6 F x with
       | .fz (.ptr cs)=>some (d,[],.v (false,[.fz (.ptr cs)]))
       | _=>none)
     | false=>none)
   | none=>none)
 | _=>none
def qod (M:MB)(X:SX)(ora:Qz)(F:SF)(o:Oper):R ItB:=match isK o.op with
 | true=>qnc M X F o
 | false=>(match qq1 F o with
   | some it=>R.ok it
   | none=>qqv M X ora F o)
theorem qiq (F:SF)(x:B):(qhu qn F x).Sim fun _=>Vv std F.er x.er=true:=by
 unfold qhu
 split
 . exact R.Sim.ok rfl
 . rename_i r w off len
   refine R.Sim.bd (F.atR_sim _) fun o ho=>?_
   split
   . refine R.Sim.mk fun hp=>?_
     obtain ⟨h1,h2⟩:=hp.two
     have h1:off=0:=h1
     have h2:len=0:=h2
     subst h1 h2
     have ho':F.er.at std (r,[])=.osl []:=ho
     show (match F.er.at std (r,[]) with | .osl []=>std.nEq 0 0&&std.nEq 0 0 | _=>false)=true
     rw [ho']
     rfl
   . exact R.Sim.none'
 . exact R.Sim.none'
theorem qlr {x:B}{z:Option LL}(h:qic x=some z):qbw std x.er=some (oro z):=by
 unfold qic at h
 split at h
 . injection h with h;subst h;rfl
 . rename_i zs
   injection h with h
   subst h
   simp only [B.er,D.er,qbw,oro,LL.thaw_ro]
   rfl
 . cases h
theorem qlE (X:SX)(F:SF)(o:Oper):(qnc qn X F o).Sim fun it=>o.dst=some it.1/\qaC std X.T F.er o=some (ye it):=by
 unfold qnc
 split
 . exact R.Sim.none'
 . rename_i d hd
   split
   . rename_i hlt
     have hlt:zQ F.er.n d=true:=hlt
     split
     . rename_i t len hop
       unfold qtK
       split
       . rename_i e g1 g2 g3 g4 ht
         split
         . rename_i ty hte
           split
           . rename_i hok
             refine R.Sim.ok ⟨hd,?_⟩
             unfold qaC bsK
             simp only [hd,hlt,hop,ht,hte,hok]
             rfl
           . exact R.Sim.none'
         . exact R.Sim.none'
       . exact R.Sim.none'
     . rename_i t len i x hop
       unfold qtd
       split
       . rename_i e g1 g2 g3 g4 ht
         split
         . rename_i ty n hte
           split
           . rename_i hok
             refine R.Sim.ok ⟨hd,?_⟩
             unfold qaC bsC
             simp only [hd,hlt,hop,ht,hte,hok]
             rfl
           . exact R.Sim.none'
         . exact R.Sim.none'
       . exact R.Sim.none'
     . rename_i t l c hop
       unfold qtr
       split
       . rename_i e g1 g2 g3 g4 ht
         split
         . rename_i ty k1 n k2 m hte
           split
           . rename_i hc
             split
             . rename_i hz
               refine R.Sim.mk fun hp=>⟨hd,?_⟩
               obtain ⟨h3,h4,h5⟩:=hp.two
               have h3:n=m:=h3
               subst h3
               have hr:std.oRep n (kd false ty.zero)=some (roI (List.replicate n.toNat 0)):=by
                show (if 0<=n/\n<=(lim:Int) then some (List.replicate n.toNat (kd false ty.zero)) else none)=_
                rw [if_pos ⟨h4,h5⟩,hz]
                simp [kd,roI]
               have hb:std.bEq n n=true:=by show (n == n)=true;simp
               have hlen:std.oLen (roI (List.replicate n.toNat 0))=(List.replicate n.toNat (0:Int)).length:=by show (roI _).length=_;simp [roI]
               have hnu:Z2 ty.zero=true:=by rw [hz];rfl
               unfold qaC mkC
               simp only [hd,hlt,hop,ht,hte,hb,hc,hnu,hr,hlen,Bool.and_self,Bool.true_and,Bool.and_true]
               rfl
             . exact R.Sim.none'
           . exact R.Sim.none'
         . exact R.Sim.none'
       . exact R.Sim.none'
     . rename_i x y t t' hop
       unfold qtq
       split
       . rename_i e g1 g2 g3 g4 htt ht
         split
         . rename_i ty hte
           refine R.Sim.bd (qiq F _) fun _ hb=>?_
           split
           . rename_i z hz
             split
             . rename_i hok
               refine R.Sim.mk fun hp=>⟨hd,?_⟩
               have h6:std.nLe (std.oLen (oro z)) lim=true:=by
                have:Yg qn z<=lim:=hp.one
                show decide ((oro z).length<=lim)=true
                rw [vX]
                simpa using this
               have hz:=qlr hz
               rw [qK] at hb hz
               simp only [Bool.and_eq_true] at hok
               obtain ⟨⟨⟨h1,h2⟩,h3⟩,h4⟩:=hok
               unfold qaC apK
               simp only [hd,hlt,hop,htt,ht,hte,hb,hz,h6,h1,h2,h3,qdd h4,Bool.and_self]
               have h8:std.oLen (oro z)=Yg qn z:=vX z
               rw [h8]
               simp only [ye,zF,qjv]
               rfl
             . exact R.Sim.none'
           . exact R.Sim.none'
         . exact R.Sim.none'
       . exact R.Sim.none'
     . exact R.Sim.none'
   . exact R.Sim.none'
theorem qpK {P:Program}{X:SX}(hT:kH P X.T){ora:Qz}(hO:qp P ora){all:Array Oper}(F:SF)(o:Oper)(hw:ko F.er all o true):(qod qn X ora F o).Sim fun it=>o.dst=some it.1/\kA P all F.er o (ye it):=by
 unfold qod
 split
 . exact (qlE X F o).mono fun it h=>⟨h.1,kA.of_aopK hT hw h.2⟩
 . split
   . rename_i it hn
     unfold qq1 at hn
     split at hn
     . rename_i x hop
       split at hn
       . rename_i d hd
         split at hn
         . rename_i hlt
           have hlt:zQ F.er.n d=true:=hlt
           split at hn
           . rename_i cs hx
             injection hn with hn
             subst hn
             exact R.Sim.ok ⟨hd,kA.of_nil hw hd hlt hop (by rw [<-qK,hx];rfl)⟩
           . cases hn
         . cases hn
       . cases hn
     . cases hn
   exact (qpl X hO F o).mono fun it h=>by
    obtain ⟨h1,ora',hO',hag⟩:=h
    exact ⟨h1,kA.of_aop hT hO' hw hag⟩
def qhe:List Nat->Nat->Bool
 | [],_=>false
 | a::r,n=>match nq a n with | true=>true | false=>qhe r n
theorem yT {l:List Nat}{n:Nat}:qhe l n=true↔n∈l:=by
 induction l with
 | nil=>simp [qhe]
 | cons a r ih =>
   simp only [qhe,List.mem_cons]
   cases h:nq a n with
   | true=>obtain rfl:=Nat.eq_of_beq_eq_true h;simp
   | false =>
     have:¬n=a:=fun e=>by subst e;simp at h
     simp [ih,this]
def Vb (all:List Oper)(DS:List Nat)(t:Nat):List Nat->Bool
 | []=>true
 | id::r=>match nq (Nat.div id 4096) t with
   | true=>Vb all DS t r
   | false=>(match qhe DS (Nat.div id 4096) with
     | true=>(match qhe (mvL all t) (Nat.div id 4096) with | true=>Vb all DS t r | false=>false)
     | false=>Vb all DS t r)
def qeK (all:List Oper)(F:SF)(DS:List Nat):List Nat->Bool
 | []=>true
 | t::r=>match Vb all DS t (qoW (qa unB F.tm t)) with | true=>qeK all F DS r | false=>false
def qi9 (F0:SF)(d:Nat):List (Nat×W)->Bool
 | []=>true
 | (id,_)::r=>match has F0.tb id with
   | true=>false
   | false=>(match nq (Nat.div id 4096) d with | true=>qi9 F0 d r | false=>false)
theorem qir {all:List Oper}{DS:List Nat}{t:Nat}{l:List Nat}(h:Vb all DS t l=true):∀ id∈l,id / 4096=t\/id / 4096∉DS\/id / 4096∈mvL all t:=by
 induction l with
 | nil=>intro id hid;cases hid
 | cons a r ih =>
   simp only [Vb] at h
   intro id hid
   split at h
   . rename_i he
     rcases List.mem_cons.1 hid with rfl | hid
     . exact .inl (Nat.eq_of_beq_eq_true he)
     . exact ih h id hid
   . split at h
     . split at h
       . rename_i hm
         rcases List.mem_cons.1 hid with rfl | hid
         . exact .inr (.inr (yT.1 hm))
         . exact ih h id hid
       . cases h
     . rename_i hm
       rcases List.mem_cons.1 hid with rfl | hid
       . exact .inr (.inl (fun hh=>by have:=yT.2 hh;rw [show id / 4096=Nat.div id 4096 from rfl,hm] at this;cases this))
       . exact ih h id hid
theorem qbH {all:List Oper}{F:SF}{DS:List Nat}{l:List Nat}(h:qeK all F DS l=true):∀ t∈l,∀ id∈(qa unT F.er.tm t).ids,id / 4096=t\/id / 4096∉DS\/id / 4096∈mvL all t:=by
 induction l with
 | nil=>intro t ht;cases ht
 | cons a r ih =>
   simp only [qeK] at h
   split at h
   . rename_i hc
     intro t ht
     rcases List.mem_cons.1 ht with rfl | ht
     . rw [show qa unT F.er.tm t=(qa unB F.tm t).er B.erL from QJ _ _,qfT]
       exact qir hc
     . exact ih h t ht
   . cases h
theorem qmF {F0:SF}{d:Nat}{l:List (Nat×W)}(h:qi9 F0 d l=true):qd4 F0.er (zF l)/\∀ id o,(id,o)∈zF l->id / 4096=d:=by
 induction l with
 | nil=>exact ⟨(fun id o hm=>by cases hm),(fun id o hm=>by cases hm)⟩
 | cons a r ih =>
   obtain ⟨i,w⟩:=a
   simp only [qi9] at h
   split at h
   . cases h
   . rename_i hh
     split at h
     . rename_i he
       obtain ⟨h1,h2⟩:=ih h
       refine ⟨fun id o hm=>?_,fun id o hm=>?_⟩
       . rcases List.mem_cons.1 hm with e | hm
         . injection e with e _;subst e;rw [show F0.er.tb=zF F0.tb from rfl,qh7];exact hh
         . exact h1 id o hm
       . rcases List.mem_cons.1 hm with e | hm
         . injection e with e _;subst e;exact Nat.eq_of_beq_eq_true he
         . exact h2 id o hm
     . cases h
def wpD (M:MB)(X:SX)(ora:Qz)(all:List Oper)(F0:SF)(DS:List Nat):List Oper->SF->(SF->Prop)->Prop
 | [],F,K=>K F
 | o::l,F,K=>JJ M all F o
   (fun F1=>vN M F1 o fun F2=>(match qod M X ora F2 o with
     | some (ps,it)=>(match qeK all F2 DS (Qs (opL o.op) (gdT ⟨all⟩ o)) with
       | true=>(match qi9 F0 it.1 it.2.1 with
         | true=>V9 M ps (wpD M X ora all F0 DS l (F2.apB it) K)
         | false=>M.pNo 3)
       | false=>M.pNo 4)
     | none=>M.pNo 5))
   (fun F1=>(match o.dst with
     | some d=>(match nlt d PH with
       | true=>(match qeK all F1 DS (Qs (opL o.op) (gdT ⟨all⟩ o)) with
         | true=>wpD M X ora all F0 DS l (F1.apB (d,[],.v (false,[.ud]))) K
         | false=>M.pNo 6)
       | false=>M.pNo 8)
     | none=>M.pNo 7))
def qhZ:Op->Bool
 | .extract _ _=>true
 | .move _=>true
 | .load _ _=>true
 | .fieldAddr _ _ _=>true
 | _=>false
theorem qrj {M:MB}{X:SX}{ora:Qz}{F:SF}{o:Oper}{ps:List Prop}{it:ItB}(h:qod M X ora F o=some (ps,it))(hn:qhZ o.op=true):it.2.1=[]:=by
 unfold qod at h
 cases ho:o.op<;>rw [ho] at hn h<;>first | cases hn | skip
 all_goals (
  simp only [isK] at h
  have hnx:qq1 F o=none:=by unfold qq1;rw [ho]
  rw [hnx] at h
  dsimp only at h
  unfold qqv at h
  rw [ho] at h
  split at h
  . cases h
  . split at h
    . dsimp only at h
      unfold R.bd at h
      split at h
      . cases h
      . split at h
        . cases h
        . rename_i hb
          unfold R.ok at hb
          simp only [Option.some.injEq,Prod.mk.injEq] at hb h
          obtain ⟨_,hb⟩:=hb
          obtain ⟨_,h⟩:=h
          rw [<-h,<-hb]
    . cases h)
def frs (F:Fr)(its:List It)(i:Nat):Fr:=(its.take i).foldl Fr.ap F
theorem LE.ap {F G:Fr}(h:LE F G)(it:It):LE (F.ap it) (G.ap it):=by
 have htb:∀ H:Fr,(H.ap it).tb=it.2.1.reverse++H.tb:=fun H=>qjb _ _
 have htm:∀ H:Fr,(H.ap it).tm=(it.1,it.2.2)::H.tm:=by intro H;show (it.1,it.2.2)::(H.adds it.2.1).tm=_;rw [(@JV qP it.2.1 H).1]
 refine ⟨?_,fun t=>?_,fun id=>?_,fun id=>?_⟩
 . show (G.adds it.2.1).n=(F.adds it.2.1).n;rw [(@JV qP it.2.1 G).2,(@JV qP it.2.1 F).2,h.n]
 . rw [htm,htm,@qu qP,@qu qP,h.tm]
 . rw [htb,htb,@kT qP,@kT qP,h.tb]
 . rw [htb,htb,@Zf qP,@Zf qP,h.has]
structure qei (P:Program)(all:List Oper)(F0:SF)(DS:List Nat)(F:Fr)(o:Oper)(x:It):Prop where
 item:kA P ⟨all⟩ F o x
 dst:o.dst=some x.1
 fr:qd4 F0.er x.2.1
 blk:∀ id o',(id,o')∈x.2.1->id / 4096=x.1
 ids:∀ t∈lkT ⟨all⟩ o,∀ id∈(qa unT F.tm t).ids,id / 4096∈lkM all o\/id / 4096∉DS
 nr:qhZ o.op=true->x.2.1=[]
theorem qpe {all:List Oper}{o:Oper}{t n:Nat}{Q:Prop}(ht:t∈lkT ⟨all⟩ o)(h:n=t\/Q\/n∈mvL all t):n∈lkM all o\/Q:=by
 rcases h with rfl | h | h
 . exact .inl (List.mem_append_left _ ht)
 . exact .inr h
 . exact .inl (List.mem_append_right _ (List.mem_flatMap.2 ⟨t,ht,h⟩))
theorem Vj {P:Program}{X:SX}(hT:kH P X.T){ora:Qz}(hO:qp P ora){all:List Oper}{F0:SF}{DS:List Nat}{K:SF->Prop}:∀ (l:List Oper) (F:SF) (Fc:Fr),LE Fc F.er->wpD qn X ora all F0 DS l F K →
 ∃ (its:List It) (G:SF),its.length=l.length/\K G/\LE (frs Fc its l.length) G.er/\∀ (i:Nat) (o:Oper) (x:It),l[i]?=some o->its[i]?=some x->qei P all F0 DS (frs Fc its i) o x:=by
 intro l
 induction l with
 | nil=>intro F Fc hl h;exact ⟨[],F,rfl,h,hl,fun i o x ho=>by simp at ho⟩
 | cons o l ih =>
   intro F Fc hl h
   simp only [wpD] at h
   obtain ⟨F1,h1,h2⟩:=KJ h
   have go:∀ (F2:SF) (it:It) (F3:SF),LE Fc F2.er->F3.er=F2.er.ap it->wpD qn X ora all F0 DS l F3 K->qei P all F0 DS Fc o it →
    ∃ (its:List It) (G:SF),its.length=(o::l).length/\K G/\LE (frs Fc its (o::l).length) G.er/\∀ (i:Nat) (o':Oper) (x:It),(o::l)[i]?=some o'->its[i]?=some x->qei P all F0 DS (frs Fc its i) o' x:=by
    intro F2 it F3 hle he hw hit
    obtain ⟨its,G,k1,k2,k3,k4⟩:=ih F3 (Fc.ap it) (by rw [he];exact hle.ap it) hw
    refine ⟨it::its,G,by simp [k1],k2,k3,fun i o' x ho hx=>?_⟩
    cases i with
    | zero =>
      simp only [List.getElem?_cons_zero,Option.some.injEq] at ho hx
      subst ho hx
      exact hit
    | succ i=>exact k4 i o' x (by simpa using ho) (by simpa using hx)
   have hlk:∀ t∈lkT ⟨all⟩ o,t∈Qs (opL o.op) (gdT ⟨all⟩ o):=by intro t ht;rw [jL];exact ht
   rcases h2 with ⟨hw,h2⟩ | ⟨hw,h2⟩
   . obtain ⟨F2,h3,h4⟩:=KX h2
     split at h4
     . rename_i ps it hit
       split at h4
       . rename_i hc1
         split at h4
         . rename_i hc2
           obtain ⟨hps,h5⟩:=ji ps _ h4
           obtain ⟨hdst,hag⟩:=qpK hT hO F2 o (hw.le h3) ps it hit hps
           have hle:LE Fc F2.er:=(hl.trans h1).trans h3
           obtain ⟨hf1,hf2⟩:=qmF hc2
           refine go F2 (ye it) _ hle (qn2 F2 it) h5 ⟨?_,hdst,hf1,hf2,?_,fun hnr=>?_⟩
           . exact kA.le hle hag
           . intro t ht id hid
             rw [<-hle.tm t] at hid
             exact qpe ht (qbH hc1 t (hlk t ht) id hid)
           . show zF it.2.1=[]
             rw [qrj hit hnr]
             rfl
         . exact h4.elim
       . exact h4.elim
     . exact h4.elim
   . split at h2
     . rename_i d hd
       split at h2
       . rename_i hph
         split at h2
         . rename_i hc1
           have hle:LE Fc F1.er:=hl.trans h1
           refine go F1 (d,[],.v (false,[.ud])) _ hle (qn2 F1 _) h2 ⟨?_,hd,fun id o hm=>by (cases hm),fun id o hm=>by (cases hm),?_,fun _=>rfl⟩
           . exact kA.le hle (kA.of_skip hd hph hw)
           . intro t ht id hid
             rw [<-hle.tm t] at hid
             exact qpe ht (qbH hc1 t (hlk t ht) id hid)
         . exact h2.elim
       . exact h2.elim
     . exact h2.elim
end Go.Proofs.YtifnopmkdempdaaGreat.Ai
namespace Go.Proofs.YtifnopmkdempdaaGreat.Ai
open Go
variable [qg]
def zO (P:Program)(g:FuncId)(args:List (V1 B))(tb:List (Nat×W))(ph:List B)(r:TV B)(tb':List (Nat×W))(ph':List B):Prop :=
 vR P g (qx B.erL args) (zF tb) (B.erL ph) (r.er B.erL) (zF tb') (B.erL ph')
def qtM:LK->SP->B
 | .sl n,p=>.rf p true 0 n
 | .bx,p=>.pp p (true,0) 0
theorem qpU (k:LK)(p:SP):(qtM k p).er=j9 k p.er:=by cases k<;>rfl
def qma:Nat->List (LK×W)->List (Nat×W)
 | _,[]=>[]
 | i,x::r=>(lrt i,x.2)::qma (i+1) r
def qkJ:Nat->List (LK×W)->List B
 | _,[]=>[]
 | i,x::r=>qtM x.1 (lrt i,[])::qkJ (i+1) r
def za (P:Program)(X:SX):Prop:=∀ g as ls,R.Sim (X.OW g as ls) fun res=>zO P g as (qma 0 ls) (qkJ 0 ls) res.1 res.2.1 res.2.2
def w5 (F:SF)(f:Operand):R (FuncId×List B):=match z6 F f with
 | .fz (.fn g caps)=>R.ok (g,fzB caps)
 | .clo g caps=>R.ok (g,caps)
 | _=>none
theorem qct (F:SF)(f:Operand):(w5 F f).Sim fun r=>JD F.er f=some (r.1,B.erL r.2):=by
 unfold w5
 split
 . rename_i g caps h
   refine R.Sim.ok ?_
   have:ev1 F.er f=.fz (.fn g (D.erL caps)):=by rw [<-qK,h];rfl
   unfold JD
   rw [this]
   simp only [qix]
 . rename_i g caps h
   refine R.Sim.ok ?_
   have:ev1 F.er f=.clo g (B.erL caps):=by rw [<-qK,h];rfl
   unfold JD
   rw [this]
 . exact R.Sim.none'
def qdn (F:SF):List Operand->R (List (V1 B))
 | []=>R.ok []
 | x::r=>match evB F x with
   | .v y=>(qdn F r).bd fun l=>R.ok (y::l)
   | .tup _=>none
theorem qaP (F:SF):∀ xs:List Operand,(qdn F xs).Sim fun l=>qaB F.er xs=some (qx B.erL l)
 | []=>R.Sim.ok rfl
 | x::r=>by
   simp only [qdn]
   split
   . rename_i y hy
     refine R.Sim.bd (qaP F r) fun l hl=>R.Sim.ok ?_
     have:ev F.er x=.v (kf B.erL y):=by rw [<-je,hy];rfl
     simp only [qaB,this,hl]
     rfl
   . exact R.Sim.none'
def WW:List B->List (V1 B)
 | []=>[]
 | c::r=>(false,[c])::WW r
theorem qkY (l:List B):qx B.erL (WW l)=KG (B.erL l):=by induction l with | nil=>rfl | cons a l ih=>simp only [WW,qx,B.erL,KG,ih];rfl
def qj6 (M:MB)(F:SF):B->R (SP×LK×W)
 | .rf q true off n=>(F.atR M q).bd fun o=>(match o with
   | .osl x=>some ([M.pEqN off 0,M.pEqN n (x.len M)],(q,.sl n,.osl x))
   | .onil=>some ([M.pEqN off 0,M.pEqN n 0],(q,.sl n,.onil))
   | _=>none)
 | .pp q i j=>(match i,j with
   | (true,0),0=>(F.atR M q).bd fun o=>(match o with
     | .obx cs=>R.ok (q,.bx,.obx cs)
     | _=>none)
   | _,_=>none)
 | _=>none
def qco:LK->O->Prop
 | .sl n,.osl xs=>xs.length=n
 | .bx,.obx _=>True
 | _,_=>False
theorem qb6 (F:SF)(b:B):(qj6 qn F b).Sim fun r=>b.er=j9 r.2.1 r.1.er/\F.er.at std r.1.er=r.2.2.er/\qco r.2.1 r.2.2.er:=by
 unfold qj6
 split
 . rename_i q off n
   refine R.Sim.bd (F.atR_sim q) fun o ho=>?_
   split
   . rename_i x
     refine R.Sim.mk fun hp=>?_
     obtain ⟨h1,h2⟩:=hp.two
     have h1:off=0:=h1
     have h2:n=x.len qn:=h2
     subst h1 h2
     exact ⟨rfl,ho,LL.len_ro x⟩
   . refine R.Sim.mk fun hp=>?_
     obtain ⟨h1,h2⟩:=hp.two
     have h1:off=0:=h1
     have h2:n=0:=h2
     subst h1 h2
     exact ⟨rfl,ho,rfl⟩
   . exact R.Sim.none'
 . split
   . refine R.Sim.bd (F.atR_sim _) fun o ho=>?_
     split
     . exact R.Sim.ok ⟨rfl,ho,trivial⟩
     . exact R.Sim.none'
   . exact R.Sim.none'
 . exact R.Sim.none'
def qrW (all:List (V1 B))(k j:Nat):Option B:=match nth all k with
 | some x=>nth x.2 j
 | none=>none
def qcS (M:MB)(F:SF)(all:List (V1 B)):List (Nat×Nat)->R (List (SP×LK×W))
 | []=>R.ok []
 | (k,j)::r=>(match qrW all k j with
   | some b=>(qj6 M F b).bd fun x=>(qcS M F all r).bd fun l=>R.ok (x::l)
   | none=>none)
theorem y8 (F:SF)(all:List (V1 B)):∀ ps:List (Nat×Nat),(qcS qn F all ps).Sim fun l=>∀ x∈l,F.er.at std x.1.er=x.2.2.er/\qco x.2.1 x.2.2.er/\∃ (k:Nat) (y:V1 A) (j:Nat),(qx B.erL all)[k]?=some y/\y.2[j]?=some (j9 x.2.1 x.1.er)
 | []=>R.Sim.ok (fun x h=>by cases h)
 | (k,j)::r=>by
   simp only [qcS]
   split
   . rename_i b hb
     refine R.Sim.bd (qb6 F b) fun x hx=>R.Sim.bd (y8 F all r) fun l hl=>R.Sim.ok ?_
     intro z hz
     rcases List.mem_cons.1 hz with rfl | hz
     . refine ⟨hx.2.1,hx.2.2,?_⟩
       unfold qrW at hb
       rw [qv] at hb
       cases hk:all[k]? with
       | none=>rw [hk] at hb;cases hb
       | some y =>
         rw [hk] at hb
         dsimp only at hb
         rw [qv] at hb
         refine ⟨k,kf B.erL y,j,by rw [qb4,hk];rfl,?_⟩
         show (B.erL y.2)[j]?=_
         rw [B.erL_eq,List.getElem?_map,hb]
         simp [hx.1]
     . exact hl z hz
   . exact R.Sim.none'
def qkU:List SP->Nat->SP->Option (Option SP)
 | [],_,_=>some none
 | q::L,i,x=>match nq x.1 q.1 with
   | true=>(match v6 q.2 x.2 with
     | some (some s)=>some (some (lrt i,s))
     | some none=>qkU L (i+1) x
     | none=>none)
   | false=>qkU L (i+1) x
theorem qiK:∀ (L:List zi) (qs:List SP) (i:Nat),L.map (·.q)=qs.map SP.er->∀ (x:SP) (r:Option SP),qkU qs i x=some r->ren (inL i L) x.er=r.map SP.er:=by
 intro L
 induction L with
 | nil =>
   intro qs i hq x r h
   have:qs=[]:=by simpa using hq.symm
   subst this
   simp only [qkU,Option.some.injEq] at h
   subst h
   rfl
 | cons l L ih =>
   intro qs i hq x r h
   cases qs with
   | nil=>simp at hq
   | cons q qs =>
     simp only [List.map_cons,List.cons.injEq] at hq
     obtain ⟨h1,h2⟩:=hq
     simp only [qkU] at h
     simp only [inL,ren]
     rw [h1]
     show (match nq x.1 q.1 with | true=>(match pre std (ixs q.2) (ixs x.2) with | some s=>some ((lrt i,([]:List (Nat×Nat))).1,(lrt i,([]:List (Nat×Nat))).2++s) | none=>ren (inL (i+1) L) x.er) | false=>ren (inL (i+1) L) x.er)=_
     split at h
     . split at h
       . rename_i s hs
         rw [zu _ _ hs]
         simp only [Option.some.injEq] at h
         subst h
         simp [SP.er]
       . rename_i hs
         rw [zu _ _ hs]
         exact ih qs (i+1) h2 x r h
       . cases h
     . exact ih qs (i+1) h2 x r h
def WL:List SP->SP->Option (Option SP)
 | [],x=>some (some x)
 | q::L,x=>match nq x.1 q.1 with
   | true=>(match v6 q.2 x.2 with
     | some (some [])=>some (some x)
     | some (some (_::_))=>some none
     | some none=>WL L x
     | none=>none)
   | false=>WL L x
theorem qds:∀ (L:List zi) (qs:List SP),L.map (·.q)=qs.map SP.er->∀ (x:SP) (r:Option SP),WL qs x=some r->QE L x.er=r.map SP.er:=by
 intro L
 induction L with
 | nil =>
   intro qs hq x r h
   have:qs=[]:=by simpa using hq.symm
   subst this
   simp only [WL,Option.some.injEq] at h
   subst h
   rfl
 | cons l L ih =>
   intro qs hq x r h
   cases qs with
   | nil=>simp at hq
   | cons q qs =>
     simp only [List.map_cons,List.cons.injEq] at hq
     obtain ⟨h1,h2⟩:=hq
     simp only [WL] at h
     simp only [QE]
     rw [h1]
     show (match nq x.1 q.1 with | true=>(match pre std (ixs q.2) (ixs x.2) with | some []=>some x.er | some (_::_)=>none | none=>QE L x.er) | false=>QE L x.er)=_
     split at h
     . split at h
       . rename_i hs
         rw [zu _ _ hs]
         simp only [Option.some.injEq] at h
         subst h
         rfl
       . rename_i a s hs
         rw [zu _ _ hs]
         simp only [Option.some.injEq] at h
         subst h
         obtain ⟨⟨k,i⟩,j⟩:=a
         rfl
       . rename_i hs
         rw [zu _ _ hs]
         exact ih qs h2 x r h
       . cases h
     . exact ih qs h2 x r h
def qpX (p q:SP):Bool:=match nq p.1 q.1 with
 | false=>true
 | true=>(match v6 p.2 q.2,v6 q.2 p.2 with
   | some none,some none=>true
   | _,_=>false)
theorem qan {p q:SP}(h:qpX p q=true):¬Und p.er q.er/\¬Und q.er p.er:=by
 unfold qpX at h
 split at h
 . rename_i he
   refine ⟨fun hu=>?_,fun hu=>?_⟩
   . have:q.1=p.1:=hu.1
     rw [this,jS] at he
     cases he
   . have:p.1=q.1:=hu.1
     rw [this,jS] at he
     cases he
 . split at h
   . rename_i h1 h2
     have h1:=zu _ _ h1
     have h2:=zu _ _ h2
     refine ⟨fun ⟨_,s,hs⟩=>?_,fun ⟨_,s,hs⟩=>?_⟩
     . have hs:ixs q.2=ixs p.2++s:=hs
       rw [hs,Qf] at h1
       cases h1
     . have hs:ixs p.2=ixs q.2++s:=hs
       rw [hs,Qf] at h2
       cases h2
   . cases h
def qd1 (p:SP):List SP->Bool
 | []=>true
 | q::r=>match qpX p q with | true=>qd1 p r | false=>false
def YF:List SP->Bool
 | []=>true
 | p::r=>match qd1 p r with | true=>YF r | false=>false
theorem qi3 {p:SP}:∀ {l:List SP},qd1 p l=true->∀ q∈l,qpX p q=true:=by
 intro l
 induction l with
 | nil=>intro _ q h;cases h
 | cons a l ih =>
   intro h q hq
   simp only [qd1] at h
   split at h
   . rename_i h1
     rcases List.mem_cons.1 hq with rfl | hq
     . exact h1
     . exact ih h q hq
   . cases h
theorem Wj:∀ {l:List SP},YF l=true->jh (l.map SP.er):=by
 intro l
 induction l with
 | nil=>intro _ i j p p' hi;simp at hi
 | cons a l ih =>
   intro h i j p p' hi hj hu
   simp only [YF] at h
   split at h
   . rename_i h1
     have hc:=qi3 h1
     cases i with
     | zero =>
       cases j with
       | zero=>rfl
       | succ j =>
         exfalso
         simp only [List.map_cons,List.getElem?_cons_zero,Option.some.injEq] at hi
         simp only [List.map_cons,List.getElem?_cons_succ,List.getElem?_map] at hj
         cases hb:l[j]? with
         | none=>rw [hb] at hj;simp at hj
         | some b =>
           rw [hb] at hj
           simp at hj
           subst hi hj
           exact (qan (hc b (List.mem_of_getElem? hb))).1 hu
     | succ i =>
       cases j with
       | zero =>
         exfalso
         simp only [List.map_cons,List.getElem?_cons_zero,Option.some.injEq] at hj
         simp only [List.map_cons,List.getElem?_cons_succ,List.getElem?_map] at hi
         cases hb:l[i]? with
         | none=>rw [hb] at hi;simp at hi
         | some b =>
           rw [hb] at hi
           simp at hi
           subst hi hj
           exact (qan (hc b (List.mem_of_getElem? hb))).2 hu
       | succ j=>exact congrArg (·+1) (ih h i j p p' (by simpa using hi) (by simpa using hj) hu)
   . cases h
structure zy where
 q:SP
 k:LK
 o:W
 r:SP
 z:W
def zy.er (l:zy):zi:=⟨l.q.er,l.k,l.o.er,l.r.er,l.z.er⟩
def qup:W->W->Bool
 | .osl x,.osl y=>nq x.sz y.sz
 | .onil,_=>true
 | _,.onil=>true
 | .obx _,.obx _=>true
 | _,_=>false
def qnN (M:MB)(tb:List (Nat×W))(x:SP×LK×W)(b:B):R zy :=
 (qj6 M ⟨0,[],tb⟩ b).bd fun y=>(match x.2.1,y.2.1 with
   | .sl n,.sl m=>(match qup x.2.2 y.2.2 with
     | true=>some ([M.pEqN m n],⟨x.1,.sl n,x.2.2,y.1,y.2.2⟩)
     | false=>none)
   | .bx,.bx=>R.ok ⟨x.1,.bx,x.2.2,y.1,y.2.2⟩
   | _,_=>none)
def qi6 (M:MB)(tb:List (Nat×W)):List (SP×LK×W)->List B->R (List zy)
 | [],[]=>R.ok []
 | x::l,b::bs=>(qnN M tb x b).bd fun y=>(qi6 M tb l bs).bd fun r=>R.ok (y::r)
 | _,_=>none
theorem qlS (tb:List (Nat×W))(x:SP×LK×W)(b:B)(hk:qco x.2.1 x.2.2.er) :
 (qnN qn tb x b).Sim fun l=>l.q=x.1/\l.k=x.2.1/\l.o=x.2.2/\b.er=j9 l.k l.r.er/\(Fr.mk 0 [] (zF tb)).at std l.r.er=l.z.er/\l.k.ok l.o.er l.z.er:=by
 unfold qnN
 refine R.Sim.bd (qb6 _ b) fun y ⟨h1,h2,h3⟩=>?_
 obtain ⟨q,k,o⟩:=x
 obtain ⟨r,k',z⟩:=y
 dsimp only at *
 cases k with
 | sl n =>
   cases k' with
   | bx=>exact R.Sim.none'
   | sl m =>
     dsimp only
     split
     . rename_i hs
       refine R.Sim.mk fun hp=>?_
       have e:m=n:=hp.one
       subst e
       refine ⟨rfl,rfl,rfl,h1,h2,?_⟩
       dsimp only
       cases o with
       | osl x =>
         cases z with
         | osl y =>
           refine ⟨hk,h3,fun a ha c hc=>?_⟩
           have:=Zd.1 hs
           rw [x.ro_sz a ha,y.ro_sz c hc,this]
         | onil=>exact ⟨hk,h3,fun a ha c hc=>by cases hc⟩
         | _=>exact h3.elim
       | onil =>
         cases z with
         | osl y=>exact ⟨hk,h3,fun a ha=>by cases ha⟩
         | onil=>exact ⟨hk,h3,fun a ha=>by cases ha⟩
         | _=>exact h3.elim
       | _=>exact hk.elim
     . exact R.Sim.none'
 | bx =>
   cases k' with
   | sl m=>exact R.Sim.none'
   | bx =>
     refine R.Sim.ok ⟨rfl,rfl,rfl,h1,h2,?_⟩
     dsimp only
     cases o<;>first | exact hk.elim | skip
     cases z<;>first | exact h3.elim | trivial
theorem qbJ (tb:List (Nat×W)):∀ (l:List (SP×LK×W)) (bs:List B),(∀ x∈l,qco x.2.1 x.2.2.er) →
 (qi6 qn tb l bs).Sim fun r=>r.map (·.q)=l.map (·.1)/\r.map (fun y=>(y.k,y.o))=l.map (·.2)/\B.erL bs=phR (r.map zy.er)/\∀ y∈r,(Fr.mk 0 [] (zF tb)).at std y.r.er=y.z.er/\y.k.ok y.o.er y.z.er
 | [],[],_=>R.Sim.ok ⟨rfl,rfl,rfl,fun y h=>by cases h⟩
 | x::l,b::bs,hk=>by
   simp only [qi6]
   refine R.Sim.bd (qlS tb x b (hk x List.mem_cons_self)) fun y ⟨h1,h2,h3,h4,h5,h6⟩=>R.Sim.bd (qbJ tb l bs (fun z hz=>hk z (List.mem_cons_of_mem _ hz))) fun r ⟨k1,k2,k3,k4⟩=>R.Sim.ok ⟨?_,?_,?_,?_⟩
   . simp [h1,k1]
   . simp [h2,h3,k2]
   . simp only [B.erL,List.map_cons,phR,k3,h4];rfl
   . intro z hz
     rcases List.mem_cons.1 hz with rfl | hz
     . exact ⟨h5,h6⟩
     . exact k4 z hz
 | [],_::_,_=>R.Sim.none'
 | _::_,[],_=>R.Sim.none'
def yx (M:MB)(F:SF):List zy->R SF
 | []=>R.ok F
 | l::L=>(yx M F L).bd fun G=>G.setR M l.q l.z
theorem VC (F:SF):∀ L:List zy,(yx qn F L).Sim fun G=>kO std F.er (L.map zy.er)=G.er
 | []=>R.Sim.ok rfl
 | l::L=>by
   simp only [yx]
   refine R.Sim.bd (VC F L) fun G hG=>(G.setR_sim l.q l.z).mono fun H hH=>?_
   simp only [List.map_cons,kO,hG]
   exact hH
def qsW:List zy->List SP
 | []=>[]
 | l::L=>l.q::qsW L
def rsW:List zy->List SP
 | []=>[]
 | l::L=>l.r::rsW L
theorem qin (L:List zy):(L.map zy.er).map (·.q)=(qsW L).map SP.er:=by induction L with | nil=>rfl | cons l L ih=>simp only [List.map_cons,qsW,ih];rfl
theorem qr0 (L:List zy):(L.map zy.er).map (·.r)=(rsW L).map SP.er:=by induction L with | nil=>rfl | cons l L ih=>simp only [List.map_cons,rsW,ih];rfl
def sps:List (SP×LK×W)->List SP
 | []=>[]
 | x::r=>x.1::sps r
def kos:List (SP×LK×W)->List (LK×W)
 | []=>[]
 | x::r=>x.2::kos r
theorem qsE (l:List (SP×LK×W)):sps l=l.map (·.1):=by induction l with | nil=>rfl | cons x r ih=>simp [sps,ih]
theorem qss (l:List (SP×LK×W)):kos l=l.map (·.2):=by induction l with | nil=>rfl | cons x r ih=>simp [kos,ih]
theorem qrq (L:List zy):qsW L=L.map (·.q):=by induction L with | nil=>rfl | cons l L ih=>simp [qsW,ih]
def qd8 (M:MB):List zy->B->R B
 | _,.fz d=>R.ok (.fz d)
 | l::L,.rf p g off n=>(match nq p.1 l.r.1 with
   | true=>(match v6 l.r.2 p.2,l.k with
     | some (some []),.sl m=>some ([M.pLeN (M.nAdd off n) m],.rf l.q g off n)
     | some none,_=>qd8 M L (.rf p g off n)
     | _,_=>none)
   | false=>qd8 M L (.rf p g off n))
 | _,_=>none
theorem Y1 {l:zi}{L:List zi}{a b:A}(h:vk L a b):vk (l::L) a b:=by
 cases h with
 | fz _ h=>exact .fz _ h
 | rf i l m off len hl hk hle=>exact .rf (i+1) l m off len (by simpa using hl) hk hle
theorem Wp:∀ (L:List zy) (x:B),(qd8 qn L x).Sim fun y=>vk (L.map zy.er) x.er y.er
 | [],.fz d=>R.Sim.ok (.fz _ rfl)
 | _::_,.fz d=>R.Sim.ok (.fz _ rfl)
 | l::L,.rf p g off n=>by
   simp only [qd8]
   split
   . rename_i hn
     split
     . rename_i m h1 hk
       refine R.Sim.mk fun hp=>?_
       have hp:off+n<=m:=hp.one
       have e:=vE (zu _ _ h1)
       have hq:p.er=(l.er).r:=Prod.ext (Zd.1 hn) (by rw [show p.er.2=ixs p.2 from rfl,e];simp [zy.er,SP.er,ixs])
       show vk _ (.rf p.er off n) (.rf l.q.er off n)
       rw [hq]
       exact .rf 0 l.er m off n rfl hk hp
     . exact (Wp L _).mono fun y hy=>Y1 hy
     . exact R.Sim.none'
   . exact (Wp L _).mono fun y hy=>Y1 hy
 | [],.un=>R.Sim.none'
 | [],.ud=>R.Sim.none'
 | [],.rf ..=>R.Sim.none'
 | [],.pp ..=>R.Sim.none'
 | [],.clo ..=>R.Sim.none'
 | _::_,.un=>R.Sim.none'
 | _::_,.ud=>R.Sim.none'
 | _::_,.pp ..=>R.Sim.none'
 | _::_,.clo ..=>R.Sim.none'
def yU (M:MB)(L:List zy):List B->R (List B)
 | []=>R.ok []
 | x::r=>(qd8 M L x).bd fun y=>(yU M L r).bd fun ys=>R.ok (y::ys)
theorem wB (L:List zy):∀ l:List B,(yU qn L l).Sim fun l'=>(B.erL l).length=(B.erL l').length/\∀ (j:Nat) (a b:A),(B.erL l)[j]?=some a->(B.erL l')[j]?=some b->vk (L.map zy.er) a b
 | []=>R.Sim.ok ⟨rfl,fun j a b h=>by simp [B.erL] at h⟩
 | x::r=>by
   simp only [yU]
   refine R.Sim.bd (Wp L x) fun y hy=>R.Sim.bd (wB L r) fun ys ⟨h1,h2⟩=>R.Sim.ok ⟨by simp [B.erL,h1],fun j a b ha hb=>?_⟩
   cases j with
   | zero=>simp [B.erL] at ha hb;subst ha hb;exact hy
   | succ j=>exact h2 j a b (by simpa [B.erL] using ha) (by simpa [B.erL] using hb)
def yF (M:MB)(L:List zy):List (V1 B)->R (List (V1 B))
 | []=>R.ok []
 | x::r=>(yU M L x.2).bd fun y=>(yF M L r).bd fun ys=>R.ok ((x.1,y)::ys)
theorem VG (L:List zy):∀ l:List (V1 B),(yF qn L l).Sim fun l'=>(qx B.erL l).length=(qx B.erL l').length/\∀ (k:Nat) (x y:V1 A),(qx B.erL l)[k]?=some x->(qx B.erL l')[k]?=some y->qj4 (L.map zy.er) x y
 | []=>R.Sim.ok ⟨rfl,fun j a b h=>by simp [qx] at h⟩
 | x::r=>by
   simp only [yF]
   refine R.Sim.bd (wB L x.2) fun y ⟨k1,k2⟩=>R.Sim.bd (VG L r) fun ys ⟨h1,h2⟩=>R.Sim.ok ⟨by simp [qx,h1],fun j a b ha hb=>?_⟩
   cases j with
   | zero=>simp [qx] at ha hb;subst ha hb;exact ⟨rfl,k1,k2⟩
   | succ j=>exact h2 j a b (by simpa [qx] using ha) (by simpa [qx] using hb)
def qo7 (M:MB)(L:List zy):TV B->R (TV B)
 | .v x=>(yU M L x.2).bd fun y=>R.ok (.v (x.1,y))
 | .tup xs=>(yF M L xs).bd fun ys=>R.ok (.tup ys)
theorem qhh (L:List zy)(r:TV B):(qo7 qn L r).Sim fun r'=>qnt (L.map zy.er) (r.er B.erL) (r'.er B.erL):=by
 cases r with
 | v x=>exact R.Sim.bd (wB L x.2) fun y ⟨h1,h2⟩=>R.Sim.ok ⟨rfl,h1,h2⟩
 | tup xs=>exact R.Sim.bd (VG L xs) fun ys ⟨h1,h2⟩=>R.Sim.ok ⟨h1,h2⟩
def qhH (M:MB)(X:SX)(F:SF)(d:Nat)(f:Operand)(args:List Operand):R SF :=
 (w5 F f).bd fun g=>(qdn F args).bd fun as=>(match X.S g.1 with
   | some ps=>(qcS M F (Qs as (WW g.2)) ps).bd fun ls=>(match qmt (qkU (sps ls) 0) (Qs as (WW g.2)) with
     | some as'=>(X.OW g.1 as' (kos ls)).bd fun res=>(qi6 M res.2.1 ls res.2.2).bd fun L=>(qo7 M L res.1).bd fun rr=>(match YF (qsW L) with
      | true=>(match YF (rsW L) with
        | true=>(yx M F L).bd fun G=>(G.trR (WL (qsW L))).bd fun H=>R.ok (H.put d rr)
        | false=>none)
      | false=>none)
     | none=>none)
   | none=>none)
theorem qkt:∀ (L:List zy) (i:Nat),zF (qma i (L.map fun y=>(y.k,y.o)))=tbL i (L.map zy.er)
 | [],_=>rfl
 | l::L,i=>by simp only [List.map_cons,qma,zF,tbL,qkt L (i+1)];rfl
theorem qkc:∀ (L:List zy) (i:Nat),B.erL (qkJ i (L.map fun y=>(y.k,y.o)))=phL i (L.map zy.er)
 | [],_=>rfl
 | l::L,i=>by simp only [List.map_cons,qkJ,B.erL,phL,qkc L (i+1),qpU];rfl
theorem qhK {P:Program}{X:SX}(hW:za P X)(F:SF){o:Oper}{d:Nat}(hdst:o.dst=some d)(hok:zQ F.n d=true){f:Operand}{args:List Operand}{ts:Array TypeId}(ho:o.op=.call ⟨.value f,⟨args⟩,ts⟩) :
 (qhH qn X F d f args).Sim fun G=>zg P F.er o G.er:=by
 unfold qhH
 refine R.Sim.bd (qct F f) fun g hg=>R.Sim.bd (qaP F args) fun as has=>?_
 split
 . rename_i ps hps
   refine R.Sim.bd (y8 F _ ps) fun ls hls=>?_
   split
   . rename_i as' htr
     refine R.Sim.bd (hW g.1 as' (kos ls)) fun res hres=>?_
     . refine R.Sim.bd (qbJ res.2.1 ls res.2.2 (fun x hx=>(hls x hx).2.1)) fun L ⟨l1,l2,l3,l4⟩=>R.Sim.bd (qhh L res.1) fun rr hrr=>?_
       split
       . rename_i ha
         split
         . rename_i hr
           refine R.Sim.bd (VC F L) fun G hG=>R.Sim.bd (G.trR_sim (qds (L.map zy.er) (qsW L) (qin L))) fun H hH=>R.Sim.ok ?_
           rw [SF.put_er,<-hH,<-hG]
           have hqs:qsW L=sps ls:=by rw [qrq,qsE,l1]
           have hall:qx B.erL (Qs as (WW g.2))=qx B.erL as++KG (B.erL g.2):=by rw [jL,Kn,qkY]
           refine zg.of_callW hdst hok ho hg has hrr (tb':=zF res.2.1) ⟨by rw [qin];exact Wj ha,by rw [qr0];exact Wj hr,?_,?_,?_⟩ ?_
           . intro l hl
             obtain ⟨y,hy,rfl⟩:=List.mem_map.1 hl
             refine ⟨?_,(l4 y hy).2⟩
             have h1:y.q∈L.map (·.q):=List.mem_map.2 ⟨y,hy,rfl⟩
             obtain ⟨i,hi⟩:=List.getElem?_of_mem hy
             have e1:(L.map (·.q))[i]?=some y.q:=by rw [List.getElem?_map,hi];rfl
             have e2:(L.map fun y=>(y.k,y.o))[i]?=some (y.k,y.o):=by rw [List.getElem?_map,hi];rfl
             rw [l1,List.getElem?_map] at e1
             rw [l2,List.getElem?_map] at e2
             cases hx:ls[i]? with
             | none=>rw [hx] at e1;simp at e1
             | some x =>
               rw [hx] at e1 e2
               simp only [Option.map_some,Option.some.injEq] at e1 e2
               have:=(hls x (List.mem_of_getElem? hx)).1
               rw [e1,e2] at this
               exact this
           . intro l hl
             obtain ⟨y,hy,rfl⟩:=List.mem_map.1 hl
             exact (l4 y hy).1
           . intro l hl
             obtain ⟨y,hy,rfl⟩:=List.mem_map.1 hl
             obtain ⟨i,hi⟩:=List.getElem?_of_mem hy
             have e1:(L.map (·.q))[i]?=some y.q:=by rw [List.getElem?_map,hi];rfl
             have e2:(L.map fun y=>(y.k,y.o))[i]?=some (y.k,y.o):=by rw [List.getElem?_map,hi];rfl
             rw [l1,List.getElem?_map] at e1
             rw [l2,List.getElem?_map] at e2
             cases hx:ls[i]? with
             | none=>rw [hx] at e1;simp at e1
             | some x =>
               rw [hx] at e1 e2
               simp only [Option.map_some,Option.some.injEq] at e1 e2
               have:=(hls x (List.mem_of_getElem? hx)).2.2
               rw [e1,e2,hall] at this
               exact this
           . unfold zO at hres
             rw [qss,<-l2,qkt,qkc,l3] at hres
             have:=wV (τ':=ren (inL 0 (L.map zy.er))) (qiK (L.map zy.er) (sps ls) 0 (by rw [qin,hqs])) _ htr
             rw [hall,@jI qP] at this
             rw [this]
             exact hres
         . exact R.Sim.none'
       . exact R.Sim.none'
   . exact R.Sim.none'
 . exact R.Sim.none'
end Go.Proofs.YtifnopmkdempdaaGreat.Ai
namespace Go.Proofs.YtifnopmkdempdaaGreat.Ai
open Go
variable [qg]
def YC {α:Type}:List α->Nat->List α
 | _,0=>[]
 | [],_+1=>[]
 | a::r,n+1=>a::YC r n
theorem qfv {α:Type}(l:List α)(n:Nat):YC l n=l.take n:=by
 induction l generalizing n with
 | nil=>cases n<;>rfl
 | cons a r ih=>cases n<;>simp [YC,ih]
def wo:List Oper->List Nat
 | []=>[]
 | o::r=>match o.dst with | some d=>d::wo r | none=>wo r
def drS (n:Nat):Nat:=Nat.mod n 65536
def qto:Nat->Nat->List Nat
 | 0,_=>[]
 | f+1,n=>match nq n 0 with
   | true=>[]
   | false=>Nat.pred (Nat.mod n 256)::qto f (Nat.div n 256)
def qnv (n:Nat):List Nat:=qto 6 (Nat.div n 65536)
def jf (dr:Nat->Nat):Code->Bool
 | .region id ⟨ops⟩ true=>match nlt (dr id) 65536 with
   | true=>qb5 ops (dr id)||(nq (dr id) ops.length&&qay ops)
   | false=>YH ops (drS (dr id)) (qnv (dr id))
 | .seq a b=>jf dr a&&jf dr b
 | .cond _ a b=>jf dr a&&jf dr b
 | .block _ b=>jf dr b
 | .loop b=>jf dr b
 | _=>true
def kOK (dr:Nat->Nat):K->Bool
 | .c x=>jf dr x
 | .lp b=>jf dr b
 | _=>true
def qhf (M:MB)(X:SX)(F:SF)(t:TypeId)(x:Operand):R SF :=
 match X.T t with
 | some ⟨.sl e,_,_,_,_⟩=>(match X.T e with
   | some ⟨_,_,1,_,[.int .i64 0]⟩=>(match z6 F x with
     | .rf (r,[]) _ off len=>(F.atR M (r,[])).bd fun o=>(match o with
       | .osl (.i l)=>some ([M.pLeN (M.nAdd off len) (M.len l)],{ F with tb:=(r,.osl (.i (M.zap l off len 0)))::del F.tb r })
       | _=>none)
     | _=>none)
   | _=>none)
 | _=>none
theorem qi1 (X:SX)(F:SF)(t:TypeId)(x:Operand):(qhf qn X F t x).Sim fun G=>qdA std X.T F.er t x=some G.er:=by
 unfold qhf
 split
 . rename_i e g1 g2 g3 g4 ht
   split
   . rename_i k0 ag by0 hte
     split
     . rename_i r w off len hx
       refine R.Sim.bd (F.atR_sim (r,[])) fun o ho=>?_
       split
       . rename_i l
         refine R.Sim.mk fun hp=>?_
         have h1:off+len<=l.length:=hp.one
         have hv:ev1 F.er x=.rf (r,[]) off len:=by rw [<-qK,hx];rfl
         have ho:F.er.at std (r,[])=.osl (roI l):=ho
         have h2:(std.nLe (std.nAdd off len) (std.oLen (roI l))&&std.oSz 1 (roI l)&&std.oFlat (roI l))=true:=by
          simp [std,roI,h1,O.isFz]
         have h3:(roI (jc l off len 0))=jc (roI l) off len [.fz (.int .i64 0)]:=by unfold roI;rw [y6]
         unfold qdA
         simp only [ht,hte,hv,qhi,ho,h2]
         show some (F.er.re r (.osl (jc (roI l) off len [.fz (.int .i64 0)])))=some ⟨F.n,jr F.tm,zF ((r,.osl (.i (jc l off len 0)))::del F.tb r)⟩
         rw [<-h3]
         simp only [zF,<-YW]
         rfl
       . exact R.Sim.none'
     . exact R.Sim.none'
   . exact R.Sim.none'
 . exact R.Sim.none'
def qqb:List B->R (List D)
 | []=>R.ok []
 | .fz d::r=>(match d with
   | .un=>none
   | _=>(qqb r).bd fun l=>R.ok (d::l))
 | _=>none
theorem qez:∀ l:List B,(qqb l).Sim fun ds=>B.erL l=fzL (D.erL ds)/\okL (B.erL l)=true
 | []=>R.Sim.ok ⟨rfl,rfl⟩
 | .fz d::r=>by
   simp only [qqb]
   split
   . exact R.Sim.none'
   . rename_i hd
     refine R.Sim.bd (qez r) fun ds ⟨h1,h2⟩=>R.Sim.ok ⟨by simp only [B.erL,B.er,D.erL,fzL,h1],?_⟩
     simp only [B.erL,B.er,okL,h2]
     cases d<;>first | rfl | exact (hd rfl).elim
 | .un::_=>R.Sim.none'
 | .ud::_=>R.Sim.none'
 | .rf ..::_=>R.Sim.none'
 | .pp ..::_=>R.Sim.none'
 | .clo ..::_=>R.Sim.none'
def qok (F:SF)(d:Nat)(x:Operand):R SF:=match evB F x with
 | .v (_,as)=>(qqb as).bd fun ds=>R.ok (F.put d (.v (false,[.fz (.ptr ds)])))
 | .tup _=>none
theorem qk7 {P:Program}(F:SF){o:Oper}{d:Nat}(hd:o.dst=some d)(hlt:zQ F.er.n d=true){e:TypeId}{x:Operand}(ho:o.op=.box e x):(qok F d x).Sim fun G=>zg P F.er o G.er:=by
 unfold qok
 split
 . rename_i g as hx
   refine R.Sim.bd (qez as) fun ds ⟨h1,h2⟩=>R.Sim.ok ?_
   rw [SF.put_er]
   refine zg.of_boxF hd hlt ho (as:=D.erL ds) ?_ (by rw [<-h1];exact h2)
   rw [<-je,hx,<-h1]
   rfl
 . exact R.Sim.none'
noncomputable def qnh:Qh:=match qg.fut with | some g=>g | none=>fun _=>false
theorem qmn (h:qg.fut.isSome=true):qg.fut=some qnh:=by
 unfold qnh
 cases hh:qg.fut with
 | none=>rw [hh] at h;cases h
 | some g=>rfl
def qdb (X:SX)(t:Nat):Bool:=match X.T t with
 | some ⟨.str,_,_,_,_⟩=>true
 | _=>false
theorem YZ {X:SX}{t:Nat}(h:qdb X t=true):∃ ty,X.T t=some ty/\ty.kind=.str:=by
 unfold qdb at h
 split at h
 . rename_i he;exact ⟨_,he,rfl⟩
 . cases h
def qs6 (X:SX)(F:SF)(t:Nat)(m k x:Operand):R SF :=
 match X.T t with
 | some ⟨.mp kt _,_,_,_,_⟩=>(match qdb X kt with
   | true=>(match z6 F m,z6 F k,z6 F x with
     | .fz (.mp g),.fz (.str s),.fz (.bool _ b)=>some ([b=g s],F)
     | _,_,_=>none)
   | false=>none)
 | _=>none
theorem qo3 {P:Program}{X:SX}(hT:kH P X.T)(F:SF){o:Oper}(hd:o.dst=none){t:Nat}{m k x:Operand}(hop:o.op=.mapUpdate t m k x):(qs6 X F t m k x).Sim fun G=>zg P F.er o G.er:=by
 unfold qs6
 split
 . rename_i kt et a1 a2 a3 a4 ht
   split
   . rename_i hk
     obtain ⟨tk,h1,h2⟩:=YZ hk
     split
     . rename_i g s kn b hm hs hx
       refine R.Sim.mk fun hp=>?_
       have hb:b=g s:=hp.one
       refine zg.of_mapUpdate hT ht rfl h1 h2 hd hop (g:=g) (s:=s) ?_ ?_ ?_
       . rw [<-qK,hm];rfl
       . rw [<-qK,hs];rfl
       . rw [<-qK,hx,<-hb];rfl
     . exact R.Sim.none'
   . exact R.Sim.none'
 . exact R.Sim.none'
def qsO (F:SF)(d:Nat)(x:Operand):R SF:=match z6 F x with
 | .fz (.ptr cs)=>R.ok (F.put d (.v (false,[.fz (.ptr cs)])))
 | _=>none
theorem qpJ {P:Program}(F:SF){o:Oper}{d:Nat}(hd:o.dst=some d)(hlt:zQ F.er.n d=true){x:Operand}(hop:o.op=.nilCheck x):(qsO F d x).Sim fun G=>zg P F.er o G.er:=by
 unfold qsO
 split
 . rename_i cs hx
   refine R.Sim.ok ?_
   rw [SF.put_er]
   exact zg.of_nilCheck hd hlt hop (by rw [<-qK,hx];rfl)
 . exact R.Sim.none'
noncomputable def qnb (F:SF)(d:Nat):R SF:=some ([qg.fut.isSome=true],F.put d (.v (false,[.fz (.mp qnh)])))
theorem qh1 {P:Program}(F:SF){o:Oper}{d:Nat}(hd:o.dst=some d)(hlt:zQ F.er.n d=true){t:Nat}(hop:o.op=.makeMap t none):(qnb F d).Sim fun G=>zg P F.er o G.er:=by
 refine R.Sim.mk fun hp=>?_
 rw [SF.put_er]
 exact zg.of_makeMap hd hlt hop (qmn hp.one)
noncomputable def opB (M:MB)(X:SX)(ora:Qz)(F:SF)(o:Oper):R SF :=
 match o.dst with
 | none=>(match o.op with
   | .store t a x=>(match X.T t with
     | some ty=>qhs M F ty.size a x
     | none=>none)
   | .call ⟨.builtin .clear,⟨[x]⟩,⟨[t]⟩⟩=>qhf M X F t x
   | .mapUpdate t m k x=>qs6 X F t m k x
   | _=>none)
 | some d=>(match zQ F.n d with
   | true=>(match o.op with
     | .call ⟨.value f,⟨args⟩,_⟩=>(match (match w5 F f with | some (_,g)=>X.S g.1 | none=>none) with
       | some _=>qhH M X F d f args
       | none=>qn5 M ora F d f args)
     | .box e x=>(match X.FB d with
       | true=>qok F d x
       | false=>qpg M X F d (.box e x))
     | .assign x=>(match X.FB d with
       | true=>R.ok (F.put d (evB F x))
       | false=>qpg M X F d (.assign x))
     | .makeMap _ none=>qnb F d
     | .nilCheck x=>qsO F d x
     | op=>qpg M X F d op)
   | false=>none)
theorem qcz {P:Program}{X:SX}(hT:kH P X.T)(hW:za P X){ora:Qz}(hO:qp P ora)(F:SF)(o:Oper):(opB qn X ora F o).Sim fun G=>zg P F.er o G.er:=by
 have none':∀ g as r,(fun _ _=>none:Ora) g as=some r->zt P g as r:=fun _ _ _ h=>by cases h
 unfold opB
 split
 . rename_i hd
   split
   . rename_i t a x hop
     split
     . rename_i ty ht
       refine (qgO F ty.size a x).mono fun G hG=>?_
       refine zg.of_opS (kn:=false) hT none' ?_
       unfold opS
       simp only [hd,hop,ht]
       exact hG
     . exact R.Sim.none'
   . rename_i x t hop
     exact (qi1 X F t x).mono fun G hG=>zg.of_clear hT hd hop hG
   . rename_i t m k x hop
     exact qo3 hT F hd hop
   . exact R.Sim.none'
 . rename_i d hd
   split
   . rename_i hlt
     have hlt:zQ F.er.n d=true:=hlt
     split
     . rename_i f args ts hop
       split
       . exact qhK hW F hd hlt hop
       . refine (ql7 hO F d f args).mono fun G ⟨g,as,r,h1,h2⟩=>?_
         refine zg.of_opS (kn:=false) (ora:=qa2 g as r) hT ?_ ?_
         . intro g' as' r' h'
           unfold qa2 at h'
           split at h'
           . rename_i hh
             simp only [Option.some.injEq] at h'
             subst h'
             rw [hh.1,hh.2]
             exact h1
           . cases h'
         . unfold opS
           simp only [hd,hlt,hop]
           exact h2
     . rename_i e x hop
       split
       . exact qk7 F hd hlt hop
       . refine (YX X F d (.box e x)).mono fun G hG=>zg.of_opS (kn:=false) hT none' ?_
         unfold opS
         rw [hd]
         dsimp only
         rw [hlt]
         dsimp only
         rw [hop]
         exact hG
     . rename_i x hop
       split
       . refine R.Sim.ok ?_
         rw [SF.put_er,je]
         exact zg.of_asgP hd hlt hop
       . refine (YX X F d (.assign x)).mono fun G hG=>zg.of_opS (kn:=false) hT none' ?_
         unfold opS
         rw [hd]
         dsimp only
         rw [hlt]
         dsimp only
         rw [hop]
         exact hG
     . rename_i hop
       exact qh1 F hd hlt hop
     . rename_i x hop
       exact qpJ F hd hlt hop
     . rename_i h1 _ _ _ _
       refine (YX X F d o.op).mono fun G hG=>zg.of_opS (kn:=false) hT none' ?_
       unfold opS
       rw [hd]
       dsimp only
       rw [hlt]
       dsimp only
       split
       . rename_i he;exact (h1 _ _ _ he).elim
       . exact hG
   . exact R.Sim.none'
def qrB:B->Option LL
 | .fz (.sl y)=>some y
 | _=>none
def qh5 (X:SX)(F:SF)(o:Oper):Option (Nat×LL) :=
 match o.op with
 | .binOp .eql t x (.const (.slice none 0 0)) _=>(match qrB (z6 F x),X.T t,o.dst with
   | some y,some ⟨.sl _,_,_,_,_⟩,some d=>(match zQ F.n d with | true=>some (d,y) | false=>none)
   | _,_,_=>none)
 | _=>none
theorem qhF {X:SX}{F:SF}{o:Oper}{d:Nat}{y:LL}(h:qh5 X F o=some (d,y)):∃ t e g1 g2 g3 g4 x tn,X.T t=some ⟨.sl e,g1,g2,g3,g4⟩/\o.dst=some d/\zQ F.er.n d=true/\o.op=.binOp .eql t x (.const (.slice none 0 0)) tn/\qjs (ev1 F.er x)=true/\ev1 F.er x=.fz (.sl y.rc):=by
 unfold qh5 at h
 split at h
 . rename_i t x tn hop
   split at h
   . rename_i y' e g1 g2 g3 g4 d' hx ht hd
     split at h
     . rename_i hlt
       simp only [Option.some.injEq,Prod.mk.injEq] at h
       obtain ⟨rfl,rfl⟩:=h
       have hv:ev1 F.er x=.fz (.sl y'.rc):=by
        rw [<-qK]
        unfold qrB at hx
        split at hx
        . rename_i hv
          rw [hv]
          simp only [Option.some.injEq] at hx
          subst hx
          rfl
        . cases hx
       refine ⟨t,e,g1,g2,g3,g4,x,tn,ht,hd,hlt,hop,?_,hv⟩
       rw [hv]
       rfl
     . cases h
   . cases h
 . cases h
def qnA (X:SX)(F:SF)(o:Oper):Option (Nat×Qh×ByteArray) :=
 match o.op with
 | .lookup t x ix true=>(match X.T t,o.dst with
   | some ⟨.mp kt et,_,_,_,_⟩,some d=>(match qdb X kt,X.T et,zQ F.n d,z6 F x,z6 F ix with
     | true,some _,true,.fz (.mp g),.fz (.str s)=>some (d,g,s)
     | _,_,_,_,_=>none)
   | _,_=>none)
 | _=>none
theorem qfY {P:Program}{X:SX} [zj] (hT:kH P X.T){F:SF}{o:Oper}{d:Nat}{g:Qh}{s:ByteArray}(h:qnA X F o=some (d,g,s)){ks:List K}{Post:Fr->Prop}{all:Array Oper}{l:List Oper}(hw:ko F.er all o true)
 (hy:Ex P (.r all l::ks) (F.put d (.tup [(false,[.fz (.bool false (g s))]),(false,[.fz (.bool true true)])])).er Post) (hno:Ex P (.r all l::ks) (F.put d (.tup [(false,[.un]),(false,[.fz (.bool true false)])])).er Post):Ex P (.r all (o::l)::ks) F.er Post:=by
 unfold qnA at h
 split at h
 . rename_i t x ix hop
   split at h
   . rename_i kt et a1 a2 a3 a4 d' ht hd
     split at h
     . rename_i te g' s' hk he hlt hx hi
       simp only [Option.some.injEq,Prod.mk.injEq] at h
       obtain ⟨rfl,rfl,rfl⟩:=h
       obtain ⟨tk,h1,h2⟩:=YZ hk
       have hlt:zQ F.er.n d'=true:=hlt
       refine Ex.op_look hT ht rfl h1 h2 he hw hd hlt hop (g:=g') (s:=s') (by rw [<-qK,hx];rfl) (by rw [<-qK,hi];rfl) ?_ ?_
       . rw [SF.put_er] at hy;exact hy
       . rw [SF.put_er] at hno;exact hno
     . cases h
   . cases h
 . cases h
def qsh {α:Type}:Option α->Bool
 | none=>true
 | some _=>false
theorem qjq {α:Type}{x:Option α}(h:qsh x=true):x=none:=by cases x with | none=>rfl | some _=>cases h
theorem JS:∀ (l:List Oper) (n:Nat),K5 l n=l[n]?
 | [],n=>rfl
 | o::r,0=>rfl
 | o::r,n+1=>by simp only [K5,JS r n,List.getElem?_cons_succ]
theorem zg.le {P:Program}{F G H:Fr}{o:Oper}(h:LE F G)(ho:zg P G o H):zg P F o H:=by
 intro J a w σ hfut hF hd hn
 obtain ⟨h1,h2⟩:=h.fr hF hd
 have:=ho J a w σ hfut h1 h2 (by rw [h.n];exact hn)
 intro b k cs ops i rest hoi hw
 obtain ⟨a',w',σ',k1,k2,k3,k4,k5,k6,k7⟩:=this b k cs ops i rest hoi hw
 exact ⟨a',w',σ',k1,k2,k3,k4,k5.trans h.n,k6,k7⟩
theorem LE.put {F G:Fr}(h:LE F G)(d:Nat)(x:TV A):LE (F.put d x) (G.put d x):=by
 refine ⟨h.n,fun t=>?_,h.tb,h.has⟩
 show qa unT ((d,x)::G.tm) t=qa unT ((d,x)::F.tm) t
 rw [@qu qP,@qu qP,h.tm]
def qpv {α:Type}(M:MB)(p:α->Prop):List α->Prop
 | []=>True
 | x::r=>M.pAnd (p x) (qpv M p r)
theorem qaE {α:Type}{p:α->Prop}:∀ {l:List α},qpv qn p l->∀ x∈l,p x
 | _::_,h,_,hx=>by
   obtain ⟨h1,h2⟩:p _/\qpv qn p _:=h
   rcases List.mem_cons.1 hx with rfl | hx
   . exact h1
   . exact qaE h2 _ hx
noncomputable def qna (M:MB)(X:SX)(ora:Qz)(ops:List Oper)(K:Nat->SF->Prop):Nat->List Nat->Nat->SF->Prop
 | _,[],j,F=>K j F
 | 0,_::_,_,_=>M.pNo 20
 | n+1,l::r,j,F=>qpv M (fun m=>match K5 ops m with
   | some o=>(match Jn o (l::r) with
     | true=>(match qsh o.guard with
       | true=>(match opB M X ora F o with
         | some (ps,G)=>V9 M ps (qna M X ora ops K n ((l::r).filter fun x=>!nq x m) (match nq m j with | true=>j+1 | false=>j) G)
         | none=>M.pNo 20)
       | false=>M.pNo 21)
     | false=>True)
   | none=>True) (j::l::r)
def JK (ops:List Oper):List Nat->SF->Option SF
 | [],F=>some F
 | l::r,F=>match K5 ops l with
   | some o=>(match qhZ o.op,o.dst with
     | true,some d=>JK ops r (F.put d unB)
     | _,_=>none)
   | none=>none
noncomputable def qio (M:MB)(X:SX)(ora:Qz)(ops:List Oper)(os:Oper)(s:Nat)(ls:List Nat)(F:SF)(K:Nat->SF->Prop):Prop :=
 match JK ops ls F with
 | some G=>(match opB M X ora G os with
   | some (ps,H)=>V9 M ps (qna M X ora ops K 12 ls (s+1) H)
   | none=>M.pNo 25)
 | none=>M.pNo 26
noncomputable def qim (M:MB)(X:SX)(ora:Qz)(ops:List Oper)(os:Oper)(s:Nat)(ls:List Nat)(F:SF)(K:Nat->SF->Prop):Prop :=
 match JK ops ls F with
 | some _=>qpv M (fun suf=>match Vd ops ls suf&&Jn os suf with
   | true=>qio M X ora ops os s suf F K
   | false=>True) (qbi ls)
 | none=>M.pNo 26
theorem Vz {P:Program}{X:SX}(hT:kH P X.T)(hW:za P X){ora:Qz}(hO:qp P ora){ops:List Oper}{K:Nat->SF->Prop}{Q:Nat->Fr->Prop}(hK:∀ j G,K j G->Q j G.er):∀ (n:Nat) (ls:List Nat) (j:Nat) (F:SF),qna qn X ora ops K n ls j F->qkO P ops Q n ls j F.er
 | 0,[],j,F,h=>hK j F h
 | _+1,[],j,F,h=>hK j F h
 | 0,_::_,_,_,h=>h.elim
 | n+1,l::r,j,F,h=>by
   intro m o hm ho hfr
   have h1:=qaE h m (by rcases hm with h | h;exact List.mem_cons_of_mem _ h;rw [h];exact List.mem_cons_self)
   rw [JS,ho] at h1
   dsimp only at h1
   rw [hfr] at h1
   dsimp only at h1
   split at h1
   . rename_i hg
     split at h1
     . rename_i ps G hG
       obtain ⟨hps,h1⟩:=ji ps _ h1
       exact ⟨G.er,qjq hg,qcz hT hW hO F o ps G hG hps,Vz hT hW hO hK n _ _ G h1⟩
     . exact h1.elim
   . exact h1.elim
theorem ZO {P:Program}{ops:List Oper}{its:List It}{F0:SF}{DS:List Nat}{Gs:Nat->Fr}{k:Nat}(hit:∀ (i:Nat) (o:Oper),i<k->ops[i]?=some o->∃ x,its[i]?=some x/\qei P ops F0 DS (Gs i) o x):∀ (ls:List Nat) (F G:SF) (Fc:Fr),(∀ l∈ls,l<k)->LE Fc F.er->JK ops ls F=some G->LE (jp its ls Fc) G.er/\∀ l∈ls,∀ x,its[l]?=some x->x.2.1=[]
 | [],F,G,Fc,_,hle,h=>by simp only [JK,Option.some.injEq] at h;subst h;exact ⟨hle,fun _ hl=>by cases hl⟩
 | l::r,F,G,Fc,hk,hle,h=>by
   simp only [JK] at h
   split at h
   . rename_i o ho
     rw [JS] at ho
     split at h
     . rename_i d hnr hd
       obtain ⟨x,hx,hok⟩:=hit l o (hk l List.mem_cons_self) ho
       have hdx:dOf its l=d:=by
        unfold dOf
        rw [hx]
        have:=hok.dst
        rw [hd] at this
        injection this with this
        exact this.symm
       obtain ⟨h1,h2⟩:=ZO hit r (F.put d unB) G (Fc.put (dOf its l) unT) (fun m hm=>hk m (List.mem_cons_of_mem _ hm)) (by rw [hdx];exact hle.put d unT) h
       refine ⟨h1,fun m hm y hy=>?_⟩
       rcases List.mem_cons.1 hm with rfl | hm
       . rw [hx] at hy
         injection hy with hy
         subst hy
         exact hok.nr hnr
       . exact h2 m hm y hy
     . cases h
   . cases h
theorem qcF {P:Program}{X:SX}(hT:kH P X.T)(hW:za P X){ora:Qz}(hO:qp P ora){ops:List Oper}{os:Oper}{its:List It}{F0:SF}{DS:List Nat}{Gs:Nat->Fr}{k s:Nat}(hit:∀ (i:Nat) (o:Oper),i<k->ops[i]?=some o->∃ x,its[i]?=some x/\qei P ops F0 DS (Gs i) o x)
 {K:Nat->SF->Prop} {Q:Nat->Fr->Prop} (hK:∀ j G,K j G->Q j G.er) {F:SF} {Fc:Fr} (hle:LE Fc F.er) (ls:List Nat) (hl:∀ l∈ls,l<k) (h:qim qn X ora ops os s ls F K):(∀ suf∈qbi ls,Vd ops ls suf=true->Jn os suf=true->∃ FB,zg P (jp its suf Fc) os FB/\qkO P ops Q 12 suf (s+1) FB)/\∀ l∈ls,∀ x,its[l]?=some x->x.2.1=[]:=by
 unfold qim at h
 split at h
 . rename_i G0 hG0
   refine ⟨fun suf hs hc hf=>?_,(ZO hit ls F G0 Fc hl hle hG0).2⟩
   have h:=qaE h suf hs
   rw [hc,hf] at h
   have h:qio qn X ora ops os s suf F K:=h
   have hsl:∀ l∈suf,l<k:=fun l hm=>hl l (yO hs l hm)
   unfold qio at h
   split at h
   . rename_i G hG
     obtain ⟨h1,h2⟩:=ZO hit suf F G Fc hsl hle hG
     split at h
     . rename_i ps H hH
       obtain ⟨hps,h⟩:=ji ps _ h
       exact ⟨H.er,zg.le h1 (qcz hT hW hO G os ps H hH hps),Vz hT hW hO hK 12 suf (s+1) H h⟩
     . exact h.elim
   . exact h.elim
 . exact h.elim
noncomputable def wp (M:MB)(X:SX)(dr:Nat->Nat)(lv:Nat->List Nat)(ora:Qz)(fin:SF->Prop)(L N:List K->SF->Prop):Nat->List K->SF->Prop
 | 0,ks,F=>N ks F
 | n+1,ks,F=>(match ks with
   | []=>fin F
   | .bl _::ks=>wp M X dr lv ora fin L N n ks F
   | .lp b::ks=>wp M X dr lv ora fin L N n (.c (.loop b)::ks) F
   | .c x::ks=>(match x with
     | .skip=>wp M X dr lv ora fin L N n ks F
     | .region id ⟨ops⟩ d=>(match d with
       | false=>wp M X dr lv ora fin L N n (.r ⟨ops⟩ ops::ks) F
       | true=>(match nlt (dr id) 65536 with
         | true=>wpD M X ora ops F (wo (YC ops (dr id))) (YC ops (dr id)) F fun G=>wp M X dr lv ora fin L N n (.r ⟨ops⟩ (QD ops (dr id))::ks) G
         | false=>wpD M X ora ops F (wo (YC ops (drS (dr id)))) (YC ops (drS (dr id))) F fun G=>(match K5 ops (drS (dr id)) with
           | some os=>(match qsh os.guard with
             | true=>qim M X ora ops os (drS (dr id)) (qnv (dr id)) G fun j GA=>wp M X dr lv ora fin L N n (.r ⟨ops⟩ (QD ops j)::ks) GA
             | false=>M.pNo 23)
           | none=>M.pNo 24)))
     | .seq a b=>wp M X dr lv ora fin L N n (.c a::.c b::ks) F
     | .cond y a b=>(match z6 F y with
       | .fz (.bool kn t)=>(match kn with
         | true=>(match t with
           | true=>wp M X dr lv ora fin L N n (.c a::ks) F
           | false=>wp M X dr lv ora fin L N n (.c b::ks) F)
         | false=>M.pAnd (M.pImp t (wp M X dr lv ora fin L N n (.c a::ks) F)) (M.pImp (M.bNot t) (wp M X dr lv ora fin L N n (.c b::ks) F)))
       | _=>M.pNo 10)
     | .block id b=>wp M X dr lv ora fin L N n (.c b::.bl id::ks) F
     | .loop b=>L (.c b::.lp b::ks) (F.keepB (lv (WR b)))
     | .exit id=>(match wi id ks with
       | some ks'=>wp M X dr lv ora fin L N n ks' F
       | none=>M.pNo 11)
     | .ret=>fin F
     | _=>M.pNo 12)
   | .r all l::ks=>(match l with
     | []=>wp M X dr lv ora fin L N n ks F
     | o::l=>(match all with
       | ⟨al⟩=>JJ M al F o
         (fun F1=>vN M F1 o fun F2=>(match qh5 X F2 o with
           | some (d,y)=>M.pAnd (M.pImp (M.bEq (M.nI (y.len M)) 0) (wp M X dr lv ora fin L N n (.r ⟨al⟩ l::ks) (F2.put d (.v (false,[.fz (.bool true true)]))))) (wp M X dr lv ora fin L N n (.r ⟨al⟩ l::ks) (F2.put d (.v (false,[.fz (.bool true false)]))))
           | none=>(match qnA X F2 o with
             | some (d,g,s)=>M.pAnd (wp M X dr lv ora fin L N n (.r ⟨al⟩ l::ks) (F2.put d (.tup [(false,[.fz (.bool false (g s))]),(false,[.fz (.bool true true)])]))) (wp M X dr lv ora fin L N n (.r ⟨al⟩ l::ks) (F2.put d (.tup [(false,[.un]),(false,[.fz (.bool true false)])])))
             | none=>(match opB M X ora F2 o with
               | some (ps,G)=>V9 M ps (wp M X dr lv ora fin L N n (.r ⟨al⟩ l::ks) G)
               | none=>M.pNo 13))))
         (fun F1=>(match o.dst with
           | some d=>(match nlt d PH with | true=>wp M X dr lv ora fin L N n (.r ⟨al⟩ l::ks) (F1.put d (.v (false,[.ud]))) | false=>M.pNo 16)
           | none=>wp M X dr lv ora fin L N n (.r ⟨al⟩ l::ks) F1)))))
theorem ZE {α:Type}{l:List α}{k i:Nat}(h:i<k):(l.take k)[i]?=l[i]?:=by simp [List.getElem?_take,h]
theorem qhM {P:Program}{ops:List Oper}{k:Nat}{a:List Nat}{F:SF}{its:List It}(hle:k<=ops.length)(hall:∀ (i:Nat) (o:Oper),ops[i]?=some o->i<k->ZD ops a k i o=true)
 (k1:its.length=(ops.take k).length) (k4:∀ (i:Nat) (o:Oper) (x:It),(ops.take k)[i]?=some o->its[i]?=some x->qei P ops F (wo (ops.take k)) (frs F.er its i) o x) :
 Dyn ops k (qa5 a) F.er its (frs F.er its)/\(∀ (i:Nat) (o:Oper) (x:It),ops[i]?=some o->its[i]?=some x->kA P ⟨ops⟩ (frs F.er its i) o x)/\(ops.take k).length=k:=by
 have hlen:its.length=k:=by rw [k1,List.length_take];omega
 have get:∀ (i:Nat) (x:It),its[i]?=some x->∃ o,i<k/\ops[i]?=some o/\qei P ops F (wo (ops.take k)) (frs F.er its i) o x:=by
  intro i x hx
  have hi:i<k:=by rw [<-hlen];exact (List.getElem?_eq_some_iff.1 hx).1
  have ho:ops[i]?=some ops[i]:=List.getElem?_eq_getElem (by omega)
  exact ⟨ops[i],hi,ho,k4 i _ x (by rw [ZE hi];exact ho) hx⟩
 have hmem:∀ (j:Nat) (y:It),its[j]?=some y->y.1∈wo (ops.take k):=by
  intro j y hy
  obtain ⟨o,hj,ho,hio⟩:=get j y hy
  have hin:o∈ops.take k:=List.mem_of_getElem? (i:=j) (by rw [ZE hj];exact ho)
  have key:∀ l:List Oper,o∈l->y.1∈wo l:=by
   intro l
   induction l with
   | nil=>intro h;cases h
   | cons a l ihl =>
     intro hm
     simp only [wo]
     rcases List.mem_cons.1 hm with rfl | hm
     . rw [hio.dst];exact List.mem_cons_self
     . split
       . exact List.mem_cons_of_mem _ (ihl hm)
       . exact ihl hm
  exact key _ hin
 have hpair:∀ (i j:Nat) (o o':Oper) (d d':Nat),i<k->j<k->ops[i]?=some o->ops[j]?=some o'->o.dst=some d->o'.dst=some d' →
  (d=d'->i=j)/\(d'∈lkM ops o->qa5 a i j/\j<i):=by
  intro i j o o' d d' hi hj ho ho' hd hd'
  have:=hall i o ho hi
  unfold ZD at this
  rw [hd] at this
  dsimp only at this
  have:=List.all_eq_true.1 this j (List.mem_range.2 hj)
  rw [ho'] at this
  dsimp only at this
  rw [hd'] at this
  simp only [Bool.and_eq_true,Bool.or_eq_true,Bool.not_eq_true'] at this
  obtain ⟨h1,h2⟩:=this
  refine ⟨fun e=>?_,fun hm=>?_⟩
  . subst e
    rcases h1 with h1 | h1
    . simp at h1
    . exact Nat.eq_of_beq_eq_true h1
  . rcases h2 with h2 | h2
    . rw [List.contains_iff_mem.2 hm] at h2;cases h2
    . exact ⟨h2.1,Nat.lt_of_succ_le (qC h2.2)⟩
 refine ⟨⟨hlen,?_,?_,?_,?_,?_,rfl,?_⟩,?_,by rw [List.length_take];omega⟩
 . intro i j x y hx hy he
   obtain ⟨o,hi,ho,hio⟩:=get i x hx
   obtain ⟨o',hj,ho',hjo⟩:=get j y hy
   exact (hpair i j o o' _ _ hi hj ho ho' hio.dst hjo.dst).1 he
 . intro i j o y hi ho hy hm
   obtain ⟨o',hj,ho',hjo⟩:=get j y hy
   obtain ⟨x,hx⟩:∃ x,its[i]?=some x:=⟨its[i]'(by omega),List.getElem?_eq_getElem _⟩
   obtain ⟨o2,_,ho2,hio⟩:=get i x hx
   rw [ho] at ho2
   injection ho2 with ho2
   subst ho2
   exact (hpair i j o o' _ _ hi hj ho ho' hio.dst hjo.dst).2 hm
 . intro j y hy
   obtain ⟨o,_,_,hjo⟩:=get j y hy
   exact hjo.fr
 . intro j y hy
   obtain ⟨o,_,_,hjo⟩:=get j y hy
   exact hjo.blk
 . intro i o hi ho t ht id' hid j y hy he
   obtain ⟨x,hx⟩:∃ x,its[i]?=some x:=⟨its[i]'(by omega),List.getElem?_eq_getElem _⟩
   obtain ⟨o2,_,ho2,hio⟩:=get i x hx
   rw [ho] at ho2
   injection ho2 with ho2
   subst ho2
   rcases hio.ids t ht id' hid with h | h
   . exact h
   . rw [he] at h
     exact (h (hmem j y hy)).elim
 . intro i x hx
   unfold frs
   rw [List.take_add_one,hx]
   simp
 . intro i o x ho hx
   obtain ⟨o2,_,ho2,hio⟩:=get i x hx
   rw [ho] at ho2
   injection ho2 with ho2
   subst ho2
   exact hio.item
theorem Yj [zj] {P:Program}{X:SX}(hT:kH P X.T)(hW:za P X){dr:Nat->Nat}{lv:Nat->List Nat}{ora:Qz}(hO:qp P ora){fin:SF->Prop}{L N:List K->SF->Prop}{Post:Fr->Prop}(hfin:∀ F,fin F->Post F.er)
 (hL:∀ ks F,(∀ k∈ks,kOK dr k=true)->L ks F->Ex P ks F.er Post) (hN:∀ ks F,(∀ k∈ks,kOK dr k=true)->N ks F->Ex P ks F.er Post):∀ (n:Nat) (ks:List K) (F:SF),(∀ k∈ks,kOK dr k=true)->wp qn X dr lv ora fin L N n ks F->Ex P ks F.er Post:=by
 intro n
 induction n with
 | zero=>intro ks F hk h;exact hN ks F hk h
 | succ n ih =>
   intro ks F hk h
   cases ks with
   | nil=>exact Ex.nil (hfin F h)
   | cons k ks =>
     have hks:∀ k∈ks,kOK dr k=true:=fun x hx=>hk x (List.mem_cons_of_mem _ hx)
     have hk0:=hk k List.mem_cons_self
     have cons1:∀ k',kOK dr k'=true->∀ x∈k'::ks,kOK dr x=true:=fun k' h' x hx=>(List.mem_cons.1 hx).elim (fun e=>e▸h') (hks x)
     have cons2:∀ k' k'',kOK dr k'=true->kOK dr k''=true->∀ x∈k'::k''::ks,kOK dr x=true:=fun k' k'' h' h'' x hx=>(List.mem_cons.1 hx).elim (fun e=>e▸h') (cons1 k'' h'' x)
     cases k with
     | bl id=>exact Ex.bl (ih ks F hks h)
     | lp b=>exact Ex.lp (ih _ F (cons1 _ hk0) h)
     | r all l =>
       obtain ⟨al⟩:=all
       cases l with
       | nil=>exact Ex.reg_end (ih ks F hks h)
       | cons o l =>
         simp only [wp] at h
         obtain ⟨F1,h1,h2⟩:=KJ h
         refine Ex.le h1 ?_
         rcases h2 with ⟨hw,h2⟩ | ⟨hw,h2⟩
         . obtain ⟨F2,h3,h4⟩:=KX h2
           refine Ex.le h3 ?_
           split at h4
           . rename_i d y hd
             obtain ⟨k1,k2⟩:_/\_:=h4
             obtain ⟨t,e,g1,g2,g3,g4,x,tn,q1,q2,q3,q4,q5,q6⟩:=qhF hd
             refine Ex.op_nil hT q1 (hw.le h3) q2 q3 q4 q5 fun b hb=>?_
             cases b with
             | true =>
               refine ih _ _ (cons1 _ rfl) (k1 ?_)
               have h7:=hb rfl _ q6
               have h8:y.len qn=0:=by rw [<-LL.len_rc,h7];rfl
               show (((y.len qn:Nat):Int) == 0)=true
               rw [h8]
               rfl
             | false=>exact ih _ _ (cons1 _ rfl) k2
           . split at h4
             . rename_i d g s hlk
               obtain ⟨k1,k2⟩:_/\_:=h4
               exact qfY hT hlk (hw.le h3) (ih _ _ (cons1 _ rfl) k1) (ih _ _ (cons1 _ rfl) k2)
             . split at h4
               . rename_i ps G hG
                 obtain ⟨hps,h5⟩:=ji ps _ h4
                 exact Ex.op (hw.le h3) (qcz hT hW hO F2 o ps G hG hps) (ih _ G (cons1 _ rfl) h5)
               . exact h4.elim
         . refine Ex.op_not hw ?_
           unfold K9
           split at h2
           . rename_i d hd
             split at h2
             . rename_i hph
               rw [hd]
               dsimp only
               rw [hph]
               exact ih _ _ (cons1 _ rfl) h2
             . exact h2.elim
           . rename_i hd
             rw [hd]
             exact ih _ _ (cons1 _ rfl) h2
     | c x =>
       simp only [wp] at h
       cases x with
       | skip=>exact Ex.skip (ih ks F hks h)
       | region id ops d =>
         obtain ⟨ops⟩:=ops
         cases d with
         | false=>exact Ex.reg (ih _ F (cons1 _ rfl) h)
         | true =>
           dsimp only at h
           have hk0':(match nlt (dr id) 65536 with
            | true=>qb5 ops (dr id)||(nq (dr id) ops.length&&qay ops)
            | false=>YH ops (drS (dr id)) (qnv (dr id)))=true:=hk0
           split at h
           . rename_i hlt
             rw [hlt] at hk0'
             have hst:(qb5 ops (dr id)||(nq (dr id) ops.length&&qay ops))=true:=hk0'
             rw [qfv] at h
             rw [Bool.or_eq_true] at hst
             rcases hst with hst | hst
             . obtain ⟨hle,hall⟩:=qce hst
               obtain ⟨its,G,k1,k2,k3,k4⟩:=Vj hT hO (ops.take (dr id)) F F.er (LE.refl _) h
               obtain ⟨hD,hit,hlt⟩:=qhM hle (fun i o ho hi=>(hall i o ho).2.1 hi) k1 k4
               rw [hlt] at k3
               refine Ex.draw (qiz hst) hD hit (Ex.le k3 ?_)
               rw [jU] at k2
               exact ih _ G (cons1 _ rfl) k2
             . simp only [Bool.and_eq_true] at hst
               obtain ⟨hk,hst⟩:=hst
               have hk:=Nat.eq_of_beq_eq_true hk
               obtain ⟨hst2,hall⟩:=qhG hst
               obtain ⟨its,G,k1,k2,k3,k4⟩:=Vj hT hO (ops.take (dr id)) F F.er (LE.refl _) h
               obtain ⟨hD,hit,hlt⟩:=qhM (Nat.le_of_eq hk) (fun i o ho hi=>by rw [hk];exact hall i o ho) k1 k4
               rw [hlt] at k3
               rw [hk] at hD k3 k2
               refine Ex.draw2 hst2 hD hit (Ex.le k3 ?_)
               rw [jU,List.drop_length] at k2
               exact ih _ G (cons1 _ rfl) k2
           . rename_i hlt
             rw [hlt] at hk0'
             have hst:YH ops (drS (dr id)) (qnv (dr id))=true:=hk0'
             obtain ⟨hst4,hall⟩:=qhg hst
             rw [qfv] at h
             obtain ⟨its,G,k1,k2,k3,k4⟩:=Vj hT hO (ops.take (drS (dr id))) F F.er (LE.refl _) h
             obtain ⟨hD,hit,hlt2⟩:=qhM (Nat.le_of_lt hst4.sl) (fun i o ho hi=>hall i o ho hi) k1 k4
             rw [hlt2] at k3
             split at k2
             . rename_i os hos
               rw [JS] at hos
               split at k2
               . rename_i hgs
                 have hgs:=qjq hgs
                 have hits:∀ (i:Nat) (o:Oper),i<drS (dr id)->ops[i]?=some o->∃ x,its[i]?=some x/\qei P ops F (wo (ops.take (drS (dr id)))) (frs F.er its i) o x:=by
                  intro i o hi ho
                  obtain ⟨x,hx⟩:∃ x,its[i]?=some x:=⟨its[i]'(by rw [hD.len];exact hi),List.getElem?_eq_getElem _⟩
                  exact ⟨x,hx,k4 i o x (by rw [ZE hi];exact ho) hx⟩
                 obtain ⟨hV,hxr⟩:=qcF hT hW hO hits (Q:=fun j G=>Ex P (.r ⟨ops⟩ (ops.drop j)::ks) G Post) (fun j GA hGA=>ih _ GA (cons1 _ rfl) (by rw [jU] at hGA;exact hGA)) k3 (qnv (dr id)) hst4.ll k2
                 exact Ex.draw4 hst4 hD hit hos hgs hxr hV
               . exact k2.elim
             . exact k2.elim
       | seq a b =>
         have hab:jf dr a=true/\jf dr b=true:=by simpa [kOK,jf] using hk0
         exact Ex.seq (ih _ F (cons2 _ _ hab.1 hab.2) h)
       | cond y a b =>
         have hab:jf dr a=true/\jf dr b=true:=by simpa [kOK,jf] using hk0
         dsimp only at h
         split at h
         . rename_i kn t hy
           have hy':ev1 F.er y=.fz (.bool t):=by rw [<-qK,hy];rfl
           have h':(t=true->wp qn X dr lv ora fin L N n (.c a::ks) F)/\(t=false->wp qn X dr lv ora fin L N n (.c b::ks) F):=by
            cases kn with
            | true=>cases t with
              | true=>exact ⟨fun _=>h,fun e=>by cases e⟩
              | false=>exact ⟨(fun e=>by cases e),fun _=>h⟩
            | false =>
              obtain ⟨h1,h2⟩:(t=true->_)/\((!t)=true->_):=h
              exact ⟨h1,fun e=>h2 (by rw [e];rfl)⟩
           clear h
           refine Ex.cond hy' ?_
           cases t with
           | true=>exact ih _ F (cons1 _ hab.1) (h'.1 rfl)
           | false=>exact ih _ F (cons1 _ hab.2) (h'.2 rfl)
         . exact h.elim
       | block id b=>exact Ex.block (ih _ F (cons2 _ _ hk0 rfl) h)
       | loop b =>
         refine Ex.loop (lv (WR b)) ?_
         rw [<-ZW]
         exact hL _ _ (cons2 _ _ hk0 hk0) h
       | exit id =>
         dsimp only at h
         split at h
         . rename_i ks' hp
           exact Ex.exit hp (ih ks' F (fun k hk'=>hks k ((@wK qP _ _ _ hp).2 k hk')) h)
         . exact h.elim
       | ret=>exact Ex.ret (hfin F h)
       | _=>exact h.elim
def qdh:Nat->List (V1 D)->List (Nat×TV B)
 | _,[]=>[]
 | i,x::r=>(i,.v (x.1,fzB x.2))::qdh (i+1) r
def qsg (n:Nat)(args:List (V1 D)):SF:=⟨n,qdh 0 args,[]⟩
theorem qqO (n:Nat)(args:List (V1 D)):(qsg n args).er=enter n (qx D.erL args):=by
 have key:∀ (l:List (V1 D)) (i:Nat),jr (qdh i l)=Zm i (qx D.erL l):=by
  intro l
  induction l with
  | nil=>intro i;rfl
  | cons x l ih=>intro i;simp only [qdh,jr,qx,Zm,ih,TV.er,kf,qix]
 unfold qsg enter SF.er
 simp only [key]
 rfl
def qrX (M:MB)(F:SF):Array ResultVar->R SF
 | ⟨[.tmp t]⟩=>(match qa unB F.tm t with
   | .v (false,[.rf (r,[]) false off n])=>(F.atR M (r,[])).bd fun o=>(match o with
     | .osl x=>(match x.cut M 0 n with
       | some y=>(match qlX (qkg (r,[])) F.tm with
         | some tm=>some ([M.pEqN off 0,M.pLtN 0 n,M.pLeN n (x.len M)],⟨F.n,(t,.v (false,[.rf (r,[]) true 0 n]))::tm,(r,.osl y)::del F.tb r⟩)
         | none=>none)
       | none=>none)
     | _=>none)
   | _=>none)
 | _=>none
theorem qol (F:SF)(rs:Array ResultVar):(qrX qn F rs).Sim fun G=>∃ t r n xs,qji F.er t r n xs/\F.er.shr std t r n xs=G.er:=by
 unfold qrX
 split
 . rename_i t
   split
   . rename_i r off n hx
     refine R.Sim.bd (F.atR_sim (r,[])) fun o ho=>?_
     split
     . rename_i x
       split
       . rename_i y hy
         split
         . rename_i tm htm
           refine R.Sim.mk fun hp=>?_
           obtain ⟨h1,h2,h3⟩:=hp.three
           have h1:off=0:=h1
           have h2:0<n:=h2
           have h3:n<=x.len qn:=h3
           subst h1
           have ho:F.er.at std (r,[])=.osl x.ro:=ho
           refine ⟨t,r,n,x.ro,⟨?_,ho,h2,by rw [LL.len_ro];exact h3⟩,?_⟩
           . show qa unT (jr F.tm) t=_
             rw [QJ,hx]
             rfl
           . have e1:=wJ (τ':=zf std (r,[])) (fun x r' h=>VL (p:=(r,[])) h) F.tm htm
             have e2:std.oCut x.ro 0 n=y.ro:=(LL.cut_ro hy).symm
             unfold Fr.shr
             rw [e2]
             show Fr.mk F.n ((t,TV.v (false,[A.rf (r,[]) 0 n]))::ZJ (zf std (r,[])) (jr F.tm)) ((r,O.osl y.ro)::del (zF F.tb) r)=_
             rw [e1,YW]
             rfl
         . exact R.Sim.none'
       . exact R.Sim.none'
     . exact R.Sim.none'
   . exact R.Sim.none'
 . exact R.Sim.none'
def qfu (M:MB)(T:Nat->Option Ty)(rs:Array ResultVar)(R:TV W->Prop)(F:SF):Prop:=match qrX M F rs with
 | some (ps,G)=>V9 M ps (match yA M T G rs with
   | some (ps,r)=>V9 M ps (R r)
   | none=>M.pNo 22)
 | none=>(match yA M T F rs with
   | some (ps,r)=>V9 M ps (R r)
   | none=>(match rs with
     | ⟨l⟩=>(match qjH M T F l with
       | some (ps,xs)=>V9 M ps (R (qrS xs))
       | none=>M.pNo 14)))
def qs0 (T:Nat->Option Ty)(rs:Array ResultVar)(r:TV W)(F:Fr):Prop:=QL std T false F rs=some (r.er W.erL)\/(∃ xs,Wg std T F rs.toList=some xs/\qi8 xs=r.er W.erL)\/∃ t r0 n xs,qji F t r0 n xs/\QL std T false (F.shr std t r0 n xs) rs=some (r.er W.erL)
theorem qe6 {T:Nat->Option Ty}{rs:Array ResultVar}{r:TV W}{F:SF}(h:qfu qn T rs (fun r'=>r'.er W.erL=r.er W.erL) F):qs0 T rs r F.er:=by
 unfold qfu at h
 split at h
 . rename_i ps G he
   obtain ⟨h1,h2⟩:=ji ps _ h
   split at h2
   . rename_i ps2 r' he2
     obtain ⟨h3,h4⟩:=ji ps2 _ h2
     obtain ⟨t,r0,n,xs,h5,h6⟩:=qol F rs ps G he h1
     right;right
     refine ⟨t,r0,n,xs,h5,?_⟩
     rw [h6,VP T G rs ps2 r' he2 h3,h4]
   . exact h2.elim
 . split at h
   . rename_i ps r' he
     obtain ⟨h1,h2⟩:=ji ps _ h
     left
     rw [VP T F rs ps r' he h1,h2]
   . obtain ⟨l⟩:=rs
     dsimp only at h
     split at h
     . rename_i ps xs he
       obtain ⟨h1,h2⟩:=ji ps _ h
       right;left
       exact ⟨_,qbx T F l ps xs he h1,by rw [qpo,h2]⟩
     . exact h.elim
def SEx (P:Program)(T:Nat->Option Ty)(dr:Nat->Nat)(rs:Array ResultVar)(ks:List K)(F:SF)(r:TV W):Prop:=(∀ k∈ks,kOK dr k=true)->@Ex _ Yx P ks F.er (qs0 T rs r)
theorem SEx.walk {P:Program}{X:SX}(hT:kH P X.T){dr:Nat->Nat}(lv:Nat->List Nat){ora:Qz}(hO:qp P ora){rs:Array ResultVar}{ks:List K}{F:SF}{r:TV W}(n:Nat)
 (h:∀ (M:MB) (R:TV W->Prop) (L N:List K->SF->Prop),M=qn->(∀ r',r'.er W.erL=r.er W.erL->R r')->(∀ ks F,SEx P X.T dr rs ks F r->L ks F)->(∀ ks F,SEx P X.T dr rs ks F r->N ks F)->wp M X dr lv ora (qfu M X.T rs R) L N n ks F) (hW:za P X:=by exact fun _ _ _=>YD):SEx P X.T dr rs ks F r:=by
 intro hk
 letI:zj:=Yx
 refine Yj hT hW hO (fin:=qfu qn X.T rs fun r'=>r'.er W.erL=r.er W.erL) (L:=fun ks F=>SEx P X.T dr rs ks F r) (N:=fun ks F=>SEx P X.T dr rs ks F r) ?_ (fun ks F hk h=>h hk) (fun ks F hk h=>h hk) n ks F hk (h qn _ _ _ rfl (fun _ h=>h) (fun _ _ h=>h) (fun _ _ h=>h))
 exact fun F hF=>qe6 hF
def qe (P:Program)(g:FuncId)(args:List (V1 D))(r:TV W):Prop:=zt P g (qx D.erL args) (r.er W.erL)
theorem qe.of {P : Program} {T : Nat → Option Ty} (hT : kH P T) {g : FuncId} {fn : Func} {c : Code} {args : List (V1 D)} {r : TV W} {dr : Nat → Nat} (hf : P.funcs[g]? = some fn) (hb : fn.body = some c) (hnm : (fn.name == "runtime.NumGoroutine") = false) (h1 : (nle (cnt args) fn.ntmps && nle (cnt args) 1000) = true) (hc : jf dr c = true)
 (h:SEx P T dr fn.results [.c c] (qsg fn.ntmps args) r):qe P g args r:=by
 rw [Bool.and_eq_true] at h1
 have hl:∀ l:List (V1 D),(qx D.erL l).length=cnt l:=by intro l;induction l with | nil=>rfl | cons x l ih=>simp [qx,cnt,ih]
 refine @zt.of_Ex _ Yx _ _ hT _ _ _ _ _ false hf hb hnm ?_ ?_ ?_
 . rw [hl]
   exact qC h1.1
 . rw [hl]
   exact Nat.le_trans (qC h1.2) (by decide)
 . have:=h (fun k hk=>by simp at hk;subst hk;exact hc)
   rwa [qqO] at this
theorem SEx.ind {P:Program}{T:Nat->Option Ty}{dr:Nat->Nat}{rs:Array ResultVar}{ks:List K}{α:Type}(f:α->SF)(R:α->TV W)(Inv:α->Prop)(μ:α->Nat)(x0:α)(hI:Inv x0)
 (step:∀ x,Inv x->(∀ y,Inv y->μ y<μ x->SEx P T dr rs ks (f y) (R y))->SEx P T dr rs ks (f x) (R x)):SEx P T dr rs ks (f x0) (R x0):=by
 have key:∀ n x,μ x=n->Inv x->SEx P T dr rs ks (f x) (R x):=by
  intro n
  induction n using Nat.strongRecOn with
  | _ n ih =>
    intro x hx hI
    exact step x hI (fun y hy hlt=>ih (μ y) (by omega) y rfl hy)
 exact key _ x0 rfl hI
theorem SEx.keep {P:Program}{T:Nat->Option Ty}{dr:Nat->Nat}{rs:Array ResultVar}{ks:List K}{F:SF}{r:TV W}(l:List Nat)(h:SEx P T dr rs ks (F.keepB l) r):SEx P T dr rs ks F r:=by
 intro hk
 have:=h hk
 rw [ZW] at this
 exact @Ex.weak _ Yx _ _ _ _ (F.er.keep l) rfl (fun J σ w vt hF hd=>by letI:=J;exact KA hF hd l) this
def qqA:List K->Nat
 | .r _ (o::_)::_=>(match o.dst with | some d=>d+1 | none=>0)
 | _=>0
def SF.trimB (F:SF)(lv:Nat->Option (List Nat))(n:Nat):SF:=match lv n with | some l=>F.keepB l | none=>F
theorem SEx.trim {P:Program}{T:Nat->Option Ty}{dr:Nat->Nat}{rs:Array ResultVar}{ks:List K}{F:SF}{r:TV W}(lv:Nat->Option (List Nat))(h:SEx P T dr rs ks (F.trimB lv (qqA ks)) r):SEx P T dr rs ks F r:=by
 unfold SF.trimB at h
 split at h
 . exact SEx.keep _ h
 . exact h
theorem SEx.go {P:Program}{X:SX}(hT:kH P X.T){dr:Nat->Nat}(lv:Nat->List Nat)(lt:Nat->Option (List Nat)){ora:Qz}(hO:qp P ora){rs:Array ResultVar}{ks:List K}{F:SF}{r:TV W}(n:Nat)
 (h:∀ (M:MB) (R:TV W->Prop) (L N:List K->SF->Prop),M=qn->(∀ p q:Prop,p->q->M.pAnd p q)->(∀ (b:Bool) (p:Prop),(b=true->p)->M.pImp b p)->(∀ r',r'.er W.erL=r.er W.erL->R r')->(∀ ks F,SEx P X.T dr rs ks F r->L ks F) →
   (∀ ks F,wp M X dr lv ora (qfu M X.T rs R) L N n ks (F.trimB lt (qqA ks))->N ks F)->wp M X dr lv ora (qfu M X.T rs R) L N n ks F) (hW:za P X:=by exact fun _ _ _=>YD):SEx P X.T dr rs ks F r:=by
 have key:∀ ks F,wp qn X dr lv ora (qfu qn X.T rs fun r'=>r'.er W.erL=r.er W.erL) (fun ks F=>SEx P X.T dr rs ks F r) (fun ks F=>SEx P X.T dr rs ks F r) n ks F->SEx P X.T dr rs ks F r:=by
  intro ks F hw hk
  letI:zj:=Yx
  refine Yj hT hW hO (fin:=qfu qn X.T rs fun r'=>r'.er W.erL=r.er W.erL) (L:=fun ks F=>SEx P X.T dr rs ks F r) (N:=fun ks F=>SEx P X.T dr rs ks F r) ?_ (fun ks F hk h=>h hk) (fun ks F hk h=>h hk) n ks F hk hw
  exact fun F hF=>qe6 hF
 exact key ks F (h qn _ _ _ rfl (fun _ _ h1 h2=>⟨h1,h2⟩) (fun _ _ h=>h) (fun _ h=>h) (fun _ _ h=>h) (fun ks F hw=>SEx.trim lt (key ks _ hw)))
theorem SEx.same {P:Program}{T:Nat->Option Ty}{dr:Nat->Nat}{rs:Array ResultVar}{ks:List K}{F G:SF}{r r':TV W}(h:SEx P T dr rs ks G r')(he:G.er=F.er)(hr:r'.er W.erL=r.er W.erL):SEx P T dr rs ks F r:=by
 intro hk
 have:=h hk
 unfold qs0 at this ⊢
 rw [he,hr] at this
 exact this
end Go.Proofs.YtifnopmkdempdaaGreat.Ai
namespace Go.Proofs.YtifnopmkdempdaaGreat.Ai
open Go
variable [qg]
theorem qq.frzOwn [qj] {w:World}{σ σ':Gh}(hst:kI w σ w σ'){p:qk}{o:O}{v:Value}(h:qq w σ p o v):o.clean=true →
 (∀ g s n cap sz,σ g=some ⟨(p.1,p.2++s),n,cap,sz⟩->j8 σ' g)->qt w σ' o.frz v:=by
 induction h with
 | un p v hv=>intro h;cases h
 | fz p c v h=>exact fun _ _=>h.move (Nat.le_refl _) hst
 | oslz p b=>exact fun _ _=>qt.sl [] 0 b 0 (fun _ _=>undef) (Nat.le_refl _) (by simp) (by simp) (by simp) (by simp)
 | osl p xs e sz g cap cur us hh hc hcm hl hs hg hm hr ih =>
   intro hcl hfr
   simp only [O.clean,O.cleanLL_eq,List.all_eq_true] at hcl
   have hlen:(O.frzLL xs).length=xs.length:=by simp [O.frzLL_eq]
   show qt w σ' (.sl (O.frzLL xs)) _
   rw [<-hlen]
   have hget:∀ (i j:Nat) (y:List C) (c:C),(O.frzLL xs)[i]?=some y->y[j]?=some c->∃ y' o,xs[i]?=some y'/\y'[j]?=some o/\c=o.frz:=by
    intro i j y c hi hj
    rw [O.frzLL_eq,List.getElem?_map] at hi
    cases hx:xs[i]? with
    | none=>rw [hx] at hi;simp at hi
    | some y' =>
      rw [hx] at hi
      simp at hi
      subst hi
      rw [List.getElem?_map] at hj
      cases ho:y'[j]? with
      | none=>rw [ho] at hj;simp at hj
      | some o=>rw [ho] at hj;simp at hj;exact ⟨y',o,rfl,ho,hj.symm⟩
   refine qt.sl _ sz _ cap us (by omega) ?_ (fun _=>⟨_,rfl,rfl,kX hh,hfr g [] _ _ _ (by simpa using hg)⟩) ?_ ?_
   . intro y hy
     rw [O.frzLL_eq] at hy
     obtain ⟨y',hy',rfl⟩:=List.mem_map.1 hy
     simpa using hs y' hy'
   . intro ad e i j y c hi hj
     injection e with e
     subst e
     obtain ⟨y',o,h1,h2,rfl⟩:=hget i j y c hi hj
     rw [q9]
     simp only [World.cell?,hh]
     simpa using hm i j y' o h1 h2
   . intro i j y c hi hj
     obtain ⟨y',o,h1,h2,rfl⟩:=hget i j y c hi hj
     refine ih i j y' o h1 h2 (hcl y' (List.mem_of_getElem? h1) o (List.mem_of_getElem? h2)) fun g s n cap sz hg=>?_
     exact hfr g ((i,j)::s) n cap sz (by simpa using hg)
 | obx p cs g e cells us n' cap sz hh hl hg hm hr ih =>
   intro hcl hfr
   simp only [O.clean,O.cleanL_eq,List.all_eq_true] at hcl
   show qt w σ' (.ptr (O.frzL cs)) _
   have hget:∀ (j:Nat) (c:C),(O.frzL cs)[j]?=some c->∃ o,cs[j]?=some o/\c=o.frz:=by
    intro j c hj
    rw [O.frzL_eq,List.getElem?_map] at hj
    cases ho:cs[j]? with
    | none=>rw [ho] at hj;simp at hj
    | some o=>rw [ho] at hj;simp at hj;exact ⟨o,rfl,hj.symm⟩
   refine qt.ptr _ _ us rfl (kX hh) (hfr g [] _ _ _ (by simpa using hg)) ?_ ?_
   . intro j c hj
     obtain ⟨o,h1,rfl⟩:=hget j c hj
     rw [q9]
     simp only [World.cell?,hh]
     simpa using hm j o h1
   . intro j c hj
     obtain ⟨o,h1,rfl⟩:=hget j c hj
     refine ih j o h1 (hcl o (List.mem_of_getElem? h1)) fun g s n cap sz hg=>?_
     exact hfr g ((0,j)::s) n cap sz (by simpa using hg)
def FzA (r:Nat)(c:C)(n:Nat)(a b:A):Prop:=(a=.rf (r,[]) 0 n/\b=.fz c)\/(b=a/\r∉a.ids)
def FzL (r:Nat)(c:C)(n:Nat)(x y:List A):Prop:=x.length=y.length/\∀ (j:Nat) (a b:A),x[j]?=some a->y[j]?=some b->FzA r c n a b
def FzT (r:Nat)(c:C)(n:Nat):TV A->TV A->Prop
 | .v x,.v y=>x.1=y.1/\FzL r c n x.2 y.2
 | .tup xs,.tup ys=>xs.length=ys.length/\∀ (k:Nat) (x y:V1 A),xs[k]?=some x->ys[k]?=some y->x.1=y.1/\FzL r c n x.2 y.2
 | _,_=>False
theorem FzL.back {r:Nat}{c:C}{n:Nat}{x y:List A}(h:FzL r c n x y){j:Nat}{b:A}(hb:y[j]?=some b):∃ a,x[j]?=some a/\FzA r c n a b:=by
 have hj:j<x.length:=by rw [h.1];exact (List.getElem?_eq_some_iff.1 hb).1
 exact ⟨x[j],List.getElem?_eq_getElem hj,h.2 j _ b (List.getElem?_eq_getElem hj) hb⟩
structure qt4 (F:Fr)(r:Nat)(xs:List (List O))(G:Fr):Prop where
 n:G.n=F.n
 lies:F.at std (r,[])=.osl xs
 cl:O.cleanLL xs=true
 tb:∀ id,qa .un G.tb id=if id=r then .un else qa .un F.tb id
 tm:∀ t,FzT r (.sl (O.frzLL xs)) xs.length (qa unT F.tm t) (qa unT G.tm t)
theorem qnp {F G:Fr}{r:Nat}{xs:List (List O)}(h:qt4 F r xs G){J:qj}{σ:Gh}{w:World}{vt:Nat->Value}(hF:FR F σ w vt)(hd:Dom F σ [])(hnf:@NF Yx J σ):∃ σ',FR G σ' w vt/\Dom G σ' []/\qJ w σ w σ':=by
 let σ':Gh:=fun g=>match σ g with | some y=>if y.p.1=r then none else some y | none=>none
 have hk:∀ g y,σ g=some y->y.p.1≠r->σ' g=some y:=by intro g y hy hi;simp only [σ',hy,if_neg hi]
 have hsub:∀ g y,σ' g=some y->σ g=some y/\y.p.1≠r:=by
  intro g y hy
  simp only [σ'] at hy
  split at hy
  . rename_i z hz
    split at hy
    . cases hy
    . rename_i hi;injection hy with hy;subst hy;exact ⟨hz,hi⟩
  . cases hy
 have hst:kI w σ w σ':=⟨fun b _ h0=>by simp only [σ',h0],fun _ _ _=>.inl rfl⟩
 obtain ⟨u,hu⟩:=zo hF (r,[])
 rw [h.lies] at hu
 have hfree:∀ g s n cap sz,σ g=some ⟨(r,[]++s),n,cap,sz⟩->j8 σ' g:=fun g s n cap sz hg=>⟨by simp only [σ',hg,if_true],hnf rfl g _ hg⟩
 have hown:∀ v,ql w σ (.rf (r,[]) 0 xs.length) v->qt w σ' (.sl (O.frzLL xs)) v:=by
  intro v hv
  have hfz:qt w σ' (.sl (O.frzLL xs)) u:=hu.frzOwn hst h.cl hfree
  generalize hlen:xs.length=len at hv
  cases hv with
  | rz _ _ b =>
    have:xs=[]:=List.eq_nil_of_length_eq_zero hlen
    subst this
    exact qt.sl [] 0 b 0 (fun _ _=>undef) (Nat.le_refl _) (by simp) (by simp) (by simp) (by simp)
  | rf _ _ _ g n cap sz hg hl hn =>
    cases hu with
    | oslz =>
      simp only [List.length_nil] at hlen
      subst hlen
      exact qt.sl [] 0 _ _ (fun _ _=>undef) (Nat.zero_le _) (by simp) (by simp) (by simp) (by simp)
    | osl _ _ e sz' g' cap' cur us hh hc hcm hl2 hs hg' hm hr =>
      obtain rfl:=hF.inj _ _ _ _ hg hg' rfl
      rw [hg] at hg'
      simp only [Option.some.injEq,Own.mk.injEq] at hg'
      obtain ⟨_,rfl,rfl,rfl⟩:=hg'
      rw [<-hlen,Nat.zero_mul,Nat.sub_zero]
      exact hfz
 have hA:∀ {a b:A} {v:Value},FzA r (.sl (O.frzLL xs)) xs.length a b->ql w σ a v->ql w σ' b v:=by
  intro a b v hab ha
  rcases hab with ⟨rfl,rfl⟩ | ⟨rfl,hi⟩
  . exact .fz _ _ (hown v ha)
  . exact ha.kept (S:=fun id=>id≠r) hk hst (fun id hid e=>hi (e▸hid))
 have hL:∀ {x y:V1 A} {v:Value},x.1=y.1->FzL r (.sl (O.frzLL xs)) xs.length x.2 y.2->qU (fun _=>ql w σ) x v->qU (fun _=>ql w σ') y v:=by
  intro x y v hg hl hx
  obtain ⟨g,as⟩:=x
  obtain ⟨g',bs⟩:=y
  obtain rfl:g=g':=hg
  cases g with
  | true =>
    obtain ⟨cs,rfl,h1,h2⟩:=hx
    refine ⟨cs,rfl,by rw [h1];exact hl.1,fun j b hj=>?_⟩
    obtain ⟨a,ha,hab⟩:=hl.back hj
    obtain ⟨u,h3,h4⟩:=h2 j a ha
    exact ⟨u,h3,hA hab h4⟩
  | false =>
    match as,bs,hl,hx with
    | [a],[b],hl,hx=>exact hA (hl.2 0 a b rfl rfl) hx
    | [a],[],hl,_=>simp [FzL] at hl
    | [a],_::_::_,hl,_=>simp [FzL] at hl
 refine ⟨σ',⟨fun g g' x y hx hy he=>hF.inj g g' x y (hsub g x hx).1 (hsub g' y hy).1 he,fun g x hx=>hF.lt g x (hsub g x hx).1,hF.old,fun id=>?_,fun t=>?_⟩,fun g x hx=>?_,⟨hst,Nat.le_refl _,rfl,rfl,rfl⟩⟩
 . rw [h.tb]
   split
   . exact ⟨.bool false,.un _ _ rfl⟩
   . rename_i hi
     obtain ⟨v,hv⟩:=hF.tb id
     exact ⟨v,hv.move (Nat.le_refl _) hst _ fun g s n cap sz hg _=>⟨rfl,hk g _ hg hi⟩⟩
 . have h1:=h.tm t
   have h2:=hF.tm t
   generalize qa unT F.tm t=x at h1 h2
   generalize qa unT G.tm t=y at h1
   cases x with
   | v x=>cases y with
     | v y=>exact hL h1.1 h1.2 h2
     | tup _=>exact h1.elim
   | tup xs'=>cases y with
     | v y=>exact h1.elim
     | tup ys =>
       obtain ⟨vs,e,h3,h4⟩:=h2
       refine ⟨vs,e,h3.trans h1.1,fun k y hk'=>?_⟩
       have hlt:k<xs'.length:=by rw [h1.1];exact (List.getElem?_eq_some_iff.1 hk').1
       obtain ⟨u,h5,h6⟩:=h4 k _ (List.getElem?_eq_getElem hlt)
       obtain ⟨h7,h8⟩:=h1.2 k _ y (List.getElem?_eq_getElem hlt) hk'
       exact ⟨u,h5,hL h7 h8 h6⟩
 . obtain ⟨h1,h2⟩:=hsub g x hx
   rcases hd g x h1 with h3 | ⟨_,_,_,h3,_⟩
   . left
     unfold Fr.at at h3 ⊢
     rw [h.tb,if_neg h2]
     exact h3
   . cases h3
def qsn (r:Nat)(d:D):B->Option (List Nat×B)
 | .rf p w off len=>match nq p.1 r with
   | false=>some ([],.rf p w off len)
   | true=>(match p.2,off with
     | [],0=>some ([len],.fz d)
     | _,_=>none)
 | .pp p i j=>match nq p.1 r with
   | false=>some ([],.pp p i j)
   | true=>none
 | .clo f caps=>match qhe (VX caps) r with
   | false=>some ([],.clo f caps)
   | true=>none
 | x=>some ([],x)
def qmI (r:Nat)(d:D):List B->Option (List Nat×List B)
 | []=>some ([],[])
 | a::l=>match qsn r d a,qmI r d l with
   | some x,some y=>some (Qs x.1 y.1,x.2::y.2)
   | _,_=>none
def qgi (r:Nat)(d:D):List (V1 B)->Option (List Nat×List (V1 B))
 | []=>some ([],[])
 | a::l=>match qmI r d a.2,qgi r d l with
   | some x,some y=>some (Qs x.1 y.1,(a.1,x.2)::y.2)
   | _,_=>none
def qqw (r:Nat)(d:D):TV B->Option (List Nat×TV B)
 | .v x=>match qmI r d x.2 with
   | some y=>some (y.1,.v (x.1,y.2))
   | none=>none
 | .tup xs=>match qgi r d xs with
   | some y=>some (y.1,.tup y.2)
   | none=>none
def qpf (r:Nat)(d:D):List (Nat×TV B)->Option (List Nat×List (Nat×TV B))
 | []=>some ([],[])
 | a::l=>match qqw r d a.2,qpf r d l with
   | some x,some y=>some (Qs x.1 y.1,(a.1,x.2)::y.2)
   | _,_=>none
theorem qdl {l r:List Nat}{n:Nat}(h:∀ x∈Qs l r,x=n):(∀ x∈l,x=n)/\∀ x∈r,x=n:=by
 rw [jL] at h
 exact ⟨fun x hx=>h x (List.mem_append_left _ hx),fun x hx=>h x (List.mem_append_right _ hx)⟩
theorem qoM {a b:Nat}(h:nq a b=false):a≠b:=fun e=>by subst e;simp at h
theorem qq6 {r:Nat}{d:D}{n:Nat}{b:B}{x:List Nat×B}(h:qsn r d b=some x)(hn:∀ m∈x.1,m=n):FzA r d.er n b.er x.2.er:=by
 unfold qsn at h
 split at h
 . rename_i p w off len
   split at h
   . rename_i hne
     injection h with h;subst h
     exact .inr ⟨rfl,by simp only [B.er,A.ids,SP.er,List.mem_singleton];exact fun e=>qoM hne e.symm⟩
   . rename_i he
     have he2:=Nat.eq_of_beq_eq_true he
     clear he
     split at h
     . rename_i hp
       injection h with h;subst h
       obtain rfl:=hn _ List.mem_cons_self
       obtain ⟨p1,p2⟩:=p
       dsimp only at hp he2
       subst hp he2
       exact .inl ⟨rfl,rfl⟩
     . cases h
 . rename_i p i j
   split at h
   . rename_i hne
     injection h with h;subst h
     exact .inr ⟨rfl,by simp only [B.er,A.ids,SP.er,List.mem_singleton];exact fun e=>qoM hne e.symm⟩
   . cases h
 . rename_i f caps
   split at h
   . rename_i hm
     injection h with h;subst h
     refine .inr ⟨rfl,fun hh=>?_⟩
     have hh:r∈VX caps:=by rw [<-Jj];simpa only [B.er,A.ids] using hh
     rw [yT.2 hh] at hm
     cases hm
   . cases h
 . rename_i h1 h2 h3
   injection h with h;subst h
   refine .inr ⟨rfl,?_⟩
   cases b with
   | un=>simp [B.er,A.ids]
   | ud=>simp [B.er,A.ids]
   | fz d=>simp [B.er,A.ids]
   | rf p w o l=>exact (h1 p w o l rfl).elim
   | pp p i j=>exact (h2 p i j rfl).elim
   | clo f c=>exact (h3 f c rfl).elim
theorem qcA {r:Nat}{d:D}{n:Nat}:∀ {l:List B} {x:List Nat×List B},qmI r d l=some x->(∀ m∈x.1,m=n)->FzL r d.er n (B.erL l) (B.erL x.2)
 | [],x,h,_=>by simp only [qmI,Option.some.injEq] at h;subst h;exact ⟨rfl,fun j a b h=>by simp [B.erL] at h⟩
 | a::l,x,h,hn=>by
   simp only [qmI] at h
   split at h
   . rename_i y z hy hz
     injection h with h;subst h
     obtain ⟨h1,h2⟩:=qdl hn
     have h3:=qq6 hy h1
     have h4:=qcA hz h2
     refine ⟨by simp only [B.erL,List.length_cons,h4.1],fun j a' b' ha hb=>?_⟩
     cases j with
     | zero=>simp only [B.erL,List.getElem?_cons_zero,Option.some.injEq] at ha hb;subst ha hb;exact h3
     | succ j=>exact h4.2 j a' b' (by simpa [B.erL] using ha) (by simpa [B.erL] using hb)
   . cases h
theorem qfC {r:Nat}{d:D}{n:Nat}:∀ {l:List (V1 B)} {x:List Nat×List (V1 B)},qgi r d l=some x->(∀ m∈x.1,m=n)->(qx B.erL l).length=(qx B.erL x.2).length/\∀ (k:Nat) (p q:V1 A),(qx B.erL l)[k]?=some p->(qx B.erL x.2)[k]?=some q->p.1=q.1/\FzL r d.er n p.2 q.2
 | [],x,h,_=>by simp only [qgi,Option.some.injEq] at h;subst h;exact ⟨rfl,fun j a b h=>by simp [qx] at h⟩
 | a::l,x,h,hn=>by
   simp only [qgi] at h
   split at h
   . rename_i y z hy hz
     injection h with h;subst h
     obtain ⟨h1,h2⟩:=qdl hn
     have h3:=qcA hy h1
     have h4:=qfC hz h2
     refine ⟨by simp only [qx,List.length_cons,h4.1],fun j a' b' ha hb=>?_⟩
     cases j with
     | zero=>simp only [qx,List.getElem?_cons_zero,Option.some.injEq] at ha hb;subst ha hb;exact ⟨rfl,h3⟩
     | succ j=>exact h4.2 j a' b' (by simpa [qx] using ha) (by simpa [qx] using hb)
   . cases h
theorem qpV {r:Nat}{d:D}{n:Nat}{t:TV B}{x:List Nat×TV B}(h:qqw r d t=some x)(hn:∀ m∈x.1,m=n):FzT r d.er n (t.er B.erL) (x.2.er B.erL):=by
 cases t with
 | v t =>
   simp only [qqw] at h
   split at h
   . rename_i y hy
     injection h with h;subst h
     exact ⟨rfl,qcA hy hn⟩
   . cases h
 | tup ts =>
   simp only [qqw] at h
   split at h
   . rename_i y hy
     injection h with h;subst h
     exact qfC hy hn
   . cases h
theorem qi4 {r:Nat}{d:D}{n:Nat}:∀ {l:List (Nat×TV B)} {x:List Nat×List (Nat×TV B)},qpf r d l=some x->(∀ m∈x.1,m=n)->∀ t,FzT r d.er n (qa unT (jr l) t) (qa unT (jr x.2) t)
 | [],x,h,_=>by
   simp only [qpf,Option.some.injEq] at h;subst h
   intro t
   refine ⟨rfl,rfl,fun j a b ha hb=>.inr ?_⟩
   cases j with
   | zero=>simp only [jr,qa,unT,List.getElem?_cons_zero,Option.some.injEq] at ha hb;subst ha hb;exact ⟨rfl,by simp [A.ids]⟩
   | succ j=>simp [jr,qa,unT] at ha
 | a::l,x,h,hn=>by
   simp only [qpf] at h
   split at h
   . rename_i y z hy hz
     injection h with h;subst h
     obtain ⟨h1,h2⟩:=qdl hn
     intro t
     obtain ⟨k,v⟩:=a
     simp only [jr,qa]
     cases nq k t with
     | true=>exact qpV hy h1
     | false=>exact qi4 hz h2 t
   . cases h
theorem qls (l:List (Nat×O))(r id:Nat):qa .un (del l r) id=if id=r then .un else qa .un l id:=by
 induction l with
 | nil=>simp [del,qa]
 | cons x l ih =>
   obtain ⟨k,v⟩:=x
   simp only [del]
   cases hk:nq k r with
   | true =>
     have hk:=Nat.eq_of_beq_eq_true hk
     subst hk
     show qa .un (del l k) id=_
     rw [ih]
     split
     . rfl
     . rename_i hne
       simp only [qa]
       have:nq k id=false:=by cases h:nq k id with | false=>rfl | true=>exact absurd (Nat.eq_of_beq_eq_true h).symm hne
       rw [this]
       rfl
   | false =>
     show qa .un ((k,v)::del l r) id=_
     simp only [qa]
     cases h:nq k id with
     | true =>
       have h:=Nat.eq_of_beq_eq_true h
       subst h
       rw [if_neg (qoM hk)]
       rfl
     | false=>exact ih
theorem SEx.freeze {P:Program}{T:Nat->Option Ty}{dr:Nat->Nat}{rs:Array ResultVar}{ks:List K}{n:Nat}{tm:List (Nat×TV B)}{tb:List (Nat×W)}{res:TV W}(r:Nat){x:LL}{y:List Nat×List (Nat×TV B)}
 (hx:qa .un tb r=.osl x) (hc:x.clean=true) (hy:qpf r (.sl x.thaw) tm=some y) (hl:∀ m∈y.1,m=x.len qn) (h:SEx P T dr rs ks ⟨n,y.2,del tb r⟩ res):SEx P T dr rs ks ⟨n,tm,tb⟩ res:=by
 intro hk
 letI:zj:=Yx
 refine Ex.weakN (G:=(SF.mk n y.2 (del tb r)).er) rfl (fun J σ w vt hF hd hnf=>?_) (h hk)
 have hh:=Yk hc
 have e1:O.frzLL x.ro=x.rc:=LL.frz_ro x hh
 have e2:(D.sl x.thaw).er=.sl (O.frzLL x.ro):=by rw [e1];cases x<;>rfl
 have e3:x.len qn=x.ro.length:=(LL.len_ro x).symm
 refine qnp (F:=(SF.mk n tm tb).er) (G:=(SF.mk n y.2 (del tb r)).er) (r:=r) (xs:=x.ro) ⟨rfl,?_,LL.clean_ro x hc,fun id=>?_,fun t=>?_⟩ hF hd hnf
 . show (qa .un (zF tb) r).at std []=_
   rw [yC,hx]
   rfl
 . show qa .un (zF (del tb r)) id=_
   rw [<-YW]
   exact qls _ _ _
 . rw [<-e2,<-e3]
   exact qi4 hy hl t
end Go.Proofs.YtifnopmkdempdaaGreat.Ai
namespace Go.Proofs.YtifnopmkdempdaaGreat.Ai
open Go
variable [qg]
abbrev RW:=TV B×List (Nat×W)×List B
def RW.eqv (x y:RW):Prop:=x.1.er B.erL=y.1.er B.erL/\zF x.2.1=zF y.2.1/\B.erL x.2.2=B.erL y.2.2
def qc1 (M:MB)(T:Nat->Option Ty)(F:SF):List ResultVar->R (List (V1 B))
 | []=>R.ok []
 | rv::r=>(qbP M T F rv).bd fun v=>(match v with
   | .v x=>(qc1 M T F r).bd fun l=>R.ok (x::l)
   | .tup _=>none)
theorem Y5 (T:Nat->Option Ty)(F:SF):∀ rs:List ResultVar,(qc1 qn T F rs).Sim fun xs=>VZ T F.er rs=some (qx B.erL xs)
 | []=>R.Sim.ok rfl
 | rv::r=>by
   simp only [qc1]
   refine R.Sim.bd (W2 T F rv) fun v hv=>?_
   split
   . refine R.Sim.bd (Y5 T F r) fun l hl=>R.Sim.ok ?_
     simp only [VZ,hv,hl,TV.er,qx]
   . exact R.Sim.none'
def qrQ:List (V1 B)->TV B
 | [x]=>.v x
 | xs=>.tup xs
theorem qpw (xs:List (V1 B)):qpP (qx B.erL xs)=(qrQ xs).er B.erL:=by
 match xs with
 | []=>rfl
 | [x]=>rfl
 | x::y::r=>rfl
def ql6 (F:SF):Nat->Nat->List B
 | _,0=>[]
 | i,m+1=>qlz (qa unB F.tm (PH+i))::ql6 F (i+1) m
def qjd (F:SF):Nat->Nat->Bool
 | _,0=>true
 | i,m+1=>match qa unB F.tm (PH+i) with
   | .v (false,[_])=>qjd F (i+1) m
   | _=>false
theorem qqi (F:SF):∀ (m i:Nat),qjd F i m=true->∀ (k:Nat) (x:A),(B.erL (ql6 F i m))[k]?=some x->qa unT F.er.tm (PH+(i+k))=.v (false,[x]):=by
 intro m
 induction m with
 | zero=>intro i _ k x h;simp [ql6,B.erL] at h
 | succ m ih =>
   intro i h k x hk
   simp only [qjd] at h
   split at h
   . rename_i b hb
     cases k with
     | zero =>
       simp only [ql6,B.erL,hb,qlz,List.getElem?_cons_zero,Option.some.injEq] at hk
       show qa unT (jr F.tm) (PH+(i+0))=_
       rw [QJ,Nat.add_zero,hb,<-hk]
       rfl
     | succ k =>
       simp only [ql6,B.erL,List.getElem?_cons_succ] at hk
       rw [show i+(k+1)=i+1+k by omega]
       exact ih (i+1) h k x hk
   . cases h
def qdj:List ResultVar->List Nat
 | []=>[]
 | .tmp t::r=>t::qdj r
 | .cell a _::r=>a::qdj r
def qnC:Nat->Nat->List Nat
 | _,0=>[]
 | i,m+1=>(PH+i)::qnC (i+1) m
def qbU (M:MB)(T:Nat->Option Ty)(rs:Array ResultVar)(m:Nat)(R:RW->Prop)(F:SF):Prop:=match rs with
 | ⟨rs⟩=>(match F.keepB (Qs (qdj rs) (qnC 0 m)) with
   | G=>(match qjd G 0 m with
     | true=>(match qc1 M T G rs with
       | some (ps,xs)=>V9 M ps (R (qrQ xs,G.tb,ql6 G 0 m))
       | none=>M.pNo 17)
     | false=>M.pNo 18))
def qpy (T:Nat->Option Ty)(rs:Array ResultVar)(x:RW):Fr->Prop:=fun F'=>∃ l,(∃ xs,VZ T (F'.keep l) rs.toList=some xs/\qpP xs=x.1.er B.erL) ∧
 (∀ (i:Nat) (y:A),(B.erL x.2.2)[i]?=some y->qa unT (F'.keep l).tm (PH+i)=.v (false,[y]))/\(F'.keep l).tb=zF x.2.1
theorem qfG {T:Nat->Option Ty}{rs:Array ResultVar}{m:Nat}{x:RW}{F:SF}(h:qbU qn T rs m (fun y=>RW.eqv y x) F):qpy T rs x F.er:=by
 obtain ⟨rs⟩:=rs
 unfold qbU at h
 dsimp only at h
 split at h
 . rename_i hph
   split at h
   . rename_i ps xs he
     obtain ⟨h1,h2,h3,h4⟩:=ji ps _ h
     refine ⟨Qs (qdj rs) (qnC 0 m),⟨qx B.erL xs,?_,?_⟩,?_,?_⟩
     . rw [<-ZW]
       exact Y5 T _ rs ps xs he h1
     . rw [qpw];exact h2
     . intro i y hy
       rw [<-ZW]
       rw [<-h4] at hy
       have:=qqi _ m 0 hph i y hy
       rwa [Nat.zero_add] at this
     . rw [<-ZW]
       exact h3
   . exact h.elim
 . exact h.elim
def zT (P:Program)(T:Nat->Option Ty)(dr:Nat->Nat)(rs:Array ResultVar)(ks:List K)(F:SF)(x:RW):Prop:=(∀ k∈ks,kOK dr k=true)->@Ex _ qq2 P ks F.er (qpy T rs x)
theorem zT.keep {P:Program}{T:Nat->Option Ty}{dr:Nat->Nat}{rs:Array ResultVar}{ks:List K}{F:SF}{r:RW}(l:List Nat)(h:zT P T dr rs ks (F.keepB l) r):zT P T dr rs ks F r:=by
 intro hk
 have:=h hk
 rw [ZW] at this
 exact @Ex.weak _ qq2 _ _ _ _ (F.er.keep l) rfl (fun J σ w vt hF hd=>by letI:=J;exact KA hF hd l) this
theorem zT.trim {P:Program}{T:Nat->Option Ty}{dr:Nat->Nat}{rs:Array ResultVar}{ks:List K}{F:SF}{r:RW}(lv:Nat->Option (List Nat))(h:zT P T dr rs ks (F.trimB lv (qqA ks)) r):zT P T dr rs ks F r:=by
 unfold SF.trimB at h
 split at h
 . exact zT.keep _ h
 . exact h
theorem zT.go {P:Program}{X:SX}(hT:kH P X.T){dr:Nat->Nat}(lv:Nat->List Nat)(lt:Nat->Option (List Nat)){ora:Qz}(hO:qp P ora){rs:Array ResultVar}{ks:List K}{F:SF}{r:RW}(n m:Nat)
 (h:∀ (M:MB) (R:RW->Prop) (L N:List K->SF->Prop),M=qn->(∀ p q:Prop,p->q->M.pAnd p q)->(∀ (b:Bool) (p:Prop),(b=true->p)->M.pImp b p)->(∀ r',RW.eqv r' r->R r')->(∀ ks F,zT P X.T dr rs ks F r->L ks F) →
   (∀ ks F,wp M X dr lv ora (qbU M X.T rs m R) L N n ks (F.trimB lt (qqA ks))->N ks F)->wp M X dr lv ora (qbU M X.T rs m R) L N n ks F) (hW:za P X:=by exact fun _ _ _=>YD):zT P X.T dr rs ks F r:=by
 have key:∀ ks F,wp qn X dr lv ora (qbU qn X.T rs m fun r'=>RW.eqv r' r) (fun ks F=>zT P X.T dr rs ks F r) (fun ks F=>zT P X.T dr rs ks F r) n ks F->zT P X.T dr rs ks F r:=by
  intro ks F hw hk
  letI:zj:=qq2
  exact Yj hT hW hO (fin:=qbU qn X.T rs m fun r'=>RW.eqv r' r) (L:=fun ks F=>zT P X.T dr rs ks F r) (N:=fun ks F=>zT P X.T dr rs ks F r) (fun F hF=>qfG hF) (fun ks F hk h=>h hk) (fun ks F hk h=>h hk) n ks F hk hw
 exact key ks F (h qn _ _ _ rfl (fun _ _ h1 h2=>⟨h1,h2⟩) (fun _ _ h=>h) (fun _ h=>h) (fun _ _ h=>h) (fun ks F hw=>zT.trim lt (key ks _ hw)))
theorem zT.same {P:Program}{T:Nat->Option Ty}{dr:Nat->Nat}{rs:Array ResultVar}{ks:List K}{F G:SF}{r r':RW}(h:zT P T dr rs ks G r')(he:G.er=F.er)(hr:RW.eqv r' r):zT P T dr rs ks F r:=by
 intro hk
 have:=h hk
 rw [he] at this
 unfold qpy at this ⊢
 obtain ⟨h1,h2,h3⟩:=hr
 rw [h1,h2,h3] at this
 exact this
theorem zT.ind {P:Program}{T:Nat->Option Ty}{dr:Nat->Nat}{rs:Array ResultVar}{ks:List K}{α:Type}(f:α->SF)(R:α->RW)(Inv:α->Prop)(μ:α->Nat)(x0:α)(hI:Inv x0)
 (step:∀ x,Inv x->(∀ y,Inv y->μ y<μ x->zT P T dr rs ks (f y) (R y))->zT P T dr rs ks (f x) (R x)):zT P T dr rs ks (f x0) (R x0):=by
 have key:∀ n x,μ x=n->Inv x->zT P T dr rs ks (f x) (R x):=by
  intro n
  induction n using Nat.strongRecOn with
  | _ n ih =>
    intro x hx hI
    exact step x hI (fun y hy hlt=>ih (μ y) (by omega) y rfl hy)
 exact key _ x0 rfl hI
theorem zT.idx {P:Program}{T:Nat->Option Ty}{dr:Nat->Nat}{rs:Array ResultVar}{ks:List K}(n:Nat)(f:Nat->SF)(R:Nat->RW)
 (step:∀ i,i<=n->(i<n->zT P T dr rs ks (f (i+1)) (R (i+1)))->zT P T dr rs ks (f i) (R i)):zT P T dr rs ks (f 0) (R 0) :=
 zT.ind f R (fun i=>i<=n) (fun i=>n-i) 0 (Nat.zero_le _) fun i hi ih=>step i hi fun h=>ih (i+1) (by omega) (by omega)
def yf:Nat->List (V1 B)->List (Nat×TV B)
 | _,[]=>[]
 | i,x::r=>(i,.v x)::yf (i+1) r
def qju:Nat->List B->List (Nat×TV B)
 | _,[]=>[]
 | i,x::r=>(PH+i,.v (false,[x]))::qju (i+1) r
def qsj (n:Nat)(args:List (V1 B))(ph:List B)(tb:List (Nat×W)):SF:=⟨n,Qs (yf 0 args) (qju 0 ph),tb⟩
theorem qpZ (n:Nat)(args:List (V1 B))(ph:List B)(tb:List (Nat×W)):(qsj n args ph tb).er=wN n (qx B.erL args) (B.erL ph) (zF tb):=by
 have h1:∀ (l:List (V1 B)) (i:Nat),jr (yf i l)=Q9 i (qx B.erL l):=by
  intro l
  induction l with
  | nil=>intro i;rfl
  | cons x l ih=>intro i;simp only [yf,jr,qx,Q9,ih,TV.er]
 have h2:∀ (l:List B) (i:Nat),jr (qju i l)=qeI i (B.erL l):=by
  intro l
  induction l with
  | nil=>intro i;rfl
  | cons x l ih=>intro i;simp only [qju,jr,B.erL,qeI,ih,TV.er,kf]
 have h3:∀ l r:List (Nat×TV B),jr (l++r)=jr l++jr r:=by
  intro l r
  induction l with
  | nil=>rfl
  | cons x l ih=>obtain ⟨t,x⟩:=x;simp only [List.cons_append,jr,ih]
 unfold qsj wN SF.er
 simp only [jL,h3,h1,h2]
theorem zO.of {P : Program} {T : Nat → Option Ty} (hT : kH P T) {g : FuncId} {fn : Func} {c : Code} {args : List (V1 B)} {tb : List (Nat × W)} {ph : List B} {r : RW} {dr : Nat → Nat} (hf : P.funcs[g]? = some fn) (hb : fn.body = some c) (hnm : (fn.name == "runtime.NumGoroutine") = false)
 (h1:(nle (cnt args) fn.ntmps&&nle (cnt args) 1000)=true) (hc:jf dr c=true) (h:zT P T dr fn.results [.c c] (qsj fn.ntmps args ph tb) r):zO P g args tb ph r.1 r.2.1 r.2.2:=by
 rw [Bool.and_eq_true] at h1
 have hl:∀ l:List (V1 B),(qx B.erL l).length=cnt l:=by intro l;induction l with | nil=>rfl | cons x l ih=>simp [qx,cnt,ih]
 refine vR.of_Ex hT hf hb hnm ?_ ?_ ?_
 . rw [hl]
   exact qC h1.1
 . rw [hl]
   exact Nat.le_trans (qC h1.2) (by decide)
 . have:=h (fun k hk=>by simp at hk;subst hk;exact hc)
   rwa [qpZ] at this
def qtn:List Nat->Nat->Bool
 | [],_=>false
 | x::r,d=>match nq x d with | true=>true | false=>qtn r d
abbrev WrW:=List (V1 B)->List (LK×W)->R RW
def ke:List (Nat×WrW)->FuncId->WrW
 | [],_,_,_=>none
 | (k,f)::r,g,xs,ls=>match nq k g with | true=>f xs ls | false=>ke r g xs ls
def KR (P:Program)(g:FuncId)(f:WrW):Prop:=∀ xs ls,R.Sim (f xs ls) fun res=>zO P g xs (qma 0 ls) (qkJ 0 ls) res.1 res.2.1 res.2.2
def qcv (P:Program)(ow:FuncId->WrW):Prop:=∀ g xs ls,R.Sim (ow g xs ls) fun res=>zO P g xs (qma 0 ls) (qkJ 0 ls) res.1 res.2.1 res.2.2
theorem kK {P:Program}:qcv P (ke []):=fun _ _ _=>R.Sim.none'
theorem zr {P:Program}{k:Nat}{f:WrW}{r:List (Nat×WrW)}(h:KR P k f)(hr:qcv P (ke r)):qcv P (ke ((k,f)::r)):=by
 intro g xs ls
 simp only [ke]
 split
 . rename_i e
   obtain rfl:=Zd.1 e
   exact h xs ls
 . exact hr g xs ls
def SX.withF (X:SX)(l:List Nat):SX:={ X with FB:=fun d=>qtn l d }
theorem SX.withF_ok {P:Program}{X:SX}{l:List Nat}(h:za P X):za P (X.withF l):=h
def SX.withW (X:SX)(S:List (Nat×List (Nat×Nat)))(ow:FuncId->WrW):SX:={ X with S:=fun g=>qa none (S.map fun x=>(x.1,some x.2)) g,OW:=ow }
theorem SX.withW_ok {P:Program}{X:SX}{S:List (Nat×List (Nat×Nat))}{ow:FuncId->WrW}(h:qcv P ow):za P (X.withW S ow):=h
end Go.Proofs.YtifnopmkdempdaaGreat.Ai
namespace Go.Proofs.YtifnopmkdempdaaGreat.Ai
open Go
variable [qg]
theorem qkI {P:Program}{l:List (Nat×Option Ty)}(h:∀ p∈l,p.2=none\/kY P p.1=p.2):kH P (qa none l):=by
 intro t y ht
 induction l with
 | nil=>simp [qa] at ht
 | cons a r ih =>
   obtain ⟨k,v⟩:=a
   simp only [qa] at ht
   cases hb:nq k t with
   | true =>
     rw [hb] at ht
     obtain rfl:=Nat.eq_of_beq_eq_true hb
     have ht:v=some y:=ht
     subst ht
     rcases h _ List.mem_cons_self with h | h
     . cases h
     . exact h
   | false =>
     rw [hb] at ht
     exact ih (fun p hp=>h p (List.mem_cons_of_mem _ hp)) ht
def aI (n:Int):V1 D:=(false,[.int .i64 n])
def aS (s:ByteArray):V1 D:=(false,[.str s])
def aIs (l:List Int):V1 D:=(false,[.sl (.i l)])
def qs4 (l:List (List Int)):V1 D:=(false,[.sl (.ii false none l)])
def yV (q:Tie):V1 D:=(true,q.d)
def vr (q:qh):V1 D:=(true,q.d)
def Yu (l:List Tie):V1 D:=(false,[.sl (.tie l)])
def W1 (l:List qh):V1 D:=(false,[.sl (.node false none l)])
def aF (f:FuncId)(caps:List D):V1 D:=(false,[.fn f caps])
structure qm where
 nodes:List qh
 ties:List Tie
 hor:Int
structure qf where
 now:Int
 times:List Int
 vals:List Int
def qm.d (t:qm):List D:=[.sl (.node false none t.nodes),.sl (.tie t.ties),.int .i64 t.hor]
def qf.d (t:qf):List D:=[.int .i64 t.now,.sl (.i t.times),.sl (.i t.vals)]
def qS (t:qm):V1 D:=(true,t.d)
def qI (t:qf):V1 D:=(true,t.d)
structure Dc (α:Type) where
 enc:α->V1 D
 dec:V1 D->Option α
 ok:∀ x a,dec x=some a->kf D.erL x=kf D.erL (enc a)
def dcI:Dc Int:=⟨aI,fun | (false,[.int .i64 n])=>some n | _=>none,by intro x a h;split at h<;>first | (simp only [Option.some.injEq] at h;subst h;rfl) | cases h⟩
def dcS:Dc ByteArray:=⟨aS,fun | (false,[.str n])=>some n | _=>none,by intro x a h;split at h<;>first | (simp only [Option.some.injEq] at h;subst h;rfl) | cases h⟩
def kz:Dc (List Int):=⟨aIs,fun | (false,[.sl (.i l)])=>some l | _=>none,by intro x a h;split at h<;>first | (simp only [Option.some.injEq] at h;subst h;rfl) | cases h⟩
def qtE:Dc (List (List Int)):=⟨qs4,fun | (false,[.sl (.ii _ _ l)])=>some l | (false,[.sl (.i [])])=>some [] | _=>none,by intro x a h;split at h<;>first | (simp only [Option.some.injEq] at h;subst h;rfl) | cases h⟩
def K7:Dc (List Tie):=⟨Yu,fun | (false,[.sl (.tie l)])=>some l | (false,[.sl (.i [])])=>some [] | _=>none,by intro x a h;split at h<;>first | (simp only [Option.some.injEq] at h;subst h;rfl) | cases h⟩
def vz:Dc (List qh):=⟨W1,fun | (false,[.sl (.node _ _ l)])=>some l | (false,[.sl (.i [])])=>some [] | _=>none,by intro x a h;split at h<;>first | (simp only [Option.some.injEq] at h;subst h;rfl) | cases h⟩
def qao:Dc Tie:=⟨yV,fun
 | (true,[.int .i64 x1,.int .i64 x2,.int .i64 x3,.int .i64 x4,.bool _ x5])=>some ⟨x1,x2,x3,x4,x5⟩
 | _=>none,by intro x a h;split at h<;>first | (simp only [Option.some.injEq] at h;subst h;rfl) | cases h⟩
def wG:Dc qh:=⟨vr,fun
 | (true,[.str x1,.sl (.i x2),.int .i64 x3])=>some ⟨x1,x2,x3⟩
 | _=>none,by intro x a h;split at h<;>first | (simp only [Option.some.injEq] at h;subst h;rfl) | cases h⟩
def qc6:D->Option (List Tie)
 | .sl (.tie l)=>some l
 | .sl (.i [])=>some []
 | _=>none
def yp:D->Option (List qh)
 | .sl (.node _ _ l)=>some l
 | .sl (.i [])=>some []
 | _=>none
theorem qbv {d:D}{l:List Tie}(h:qc6 d=some l):d.er=.sl (l.map Tie.rc):=by
 unfold qc6 at h;split at h<;>first | (simp only [Option.some.injEq] at h;subst h;rfl) | cases h
theorem qaM {d:D}{l:List qh}(h:yp d=some l):d.er=.sl (l.map qh.rc):=by
 unfold yp at h;split at h<;>first | (simp only [Option.some.injEq] at h;subst h;rfl) | cases h
def qQ:Dc qm:=⟨qS,fun
 | (true,[d,e,.int .i64 x3])=>(match yp d,qc6 e with | some x1,some x2=>some ⟨x1,x2,x3⟩ | _,_=>none)
 | _=>none,by
   intro x a h
   split at h
   . split at h
     . rename_i hd he
       simp only [Option.some.injEq] at h;subst h;simp only [kf,D.erL,qaM hd,qbv he,qS,qm.d];rfl
     . cases h
   . cases h⟩
def qH:Dc qf:=⟨qI,fun
 | (true,[.int .i64 x1,.sl (.i x2),.sl (.i x3)])=>some ⟨x1,x2,x3⟩
 | _=>none,by intro x a h;split at h<;>first | (simp only [Option.some.injEq] at h;subst h;rfl) | cases h⟩
def rB (b:Bool):TV W:=.v (false,[.fz (.bool false b)])
def rI (n:Int):TV W:=.v (false,[.fz (.int .i64 n)])
def rS (s:ByteArray):TV W:=.v (false,[.fz (.str s)])
def rIs (l:List Int):TV W:=.v (false,[.osl (.i l)])
def Zc (l:List (List Int)):TV W:=.v (false,[.osl (.ii true none l)])
def qoH (l:List Tie):TV W:=.v (false,[.osl (.tie l)])
def qg2 (l:List qh):TV W:=.v (false,[.osl (.node true none l)])
def qm.w (t:qm):List W:=[.osl (.node true none t.nodes),.osl (.tie t.ties),.fz (.int .i64 t.hor)]
def qf.w (t:qf):List W:=[.fz (.int .i64 t.now),.osl (.i t.times),.osl (.i t.vals)]
def qte (q:Tie):TV W:=.v (true,fzW q.d)
def qrN (q:qh):TV W:=.v (true,q.w true)
def qrU (t:qm):TV W:=.v (true,t.w)
def jd (t:qf):TV W:=.v (true,t.w)
abbrev eR (r:TV W):TV O:=r.er W.erL
@[simp] theorem jW (k b b'):eR (.v (false,[.fz (.bool k b)]))=eR (rB b')↔b=b':=by simp [eR,TV.er,kf,W.erL,W.er,D.er,rB]
@[simp] theorem Ku (n n'):eR (.v (false,[.fz (.int .i64 n)]))=eR (rI n')↔n=n':=by simp [eR,TV.er,kf,W.erL,W.er,D.er,rI]
theorem qe.er {P:Program}{g:FuncId}{as as':List (V1 D)}{r r':TV W}(h:qe P g as r)(ha:qx D.erL as'=qx D.erL as)(hr:eR r'=eR r):qe P g as' r':=by
 unfold qe at h ⊢
 rw [ha,show r'.er W.erL=r.er W.erL from hr]
 exact h
abbrev Wr:=List (V1 D)->R (TV W)
def qL:List (Nat×Wr)->Qz
 | [],_,_=>none
 | (k,f)::r,g,xs=>match nq k g with | true=>f xs | false=>qL r g xs
def qy (P:Program)(g:FuncId)(f:Wr):Prop:=∀ xs,R.Sim (f xs) fun r=>qe P g xs r
theorem qd {P:Program}:qp P (qL []):=fun _ _=>R.Sim.none'
theorem qb {P:Program}{k:Nat}{f:Wr}{r:List (Nat×Wr)}(h:qy P k f)(hr:qp P (qL r)):qp P (qL ((k,f)::r)):=by
 intro g xs
 simp only [qL]
 split
 . rename_i e
   obtain rfl:=Nat.eq_of_beq_eq_true e
   exact h xs
 . exact hr g xs
def w1 {α:Type}(a:Dc α)(f:α->TV W)(p:α->List Prop):Wr
 | [x]=>match a.dec x with | some x=>some (p x,f x) | none=>none
 | _=>none
def w2 {α β:Type}(a:Dc α)(b:Dc β)(f:α->β->TV W)(p:α->β->List Prop):Wr
 | [x,y]=>match a.dec x,b.dec y with | some x,some y=>some (p x y,f x y) | _,_=>none
 | _=>none
def w3 {α β γ:Type}(a:Dc α)(b:Dc β)(c:Dc γ)(f:α->β->γ->TV W)(p:α->β->γ->List Prop):Wr
 | [x,y,z]=>match a.dec x,b.dec y,c.dec z with | some x,some y,some z=>some (p x y z,f x y z) | _,_,_=>none
 | _=>none
theorem zB {P:Program}{g:FuncId}{α:Type}{a:Dc α}{f:α->TV W}{p:α->List Prop}(h:∀ x,Holds (p x)->qe P g [a.enc x] (f x)):qy P g (w1 a f p):=by
 intro xs
 unfold w1
 split
 . split
   . rename_i hx
     exact R.Sim.mk fun hp=>(h _ hp).er (by simp only [qx,a.ok _ _ hx]) rfl
   . exact R.Sim.none'
 . exact R.Sim.none'
theorem qE {P:Program}{g:FuncId}{α β:Type}{a:Dc α}{b:Dc β}{f:α->β->TV W}{p:α->β->List Prop}(h:∀ x y,Holds (p x y)->qe P g [a.enc x,b.enc y] (f x y)):qy P g (w2 a b f p):=by
 intro xs
 unfold w2
 split
 . split
   . rename_i hx hy
     exact R.Sim.mk fun hp=>(h _ _ hp).er (by simp only [qx,a.ok _ _ hx,b.ok _ _ hy]) rfl
   . exact R.Sim.none'
 . exact R.Sim.none'
theorem Qq {P:Program}{g:FuncId}{α β γ:Type}{a:Dc α}{b:Dc β}{c:Dc γ}{f:α->β->γ->TV W}{p:α->β->γ->List Prop}(h:∀ x y z,Holds (p x y z)->qe P g [a.enc x,b.enc y,c.enc z] (f x y z)):qy P g (w3 a b c f p):=by
 intro xs
 unfold w3
 split
 . split
   . rename_i hx hy hz
     exact R.Sim.mk fun hp=>(h _ _ _ hp).er (by simp only [qx,a.ok _ _ hx,b.ok _ _ hy,c.ok _ _ hz]) rfl
   . exact R.Sim.none'
 . exact R.Sim.none'
end Go.Proofs.YtifnopmkdempdaaGreat.Ai
namespace Go.Proofs.YtifnopmkdempdaaGreat.Ai
open Go Go.RowKit
instance fenceFree:qj:=qP
inductive Sh where
 | bool
 | int (k:IntKind)
 | str
 | sl (e:Sh)
 | st (fs:List Sh)
mutual
def Sh.n:Sh->Nat
 | .st fs=>Sh.nL fs
 | _=>1
def Sh.nL:List Sh->Nat
 | []=>0
 | s::r=>s.n+Sh.nL r
end
mutual
def Wt:Sh->List C->Prop
 | .bool,xs=>∃ b,xs=[.bool b]
 | .int k,xs=>∃ n,xs=[.int k n]/\k.min<=n/\n<=k.max
 | .str,xs=>∃ s,xs=[.str s]/\s.size<=maxLen
 | .sl e,xs=>∃ ys,xs=[.sl ys]/\ys.length<=maxLen/\∀ y,y∈ys->Wt e y
 | .st fs,xs=>WtL fs xs
def WtL:List Sh->List C->Prop
 | [],xs=>xs=[]
 | s::r,xs=>∃ a b,xs=a++b/\Wt s a/\WtL r b
end
mutual
theorem Wt.len:(s:Sh)->{xs:List C}->Wt s xs->xs.length=s.n
 | .bool,_,⟨_,h⟩=>by subst h;rfl
 | .int _,_,⟨_,h,_⟩=>by subst h;rfl
 | .str,_,⟨_,h,_⟩=>by subst h;rfl
 | .sl _,_,⟨_,h,_⟩=>by subst h;rfl
 | .st fs,_,h=>WtL.len fs h
theorem WtL.len:(l:List Sh)->{xs:List C}->WtL l xs->xs.length=Sh.nL l
 | [],_,h=>by have h:_=[]:=h;subst h;rfl
 | s::r,_,⟨a,b,h,h1,h2⟩=>by subst h;simp [Sh.nL,Wt.len s h1,WtL.len r h2]
end
def shL (f:TypeId->Option Sh)(P:Program):Nat->List Field->Option (List Sh×Nat)
 | off,[]=>some ([],off)
 | off,x::r=>match f x.type with
   | some s=>if x.offset=off/\P.cellsOf x.type=s.n then (match shL f P (off+s.n) r with | some (l,m)=>some (s::l,m) | none=>none) else none
   | none=>none
def YT (P:Program):Nat->TypeId->Option Sh
 | 0,_=>none
 | n+1,t=>match P.underlying t with
   | some .bool=>some .bool
   | some (.int k)=>some (.int k)
   | some .string=>some .str
   | some (.slice e)=>match YT P n e with
     | some s=>if P.cellsOf e=s.n/\0<s.n then some (.sl s) else none
     | none=>none
   | some (.struct fs)=>match shL (YT P n) P 0 fs.toList with
     | some (l,m)=>if P.cellsOf t=m then some (.st l) else none
     | none=>none
   | _=>none
def Jb (w:World)(xs:List C)(cs:List Value):Prop:=xs.length=cs.length/\∀ (j:Nat) (c:C),xs[j]?=some c->∃ u,cs[j]?=some u/\zY w c u
theorem Jb.one {w:World}{c:C}{u:Value}(h:zY w c u):Jb w [c] [u]:=⟨rfl,fun j c' hj=>by
 cases j with
 | zero=>simp at hj;subst hj;exact ⟨u,rfl,h⟩
 | succ j=>simp at hj⟩
theorem Jb.append {w:World}{xs xs':List C}{cs cs':List Value}(h:Jb w xs cs)(h':Jb w xs' cs'):Jb w (xs++xs') (cs++cs'):=by
 refine ⟨by simp [h.1,h'.1],fun j c hj=>?_⟩
 by_cases hlt:j<xs.length
 . rw [List.getElem?_append_left hlt] at hj
   obtain ⟨u,h1,h2⟩:=h.2 j c hj
   exact ⟨u,by rw [List.getElem?_append_left (by rw [<-h.1];exact hlt)];exact h1,h2⟩
 . rw [List.getElem?_append_right (by omega)] at hj
   obtain ⟨u,h1,h2⟩:=h'.2 _ c hj
   exact ⟨u,by rw [List.getElem?_append_right (by rw [<-h.1];omega),<-h.1];exact h1,h2⟩
theorem qfJ {α:Type}(p:Nat->α->Prop):∀ n:Nat,(∀ i,i<n->∃ y,p i y)->∃ ys:List α,ys.length=n/\∀ (i:Nat) (y:α),ys[i]?=some y->p i y:=by
 intro n
 induction n with
 | zero=>intro _;exact ⟨[],rfl,fun i y h=>by simp at h⟩
 | succ n ih =>
   intro h
   obtain ⟨ys,h1,h2⟩:=ih (fun i hi=>h i (by omega))
   obtain ⟨y,hy⟩:=h n (by omega)
   refine ⟨ys++[y],by simp [h1],fun i z hz=>?_⟩
   by_cases hlt:i<ys.length
   . rw [List.getElem?_append_left hlt] at hz;exact h2 i z hz
   . rw [List.getElem?_append_right (by omega)] at hz
     have hi:i-ys.length=0:=by
      rcases Nat.eq_zero_or_pos (i-ys.length) with e | e
      . exact e
      . rw [List.getElem?_eq_none (by simp;omega)] at hz;cases hz
     rw [hi] at hz
     simp at hz
     subst hz
     rw [show i=n by omega]
     exact hy
theorem WK {α β:Type}{f:α->Option β}:∀ {l:List α} {r:List β},l.mapM f=some r->r.length=l.length/\∀ (i:Nat) (x:α),l[i]?=some x->∃ y,r[i]?=some y/\f x=some y:=by
 intro l
 induction l with
 | nil=>intro r h;simp at h;subst h;exact ⟨rfl,fun i x h=>by simp at h⟩
 | cons a l ih =>
   intro r h
   simp only [List.mapM_cons] at h
   cases hf:f a with
   | none=>rw [hf] at h;simp at h
   | some b =>
     rw [hf] at h
     cases hr:l.mapM f with
     | none=>rw [hr] at h;simp at h
     | some r' =>
       rw [hr] at h
       simp at h
       subst h
       obtain ⟨h1,h2⟩:=ih hr
       refine ⟨by simp [h1],fun i x hx=>?_⟩
       cases i with
       | zero=>simp at hx;subst hx;exact ⟨b,rfl,hf⟩
       | succ i=>obtain ⟨y,h3,h4⟩:=h2 i x (by simpa using hx);exact ⟨y,by simpa using h3,h4⟩
theorem cells?_inv {w:World}{base:Nat}{a:Addr}{n:Nat}{cs:List Value}(h:w.cells? base a n=some cs):cs.length=n/\∀ j,j<n->∃ u,cs[j]?=some u/\w.cell? (a.add j)=some u:=by
 unfold World.cells? at h
 split at h
 . obtain ⟨h1,h2⟩:=WK h
   refine ⟨by simpa using h1,fun j hj=>?_⟩
   obtain ⟨y,h3,h4⟩:=h2 j j (by simp [hj])
   exact ⟨y,h3,h4⟩
 . cases h
theorem qf9 {w:World}{P:Program}{f:TypeId->Option Sh}{g:TypeId->List Value->Prop}(hf:∀ t s cs,f t=some s->g t cs->∃ xs,Wt s xs/\Jb w xs cs):∀ (fs:List Field) (off:Nat) (l:List Sh) (m:Nat) (cs:List Value),shL f P off fs=some (l,m) →
 cs.length=m->(∀ x∈fs,g x.type ((cs.drop x.offset).take (P.cellsOf x.type)))->off<=m/\∃ xs,WtL l xs/\Jb w xs (cs.drop off):=by
 intro fs
 induction fs with
 | nil =>
   intro off l m cs h hl _
   simp [shL] at h
   obtain ⟨rfl,rfl⟩:=h
   exact ⟨Nat.le_refl _,[],rfl,by rw [List.drop_eq_nil_of_le (by omega)];exact ⟨rfl,fun j c h=>by simp at h⟩⟩
 | cons x fs ih =>
   intro off l m cs h hl hg
   simp only [shL] at h
   split at h
   . rename_i s hs
     split at h
     . rename_i hx
       obtain ⟨hx1,hx2⟩:=hx
       split at h
       . rename_i l' m' hrec
         simp at h
         obtain ⟨rfl,rfl⟩:=h
         obtain ⟨h1,xs,h2,h3⟩:=ih _ _ _ cs hrec hl (fun y hy=>hg y (List.mem_cons_of_mem _ hy))
         obtain ⟨ys,h4,h5⟩:=hf _ _ _ hs (hg x List.mem_cons_self)
         refine ⟨by omega,ys++xs,⟨ys,xs,rfl,h4,h2⟩,?_⟩
         have hcat:cs.drop off=(cs.drop off).take s.n++cs.drop (off+s.n):=by
          rw [<-List.drop_drop,List.take_append_drop]
         rw [hcat]
         rw [hx1,hx2] at h5
         exact h5.append h3
       . cases h
     . cases h
   . cases h
theorem qi0 {H:Type}{enc:TypeId×Value->H}{P:Program}{w:World}{base:Nat}{sp:Nat->Bool}:∀ (n:Nat) (t:TypeId) (s:Sh),YT P n t=some s->∀ (fuel:Nat) (cs:List Value) (x:DataW H×List MemPlace),DataW.trod enc P w base sp true fuel t cs=some x →
 ∃ xs,Wt s xs/\Jb w xs cs:=by
 intro n
 induction n with
 | zero=>intro t s h;simp [YT] at h
 | succ n ih =>
   intro t s h fuel cs x hx
   cases fuel with
   | zero=>simp [DataW.trod] at hx
   | succ fuel =>
     simp only [YT] at h
     unfold DataW.trod at hx
     split at h
     . rename_i hu
       rw [hu] at hx
       simp at h
       subst h
       dsimp only at hx
       clear ih
       split at hx<;>simp_all
       rename_i b
       exact ⟨[.bool b],⟨b,rfl⟩,.one (zY.bool b)⟩
     . rename_i k hu
       rw [hu] at hx
       simp at h
       subst h
       dsimp only at hx
       clear ih
       split at hx<;>simp_all
       obtain ⟨⟨rfl,h1⟩,_⟩:=hx
       simp [Lit.wf] at h1
       exact ⟨[.int _ _],⟨_,rfl,h1.1,h1.2⟩,.one (zY.int _ _)⟩
     . rename_i hu
       rw [hu] at hx
       simp at h
       subst h
       dsimp only at hx
       clear ih
       split at hx<;>simp_all
       rename_i b
       exact ⟨[.str b],⟨b,rfl,hx.1⟩,.one (zY.str b)⟩
     . rename_i e hu
       rw [hu] at hx
       split at h
       . rename_i s' he
         split at h
         . rename_i hsz
           simp at h
           subst h
           have ih':∀ (cs:List Value) (x:DataW H×List MemPlace),DataW.trod enc P w base sp true fuel e cs=some x->∃ xs,Wt s' xs/\Jb w xs cs:=fun cs x hx=>ih e s' he fuel cs x hx
           clear ih
           dsimp only at hx
           split at hx
           all_goals first
            | (rename_i h1;cases h1;done)
            | skip
           . exact ⟨[.sl []],⟨[],rfl,Nat.zero_le _,fun y hy=>by cases hy⟩,.one (zY.sl [] s'.n none 0 (fun _ _=>undef) (Nat.le_refl _) (fun y hy=>by cases hy) (fun h=>(h rfl).elim) (fun ad h=>by cases h) (fun i j y c h=>by simp at h))⟩
           . rename_i e' a len cap heq
             injection heq with heq
             injection heq with heq
             subst heq
             split at hx
             . rename_i hc
               obtain ⟨_,hlc,hcm⟩:=hc
               cases hel:(List.range len).mapM (fun i=>(w.cells? base (a.add (i * P.cellsOf e)) (P.cellsOf e)).bind (DataW.trod enc P w base sp true fuel e)) with
               | none=>rw [hel] at hx;simp at hx
               | some elems =>
                 obtain ⟨_,hm⟩:=WK hel
                 obtain ⟨ys,hyl,hys⟩:=qfJ (fun i (y:List C)=>Wt s' y/\y.length=s'.n/\∀ (j:Nat) (c:C),y[j]?=some c->∃ u,w.cell? ((a.add (i * s'.n)).add j)=some u/\zY w c u) len (by
                  intro i hi
                  obtain ⟨z,_,hz⟩:=hm i i (by simp [hi])
                  cases hcs:w.cells? base (a.add (i * P.cellsOf e)) (P.cellsOf e) with
                  | none=>rw [hcs] at hz;simp at hz
                  | some csi =>
                    rw [hcs] at hz
                    obtain ⟨xs,h1,h2⟩:=ih' csi z hz
                    obtain ⟨h3,h4⟩:=cells?_inv hcs
                    refine ⟨xs,h1,Wt.len s' h1,fun j c hj=>?_⟩
                    obtain ⟨u,h5,h6⟩:=h2.2 j c hj
                    have hjl:j<P.cellsOf e:=by rw [<-h3];exact (List.getElem?_eq_some_iff.1 h5).1
                    obtain ⟨u',h7,h8⟩:=h4 j hjl
                    rw [h5] at h7
                    injection h7 with h7
                    subst h7
                    rw [hsz.1] at h8
                    exact ⟨u,h8,h6⟩)
                 refine ⟨[.sl ys],⟨ys,rfl,by omega,fun y hy=>?_⟩,?_⟩
                 . obtain ⟨i,hi⟩:=List.mem_iff_getElem?.1 hy
                   exact (hys i y hi).1
                 . have hspot:ys≠[]->a.spot=none/\a.block<w.heap.size:=by
                    intro hne
                    obtain ⟨y,hy⟩:=kW (l:=ys) (i:=0) (by cases ys with | nil=>exact absurd rfl hne | cons _ _=>simp)
                    obtain ⟨_,h2,h3⟩:=hys 0 y hy
                    obtain ⟨c,hc⟩:=kW (l:=y) (i:=0) (by omega)
                    obtain ⟨u,h4,_⟩:=h3 0 c hc
                    have h4':w.cell? a=some u:=by simpa [Addr.add] using h4
                    refine ⟨?_,qh2 h4'⟩
                    unfold World.cell? at h4'
                    split at h4'
                    . split at h4'
                      . cases h4'
                      . rename_i hs;simpa using hs
                    . cases h4'
                   rw [<-hyl]
                   refine Jb.one (zY.sl ys s'.n (some a) cap (fun i j=>(w.cell? ((a.add (i * s'.n)).add j)).getD undef) (by omega) (fun y hy=>?_) (fun hne=>⟨a,rfl,(hspot hne).1,(hspot hne).2,Qi _⟩) ?_ ?_)
                   . obtain ⟨i,hi⟩:=List.mem_iff_getElem?.1 hy
                     exact (hys i y hi).2.1
                   . intro ad hab i j y c hi hj
                     injection hab with hab
                     subst hab
                     obtain ⟨u,h1,_⟩:=(hys i y hi).2.2 j c hj
                     have hne:ys≠[]:=by intro e;subst e;simp at hi
                     rw [h1,<-JE (hspot hne).1,h1]
                     rfl
                   . intro i j y c hi hj
                     obtain ⟨u,h1,h2⟩:=(hys i y hi).2.2 j c hj
                     simp only [h1,Option.getD_some]
                     exact h2
             . cases hx
           . cases hx
         . cases h
       . cases h
     . rename_i fs hu
       rw [hu] at hx
       split at h
       . rename_i l m hsl
         split at h
         . rename_i hcl
           simp at h
           subst h
           dsimp only at hx
           split at hx
           . rename_i hlen
             cases hm:fs.toList.mapM (fun f=>DataW.trod enc P w base sp true fuel f.type ((cs.drop f.offset).take (P.cellsOf f.type))) with
             | none=>rw [hm] at hx;simp at hx
             | some r =>
               obtain ⟨_,h2⟩:=WK hm
               obtain ⟨_,xs,h3,h4⟩:=qf9 (w:=w) (P:=P) (f:=YT P n) (g:=fun t cs=>∃ x,DataW.trod enc P w base sp true fuel t cs=some x) (fun t s cs hs ⟨x,hx⟩=>ih t s hs fuel cs x hx) fs.toList 0 l m cs hsl (by rw [hlen,hcl]) (by
                intro f hf
                obtain ⟨i,hi⟩:=List.mem_iff_getElem?.1 hf
                obtain ⟨y,_,hy⟩:=h2 i f hi
                exact ⟨y,hy⟩)
               exact ⟨xs,h3,by simpa using h4⟩
           . cases hx
         . cases h
       . cases h
     . cases h
end Go.Proofs.YtifnopmkdempdaaGreat.Ai
namespace Go.Proofs.YtifnopmkdempdaaGreat.Ai
open Go Go.RowKit Go.ChangeShapes
instance fenceFree':qj:=qP
def Sh.isSt:Sh->Bool
 | .st _=>true
 | _=>false
def qaS:List Sh->List (V1 C)->Prop
 | [],xs=>xs=[]
 | s::r,xs=>∃ y ys,xs=(s.isSt,y)::ys/\Wt s y/\qaS r ys
theorem qmE {H:Type}{enc:TypeId×Value->H}{P:Program}{W:World}{sp:Nat->Bool}{n:Nat}{t:TypeId}{s:Sh}(hs:YT P n t=some s){r:Reach}{base b0:Nat}{v:Value}{d:DataW H}{ps:List MemPlace}(hok:Value.okWide P W r b0 t v)
 (h:DataW.Trod enc P W base sp true t v d ps):∃ xs,Wt s xs/\qU (fun _=>@qt qP W (fun _=>none)) (s.isSt,xs) v:=by
 obtain ⟨fuel,h⟩:=h
 obtain ⟨xs,h1,h2⟩:=qi0 n t s hs fuel _ _ h
 refine ⟨xs,h1,?_⟩
 cases n with
 | zero=>simp [YT] at hs
 | succ n =>
   have one:∀ c:C,xs=[c]->v.cells=#[v]->s.isSt=false->qU (fun _=>@qt qP W (fun _=>none)) (s.isSt,xs) v:=by
    intro c hc hv hst
    subst hc
    rw [hst]
    obtain ⟨u,h3,h4⟩:=h2.2 0 c rfl
    rw [hv] at h3
    simp at h3
    subst h3
    exact h4
   have hv1:∀ u:TypeDesc,P.underlying t=some u->(∀ fs,u≠.struct fs)->(∀ m e,u≠.array m e)->Cell.okWide P W r b0 t v:=by
    intro u hu h3 h4
    unfold Value.okWide at hok
    rw [hu] at hok
    cases u<;>first | exact hok | exact absurd rfl (h3 _) | exact absurd rfl (h4 _ _)
   simp only [YT] at hs
   split at hs
   . rename_i hu
     simp at hs
     subst hs
     have hc:=hv1 _ hu (by simp) (by simp)
     obtain ⟨b,hb⟩:=h1
     refine one _ hb ?_ rfl
     unfold Cell.okWide Cell.ok at hc
     simp only [hu] at hc
     cases v<;>first | rfl | exact hc.elim
   . rename_i k hu
     simp at hs
     subst hs
     have hc:=hv1 _ hu (by simp) (by simp)
     obtain ⟨b,hb,_⟩:=h1
     refine one _ hb ?_ rfl
     unfold Cell.okWide Cell.ok at hc
     simp only [hu] at hc
     cases v<;>first | rfl | exact hc.elim
   . rename_i hu
     simp at hs
     subst hs
     have hc:=hv1 _ hu (by simp) (by simp)
     obtain ⟨b,hb,_⟩:=h1
     refine one _ hb ?_ rfl
     unfold Cell.okWide Cell.ok at hc
     simp only [hu] at hc
     cases v<;>first | rfl | exact hc.elim
   . rename_i e hu
     have hc:=hv1 _ hu (by simp) (by simp)
     have hcells:v.cells=#[v]:=by
      unfold Cell.okWide Cell.ok at hc
      simp only [hu] at hc
      cases v<;>first | rfl | exact hc.elim
     split at hs
     . split at hs
       . simp at hs
         subst hs
         obtain ⟨ys,hb,_⟩:=h1
         exact one _ hb hcells rfl
       . cases hs
     . cases hs
   . rename_i fs hu
     split at hs
     . split at hs
       . simp at hs
         subst hs
         unfold Value.okWide at hok
         rw [hu] at hok
         obtain ⟨cs,rfl,_⟩:=hok
         refine ⟨cs,rfl,?_,?_⟩
         . have:=h2.1
           simpa [Value.cells] using this.symm
         . intro j c hj
           obtain ⟨u,h3,h4⟩:=h2.2 j c hj
           exact ⟨u,by simpa [Value.cells] using h3,h4⟩
       . cases hs
     . cases hs
   . cases hs
theorem qml {H:Type}{enc:TypeId×Value->H}{P:Program}{W:World}{sp:Nat->Bool}{n:Nat}{r:Reach}{base b0:Nat}:∀ (ts:List TypeId) (shs:List Sh) (vs:List Value) (ds:List (DataW H)) (ps:List MemPlace),ts.map (YT P n)=shs.map some →
 (∀ (j:Nat) t v,ts[j]?=some t->vs[j]?=some v->Value.okWide P W r b0 t v)->DataW.TrodAll enc P W base sp true ts vs ds ps →
 vs.length=ts.length/\∃ xs,qaS shs xs/\xs.length=vs.length/\∀ (k:Nat) (x:V1 C),xs[k]?=some x->∃ u,vs[k]?=some u/\qU (fun _=>@qt qP W (fun _=>none)) x u:=by
 intro ts
 induction ts with
 | nil =>
   intro shs vs ds ps hsh hok h
   obtain ⟨rfl,rfl,rfl⟩:=trodAll_nil h
   have:shs=[]:=by cases shs<;>simp_all
   subst this
   exact ⟨rfl,[],rfl,rfl,fun k x hk=>by simp at hk⟩
 | cons t ts ih =>
   intro shs vs ds ps hsh hok h
   obtain ⟨v,vs',d,ds',p,q,rfl,rfl,rfl,h0,hr⟩:=trodAll_cons h
   cases shs with
   | nil=>simp at hsh
   | cons s shs =>
     simp only [List.map_cons,List.cons.injEq] at hsh
     obtain ⟨h1,xs,h2,h3,h4⟩:=ih shs vs' ds' q hsh.2 (fun j t v ht hv=>hok (j+1) t v (by simpa using ht) (by simpa using hv)) hr
     obtain ⟨y,h5,h6⟩:=qmE hsh.1 (hok 0 t v rfl rfl) h0
     refine ⟨by simp [h1],(s.isSt,y)::xs,⟨y,xs,rfl,h5,h2⟩,by simp [h3],fun k x hk=>?_⟩
     cases k with
     | zero=>simp at hk;subst hk;exact ⟨v,rfl,h6⟩
     | succ k=>obtain ⟨u,h7,h8⟩:=h4 k x (by simpa using hk);exact ⟨u,by simpa using h7,h8⟩
theorem ql1 {H:Type}{enc:TypeId×Value->H}{P:Program}(hl:laidOutB P=true){W W':World}(hb:Below W.heap.size W W'):∀ (ts:List TypeId) (vs:List Value) (ds:List (DataW H)) (ps:List MemPlace),(ts.all fun t=>P.readableRec t&&decide (t<P.types.size))=true →
 DataW.TrodAll enc P W 0 (fun _=>true) true ts vs ds ps->(∀ x∈ps,x.block<W.heap.size)->DataW.TrodAll enc P W' 0 (fun b=>decide (b<W.heap.size)) true ts vs ds ps:=by
 intro ts
 induction ts with
 | nil=>intro vs ds ps _ h _;obtain ⟨rfl,rfl,rfl⟩:=trodAll_nil h;exact rfl
 | cons t ts ih =>
   intro vs ds ps ht h hlt
   obtain ⟨v,vs',d,ds',p,q,rfl,rfl,rfl,h0,hr⟩:=trodAll_cons h
   simp only [List.all_cons,Bool.and_eq_true,decide_eq_true_eq] at ht
   exact ⟨p,q,Below.trod hl ht.1.1 ht.1.2 h0 hb (fun x hx=>hlt x (List.mem_append.2 (.inl hx))),ih vs' ds' q ht.2 hr (fun x hx=>hlt x (List.mem_append.2 (.inr hx))),rfl⟩
def qtp:TV O:=.v (false,[.fz (.bool true)])
@[reducible] def qal [qg] (n:Nat):qj:=⟨fun _=>False,fun _=>.bool false,n,fun _=>none,qg.fut⟩
theorem qm8 [qg] {P:Program}{g:FuncId}{W:World}{args:Array Value}{xs:List (V1 C)}(h:zt P g xs qtp)(hl:xs.length=args.toList.length)(hk:∀ (k:Nat) (x:V1 C),xs[k]?=some x->∃ u,args.toList[k]?=some u/\qU (fun _=>@qt qP W (fun _=>none)) x u) :
 Calls P g args W fun e W'=>e=.returned (.bool true)/\Below W.heap.size W W':=by
 refine (h.2 (qal W.heap.size) W args rfl (@Q3.mk (qal W.heap.size) _ (fun b hb=>hb.elim) (Nat.le_refl _)) (by simpa using hl.symm) (fun k x hx=>?_)).mono ?_
 . obtain ⟨u,h1,h2⟩:=hk k x hx
   refine ⟨u,by simpa using h1,qU.imp (fun j c v hr=>?_) h2⟩
   refine qt.swap hr (fun b _ hb=>⟨rfl,fun h=>h⟩) fun b hb=>?_
   unfold qj.memo
   show (if b<0 then none else none)=(if b<W.heap.size then none else _)
   rw [if_pos hb,if_neg (by omega)]
 . rintro e W' ⟨v,rfl,hres⟩
   obtain ⟨σr,_,_,hrep,_⟩:=@kj.rep (qal W.heap.size) _ _ _ _ hres
   have hv:@qq (qal W.heap.size) W' σr (qz,[(0,0)]) (.fz (.bool true)) v:=hrep
   have:v=.bool true:=by
    cases hv with
    | fz _ _ _ h=>exact @qt.bool_inv (qal W.heap.size) _ _ _ _ h
   subst this
   have hb:=@kj.below (qal W.heap.size) _ _ _ _ hres
   refine ⟨rfl,@qX.os (qal W.heap.size) _ _ hb,@qX.tape (qal W.heap.size) _ _ hb,@qX.output (qal W.heap.size) _ _ hb,@qX.size (qal W.heap.size) _ _ hb,fun b hlt=>?_⟩
   rcases @qX.heap (qal W.heap.size) _ _ hb b hlt with h | ⟨g,x,x',h1,_⟩
   . exact h
   . exfalso
     unfold qj.memo at h1
     have h1:(if b<W.heap.size then none else qg.fut)=some g:=h1
     rw [if_pos hlt] at h1
     cases h1
end Go.Proofs.YtifnopmkdempdaaGreat.Ai
namespace Go.Proofs.YtifnopmkdempdaaGreat.Ai
open Go
theorem qgD (n:Nat):@NatCast.natCast Int instNatCastInt n=(n:Int):=rfl
theorem Cue.eta (q:Cue):(⟨q.name,q.after,q.atEnd,q.low,q.high,q.min,q.max,q.free,q.cond,q.watch,q.device⟩:Cue)=q:=rfl
theorem Tie.eta (q:Tie):(⟨q.src,q.dst,q.low,q.high,q.free⟩:Tie)=q:=rfl
theorem Edge.eta (q:Go.Proofs.YtifnopmkdempdaaGreat.Ai.Edge):(⟨q.src,q.dst,q.w⟩:Go.Proofs.YtifnopmkdempdaaGreat.Ai.Edge)=q:=rfl
theorem Qy.eta (q:Qy):(⟨q.src,q.dst,q.low,q.high⟩:Qy)=q:=rfl
theorem qh.eta (q:qh):(⟨q.name,q.label,q.watch⟩:qh)=q:=rfl
def inI (n:Int):Prop:=IntKind.min .i64<=n/\n<=IntKind.max .i64
theorem jo (n:Int):inI n↔-9223372036854775808<=n/\n<=9223372036854775807:=Iff.rfl
theorem yL {α:Type}{e:Sh}{f:α->List C}{P:α->Prop}(he:∀ y,Wt e y->∃ a,y=f a/\P a):∀ {ys:List (List C)},(∀ y,y∈ys->Wt e y)->∃ l:List α,ys=l.map f/\∀ a∈l,P a
 | [],_=>⟨[],rfl,fun _ h=>by cases h⟩
 | y::ys,h=>by
   obtain ⟨a,h1,h2⟩:=he y (h y List.mem_cons_self)
   obtain ⟨l,h3,h4⟩:=yL he (ys:=ys) (fun z hz=>h z (List.mem_cons_of_mem _ hz))
   exact ⟨a::l,by rw [h1,h3];rfl,fun b hb=>(List.mem_cons.1 hb).elim (fun e=>e▸h2) (h4 b)⟩
theorem qcj {y:List C}(h:Wt (.sl (.int .i64)) y):∃ l:List Int,y=[(D.sl (.i l)).er]/\l.length<=maxLen/\∀ n∈l,inI n:=by
 obtain ⟨ys,rfl,h1,h2⟩:=h
 obtain ⟨l,rfl,h3⟩:=yL (f:=fun n:Int=>[C.int .i64 n]) (P:=inI) (fun y hy=>by obtain ⟨n,h1,h2⟩:=hy;exact ⟨n,h1,h2⟩) h2
 exact ⟨l,rfl,by simpa using h1,h3⟩
def qnf:Sh:=.st [.str,.sl (.int .i64),.int .i64]
def qrx:Sh:=.st [.int .i64,.int .i64,.int .i64,.int .i64,.bool]
def qgU:Sh:=.st [.sl qnf,.sl qrx,.int .i64]
def qcr:Sh:=.st [.int .i64,.sl (.int .i64),.sl (.int .i64)]
structure qoL (q:qh):Prop where
 name:q.name.size<=maxLen
 len:q.label.length<=maxLen
 label:∀ n∈q.label,inI n
 watch:inI q.watch
structure qrE (q:Tie):Prop where
 src:inI q.src
 dst:inI q.dst
 low:inI q.low
 high:inI q.high
structure qcw (t:qm):Prop where
 len:t.nodes.length<=maxLen
 tlen:t.ties.length<=maxLen
 nodes:∀ q∈t.nodes,qoL q
 ties:∀ q∈t.ties,qrE q
 hor:inI t.hor
structure yu (t:qf):Prop where
 now:inI t.now
 len:t.times.length<=maxLen
 vlen:t.vals.length<=maxLen
 times:∀ n∈t.times,inI n
 vals:∀ n∈t.vals,inI n
theorem qqa {y:List C}(h:Wt qnf y):∃ q:qh,y=D.erL q.d/\qoL q:=by
 obtain ⟨_,_,rfl,⟨x1,rfl,h1⟩,h⟩:=h
 obtain ⟨_,_,rfl,h2,h⟩:=h
 obtain ⟨_,_,rfl,⟨x3,rfl,h3⟩,h⟩:=h
 obtain rfl:=h
 obtain ⟨l,rfl,h4,h5⟩:=qcj h2
 exact ⟨⟨x1,l,x3⟩,rfl,h1,h4,h5,h3⟩
theorem qsd {y:List C}(h:Wt qrx y):∃ q:Tie,y=D.erL q.d/\qrE q:=by
 obtain ⟨_,_,rfl,⟨x1,rfl,h1⟩,h⟩:=h
 obtain ⟨_,_,rfl,⟨x2,rfl,h2⟩,h⟩:=h
 obtain ⟨_,_,rfl,⟨x3,rfl,h3⟩,h⟩:=h
 obtain ⟨_,_,rfl,⟨x4,rfl,h4⟩,h⟩:=h
 obtain ⟨_,_,rfl,⟨x5,rfl⟩,h⟩:=h
 obtain rfl:=h
 exact ⟨⟨x1,x2,x3,x4,x5⟩,rfl,h1,h2,h3,h4⟩
theorem qqP {y:List C}(h:Wt qgU y):∃ t:qm,y=D.erL t.d/\qcw t:=by
 obtain ⟨_,_,rfl,⟨ys,rfl,h1,h2⟩,h⟩:=h
 obtain ⟨_,_,rfl,⟨zs,rfl,h3,h4⟩,h⟩:=h
 obtain ⟨_,_,rfl,⟨x3,rfl,h5⟩,h⟩:=h
 obtain rfl:=h
 obtain ⟨l,rfl,h6⟩:=yL (fun y hy=>qqa hy) h2
 obtain ⟨ts,rfl,h7⟩:=yL (fun y hy=>qsd hy) h4
 exact ⟨⟨l,ts,x3⟩,rfl,by simpa using h1,by simpa using h3,h6,h7,h5⟩
theorem qn1 {y:List C}(h:Wt qcr y):∃ t:qf,y=D.erL t.d/\yu t:=by
 obtain ⟨_,_,rfl,⟨x1,rfl,h1⟩,h⟩:=h
 obtain ⟨_,_,rfl,h2,h⟩:=h
 obtain ⟨_,_,rfl,h3,h⟩:=h
 obtain rfl:=h
 obtain ⟨l,rfl,h4,h5⟩:=qcj h2
 obtain ⟨m,rfl,h6,h7⟩:=qcj h3
 exact ⟨⟨x1,l,m⟩,rfl,h1,h4,h6,h5,h7⟩
theorem qhy {ys:List (V1 C)}(h:qaS [] ys):ys=[]:=h
theorem VE {s:Sh}{r:List Sh}{ys:List (V1 C)}(h:qaS (s::r) ys):∃ y zs,ys=(s.isSt,y)::zs/\Wt s y/\qaS r zs:=h
end Go.Proofs.YtifnopmkdempdaaGreat.Ai
