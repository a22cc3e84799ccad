/- The law's proof, part 4 of 11: what of its author's texts it needs; no condition. -/
import Derived.Carry
import Derived.ChangeShapes
import Derived.Test.YtfafehnchmelnaaGreatZdC
set_option linter.unusedSectionVars false
set_option linter.unusedSimpArgs false
set_option linter.unusedVariables false
namespace Go.Proofs.YtfafehnchmelnaaGreat.Ai
open Go
theorem R.Sim.mk {α:Type}{ps:List Prop}{a:α}{Q:α->Prop}(h:Holds ps->Q a):R.Sim (some (ps,a)) Q:=by
 intro qs b e hp;injection e with e;injection e with e1 e2;subst e1 e2;exact h hp
def qpM:Option B->Option (Option Int)
 | none=>some none
 | some (.fz (.int _ n))=>some (some n)
 | some _=>none
def lhB (M:MB):Option Int->Option Int->Nat->R (Nat×Nat)
 | none,none,len=>R.ok (0,len)
 | some l,none,len=>some ([M.pGeZ l,M.pLeN (M.toN l) len],(M.toN l,len))
 | none,some h,len=>some ([M.pGeZ h,M.pLeN (M.toN h) len],(0,M.toN h))
 | some l,some h,len=>some ([M.pGeZ l,M.pGeZ h,M.pLeN (M.toN l) (M.toN h),M.pLeN (M.toN h) len],(M.toN l,M.toN h))
theorem Holds.four {p q r t:Prop}(h:Holds [p,q,r,t]):p/\q/\r/\t:=⟨h p (by simp),h q (by simp),h r (by simp),h t (by simp)⟩
theorem qbY (lo hi:Option Int)(len:Nat):(lhB qn lo hi len).Sim fun r=>std.lh lo hi len=some r/\r.1<=r.2/\r.2<=len:=by
 cases lo with
 | none =>
   cases hi with
   | none=>exact R.Sim.ok ⟨rfl,Nat.zero_le _,Nat.le_refl _⟩
   | some h =>
     refine R.Sim.mk fun hp=>?_
     obtain ⟨h1,h2⟩:=hp.two
     simp only [qn] at h1 h2
     refine ⟨?_,Nat.zero_le _,h2⟩
     show ZO none (some h) len=_
     simp only [ZO]
     rw [if_pos ⟨h1,by omega⟩]
     rfl
 | some l =>
   cases hi with
   | none =>
     refine R.Sim.mk fun hp=>?_
     obtain ⟨h1,h2⟩:=hp.two
     simp only [qn] at h1 h2
     refine ⟨?_,h2,Nat.le_refl _⟩
     show ZO (some l) none len=_
     simp only [ZO]
     rw [if_pos ⟨h1,by omega⟩]
     rfl
   | some h =>
     refine R.Sim.mk fun hp=>?_
     obtain ⟨h1,h2,h3,h4⟩:=hp.four
     simp only [qn] at h1 h2 h3 h4
     refine ⟨?_,h3,h4⟩
     show ZO (some l) (some h) len=_
     simp only [ZO]
     rw [if_pos ⟨h1,by omega,by omega⟩]
     rfl
def evO (F:SF):Option Operand->Option B
 | none=>none
 | some x=>some (z6 F x)
theorem qnP (F:SF)(x:Option Operand):(evO F x).map B.er=j8 F.er x:=by
 cases x with
 | none=>rfl
 | some y=>simp only [evO,Option.map_some,qI,j8]
theorem qiA {x:Option B}{r:Option Int}(h:qpM x=some r):bnd (x.map B.er)=some r:=by
 unfold qpM at h
 split at h
 . simp only [Option.some.injEq] at h;subst h;rfl
 . simp only [Option.some.injEq] at h;subst h;rfl
 . cases h
def qiQ:Option B->Bool
 | none=>true
 | some _=>false
def qcl (M:MB)(F:SF)(str:Bool)(size:Nat)(x:B)(lo hi mx:Option B):R (TV B) :=
 match qiQ mx with
 | false=>none
 | true=>(match qpM lo,qpM hi with
   | some lo,some hi=>(match str with
     | true=>(match x with
       | .fz (.str s)=>(lhB M lo hi (M.sLen s)).bd fun r=>R.ok (.v (false,[.fz (.str (M.sCut s r.1 r.2))]))
       | _=>none)
     | false=>(match x with
       | .fz (.sl x)=>(match nq x.sz size with
         | true=>(lhB M lo hi (x.len M)).bd fun r=>(match x.cut M r.1 (M.nSub r.2 r.1) with
           | some y=>R.ok (.v (false,[.fz (.sl y)]))
           | none=>none)
         | false=>none)
       | .rf p _ off len=>(F.atR M p).bd fun o=>(match o with
         | .osl x=>(match nq x.sz size with
           | true=>(lhB M lo hi len).bd fun r=>some ([M.pLeN (M.nAdd off len) (x.len M)],.v (false,[.rf p false (M.nAdd off r.1) (M.nSub r.2 r.1)]))
           | false=>none)
         | _=>none)
       | _=>none))
   | _,_=>none)
theorem qbJ {α:Type}{l:List (List α)}{n:Nat}(h:∀ y∈l,y.length=n):(l.all fun y=>y.length == n)=true:=by
 rw [List.all_eq_true];intro y hy;simp [h y hy]
theorem YZ (F:SF)(str:Bool)(size:Nat)(x:B)(lo hi mx:Option B):(qcl qn F str size x lo hi mx).Sim fun v =>
 (match str with | true=>Ys std x.er (lo.map B.er) (hi.map B.er) (mx.map B.er) | false=>Zr std F.er size x.er (lo.map B.er) (hi.map B.er) (mx.map B.er))=some (.val (v.er B.erL)):=by
 unfold qcl
 split
 . exact R.Sim.none'
 . rename_i hmx
   have hm:mx.map B.er=none:=by cases mx with | none=>rfl | some _=>simp [qiQ] at hmx
   rw [hm]
   split
   . rename_i lo' hi' hl hh
     have hl:=qiA hl
     have hh:=qiA hh
     cases str with
     | true =>
       dsimp only
       split
       . rename_i s
         refine R.Sim.bd (qbY lo' hi' _) fun r hr=>R.Sim.ok ?_
         simp only [B.er,D.er,Ys,hl,hh]
         have:std.lh lo' hi' (std.sLen s)=some r:=hr.1
         rw [this]
         rfl
       . exact R.Sim.none'
     | false =>
       dsimp only
       split
       . rename_i x
         split
         . rename_i hsz
           obtain hsz:=Nat.eq_of_beq_eq_true hsz
           refine R.Sim.bd (qbY lo' hi' _) fun r hr=>?_
           split
           . rename_i y hy
             refine R.Sim.ok ?_
             simp only [B.er,D.er,Zr,hl,hh]
             have h1:std.lh lo' hi' (std.cLen x.rc)=some r:=by have:=hr.1;show ZO lo' hi' x.rc.length=_;rw [LL.len_rc];exact this
             have h2:std.cSz size x.rc=true:=qbJ (by rw [<-hsz];exact x.rc_sz)
             rw [h1,h2]
             show some (QR.val (.v (false,[.fz (.sl ((x.rc.drop r.1).take (r.2-r.1)))])))=_
             have h3:=LL.cut_rc hy
             rw [show qn.nSub r.2 r.1=r.2-r.1 from rfl] at h3
             rw [<-h3]
             rfl
           . exact R.Sim.none'
         . exact R.Sim.none'
       . rename_i p w off len
         refine R.Sim.bd (F.atR_sim p) fun o ho=>?_
         split
         . rename_i x
           split
           . rename_i hsz
             obtain hsz:=Nat.eq_of_beq_eq_true hsz
             refine R.Sim.bd (qbY lo' hi' _) fun r hr=>R.Sim.mk fun hp=>?_
             simp only [B.er,Zr,hl,hh,ho,W.er]
             have h2:(std.oSz size x.ro&&std.nLe (std.nAdd off len) (std.oLen x.ro))=true:=by
              have h3:std.oSz size x.ro=true:=qbJ (by rw [<-hsz];exact x.ro_sz)
              have h4:off+len<=x.len qn:=hp.one
              rw [h3]
              show decide (off+len<=x.ro.length)=true
              rw [LL.len_ro]
              simpa using h4
             rw [hr.1,h2]
             rfl
           . exact R.Sim.none'
         . exact R.Sim.none'
       . exact R.Sim.none'
   . exact R.Sim.none'
def qhb (off:Nat):B->Option B
 | .pp p i j=>some (.pp p i (j+off))
 | .fz (.ptr cs)=>some (.fz (.ptr (Qv cs off)))
 | _=>none
theorem qlv {off:Nat}{x y:B}(h:qhb off x=some y):YX off x.er=some y.er:=by
 unfold qhb at h
 split at h
 . simp only [Option.some.injEq] at h;subst h;rfl
 . simp only [Option.some.injEq] at h;subst h;simp only [B.er,D.er,YX,D.erL_eq,qa3]
 . cases h
def qgi (M:MB)(F:SF)(size:Nat)(x i:B):R B :=
 match i with
 | .fz (.int _ n)=>(match x with
   | .rf p w off len=>(F.atR M p).bd fun o=>(match o with
     | .osl y=>(match nq y.sz size with
       | true=>(match w with
         | true=>some ([M.pIx n len,M.pEqN off 0,M.pEqN len (y.len M)],.pp p (false,M.toN n) 0)
         | false=>some ([M.pIx n len,M.pLeN (M.nAdd off len) (y.len M)],.pp p (false,M.nAdd off (M.toN n)) 0))
       | false=>none)
     | _=>none)
   | .fz (.sl y)=>(match nq y.sz size with
     | true=>some ([M.pIx n (y.len M)],.fz (.ptr (y.atD M (M.toN n))))
     | false=>none)
   | _=>none)
 | _=>none
theorem qpR (x:LL)(n:Nat)(M:MB):(x.atD M n).length=x.sz:=by cases x<;>rfl
theorem qho (F:SF)(size:Nat)(x i:B):(qgi qn F size x i).Sim fun y=>Z7 std x.er i.er=some y.er/\Qm std F.er size y.er=true:=by
 unfold qgi
 split
 . rename_i k n
   split
   . rename_i p w off len
     refine R.Sim.bd (F.atR_sim p) fun o ho=>?_
     split
     . rename_i y
       split
       . rename_i hsz
         obtain hsz:=Nat.eq_of_beq_eq_true hsz
         have key:0<=n->n<len->off+len<=y.len qn->Z7 std (B.rf p w off len).er (B.fz (.int k n)).er=some (A.pp p.er (off+n.toNat) 0)/\Qm std F.er size (A.pp p.er (off+n.toNat) 0)=true:=by
          intro h1 h2 h3
          have hix:std.ix n len=some n.toNat:=if_pos ⟨h1,h2⟩
          refine ⟨by simp only [B.er,D.er,Z7,hix];rfl,?_⟩
          have hlt:off+n.toNat<y.ro.length:=by rw [LL.len_ro];omega
          have hg:std.oGet y.ro (off+n.toNat)=some y.ro[off+n.toNat]:=List.getElem?_eq_getElem hlt
          simp only [Qm,ho,W.er,hg]
          have:=y.ro_sz _ (List.getElem_mem hlt)
          rw [kL,this,hsz]
          simp
         split
         . refine R.Sim.mk fun hp=>?_
           obtain ⟨⟨h1,h2⟩,h3,h4⟩:=hp.three
           have h3:off=0:=h3
           have h4:len=y.len qn:=h4
           have:=key h1 h2 (by omega)
           subst h3
           simpa [B.er,qn] using this
         . refine R.Sim.mk fun hp=>?_
           obtain ⟨⟨h1,h2⟩,h3⟩:=hp.two
           exact key h1 h2 h3
       . exact R.Sim.none'
     . exact R.Sim.none'
   . rename_i y
     split
     . rename_i hsz
       obtain hsz:=Nat.eq_of_beq_eq_true hsz
       refine R.Sim.mk fun hp=>?_
       obtain ⟨h1,h2⟩:=hp.one
       have hlt:n.toNat<y.len qn:=by omega
       have hix:std.ix n (std.cLen y.rc)=some n.toNat:=by
        show (if 0<=n/\n<(y.rc.length:Int) then some n.toNat else none)=_
        rw [LL.len_rc,if_pos ⟨h1,h2⟩]
       have hg:std.cGet y.rc n.toNat=some ((y.atD qn n.toNat).map D.er):=LL.rc_get y _ hlt
       refine ⟨by simp only [B.er,D.er,Z7,hix,hg,D.erL_eq];rfl,?_⟩
       simp only [B.er,D.er,Qm,D.erL_eq,kL,List.length_map]
       show nq (y.atD qn n.toNat).length size=true
       rw [qpR,hsz]
       simp
     . exact R.Sim.none'
   . exact R.Sim.none'
 . exact R.Sim.none'
def qrA (M:MB):B->Option Int
 | .fz (.sl x)=>some (M.nI (x.len M))
 | .fz .nilsl=>some 0
 | .rf _ _ _ len=>some (M.nI len)
 | _=>none
theorem qoS {x:B}{n:Int}(h:qrA qn x=some n):qoR std x.er=some n:=by
 unfold qrA at h
 split at h
 . rename_i x
   simp only [Option.some.injEq] at h
   subst h
   show some (std.nI (x.rc.length))=_
   rw [LL.len_rc]
   rfl
 . simp only [Option.some.injEq] at h;subst h;rfl
 . simp only [Option.some.injEq] at h;subst h;rfl
 . cases h
def qhl (M:MB)(F:SF):B->R ByteArray
 | .fz .nilsl=>R.ok (M.sOf [])
 | .fz (.sl (.u l))=>R.ok (M.sOf l)
 | .rf p _ off len=>(F.atR M p).bd fun o=>(match o with
   | .osl (.u l)=>some ([M.pEqN off 0,M.pEqN len (M.len l)],M.sOf l)
   | .onil=>some ([M.pEqN off 0,M.pEqN len 0],M.sOf [])
   | _=>none)
 | _=>none
theorem qn4 (l:List Int):Zn (l.map fun n=>[C.int .u8 n])=some (l.map fun n=>UInt8.ofNat n.toNat):=by
 induction l with
 | nil=>rfl
 | cons a r ih=>simp [Zn,ih]
theorem qh9 (F:SF)(x:B):(qhl qn F x).Sim fun s=>∃ xs,Zj std F.er x.er=some xs/\std.sOf xs=some s:=by
 have key:∀ l:List Int,std.sOf (l.map fun n=>[C.int .u8 n])=some (qn.sOf l):=by
  intro l;show (Zn _).map _=_;rw [qn4];rfl
 unfold qhl
 split
 . exact R.Sim.ok ⟨[],rfl,key []⟩
 . exact R.Sim.ok ⟨_,rfl,key _⟩
 . rename_i p w off len
   refine R.Sim.bd (F.atR_sim p) fun o ho=>?_
   split
   . rename_i l
     refine R.Sim.mk fun hp=>?_
     obtain ⟨h1,h2⟩:=hp.two
     have h1:off=0:=h1
     have h2:len=l.length:=h2
     subst h1 h2
     refine ⟨l.map fun n=>[C.int .u8 n],?_,key l⟩
     simp only [B.er,Zj,ho,W.er,LL.ro]
     show (match decide (0+l.length<=(l.map fun n=>[O.fz (C.int .u8 n)]).length) with | true=>some (O.frzLL (((l.map fun n=>[O.fz (C.int .u8 n)]).drop 0).take l.length)) | false=>none)=_
     rw [List.drop_zero,List.take_of_length_le (by simp)]
     simp [O.frzLL_eq,O.frz,Function.comp_def]
   . refine R.Sim.mk fun hp=>?_
     obtain ⟨h1,h2⟩:=hp.two
     have h1:off=0:=h1
     have h2:len=0:=h2
     subst h1 h2
     refine ⟨[],?_,key []⟩
     simp only [B.er,Zj,ho,W.er]
     rfl
   . exact R.Sim.none'
 . exact R.Sim.none'
mutual
def B.okB:B->Bool
 | .un=>false
 | .ud=>false
 | .fz .un=>false
 | .clo _ caps=>qgj caps
 | _=>true
def qgj:List B->Bool
 | []=>true
 | a::r=>match a.okB with | true=>qgj r | false=>false
end
mutual
theorem qqL:(x:B)->x.er.ok=x.okB
 | .un=>rfl
 | .ud=>rfl
 | .fz d=>by cases d<;>rfl
 | .rf ..=>rfl
 | .pp ..=>rfl
 | .clo f caps=>by simp only [B.er,A.ok,B.okB,vG caps]
theorem vG:(l:List B)->okL (B.erL l)=qgj l
 | []=>rfl
 | a::r=>by simp only [B.erL,okL,qgj,qqL a,vG r];cases a.okB<;>rfl
end
theorem VJ (l:List B):cnt (B.erL l)=cnt l:=by induction l with | nil=>rfl | cons a r ih=>simp [B.erL,cnt,ih]
def qaE:List B->Nat->List B->Option (List B)
 | as,0,[]=>some as
 | [],_,_=>none
 | a::r,off+1,cs=>match qaE r off cs with | some l=>some (a::l) | none=>none
 | _::r,0,c::cs=>match qaE r 0 cs with | some l=>some (c::l) | none=>none
theorem qcB:∀ (as:List B) (off:Nat) (cs:List B) {r:List B},qaE as off cs=some r->putCells (B.erL as) off (B.erL cs)=some (B.erL r)
 | as,0,[],r,h=>by
   have:qaE as 0 []=some as:=by cases as<;>rfl
   rw [this] at h
   simp only [Option.some.injEq] at h
   subst h
   cases as<;>rfl
 | [],0,_::_,r,h=>by simp [qaE] at h
 | [],off+1,[],r,h=>by simp [qaE] at h
 | [],off+1,_::_,r,h=>by simp [qaE] at h
 | a::as,off+1,cs,r,h=>by
   simp only [qaE] at h
   split at h
   . rename_i l hl
     simp only [Option.some.injEq] at h
     subst h
     simp only [B.erL,putCells,qcB as off cs hl]
   . cases h
 | a::as,0,c::cs,r,h=>by
   simp only [qaE] at h
   split at h
   . rename_i l hl
     simp only [Option.some.injEq] at h
     subst h
     have:=qcB as 0 cs hl
     simp only [B.erL,putCells,this]
   . cases h
def yk (F:SF)(fs:List (Nat×Nat×Bool)):List B->List (Nat×Operand)->Option (List B)
 | as,[]=>some as
 | as,(i,x)::r=>match nth fs i with
   | some (off,size,_)=>(match evB F x with
     | .v (_,cs)=>(match qgj cs with
       | true=>(match nq (cnt cs) size with
         | true=>(match qaE as off cs with | some as'=>yk F fs as' r | none=>none)
         | false=>none)
       | false=>none)
     | .tup _=>none)
   | none=>none
theorem qaG (F:SF)(fs:List (Nat×Nat×Bool)):∀ (l:List (Nat×Operand)) (as:List B) {r:List B},yk F fs as l=some r->Zp F.er fs (B.erL as) l=some (B.erL r)
 | [],as,r,h=>by simp only [yk,Option.some.injEq] at h;subst h;rfl
 | (i,x)::l,as,r,h=>by
   simp only [yk] at h
   split at h
   . rename_i off size g hi
     split at h
     . rename_i g' cs hx
       split at h
       . rename_i hok
         split at h
         . rename_i hsz
           split at h
           . rename_i as' hp
             simp only [Zp,hi,<-kT,hx,TV.er,zY,vG,hok,VJ,hsz,Bool.and_self,qcB as off cs hp]
             exact qaG F fs l as' h
           . cases h
         . cases h
       . cases h
     . cases h
   . cases h
def zD:C->Option B
 | .un=>some .un
 | .int k n=>some (.fz (.int k n))
 | .bool b=>some (.fz (.bool true b))
 | .str s=>some (.fz (.str s))
 | .nilsl=>some (.fz .nilsl)
 | _=>none
def zDL:List C->Option (List B)
 | []=>some []
 | c::r=>match zD c,zDL r with | some d,some l=>some (d::l) | _,_=>none
theorem qnT:∀ (l:List C) {r:List B},zDL l=some r->B.erL r=fzU l
 | [],r,h=>by simp only [zDL,Option.some.injEq] at h;subst h;rfl
 | c::l,r,h=>by
   simp only [zDL] at h
   split at h
   . rename_i d l' hd hl
     simp only [Option.some.injEq] at h
     subst h
     have h1:=qnT l hl
     cases c<;>simp only [zD] at hd<;>first | (cases hd;done) | (injection hd with hd;subst hd;simp only [B.erL,B.er,D.er,h1,fzU,zA])
   . cases h
def qih (F:SF):List Operand->List B
 | []=>[]
 | x::r=>z6 F x::qih F r
theorem qnI (F:SF)(l:List Operand):B.erL (qih F l)=qbC F.er l:=by induction l with | nil=>rfl | cons a r ih=>simp only [qih,B.erL,qbC,qI,ih]
def vD (x:R D):R (TV B):=x.bd fun d=>R.ok (.v (false,[.fz d]))
def vB (x:Option B):R (TV B):=match x with | some b=>R.ok (.v (false,[b])) | none=>none
def qoQ (M:MB)(T:Nat->Option Ty)(F:SF):Op->R (TV B)
 | .move x=>R.ok (evB F x)
 | .pick c a b=>(match z6 F c with
   | .fz (.bool true b')=>R.ok (match b' with | true=>evB F a | false=>evB F b)
   | _=>none)
 | .binOp op t x y _=>(match T t with
   | some ty=>vD (qrz M ty.kind op (z6 F x) (z6 F y))
   | none=>none)
 | .unOp op _ x=>vD (qq1 M op (z6 F x))
 | .load t x=>(match T t with
   | some ty=>(qda M F ty.size (z6 F x)).bd fun as=>oR (qpb ty.agg as)
   | none=>none)
 | .fieldAddr t x f=>(match T t with
   | some ⟨.st fs,_,_,_,_⟩=>(match nth fs f with
     | some (_,0,_)=>none
     | some (off,_+1,_)=>vB (qhb off (z6 F x))
     | none=>none)
   | _=>none)
 | .indexAddr t x i=>(match T t with
   | some ⟨.sl e,_,_,_,_⟩=>(match T e with
     | some ty=>(qgi M F ty.size (z6 F x) (z6 F i)).bd fun a=>R.ok (.v (false,[a]))
     | none=>none)
   | _=>none)
 | .index t x i=>(match T t with
   | some ⟨.str,_,_,_,_⟩=>(match z6 F x,z6 F i with
     | .fz (.str s),.fz (.int _ n)=>some ([M.pIx n (M.sLen s)],.v (false,[.fz (.int .u8 (M.sAt s (M.toN n)))]))
     | _,_=>none)
   | _=>none)
 | .slice t x lo hi mx=>(match T t with
   | some ⟨.str,_,_,_,_⟩=>qcl M F true 0 (z6 F x) (evO F lo) (evO F hi) (evO F mx)
   | some ⟨.sl e,_,_,_,_⟩=>(match T e with
     | some ty=>qcl M F false ty.size (z6 F x) (evO F lo) (evO F hi) (evO F mx)
     | none=>none)
   | _=>none)
 | .convert s t x=>(match T s,T t with
   | some ⟨ks,_,_,_,_⟩,some ⟨.int k,_,_,_,_⟩=>(match z6 F x with
     | .fz (.int _ n)=>(match ks with
       | .int _=>R.ok (.v (false,[.fz (.int k (M.iWrap k n))]))
       | _=>none)
     | _=>none)
   | some ⟨.str,_,_,_,_⟩,some ⟨.str,_,_,_,_⟩=>(match z6 F x with
     | .fz (.str s)=>R.ok (.v (false,[.fz (.str s)]))
     | _=>none)
   | some ⟨.sl e,_,_,_,_⟩,some ⟨.str,_,_,_,_⟩=>(match T e with
     | some ⟨.int .u8,_,_,_,_⟩=>(qhl M F (z6 F x)).bd fun s=>R.ok (.v (false,[.fz (.str s)]))
     | _=>none)
   | _,_=>none)
 | .extract x i=>(match evB F x with
   | .tup xs=>(match nth xs i with
     | some y=>R.ok (.v y)
     | none=>none)
   | _=>none)
 | .makeFunc (.func f) ⟨[]⟩ ⟨caps⟩=>R.ok (.v (false,[.clo f (qih F caps)]))
 | .build t ⟨parts⟩=>(match T t with
   | some ⟨.st fs,_,_,_,z⟩=>(match zDL z with
     | some ds=>(match yk F fs ds parts with
       | some as=>R.ok (.v (true,as))
       | none=>none)
     | none=>none)
   | _=>none)
 | .call ⟨.builtin .len,⟨[x]⟩,⟨[t]⟩⟩=>(match T t with
  | some ⟨.str,_,_,_,_⟩=>(match z6 F x with | .fz (.str s)=>R.ok (.v (false,[.fz (.int .i64 (M.nI (M.sLen s)))])) | _=>none)
  | some ⟨.sl _,_,_,_,_⟩=>(match qrA M (z6 F x) with | some n=>R.ok (.v (false,[.fz (.int .i64 n)])) | none=>none)
  | _=>none)
 | .call ⟨.builtin .max,⟨[x,y]⟩,_⟩=>(match z6 F x,z6 F y with
  | .fz (.int k a),.fz (.int k' b)=>(match wC k k' with | true=>R.ok (.v (false,[.fz (.int k (M.iMax a b))])) | false=>none)
  | _,_=>none)
 | .call ⟨.builtin .min,⟨[x,y]⟩,_⟩=>(match z6 F x,z6 F y with
  | .fz (.int k a),.fz (.int k' b)=>(match wC k k' with | true=>R.ok (.v (false,[.fz (.int k (M.iMin a b))])) | false=>none)
  | _,_=>none)
 | _=>none
theorem qbi (xs:List (V1 B))(i:Nat):(qw B.erL xs)[i]?=(xs[i]?).map (zY B.erL):=by
 induction xs generalizing i with
 | nil=>simp [qw]
 | cons x r ih=>cases i<;>simp [qw,ih]
theorem qeH (T:Nat->Option Ty)(F:SF)(op:Op):(qoQ qn T F op).Sim fun v=>qop std T F.er op=some (.val (v.er B.erL)):=by
 unfold qoQ
 split
 . exact R.Sim.ok (by simp only [qop,kT])
 . rename_i c a b
   split
   . rename_i b' hc
     refine R.Sim.ok ?_
     have:ev1 F.er c=.fz (.bool b'):=by rw [<-qI,hc];rfl
     simp only [qop,this]
     cases b'<;>simp only [kT]
   . exact R.Sim.none'
 . split
   . rename_i ty ht
     refine R.Sim.bd (qom _ _ _ _) fun d hd=>R.Sim.ok ?_
     simp only [qop,ht,<-qI,hd]
     rfl
   . exact R.Sim.none'
 . refine R.Sim.bd (qof _ _) fun d hd=>R.Sim.ok ?_
   simp only [qop,<-qI,hd]
   rfl
 . split
   . rename_i ty ht
     refine R.Sim.bd (yl F _ _) fun as has=>yG fun v hv=>?_
     simp only [qop,ht,<-qI,has,qjw hv]
   . exact R.Sim.none'
 . split
   . rename_i fs g1 g2 g3 g4 ht
     split
     . exact R.Sim.none'
     . rename_i off sz g5 hf
       unfold vB
       split
       . rename_i y hy
         refine R.Sim.ok ?_
         simp only [qop,ht,hf,<-qI,qlv hy]
         rfl
       . exact R.Sim.none'
     . exact R.Sim.none'
   . exact R.Sim.none'
 . split
   . rename_i e g1 g2 g3 g4 ht
     split
     . rename_i ty hte
       refine R.Sim.bd (qho F _ _ _) fun y ⟨h1,h2⟩=>R.Sim.ok ?_
       simp only [qop,ht,hte,<-qI,h1,h2]
       rfl
     . exact R.Sim.none'
   . exact R.Sim.none'
 . split
   . rename_i g1 g2 g3 g4 ht
     split
     . rename_i s k n hx hi
       refine R.Sim.mk fun hp=>?_
       obtain ⟨h1,h2⟩:=hp.one
       have h2:n<(s.size:Int):=h2
       have hlt:n.toNat<s.size:=by omega
       have hs:std.sAt s n=some (qn.sAt s (qn.toN n)):=by
        show (if 0<=n then (s[n.toNat]?).map (fun b=>(b.toNat:Int)) else none)=_
        rw [if_pos h1]
        simp [qn,hlt]
       simp only [qop,ht,<-qI,hx,hi,B.er,D.er,qg6,hs,qkC]
       rfl
     . exact R.Sim.none'
   . exact R.Sim.none'
 . split
   . rename_i g1 g2 g3 g4 ht
     refine (YZ F true 0 _ _ _ _).mono fun v hv=>?_
     simp only [qnP,qI] at hv
     simp only [qop,ht]
     exact hv
   . rename_i e g1 g2 g3 g4 ht
     split
     . rename_i ty hte
       refine (YZ F false _ _ _ _ _).mono fun v hv=>?_
       simp only [qnP,qI] at hv
       simp only [qop,ht,hte]
       exact hv
     . exact R.Sim.none'
   . exact R.Sim.none'
 . split
   . rename_i ks _ _ _ _ k _ _ _ _ hs ht
     split
     . rename_i k' n hx
       split
       . refine R.Sim.ok ?_
         simp only [qop,hs,ht,<-qI,hx,B.er,D.er]
         rfl
       . exact R.Sim.none'
     . exact R.Sim.none'
   . rename_i hs ht
     split
     . rename_i s hx
       refine R.Sim.ok ?_
       simp only [qop,hs,ht,<-qI,hx,B.er,D.er]
       rfl
     . exact R.Sim.none'
   . rename_i e _ _ _ _ _ _ _ _ hs ht
     split
     . rename_i hte
       refine R.Sim.bd (qh9 F _) fun s ⟨xs,h1,h2⟩=>R.Sim.ok ?_
       simp only [qop,hs,ht,hte,<-qI,h1,h2]
       rfl
     . exact R.Sim.none'
   . exact R.Sim.none'
 . split
   . rename_i xs hx
     split
     . rename_i y hy
       refine R.Sim.ok ?_
       rw [qu] at hy
       simp only [qop,<-kT,hx,TV.er,qu,qbi,hy,Option.map_some]
     . exact R.Sim.none'
   . exact R.Sim.none'
 . refine R.Sim.ok ?_
   simp only [qop,TV.er,zY,B.erL,B.er,qnI]
 . split
   . rename_i fs _ _ _ z ht
     split
     . rename_i ds hz
       have h1:=qnT z hz
       split
       . rename_i as has
         refine R.Sim.ok ?_
         have:=qaG F fs _ _ has
         rw [h1] at this
         simp only [qop,ht,this]
         rfl
       . exact R.Sim.none'
     . exact R.Sim.none'
   . exact R.Sim.none'
 . split
   . rename_i ht
     split
     . rename_i s hx
       refine R.Sim.ok ?_
       simp only [qop,ht,<-qI,hx,B.er,D.er]
       rfl
     . exact R.Sim.none'
   . rename_i ht
     split
     . rename_i n hn
       refine R.Sim.ok ?_
       simp only [qop,ht,<-qI,qoS hn]
       rfl
     . exact R.Sim.none'
   . exact R.Sim.none'
 . split
   . rename_i k a k' b hx hy
     split
     . rename_i hk
       refine R.Sim.ok ?_
       simp only [qop,qeJ,evC,<-qI,hx,hy,B.er,D.er,C?,K0,mxA,hk]
       rfl
     . exact R.Sim.none'
   . exact R.Sim.none'
 . split
   . rename_i k a k' b hx hy
     split
     . rename_i hk
       refine R.Sim.ok ?_
       simp only [qop,qeJ,evC,<-qI,hx,hy,B.er,D.er,C?,K0,mxA,hk]
       rfl
     . exact R.Sim.none'
   . exact R.Sim.none'
 . exact R.Sim.none'
end Go.Proofs.YtfafehnchmelnaaGreat.Ai
namespace Go.Proofs.YtfafehnchmelnaaGreat.Ai
open Go
theorem jE (a b:Nat):std.nEq a b=(a == b):=rfl
def qg8 (M:MB)(F:SF)(a:B)(q:SP):R (W×Option SP) :=
 match a with
 | .fz .nilsl=>R.ok (.onil,none)
 | .fz .un=>none
 | .fz d=>R.ok (.fz d,none)
 | .rf p _ off len=>(F.atR M p).bd fun o=>(match o with
   | .osl x=>(match nq p.1 q.1 with
     | false=>some ([M.pEqN off 0,M.pEqN len (x.len M)],(.osl x,some p))
     | true=>none)
   | .onil=>(match nq p.1 q.1 with
     | false=>some ([M.pEqN off 0,M.pEqN len 0],(.onil,some p))
     | true=>none)
   | _=>none)
 | .pp p i j=>(F.atR M p).bd fun o=>(match o with
   | .obx cs=>(match i with
     | (true,0)=>(match j with
       | 0=>(match nq p.1 q.1 with
         | false=>R.ok (.obx cs,some p)
         | true=>none)
       | _+1=>none)
     | _=>none)
   | _=>none)
 | _=>none
theorem qhS (F:SF)(a:B)(q:SP):(qg8 qn F a q).Sim fun r=>Kq std false F.er a.er q.er=some (r.1.er,r.2.map SP.er):=by
 unfold qg8
 split
 . exact R.Sim.ok rfl
 . exact R.Sim.none'
 . rename_i d h1 h2
   refine R.Sim.ok ?_
   cases d<;>first | rfl | exact (h1 rfl).elim | exact (h2 rfl).elim
 . rename_i p w off len
   refine R.Sim.bd (F.atR_sim p) fun o ho=>?_
   split
   . rename_i x
     split
     . rename_i hne
       refine R.Sim.mk fun hp=>?_
       obtain ⟨h1,h2⟩:=hp.two
       have h1:off=0:=h1
       have h2:len=x.len qn:=h2
       subst h1 h2
       have hne':nq p.er.1 q.er.1=false:=hne
       have hl:std.oLen x.ro=x.len qn:=LL.len_ro x
       simp only [B.er,Kq,ho,W.er,jE,hne',hl]
       simp
     . exact R.Sim.none'
   . split
     . rename_i hne
       refine R.Sim.mk fun hp=>?_
       obtain ⟨h1,h2⟩:=hp.two
       have h1:off=0:=h1
       have h2:len=0:=h2
       subst h1 h2
       have hne':nq p.er.1 q.er.1=false:=hne
       have hl:std.oLen []=0:=rfl
       simp only [B.er,Kq,ho,W.er,jE,hne',hl]
       simp
     . exact R.Sim.none'
   . exact R.Sim.none'
 . rename_i p i j
   refine R.Sim.bd (F.atR_sim p) fun o ho=>?_
   split
   . rename_i cs
     split
     . split
       . split
         . rename_i hne
           refine R.Sim.ok ?_
           have hne':nq p.er.1 q.er.1=false:=hne
           simp only [B.er,Kq,ho,W.er,hne']
           rfl
         . exact R.Sim.none'
       . exact R.Sim.none'
     . exact R.Sim.none'
   . exact R.Sim.none'
 . exact R.Sim.none'
def Zt (M:MB)(q:Nat->SP):Nat->Nat->SF->List B->R (List W×SF)
 | _,0,F,[]=>R.ok ([],F)
 | j,n+1,F,a::rest=>(qg8 M F a (q j)).bd fun r=>(match r.2 with
   | none=>(Zt M q (j+1) n F rest).bd fun s=>R.ok (r.1::s.1,s.2)
   | some p=>(F.liftR M p (q j)).bd fun F1=>(match B.trL (qjt p (q j)) rest with
     | some l=>(Zt M q (j+1) n F1 l).bd fun s=>R.ok (r.1::s.1,s.2)
     | none=>none))
 | _,_,_,_=>none
theorem qpd (τ':qk->Option qk)(l:List A):A.trL τ' l=l.map (A.tr τ'):=jQ τ' l
theorem Z8 (q:Nat->SP):∀ (n j:Nat) (F:SF) (as:List B),(Zt qn q j n F as).Sim fun r=>∀ (f:A->A) (l:List A),l.map f=B.erL as->jq std false (fun j=>(q j).er) j F.er f l=some (W.erL r.1,r.2.er)
 | 0,j,F,[]=>R.Sim.ok fun f l hl=>by
   cases l with
   | nil=>rfl
   | cons a l=>simp [B.erL] at hl
 | 0,j,F,_::_=>R.Sim.none'
 | n+1,j,F,[]=>R.Sim.none'
 | n+1,j,F,a::rest=>by
   simp only [Zt]
   refine R.Sim.bd (qhS F a (q j)) fun r hr=>?_
   split
   . rename_i hr2
     rw [hr2] at hr
     refine R.Sim.bd (Z8 q n (j+1) F rest) fun s hs=>R.Sim.ok fun f l hl=>?_
     cases l with
     | nil=>simp [B.erL] at hl
     | cons b l =>
       simp only [List.map_cons,B.erL,List.cons.injEq] at hl
       simp only [jq,hl.1,hr,Option.map_none,hs f l hl.2]
       rfl
   . rename_i p hr2
     rw [hr2] at hr
     refine R.Sim.bd (F.liftR_sim p (q j)) fun F1 hF1=>?_
     split
     . rename_i rest' hrest
       refine R.Sim.bd (Z8 q n (j+1) F1 rest') fun s hs=>R.Sim.ok fun f l hl=>?_
       cases l with
       | nil=>simp [B.erL] at hl
       | cons b l =>
         simp only [List.map_cons,B.erL,List.cons.injEq] at hl
         have h1:l.map (fun x=>(f x).tr (jt std p.er (q j).er))=B.erL rest':=by
          rw [<-B.trL_sound (fun x r=>WU) rest hrest,qpd,<-hl.2,List.map_map]
          rfl
         have h2:=hs _ l h1
         simp only [jq,hl.1,hr,Option.map_some,hF1,h2]
         rfl
     . exact R.Sim.none'
def qB (r:Nat)(s:kX)(i:Bool×Nat)(j:Nat):SP:=(r,s++[(i,j)])
theorem qeR (r:Nat)(s:kX)(i:Bool×Nat)(j:Nat):(qB r s i j).er=qAt r (ixs s) i.2 j:=by simp only [qB,SP.er,wo,qAt];rfl
theorem Wj (r:Nat)(s:kX)(i:Bool×Nat)(n:Nat)(F:SF)(as:List B):(Zt qn (qB r s i) 0 n F as).Sim fun x=>jq std false (qAt r (ixs s) i.2) 0 F.er idA (B.erL as)=some (W.erL x.1,x.2.er):=by
 refine (Z8 (qB r s i) n 0 F as).mono fun x hx=>?_
 have:=hx idA (B.erL as) (by show List.map (fun a=>a) _=_;simp)
 have hq:(fun j=>(qB r s i j).er)=qAt r (ixs s) i.2:=by funext j;exact qeR r s i j
 rw [hq] at this
 exact this
theorem qhO (r:Nat)(s:kX)(i:Bool×Nat)(j n:Nat)(F:SF)(as:List B):(Zt qn (qB r s i) j n F as).Sim fun x=>jq std false (qAt r (ixs s) i.2) j F.er idA (B.erL as)=some (W.erL x.1,x.2.er):=by
 refine (Z8 (qB r s i) n j F as).mono fun x hx=>?_
 have:=hx idA (B.erL as) (by show List.map (fun a=>a) _=_;simp)
 have hq:(fun j=>(qB r s i j).er)=qAt r (ixs s) i.2:=by funext j;exact qeR r s i j
 rw [hq] at this
 exact this
def qiE:TV B->Option (List B)
 | .v (_,as)=>some as
 | .tup _=>none
def ppB (r:Nat):TV B:=.v (false,[.pp (r,[]) (true,0) 0])
def rfB (r len:Nat):TV B:=.v (false,[.rf (r,[]) true 0 len])
def qqN (M:MB)(F:SF)(d:Nat)(x:Operand):R SF :=
 match qiE (evB F x) with
 | some as=>(Zt M (qB (rid d 0 0) [] (true,0)) 0 (cnt as) F as).bd fun s=>R.ok ((s.2.root (rid d 0 0) (.obx s.1)).put d (ppB (rid d 0 0)))
 | none=>none
theorem qmH (F:SF)(d:Nat)(x:Operand):(qqN qn F d x).Sim fun G=>qmy std false F.er d x=some G.er:=by
 unfold qqN
 split
 . rename_i as has
   have hx:(ev F.er x).cells=some (B.erL as):=by
    rw [<-kT]
    unfold qiE at has
    split at has
    . rename_i g as' he
      simp only [Option.some.injEq] at has
      subst has
      rw [he]
      rfl
    . cases has
   refine R.Sim.bd (Wj _ _ _ _ F as) fun s hs=>R.Sim.ok ?_
   unfold qmy
   rw [hx]
   dsimp only
   rw [show qAt (rid d 0 0) [] 0=qAt (rid d 0 0) (ixs []) (true,0).2 from rfl,hs]
   rfl
 . exact R.Sim.none'
def zW:C->Option W
 | .int k n=>some (.fz (.int k n))
 | .bool b=>some (.fz (.bool true b))
 | .str s=>some (.fz (.str s))
 | .nilsl=>some .onil
 | _=>none
def zWL:List C->Option (List W)
 | []=>some []
 | c::r=>match zW c,zWL r with | some d,some l=>some (d::l) | _,_=>none
theorem qbV:∀ (l:List C) {r:List W},zWL l=some r->W.erL r=kc false l/\ZR l=true
 | [],r,h=>by simp only [zWL,Option.some.injEq] at h;subst h;exact ⟨rfl,rfl⟩
 | c::l,r,h=>by
   simp only [zWL] at h
   split at h
   . rename_i d l' hd hl
     simp only [Option.some.injEq] at h
     subst h
     obtain ⟨h1,h2⟩:=qbV l hl
     cases c<;>simp only [zW] at hd<;>first | (cases hd;done) | (injection hd with hd;subst hd;exact ⟨by simp only [W.erL,W.er,D.er,kc,h1],by simp only [ZR,h2]⟩)
   . cases h
def qmR (M:MB)(T:Nat->Option Ty)(F:SF)(d:Nat)(e:Nat):R SF :=
 match T e with
 | some ty=>(match zWL ty.zero with
   | some zs=>(F.clearR M (rid d 0 0)).bd fun G=>R.ok ((G.root (rid d 0 0) (.obx zs)).put d (ppB (rid d 0 0)))
   | none=>none)
 | none=>none
def LL.cons1:LL->LL->Option LL
 | .i [x1],.i l=>some (.i (x1::l))
 | .u [x1],.u l=>some (.u (x1::l))
 | .b [x1],.b l=>some (.b (x1::l))
 | .s [x1],.s l=>some (.s (x1::l))
 | .cue [x1],.cue l=>some (.cue (x1::l))
 | .tie [x1],.tie l=>some (.tie (x1::l))
 | .edge [x1],.edge l=>some (.edge (x1::l))
 | .link [x1],.link l=>some (.link (x1::l))
 | .node true none [x1],.node true none l=>some (.node true none (x1::l))
 | .node false none [x1],.node false none l=>some (.node false none (x1::l))
 | .ii true none [x1],.ii true none l=>some (.ii true none (x1::l))
 | .ii false none [x1],.ii false none l=>some (.ii false none (x1::l))
 | _,_=>none
theorem LL.cons1_ro {x y z:LL}(h:x.cons1 y=some z):z.ro=x.ro++y.ro:=by
 unfold LL.cons1 at h
 split at h<;>first | (simp only [Option.some.injEq] at h;subst h;rfl) | cases h
def LL.many (k:EK):List (List W)->Option W
 | []=>some .onil
 | [c]=>(match LL.one k c with | some x=>some (.osl x) | none=>none)
 | c::r=>(match LL.one k c,LL.many k r with
   | some x,some (.osl y)=>(match x.cons1 y with | some z=>some (.osl z) | none=>none)
   | _,_=>none)
theorem LL.many_er (k:EK):∀ (l:List (List W)) {w:W},LL.many k l=some w->w.er=.osl (l.map W.erL)
 | [],w,h=>by simp only [LL.many,Option.some.injEq] at h;subst h;rfl
 | [c],w,h=>by
   simp only [LL.many] at h
   split at h
   . rename_i x hx
     simp only [Option.some.injEq] at h
     subst h
     simp only [W.er,LL.one_ro hx,List.map_cons,List.map_nil,W.erL_eq]
   . cases h
 | c::c'::r,w,h=>by
   simp only [LL.many] at h
   split at h
   . rename_i x y hx hy
     split at h
     . rename_i z hz
       simp only [Option.some.injEq] at h
       subst h
       have:=LL.many_er k (c'::r) hy
       simp only [W.er,O.osl.injEq] at this ⊢
       rw [LL.cons1_ro hz,LL.one_ro hx,this]
       simp [W.erL_eq]
     . cases h
   . cases h
def qb7 (M:MB)(r size:Nat):Nat->SF->List (Nat×Operand)->R (List (List W)×SF)
 | _,F,[]=>R.ok ([],F)
 | i,F,(i',x)::rest=>(match nq i' i with
   | true=>(match evB F x with
     | .v (_,as)=>(match nq (cnt as) size with
       | true=>(Zt M (qB r [] (true,i)) 0 (cnt as) F as).bd fun s=>(qb7 M r size (i+1) s.2 rest).bd fun t=>R.ok (s.1::t.1,t.2)
       | false=>none)
     | .tup _=>none)
   | false=>none)
theorem qac (r size:Nat):∀ (l:List (Nat×Operand)) (i:Nat) (F:SF),(qb7 qn r size i F l).Sim fun t=>Zw std false r size i F.er l=some (t.1.map W.erL,t.2.er)
 | [],i,F=>R.Sim.ok rfl
 | (i',x)::l,i,F=>by
   simp only [qb7]
   split
   . rename_i hi
     split
     . rename_i g as hx
       split
       . rename_i hsz
         refine R.Sim.bd (Wj r [] (true,i) _ F as) fun s hs=>R.Sim.bd (qac r size l (i+1) s.2) fun t ht=>R.Sim.ok ?_
         have hs':jq std false (qAt r [] i) 0 F.er idA (B.erL as)=some (W.erL s.1,s.2.er):=hs
         simp only [Zw,hi,<-kT,hx,TV.er,zY,VJ,hsz,hs',ht]
         rfl
       . exact R.Sim.none'
     . exact R.Sim.none'
   . exact R.Sim.none'
def qnk (M:MB)(F:SF):B->R (Option LL×SF)
 | .fz .nilsl=>R.ok (none,F)
 | .rf p _ off len=>(F.atR M p).bd fun o=>(match o with
   | .osl x=>(F.dropR M p).bd fun G=>some ([M.pEqN off 0,M.pEqN len (x.len M)],(some x,G))
   | .onil=>(F.dropR M p).bd fun G=>some ([M.pEqN off 0,M.pEqN len 0],(none,G))
   | _=>none)
 | _=>none
def oro:Option LL->List (List O)
 | none=>[]
 | some x=>x.ro
theorem qjS (F:SF)(x:B):(qnk qn F x).Sim fun r=>JX std F.er x.er=some (oro r.1,r.2.er):=by
 unfold qnk
 split
 . exact R.Sim.ok rfl
 . rename_i p w off len
   refine R.Sim.bd (F.atR_sim p) fun o ho=>?_
   split
   . rename_i x
     refine R.Sim.bd (F.dropR_sim p) fun G hG=>R.Sim.mk fun hp=>?_
     obtain ⟨h1,h2⟩:=hp.two
     have h1:off=0:=h1
     have h2:len=x.len qn:=h2
     subst h1 h2
     have hl:std.oLen x.ro=x.len qn:=LL.len_ro x
     simp only [B.er,JX,ho,W.er,jE,hl,hG]
     simp [oro]
   . refine R.Sim.bd (F.dropR_sim p) fun G hG=>R.Sim.mk fun hp=>?_
     obtain ⟨h1,h2⟩:=hp.two
     have h1:off=0:=h1
     have h2:len=0:=h2
     subst h1 h2
     have hl:std.oLen []=0:=rfl
     simp only [B.er,JX,ho,W.er,jE,hl,hG]
     simp [oro]
   . exact R.Sim.none'
 . exact R.Sim.none'
def qqm:kX->Bool
 | []=>true
 | _::_=>false
def qoe (M:MB)(F:SF):B->R (Option LL×Option SP)
 | .fz .nilsl=>R.ok (none,none)
 | .fz (.sl zs)=>R.ok (some zs.thaw,none)
 | .rf p w off len=>(F.atR M p).bd fun o=>(match o with
   | .osl x=>(match x.here with
     | true=>(match x.flat with
       | true=>(match w with
         | true=>some ([M.pEqN off 0,M.pEqN len (x.len M)],(some x,none))
         | false=>(match x.cut M off len with
           | some y=>some ([M.pLeN (M.nAdd off len) (x.len M)],(some y,none))
           | none=>none))
       | false=>(match x.some1 with
         | true=>(match qqm p.2 with
           | true=>some ([M.pEqN off 0,M.pEqN len (x.len M)],(some x,some p))
           | false=>none)
         | false=>none))
     | false=>none)
   | .onil=>some ([M.pEqN off 0,M.pEqN len 0],(none,none))
   | _=>none)
 | _=>none
theorem qkH (F:SF)(x:B):(qoe qn F x).Sim fun r=>Kr std F.er x.er=some (oro r.1,r.2.map SP.er):=by
 unfold qoe
 split
 . exact R.Sim.ok rfl
 . rename_i zs
   refine R.Sim.ok ?_
   simp only [B.er,D.er,Kr,oro,LL.thaw_ro]
   rfl
 . rename_i p w off len
   refine R.Sim.bd (F.atR_sim p) fun o ho=>?_
   split
   . rename_i x
     split
     . rename_i hh
       split
       . rename_i hf
         have hfl:std.oFlat x.ro=true:=LL.flat_ro x hf hh
         split
         . refine R.Sim.mk fun hp=>?_
           obtain ⟨h1,h2⟩:=hp.two
           have h1:off=0:=h1
           have h2:len=x.len qn:=h2
           subst h1 h2
           have hl:std.oLen x.ro=x.len qn:=LL.len_ro x
           have hn:std.nLe (std.nAdd 0 (x.len qn)) (x.len qn)=true:=by show decide (0+x.len qn<=x.len qn)=true;simp
           simp only [B.er,Kr,ho,W.er,hl,hn,hfl,jE]
           simp [oro]
         . split
           . rename_i y hy
             refine R.Sim.mk fun hp=>?_
             have h1:off+len<=x.len qn:=hp.one
             have hl:std.oLen x.ro=x.len qn:=LL.len_ro x
             have hn:std.nLe (std.nAdd off len) (x.len qn)=true:=by show decide (off+len<=x.len qn)=true;simpa using h1
             have hc:std.oCut x.ro off len=y.ro:=(LL.cut_ro hy).symm
             simp only [B.er,Kr,ho,W.er,hl,hn,hfl,jE,hc]
             by_cases he:off=0/\len=x.len qn
             . obtain ⟨rfl,rfl⟩:=he
               have:y.ro=x.ro:=by
                rw [LL.cut_ro hy,List.drop_zero,<-LL.len_ro]
                simp
               simp [oro,this]
             . have:(off == 0&&len == x.len qn)=false:=by
                cases hb:(off == 0&&len == x.len qn) with
                | false=>rfl
                | true=>simp at hb;exact absurd hb he
               simp only [this,oro,Option.map_none]
           . exact R.Sim.none'
       . rename_i hf
         split
         . rename_i hs
           split
           . rename_i hn0
             refine R.Sim.mk fun hp=>?_
             obtain ⟨h1,h2⟩:=hp.two
             have h1:off=0:=h1
             have h2:len=x.len qn:=h2
             subst h1 h2
             have hl:std.oLen x.ro=x.len qn:=LL.len_ro x
             have hfl:std.oFlat x.ro=false:=LL.some1_ro x hs hf
             have hn:std.nLe (std.nAdd 0 (x.len qn)) (x.len qn)=true:=by show decide (0+x.len qn<=x.len qn)=true;simp
             obtain ⟨r,s⟩:=p
             cases s with
             | cons _ _=>simp [qqm] at hn0
             | nil =>
               simp only [B.er,Kr,ho,W.er,hl,hn,hfl,jE]
               simp [oro,SP.er,ixs]
           . exact R.Sim.none'
         . exact R.Sim.none'
     . exact R.Sim.none'
   . refine R.Sim.mk fun hp=>?_
     obtain ⟨h1,h2⟩:=hp.two
     have h1:off=0:=h1
     have h2:len=0:=h2
     subst h1 h2
     simp only [B.er,Kr,ho,W.er]
     rfl
   . exact R.Sim.none'
 . exact R.Sim.none'
def qqC (M:MB)(F:SF):Option SP->R SF
 | none=>R.ok F
 | some p=>F.dropR M p
def yT (M:MB):Option LL->Nat
 | none=>0
 | some x=>x.len M
def qqQ (M:MB):Option LL->Option LL->Option (Option LL)
 | none,y=>some y
 | some x,none=>some (some x)
 | some x,some y=>(match x.app M y with | some z=>some (some z) | none=>none)
def qpm (n:Nat):Option LL->Bool
 | none=>true
 | some x=>nq x.sz n
def qrD:Option LL->W
 | none=>.onil
 | some x=>.osl x
theorem vF (x:Option LL):(oro x).length=yT qn x:=by cases x with | none=>rfl | some x=>exact LL.len_ro x
theorem qi0 (x:Option LL):(qrD x).er=.osl (oro x):=by cases x<;>rfl
theorem qpF {x y z:Option LL}(h:qqQ qn x y=some z):oro z=oro x++oro y:=by
 unfold qqQ at h
 split at h
 . simp only [Option.some.injEq] at h;subst h;rfl
 . simp only [Option.some.injEq] at h;subst h;simp [oro]
 . split at h
   . rename_i z' hz
     simp only [Option.some.injEq] at h
     subst h
     exact LL.app_ro hz
   . cases h
theorem qcd {n:Nat}{x:Option LL}(h:qpm n x=true):std.oSz n (oro x)=true:=by
 cases x with
 | none=>rfl
 | some x =>
   have:=Nat.eq_of_beq_eq_true h
   exact qbJ (by rw [<-this];exact x.ro_sz)
def qcD (M:MB)(ty:Ty)(d:Nat)(x y:Operand)(F:SF):R SF :=
 (qnk M F (z6 F x)).bd fun r=>(qoe M r.2 (z6 r.2 y)).bd fun s =>
   (match nle ty.bytes 4096&&nlt 0 ty.size&&nq (cnt ty.zero) ty.size&&qpm ty.size s.1&&qpm ty.size r.1 with
   | true=>(match qqQ M r.1 s.1 with
     | some z=>(qqC M r.2 s.2).bd fun G=>some ([M.pLeLim (M.nAdd (yT M r.1) (yT M s.1))],(G.root (rid d 0 0) (qrD z)).put d (rfB (rid d 0 0) (yT M z)))
     | none=>none)
   | false=>none)
theorem qeP (ty:Ty)(d:Nat)(x y:Operand)(F:SF):(qcD qn ty d x y F).Sim fun G=>Ki std ty d x y F.er=some G.er:=by
 unfold qcD
 refine R.Sim.bd (qjS F _) fun r hr=>R.Sim.bd (qkH r.2 _) fun s hs=>?_
 split
 . rename_i hc
   split
   . rename_i z hz
     have hg:(qqC qn r.2 s.2).Sim fun G=>qaI std r.2.er (s.2.map SP.er)=G.er:=by
      cases s.2 with
      | none=>exact R.Sim.ok rfl
      | some p=>exact r.2.dropR_sim p
     refine R.Sim.bd hg fun G hG=>R.Sim.mk fun hp=>?_
     rw [qI] at hr hs
     unfold Ki
     simp only [hr,hs]
     simp only [Bool.and_eq_true] at hc
     obtain ⟨⟨⟨⟨h1,h2⟩,h3⟩,h4⟩,h5⟩:=hc
     have h6:std.nLe (std.nAdd (std.oLen (oro r.1)) (std.oLen (oro s.1))) lim=true:=by
      have:yT qn r.1+yT qn s.1<=lim:=hp.one
      show decide ((oro r.1).length+(oro s.1).length<=lim)=true
      rw [vF,vF]
      simpa using this
     rw [h1,h2,h3,qcd h4,qcd h5,h6]
     have h7:std.oCat (oro r.1) (oro s.1)=oro z:=(qpF hz).symm
     simp only [Bool.and_self,hG,h7]
     have h8:std.oLen (oro z)=yT qn z:=vF z
     rw [h8,<-qi0]
     rfl
   . exact R.Sim.none'
 . exact R.Sim.none'
def qcc (M:MB)(F:SF)(d:Nat)(x:TV B):R SF :=
 match x with
 | .v (false,[.fz .nilsl])=>(F.clearR M (rid d 0 0)).bd fun G=>R.ok ((G.root (rid d 0 0) .onil).put d (rfB (rid d 0 0) 0))
 | .v (false,[.rf (id,[]) w off len])=>(F.atR M (id,[])).bd fun o=>(match w with
   | true=>(match o with
     | .osl x=>(match nq id (rid d 0 0) with
       | true=>some ([M.pEqN off 0,M.pEqN len (x.len M)],F.put d (.v (false,[.rf (id,[]) w off len])))
       | false=>(F.clearR M (rid d 0 0)).bd fun G=>(G.liftR M (id,[]) (rid d 0 0,[])).bd fun H=>some ([M.pEqN off 0,M.pEqN len (x.len M)],(H.root (rid d 0 0) (.osl x)).put d (rfB (rid d 0 0) len)))
     | .onil=>(match nq id (rid d 0 0) with
       | true=>some ([M.pEqN off 0,M.pEqN len 0],F.put d (.v (false,[.rf (id,[]) w off len])))
       | false=>(F.clearR M (rid d 0 0)).bd fun G=>(G.liftR M (id,[]) (rid d 0 0,[])).bd fun H=>some ([M.pEqN off 0,M.pEqN len 0],(H.root (rid d 0 0) .onil).put d (rfB (rid d 0 0) len)))
     | _=>none)
   | false=>none)
 | x=>R.ok (F.put d x)
theorem qq2 (x:TV B):(∃ id off len,x.er B.erL=TV.v (false,[A.rf (id,[]) off len]))->∃ id w off len,x=.v (false,[.rf (id,[]) w off len]):=by
 rintro ⟨id,off,len,h⟩
 cases x with
 | tup xs=>simp [TV.er] at h
 | v x =>
   obtain ⟨g,as⟩:=x
   simp only [TV.er,zY,TV.v.injEq,Prod.mk.injEq] at h
   obtain ⟨rfl,h⟩:=h
   match as,h with
   | [a],h =>
     simp only [B.erL,List.cons.injEq,and_true] at h
     cases a with
     | rf p w off' len' =>
       obtain ⟨r,s⟩:=p
       cases s with
       | nil =>
         simp only [B.er,A.rf.injEq,SP.er,ixs,Prod.mk.injEq,and_true] at h
         obtain ⟨rfl,rfl,rfl⟩:=h
         exact ⟨_,_,_,_,rfl⟩
       | cons z s=>obtain ⟨⟨k,i⟩,j⟩:=z;simp [B.er,SP.er,ixs] at h
     | _=>simp [B.er] at h
   | [],h=>simp [B.erL] at h
   | _::_::_,h=>simp [B.erL] at h
theorem qpt (x:TV B):x.er B.erL=TV.v (false,[A.fz .nilsl])->x=.v (false,[.fz .nilsl]):=by
 intro h
 cases x with
 | tup xs=>simp [TV.er] at h
 | v x =>
   obtain ⟨g,as⟩:=x
   simp only [TV.er,zY,TV.v.injEq,Prod.mk.injEq] at h
   obtain ⟨rfl,h⟩:=h
   match as,h with
   | [a],h =>
     simp only [B.erL,List.cons.injEq,and_true] at h
     cases a with
     | fz d=>cases d<;>simp [B.er,D.er] at h;rfl
     | _=>simp [B.er] at h
   | [],h=>simp [B.erL] at h
   | _::_::_,h=>simp [B.erL] at h
theorem qfw (F:SF)(d:Nat)(x:TV B):(qcc qn F d x).Sim fun G=>qgn std false F.er d (x.er B.erL)=some G.er:=by
 unfold qcc
 split
 . refine R.Sim.bd (F.clearR_sim _) fun G hG=>R.Sim.ok ?_
   show some (F.er.putQ std d .mt)=_
   simp only [Fr.putQ,hG]
   rfl
 . rename_i id w off len
   refine R.Sim.bd (F.atR_sim (id,[])) fun o ho0=>?_
   have ho:F.er.at std (id,[])=o.er:=ho0
   clear ho0
   have key:qgn std false F.er d ((TV.v (false,[B.rf (id,[]) w off len])).er B.erL)=QC std F.er d (.v (false,[.rf (id,[]) off len])):=rfl
   rw [key]
   split
   . split
     . rename_i x
       have hl:std.oLen x.ro=x.len qn:=LL.len_ro x
       split
       . rename_i hid
         refine R.Sim.mk fun hp=>?_
         obtain ⟨h1,h2⟩:=hp.two
         have h1:off=0:=h1
         have h2:len=x.len qn:=h2
         subst h1 h2
         simp only [QC,hid,ho,W.er,jE,hl]
         simp [SF.put_er,TV.er,zY,B.erL,B.er,SP.er,ixs]
       . rename_i hid
         refine R.Sim.bd (F.clearR_sim _) fun G hG=>R.Sim.bd (G.liftR_sim _ _) fun H hH0=>R.Sim.mk fun hp=>?_
         obtain ⟨h1,h2⟩:=hp.two
         have h1:off=0:=h1
         have h2:len=x.len qn:=h2
         subst h1 h2
         have hH:G.er.lift std (id,[]) (rid d 0 0,[])=H.er:=hH0
         simp only [QC,hid,ho,W.er,jE,hl,hG,hH]
         simp [SF.put_er,SF.root_er,TV.er,zY,B.erL,B.er,SP.er,ixs,rfB,rfV,W.er]
     . have hl:std.oLen []=0:=rfl
       split
       . rename_i hid
         refine R.Sim.mk fun hp=>?_
         obtain ⟨h1,h2⟩:=hp.two
         have h1:off=0:=h1
         have h2:len=0:=h2
         subst h1 h2
         simp only [QC,hid,ho,W.er,jE,hl]
         simp [SF.put_er,TV.er,zY,B.erL,B.er,SP.er,ixs]
       . rename_i hid
         refine R.Sim.bd (F.clearR_sim _) fun G hG=>R.Sim.bd (G.liftR_sim _ _) fun H hH0=>R.Sim.mk fun hp=>?_
         obtain ⟨h1,h2⟩:=hp.two
         have h1:off=0:=h1
         have h2:len=0:=h2
         subst h1 h2
         have hH:G.er.lift std (id,[]) (rid d 0 0,[])=H.er:=hH0
         simp only [QC,hid,ho,W.er,jE,hl,hG,hH]
         simp [SF.put_er,SF.root_er,TV.er,zY,B.erL,B.er,SP.er,ixs,rfB,rfV,W.er]
     . exact R.Sim.none'
   . exact R.Sim.none'
 . rename_i h1 h2
   refine R.Sim.ok ?_
   rw [SF.put_er]
   generalize he:x.er B.erL=y
   unfold qgn
   split
   . exact (h1 (qpt x he)).elim
   . unfold QC
     split
     . rename_i id off len h3
       obtain ⟨id,w,off,len,rfl⟩:=qq2 x ⟨_,_,_,he⟩
       exact (h2 _ _ _ _ rfl).elim
     . rfl
end Go.Proofs.YtfafehnchmelnaaGreat.Ai
namespace Go.Proofs.YtfafehnchmelnaaGreat.Ai
open Go
variable [qf]
def W.isFz:W->Bool
 | .fz _=>true
 | _=>false
theorem W.isFz_er (o:W):o.er.isFz=o.isFz:=by cases o<;>rfl
def Yn (M:MB)(r:Nat)(s:kX)(i:Bool×Nat):Nat->Nat->SF->R SF
 | _,0,F=>R.ok F
 | j,n+1,F=>(F.atR M (qB r s i j)).bd fun o=>(match o.isFz with
   | true=>Yn M r s i (j+1) n F
   | false=>(F.dropR M (qB r s i j)).bd fun G=>Yn M r s i (j+1) n G)
theorem J7 (r:Nat)(s:kX)(i:Bool×Nat):∀ (n j:Nat) (F:SF),(Yn qn r s i j n F).Sim fun G=>Ze std r (ixs s) i.2 j n F.er=G.er
 | 0,j,F=>R.Sim.ok rfl
 | n+1,j,F=>by
   simp only [Yn]
   refine R.Sim.bd (F.atR_sim _) fun o ho=>?_
   rw [qeR] at ho
   split
   . rename_i hz
     refine (J7 r s i n (j+1) F).mono fun G hG=>?_
     simp only [Ze,ho,W.isFz_er,hz,hG]
   . rename_i hz
     refine R.Sim.bd (F.dropR_sim _) fun G hG=>(J7 r s i n (j+1) G).mono fun H hH=>?_
     rw [qeR] at hG
     simp only [Ze,ho,W.isFz_er,hz,hG,hH]
def qim (M:MB)(r:Nat)(s:kX)(i:Bool×Nat):Nat->SF->List W->R SF
 | _,F,[]=>R.ok F
 | j,F,o::os=>(F.setR M (qB r s i j) o).bd fun G=>qim M r s i (j+1) G os
theorem qaY (r:Nat)(s:kX)(i:Bool×Nat):∀ (os:List W) (j:Nat) (F:SF),(qim qn r s i j F os).Sim fun G=>qeZ std r (ixs s) i.2 j F.er (W.erL os)=G.er
 | [],j,F=>R.Sim.ok rfl
 | o::os,j,F=>by
   simp only [qim]
   refine R.Sim.bd (F.setR_sim _ o) fun G hG=>(qaY r s i os (j+1) G).mono fun H hH=>?_
   rw [qeR] at hG
   simp only [W.erL,qeZ,hG,hH]
theorem vq {α:Type}:∀ (l:List α) (j n:Nat),j+n<=l.length->∃ r,cut l j n=some r
 | l,0,0,_=>⟨[],by cases l<;>rfl⟩
 | [],0,n+1,h=>by simp at h
 | [],j+1,n,h=>by simp at h
 | a::l,j+1,n,h=>by
   obtain ⟨r,hr⟩:=vq l j n (by simp at h;omega)
   exact ⟨r,by cases n<;>exact hr⟩
 | a::l,0,n+1,h=>by
   obtain ⟨r,hr⟩:=vq l 0 n (by simp at h;omega)
   exact ⟨a::r,by simp only [cut,hr]⟩
def qme (M:MB)(F:SF)(p:SP)(i:Bool×Nat)(m:Nat):R Unit :=
 (F.atR M p).bd fun o=>(match o with
   | .osl x=>(match nle m x.sz with
     | true=>some ([M.pLtN i.2 (x.len M)],())
     | false=>none)
   | .obx cs=>(match i with
     | (true,0)=>(match nle m (cnt cs) with | true=>R.ok () | false=>none)
     | _=>none)
   | _=>none)
theorem qkr (F:SF)(p:SP)(i:Bool×Nat)(j n:Nat):(qme qn F p i (j+n)).Sim fun _=>∃ l,kf std F.er n (.pp p.er i.2 j)=some l:=by
 unfold qme
 refine R.Sim.bd (F.atR_sim p) fun o ho=>?_
 simp only [kf,ho]
 split
 . rename_i x
   split
   . rename_i hm
     refine R.Sim.mk fun hp=>?_
     have h1:i.2<x.len qn:=hp.one
     have h2:i.2<x.ro.length:=by rw [LL.len_ro];exact h1
     have h3:std.oGet x.ro i.2=some x.ro[i.2]:=List.getElem?_eq_getElem h2
     have h4:=x.ro_sz _ (List.getElem_mem h2)
     obtain ⟨r,hr⟩:=vq x.ro[i.2] j n (by rw [h4];exact qA hm)
     simp only [W.er,h3,hr]
     exact ⟨_,rfl⟩
   . exact R.Sim.none'
 . rename_i cs
   split
   . split
     . rename_i hm
       refine R.Sim.ok ?_
       rw [kL] at hm
       obtain ⟨r,hr⟩:=vq (W.erL cs) j n (by rw [W.erL_eq,List.length_map];exact qA hm)
       simp only [W.er,hr]
       exact ⟨_,rfl⟩
     . exact R.Sim.none'
   . exact R.Sim.none'
 . exact R.Sim.none'
def qha (M:MB)(F:SF)(size:Nat)(a x:Operand):R SF :=
 match z6 F a with
 | .pp p i j=>(Yn M p.1 p.2 i j size F).bd fun F1=>(match evB F1 x with
   | .v (_,as)=>(match nq (cnt as) size&&nlt 0 size with
     | true=>(Zt M (qB p.1 p.2 i) j (cnt as) F1 as).bd fun s=>(qme M s.2 p i (j+size)).bd fun _=>qim M p.1 p.2 i j s.2 s.1
     | false=>none)
   | .tup _=>none)
 | _=>none
theorem qgM (F:SF)(size:Nat)(a x:Operand):(qha qn F size a x).Sim fun G=>YJ std false F.er size a x=some G.er:=by
 unfold qha
 split
 . rename_i p i j ha
   refine R.Sim.bd (J7 p.1 p.2 i size j F) fun F1 hF1=>?_
   split
   . rename_i g as hx
     split
     . rename_i hc
       refine R.Sim.bd (qhO p.1 p.2 i j _ F1 as) fun s hs=>R.Sim.bd (qkr s.2 p i j size) fun _ ⟨l,hl⟩=>(qaY p.1 p.2 i s.1 j s.2).mono fun G hG=>?_
       have ha':ev1 F.er a=.pp p.er i.2 j:=by rw [<-qI,ha];rfl
       have hx':ev F1.er x=.v (g,B.erL as):=by rw [<-kT,hx];rfl
       unfold YJ
       rw [ha']
       dsimp only
       rw [show p.er.1=p.1 from rfl,show p.er.2=ixs p.2 from rfl,hF1,hx']
       dsimp only
       rw [VJ,hc]
       dsimp only
       rw [hs]
       dsimp only
       rw [hl]
       dsimp only
       rw [hG]
     . exact R.Sim.none'
   . exact R.Sim.none'
 . exact R.Sim.none'
structure SX where
 T:Nat->Option Ty
 K:Nat->Option EK
 S:FuncId->Option (List (Nat×Nat)):=fun _=>none
 OW:FuncId->List (V1 B)->List (LK×W)->R (TV B×List (Nat×W)×List B):=fun _ _ _=>none
 FB:Nat->Bool:=fun _=>false
def qqp (M:MB)(X:SX)(F:SF)(d:Nat)(t:Nat)(l c:Operand):R SF :=
 match X.T t with
 | some ⟨.sl e,_,_,_,_⟩=>(match X.T e,X.K e with
   | some ty,some k=>(match z6 F l,z6 F c with
     | .fz (.int _ n),.fz (.int _ m)=>(match nle ty.bytes 4096&&nlt 0 ty.size&&nq (cnt ty.zero) ty.size with
       | true=>(match zWL ty.zero with
         | some zs=>(match LL.one k zs with
           | some x=>(match x.rep M (M.toN n) with
             | some y=>(F.clearR M (rid d 0 0)).bd fun G=>some ([M.pEqI n m,M.pRep n],(G.root (rid d 0 0) (.osl y)).put d (rfB (rid d 0 0) (y.len M)))
             | none=>none)
           | none=>none)
         | none=>none)
       | false=>none)
     | _,_=>none)
   | _,_=>none)
 | _=>none
def qjy (M:MB)(X:SX)(F:SF)(d:Nat)(t len:Nat)(parts:List (Nat×Operand)):R SF :=
 match X.T t with
 | some ⟨.sl e,_,_,_,_⟩=>(match X.T e,X.K e with
   | some ty,some k=>(match nq (cnt parts) len&&nle len 4096&&nlt 0 ty.size&&nle ty.size 4096 with
     | true=>(F.clearR M (rid d 0 0)).bd fun G=>(qb7 M (rid d 0 0) ty.size 0 G parts).bd fun s=>(match LL.many k s.1 with
       | some w=>R.ok ((s.2.root (rid d 0 0) w).put d (rfB (rid d 0 0) len))
       | none=>none)
     | false=>none)
   | _,_=>none)
 | _=>none
def qm3 (M:MB)(X:SX)(F:SF)(d:Nat):Op->R SF
 | .assign x=>qcc M F d (evB F x)
 | .box _ x=>(F.clearR M (rid d 0 0)).bd fun G=>qqN M G d x
 | .alloc e=>qmR M X.T F d e
 | .buildSlice t len ⟨parts⟩=>qjy M X F d t len parts
 | .makeSlice t l c=>qqp M X F d t l c
 | .call ⟨.builtin .append,⟨[x,y]⟩,⟨[t,t']⟩⟩=>(match nq t t',X.T t with
   | true,some ⟨.sl e,_,_,_,_⟩=>(match X.T e with
     | some ty=>(F.dropR M (rid d 0 0,[])).bd fun G=>qcD M ty d x y G
     | none=>none)
   | _,_=>none)
 | o=>(qoQ M X.T F o).bd fun v=>R.ok (F.put d v)
theorem Yt (X:SX)(F:SF)(d:Nat)(op:Op):(qm3 qn X F d op).Sim fun G=>wop std X.T false F.er d op=some G.er:=by
 unfold qm3
 split
 . rename_i x
   refine (qfw F d _).mono fun G hG=>?_
   rw [kT] at hG
   exact hG
 . refine R.Sim.bd (F.clearR_sim _) fun G hG=>(qmH G d _).mono fun H hH=>?_
   simp only [wop,hG,hH]
 . rename_i e
   unfold qmR
   split
   . rename_i ty ht
     split
     . rename_i zs hz
       obtain ⟨h1,h2⟩:=qbV _ hz
       refine R.Sim.bd (F.clearR_sim _) fun G hG=>R.Sim.ok ?_
       simp only [wop,ht,h2,hG,<-h1]
       rfl
     . exact R.Sim.none'
   . exact R.Sim.none'
 . rename_i t len parts
   unfold qjy
   split
   . rename_i e _ _ _ _ ht
     split
     . rename_i ty k hte hk
       split
       . rename_i hc
         refine R.Sim.bd (F.clearR_sim _) fun G hG=>R.Sim.bd (qac _ _ _ _ G) fun s hs=>?_
         split
         . rename_i w hw
           refine R.Sim.ok ?_
           have:=LL.many_er k _ hw
           simp only [wop,ht,hte,hc,hG,hs,SF.put_er,SF.root_er,this]
           rfl
         . exact R.Sim.none'
       . exact R.Sim.none'
     . exact R.Sim.none'
   . exact R.Sim.none'
 . rename_i t l c
   unfold qqp
   split
   . rename_i e _ _ _ _ ht
     split
     . rename_i ty k hte hk
       split
       . rename_i k1 n k2 m hl hm
         split
         . rename_i hc
           split
           . rename_i zs hz
             obtain ⟨h1,h2⟩:=qbV _ hz
             split
             . rename_i x hx
               split
               . rename_i y hy
                 refine R.Sim.bd (F.clearR_sim _) fun G hG=>R.Sim.mk fun hp=>?_
                 obtain ⟨h3,h4,h5⟩:=hp.two
                 have h3:n=m:=h3
                 subst h3
                 obtain ⟨z,hz1,hz2⟩:=LL.rep_ro hy
                 have hxo:=LL.one_ro hx
                 rw [hz1] at hxo
                 injection hxo with hxo
                 have hzz:z=kc false ty.zero:=by rw [hxo,<-W.erL_eq,h1]
                 have hl':ev1 F.er l=.fz (.int k1 n):=by rw [<-qI,hl];rfl
                 have hm':ev1 F.er c=.fz (.int k2 n):=by rw [<-qI,hm];rfl
                 have hr:std.oRep n (kc false ty.zero)=some y.ro:=by
                  show (if 0<=n/\n<=(lim:Int) then some (List.replicate n.toNat (kc false ty.zero)) else none)=_
                  rw [if_pos ⟨h4,h5⟩,hz2,hzz]
                  rfl
                 have hb:std.bEq n n=true:=by show (n == n)=true;simp
                 have hlen:std.oLen y.ro=y.len qn:=LL.len_ro y
                 simp only [wop,ht,hte,hl',hm',hb,hc,h2,hr,hG,hlen,Bool.and_self,Bool.true_and,Bool.and_true]
                 rfl
               . exact R.Sim.none'
             . exact R.Sim.none'
           . exact R.Sim.none'
         . exact R.Sim.none'
       . exact R.Sim.none'
     . exact R.Sim.none'
   . exact R.Sim.none'
 . rename_i x y t t'
   split
   . rename_i e _ _ _ _ htt ht
     split
     . rename_i ty hte
       refine R.Sim.bd (F.dropR_sim _) fun G hG=>(qeP ty d x y G).mono fun H hH=>?_
       have hG:F.er.drop std (rid d 0 0,[])=G.er:=hG
       simp only [wop,htt,ht,hte,hG,hH]
     . exact R.Sim.none'
   . exact R.Sim.none'
 . rename_i h1 h2 h3 h4 h5 h6
   refine R.Sim.bd (qeH X.T F op) fun v hv=>R.Sim.ok ?_
   have:wop std X.T false F.er d op=qjs std F.er d (qop std X.T F.er op):=by
    unfold wop
    split<;>first
     | rfl
     | exact (h1 _ rfl).elim
     | exact (h2 _ _ rfl).elim
     | exact (h3 _ rfl).elim
     | exact (h4 _ _ _ rfl).elim
     | exact (h5 _ _ _ rfl).elim
     | exact (h6 _ _ _ _ rfl).elim
   rw [this,hv]
   rfl
def qn7 (M:MB)(F:SF):TV B->R (V1 D)
 | .v (g,as)=>(match qgj as with
   | true=>(qaH M F as).bd fun l=>R.ok (g,l)
   | false=>none)
 | .tup _=>none
theorem qkX (F:SF)(x:TV B):(qn7 qn F x).Sim fun y=>qd1 std F.er (x.er B.erL)=some (zY D.erL y):=by
 unfold qn7
 split
 . rename_i g as
   split
   . rename_i hok
     refine R.Sim.bd (JG F as) fun l hl=>R.Sim.ok ?_
     simp only [TV.er,zY,qd1,vG,hok,hl]
   . exact R.Sim.none'
 . exact R.Sim.none'
def qdC (M:MB)(F:SF):List Operand->R (List (V1 D))
 | []=>R.ok []
 | x::r=>(qn7 M F (evB F x)).bd fun y=>(qdC M F r).bd fun ys=>R.ok (y::ys)
theorem vS (F:SF):∀ (l:List Operand),(qdC qn F l).Sim fun ys=>KC std F.er l=some (qw D.erL ys)
 | []=>R.Sim.ok rfl
 | x::r=>by
   simp only [qdC]
   refine R.Sim.bd (qkX F _) fun y hy=>R.Sim.bd (vS F r) fun ys hys=>R.Sim.ok ?_
   rw [kT] at hy
   simp only [KC,hy,hys]
   rfl
mutual
def B.isFzB:B->Bool
 | .fz _=>true
 | .clo _ caps=>Yb caps
 | _=>false
def Yb:List B->Bool
 | []=>true
 | a::r=>match a.isFzB with | true=>Yb r | false=>false
end
mutual
theorem qmx:(x:B)->x.er.isFz=x.isFzB
 | .un=>rfl
 | .ud=>rfl
 | .fz d=>rfl
 | .rf ..=>rfl
 | .pp ..=>rfl
 | .clo f caps=>by simp only [B.er,A.isFz,B.isFzB,Wx caps]
theorem Wx:(l:List B)->Ko (B.erL l)=Yb l
 | []=>rfl
 | a::r=>by simp only [B.erL,Ko,Yb,qmx a,Wx r];cases a.isFzB<;>rfl
end
def qrp:TV B->Bool
 | .v (_,as)=>Yb as
 | .tup _=>false
theorem qoY (x:TV B):(x.er B.erL).isFz=qrp x:=by
 cases x with
 | v x=>exact Wx x.2
 | tup xs=>rfl
def vE (F:SF):List Operand->Bool
 | []=>true
 | x::r=>match qrp (evB F x) with | true=>vE F r | false=>false
theorem YU (F:SF):∀ l,JL F.er l=vE F l
 | []=>rfl
 | x::r=>by simp only [JL,vE,<-kT,qoY,YU F r];cases qrp (evB F x)<;>rfl
def VT (M:MB)(F:SF)(f:Operand):R (FuncId×List D) :=
 match z6 F f with
 | .fz (.fn g caps)=>R.ok (g,caps)
 | .clo g caps=>(match qgj caps with
   | true=>(qaH M F caps).bd fun l=>R.ok (g,l)
   | false=>none)
 | _=>none
theorem Vm (F:SF)(f:Operand):(VT qn F f).Sim fun r=>callee std F.er f=some (r.1,D.erL r.2):=by
 unfold VT
 split
 . rename_i g caps h
   refine R.Sim.ok ?_
   have:ev1 F.er f=.fz (.fn g (D.erL caps)):=by rw [<-qI,h];rfl
   simp only [callee,this]
 . rename_i g caps h
   split
   . rename_i hok
     refine R.Sim.bd (JG F caps) fun l hl=>R.Sim.ok ?_
     have:ev1 F.er f=.clo g (B.erL caps):=by rw [<-qI,h];rfl
     simp only [callee,this,vG,hok,hl]
   . exact R.Sim.none'
 . exact R.Sim.none'
def Qu:List D->List (V1 D)
 | []=>[]
 | c::r=>(false,[c])::Qu r
theorem qf1 (l:List D):qw D.erL (Qu l)=Q5 (D.erL l):=by induction l with | nil=>rfl | cons a r ih=>simp only [Qu,qw,D.erL,Q5,ih];rfl
theorem Kg {α β:Type}(f:List α->List β)(l r:List (V1 α)):qw f (l++r)=qw f l++qw f r:=by induction l with | nil=>rfl | cons a l ih=>simp [qw,ih]
mutual
def W.cleanB:W->Bool
 | .un=>false
 | .fz d=>(match d with | .sl (.i [])=>true | .un | .sl _ | .ptr _ | .mp _=>false | .fn _ caps=>(match caps with | []=>true | _::_=>false) | _=>true)
 | .osl x=>x.clean
 | .onil=>true
 | .obx cs=>vP cs
def vP:List W->Bool
 | []=>true
 | a::r=>match a.cleanB with | true=>vP r | false=>false
end
mutual
theorem qlk:(o:W)->o.cleanB=true->o.er.cleanM std=true
 | .un,h=>by simp [W.cleanB] at h
 | .fz d,h=>by
   cases d<;>simp only [W.cleanB] at h<;>first | rfl | (cases h;done) | skip
   case sl x =>
    by_cases hx:x=.i []
    . subst hx;rfl
    . exfalso
      revert h
      cases x with
      | i l=>cases l with
        | nil=>exact absurd rfl hx
        | cons _ _=>intro h;cases h
      | _=>intro h;cases h
   case fn f caps=>cases caps with | nil=>rfl | cons _ _=>simp at h
 | .osl x,h=>LL.clean_ro x h
 | .onil,_=>rfl
 | .obx cs,h=>wk cs h
theorem wk:(l:List W)->vP l=true->O.cleanML std (W.erL l)=true
 | [],_=>rfl
 | a::r,h=>by
   simp only [vP] at h
   split at h
   . rename_i ha
     simp only [W.erL,O.cleanML,qlk a ha,wk r h]
   . cases h
end
def nzD:D->Option D
 | .fn f [c]=>(match nq f qaj with | true=>some c | false=>none)
 | _=>none
def nzW:W->Option D
 | .fz d=>nzD d
 | _=>none
theorem qns (d:D):nzC d.er=(nzD d).map D.er:=by
 cases d with
 | fn f caps =>
   match caps with
   | []=>rfl
   | [c] =>
     simp only [D.er,D.erL,nzC,nzD]
     cases nq f qaj<;>rfl
   | _::_::_=>rfl
 | _=>rfl
theorem qf5 (o:W):nzO o.er=(nzW o).map D.er:=by
 cases o with
 | fz d=>exact qns d
 | _=>rfl
def VV:List W->Bool
 | []=>true
 | o::r=>match nzW o with | none=>VV r | some _=>false
theorem yi:∀ l:List W,Zc (W.erL l)=VV l
 | []=>rfl
 | o::r=>by
   simp only [W.erL,Zc,VV,qf5]
   cases nzW o with
   | none=>exact yi r
   | some d=>rfl
def qmt (M:MB)(q:SP)(o:W):B:=match nzW o with
 | some c=>.fz c
 | none=>qqX M q o
theorem qoG (q:SP)(o:W):(qmt qn q o).er=qlP std q.er o.er:=by
 unfold qmt qlP
 rw [qf5]
 cases nzW o with
 | none=>exact qiI q o
 | some d=>rfl
def Jx:List W->Bool
 | []=>true
 | o::r=>match nzW o with
   | some _=>Jx r
   | none=>(match vP [o] with | true=>Jx r | false=>false)
theorem Ka:∀ l:List W,Jx l=true->Zb std (W.erL l)=true
 | [],_=>rfl
 | o::r,h=>by
   simp only [Jx] at h
   simp only [W.erL,Zb,qf3,qf5]
   cases hz:nzW o with
   | some d =>
     rw [hz] at h
     exact Ka r h
   | none =>
     rw [hz] at h
     dsimp only at h
     split at h
     . rename_i hc
       have h1:=wk [o] hc
       simp only [W.erL,O.cleanML] at h1
       cases hk:o.er.cleanM std with
       | false=>rw [hk] at h1;cases h1
       | true=>simp only [Option.map_none,hk];exact Ka r h
     . cases h
def wH:List (V1 W)->Bool
 | []=>true
 | x::r=>match Jx x.2 with | true=>wH r | false=>false
def vd:TV W->Bool
 | .v x=>Jx x.2
 | .tup xs=>wH xs
theorem Yl {r:TV W}(h:vd r=true):(r.er W.erL).cleanM std=true:=by
 cases r with
 | v x=>exact Ka x.2 h
 | tup xs =>
   have key:∀ l:List (V1 W),wH l=true->Jg std (qw W.erL l)=true:=by
    intro l
    induction l with
    | nil=>intro _;rfl
    | cons x l ih =>
      intro h
      simp only [wH] at h
      split at h
      . rename_i hx
        simp only [qw,Jg,zY,Ka x.2 hx,ih h]
      . cases h
   exact key xs h
def qf0 (M:MB)(d k:Nat):Nat->List W->List B
 | _,[]=>[]
 | j,o::r=>qmt M (rid d k j,[]) o::qf0 M d k (j+1) r
def Ji (d k:Nat):Nat->List W->List (Nat×W)
 | _,[]=>[]
 | j,o::r=>match o.isFz with
   | true=>Ji d k (j+1) r
   | false=>(rid d k j,o)::Ji d k (j+1) r
def qcZ (M:MB)(d:Nat):Nat->List (V1 W)->List (V1 B)
 | _,[]=>[]
 | k,x::r=>(x.1,qf0 M d k 0 x.2)::qcZ M d (k+1) r
def Qe {α:Type}:List α->List α->List α
 | [],r=>r
 | a::l,r=>a::Qe l r
theorem jm {α:Type}(l r:List α):Qe l r=l++r:=by induction l with | nil=>rfl | cons a l ih=>simp [Qe,ih]
def vh (d:Nat):Nat->List (V1 W)->List (Nat×W)
 | _,[]=>[]
 | k,x::r=>Qe (Ji d k 0 x.2) (vh d (k+1) r)
def Yz (M:MB)(d:Nat):TV W->TV B
 | .v (g,os)=>.v (g,qf0 M d 0 0 os)
 | .tup xs=>.tup (qcZ M d 0 xs)
def Jj (d:Nat):TV W->List (Nat×W)
 | .v (_,os)=>Ji d 0 0 os
 | .tup xs=>vh d 0 xs
theorem YT (d k:Nat):∀ (l:List W) (j:Nat),B.erL (qf0 qn d k j l)=Vp std d k j (W.erL l)
 | [],j=>rfl
 | o::r,j=>by simp only [qf0,B.erL,W.erL,Vp,qoG,YT d k r];rfl
theorem Ke (d k:Nat):∀ (l:List W) (j:Nat),zF (Ji d k j l)=Z9 d k j (W.erL l)
 | [],j=>rfl
 | o::r,j=>by
   simp only [Ji,W.erL,Z9,W.isFz_er]
   cases o.isFz with
   | true=>exact Ke d k r (j+1)
   | false=>simp only [zF,Ke d k r]
theorem WN (l r:List (Nat×W)):zF (l++r)=zF l++zF r:=by induction l with | nil=>rfl | cons a l ih=>obtain ⟨i,o⟩:=a;simp [zF,ih]
theorem vm (d:Nat)(r:TV W):(Yz qn d r).er B.erL=qap std d (r.er W.erL):=by
 cases r with
 | v x=>obtain ⟨g,os⟩:=x;simp only [Yz,TV.er,zY,qap,YT]
 | tup xs =>
   have key:∀ (l:List (V1 W)) (k:Nat),qw B.erL (qcZ qn d k l)=JU std d k (qw W.erL l):=by
    intro l
    induction l with
    | nil=>intro k;rfl
    | cons x l ih=>intro k;simp only [qcZ,qw,zY,JU,YT,ih]
   simp only [Yz,TV.er,qap,key]
theorem ZX (d:Nat)(r:TV W):zF (Jj d r)=zZ d (r.er W.erL):=by
 cases r with
 | v x=>obtain ⟨g,os⟩:=x;exact Ke d 0 os 0
 | tup xs =>
   have key:∀ (l:List (V1 W)) (k:Nat),zF (vh d k l)=Kj d k (qw W.erL l):=by
    intro l
    induction l with
    | nil=>intro k;rfl
    | cons x l ih=>intro k;simp only [vh,jm,WN,qw,zY,Kj,Ke,ih]
   exact key xs 0
def SF.clearsR (M:MB)(F:SF):List (Nat×W)->R SF
 | []=>R.ok F
 | (id,_)::r=>(F.clearR M id).bd fun G=>G.clearsR M r
def SF.addsB (F:SF):List (Nat×W)->SF
 | []=>F
 | (id,o)::r=>(F.root id o).addsB r
theorem Vh:∀ (l:List (Nat×W)) (F:SF),(F.clearsR qn l).Sim fun G=>F.er.clears std (zF l)=G.er
 | [],F=>R.Sim.ok rfl
 | (id,o)::r,F=>by
   simp only [SF.clearsR]
   exact R.Sim.bd (F.clearR_sim id) fun G hG=>(Vh r G).mono fun H hH=>by simp only [zF,Fr.clears,hG,hH]
theorem yr:∀ (l:List (Nat×W)) (F:SF),(F.addsB l).er=F.er.adds (zF l)
 | [],F=>rfl
 | (id,o)::r,F=>by simp only [SF.addsB,yr r,zF,Fr.adds,SF.root_er]
def vH.fitsVs:List (V1 W)->Bool
 | []=>true
 | x::r=>match nle (cnt x.2) 64 with | true=>vH.fitsVs r | false=>false
def vH:TV W->Bool
 | .v (_,os)=>nle (cnt os) 64
 | .tup xs=>match nle (cnt xs) 64 with | true=>vH.fitsVs xs | false=>false
theorem qeA {α β:Type}(f:α->β)(l:List α):cnt (l.map f)=cnt l:=by simp [kL]
theorem qeL {r:TV W}(h:vH r=true):TV.fits (r.er W.erL)=true:=by
 cases r with
 | v x =>
   obtain ⟨g,os⟩:=x
   have h':nle (cnt os) 64=true:=h
   simpa only [TV.er,zY,TV.fits,W.erL_eq,qeA] using h'
 | tup xs =>
   have key:∀ l:List (V1 W),vH.fitsVs l=true->qaM (qw W.erL l)=true:=by
    intro l
    induction l with
    | nil=>intro _;rfl
    | cons x l ih =>
      intro h
      simp only [vH.fitsVs] at h
      split at h
      . rename_i hx
        simp only [qw,qaM,zY,W.erL_eq,qeA,hx]
        exact ih h
      . cases h
   have hl:∀ l:List (V1 W),cnt (qw W.erL l)=cnt l:=by intro l;induction l with | nil=>rfl | cons x l ih=>simp [qw,cnt,ih]
   simp only [vH] at h
   split at h
   . rename_i hx
     simp only [TV.er,TV.fits,hl,hx,key xs h,Bool.and_self]
   . cases h
def SF.importB (M:MB)(F:SF)(d:Nat)(r:TV W):R SF:=match vH r with
 | true=>(F.clearsR M (Jj d r)).bd fun G=>R.ok ((G.addsB (Jj d r)).put d (Yz M d r))
 | false=>none
theorem WT (F:SF)(d:Nat)(r:TV W):(F.importB qn d r).Sim fun G=>F.er.import std d (r.er W.erL)=some G.er:=by
 unfold SF.importB
 split
 . rename_i hf
   refine R.Sim.bd (Vh _ F) fun G hG=>R.Sim.ok ?_
   unfold Fr.import
   rw [qeL hf]
   dsimp only
   rw [<-ZX,hG,SF.put_er,yr,vm]
 . exact R.Sim.none'
abbrev Qp:=FuncId->List (V1 D)->R (TV W)
def qp (P:Program)(ora:Qp):Prop:=∀ g as,R.Sim (ora g as) fun r=>zG P g (qw D.erL as) (r.er W.erL)
def qnC (M:MB)(ora:Qp)(F:SF)(d:Nat)(f:Operand)(args:List Operand):R SF :=
 (VT M F f).bd fun g=>(qdC M F args).bd fun as=>(ora g.1 (Qe as (Qu g.2))).bd fun r=>(match vE F (f::args) with
   | true=>F.importB M d r
   | false=>(match vd r with
     | true=>F.importB M d r
     | false=>none))
open Classical in
noncomputable def qaf (g:FuncId)(as:List (V1 C))(r:TV O):Ora:=fun g' as'=>if g'=g/\as'=as then some r else none
theorem qlo {P:Program}{ora:Qp}(hO:qp P ora)(F:SF)(d:Nat)(f:Operand)(args:List Operand):(qnC qn ora F d f args).Sim fun G=>∃ g as r,zG P g as r/\V6 std (qaf g as r) F.er d f args=some G.er:=by
 unfold qnC
 refine R.Sim.bd (Vm F f) fun g hg=>R.Sim.bd (vS F args) fun as has=>R.Sim.bd (hO g.1 _) fun r hr=>?_
 have key:∀ G:SF,F.er.import std d (r.er W.erL)=some G.er->(vE F (f::args)=true\/vd r=true)->∃ g as r,zG P g as r/\V6 std (qaf g as r) F.er d f args=some G.er:=by
  intro G hG hc
  refine ⟨_,_,_,hr,?_⟩
  unfold V6 qmP
  simp only [hg,has]
  have h1:qaf g.1 (qw D.erL (Qe as (Qu g.2))) (r.er W.erL) g.1 (qw D.erL as++Q5 (D.erL g.2))=some (r.er W.erL):=by
   unfold qaf
   rw [if_pos ⟨rfl,by rw [jm,Kg,qf1]⟩]
  simp only [h1,YU]
  rcases hc with hc | hc
  . simp only [hc,hG]
  . cases hl:vE F (f::args) with
    | true=>simp only [hG]
    | false=>simp only [Yl hc,hG]
 split
 . rename_i hl
   exact (WT F d r).mono fun G hG=>key G hG (.inl hl)
 . split
   . rename_i hc
     exact (WT F d r).mono fun G hG=>key G hG (.inr hc)
   . exact R.Sim.none'
end Go.Proofs.YtfafehnchmelnaaGreat.Ai
namespace Go.Proofs.YtfafehnchmelnaaGreat.Ai
open Go
variable [qf]
def qma (M:MB)(k:Nat)(F:SF):TV B->R (V1 W×SF)
 | .v (g,as)=>(match nle (cnt as) 64 with
   | true=>(Zt M (qB qy [] (true,k)) 0 (cnt as) F as).bd fun s=>(match VV s.1 with | true=>R.ok ((g,s.1),s.2) | false=>none)
   | false=>none)
 | .tup _=>none
theorem qj9 (k:Nat)(F:SF)(x:TV B):(qma qn k F x).Sim fun r=>qpn std false k F.er (x.er B.erL)=some (zY W.erL r.1,r.2.er):=by
 unfold qma
 split
 . rename_i g as
   split
   . rename_i hc
     refine R.Sim.bd (Wj qy [] (true,k) _ F as) fun s hs=>?_
     have hs':jq std false (qAt qy [] k) 0 F.er idA (B.erL as)=some (W.erL s.1,s.2.er):=hs
     split
     . rename_i hm
       refine R.Sim.ok ?_
       simp only [TV.er,zY,qpn,VJ,hc,hs',yi,hm]
     . exact R.Sim.none'
   . exact R.Sim.none'
 . exact R.Sim.none'
def qa4 (M:MB)(T:Nat->Option Ty)(F:SF):ResultVar->R (TV B)
 | .tmp t=>(match nlt t PH with | true=>R.ok (qa unB F.tm t) | false=>none)
 | .cell a t=>(match nlt a PH,T t with
   | true,some ty=>(qda M F ty.size (qlq (qa unB F.tm a))).bd fun as=>oR (qpb ty.agg as)
   | _,_=>none)
theorem vY (T:Nat->Option Ty)(F:SF)(r:ResultVar):(qa4 qn T F r).Sim fun x=>qco std T F.er r=some (x.er B.erL):=by
 cases r with
 | tmp t =>
   unfold qa4
   dsimp only
   split
   . rename_i hph
     refine R.Sim.ok ?_
     simp only [qco,hph]
     rw [show qa unT F.er.tm t=(qa unB F.tm t).er B.erL from QD _ _]
   . exact R.Sim.none'
 | cell c t =>
   unfold qa4
   dsimp only
   split
   . rename_i ty hph ht
     refine R.Sim.bd (yl F _ _) fun as has=>yG fun v hv=>?_
     simp only [qco,hph,ht]
     rw [show qa unT F.er.tm c=(qa unB F.tm c).er B.erL from QD _ _,<-qc6,has]
     exact qjw hv
   . exact R.Sim.none'
def qcT (M:MB)(T:Nat->Option Ty):Nat->SF->List ResultVar->R (List (V1 W))
 | _,_,[]=>R.ok []
 | k,F,rv::r=>(qa4 M T F rv).bd fun v=>(qma M k F v).bd fun x=>(qcT M T (k+1) x.2 r).bd fun xs=>R.ok (x.1::xs)
theorem yu (T:Nat->Option Ty):∀ (rs:List ResultVar) (k:Nat) (F:SF),(qcT qn T k F rs).Sim fun xs=>vI std T false k F.er rs=some (qw W.erL xs)
 | [],k,F=>R.Sim.ok rfl
 | rv::r,k,F=>by
   simp only [qcT]
   refine R.Sim.bd (vY T F rv) fun v hv=>R.Sim.bd (qj9 k F _) fun x hx=>R.Sim.bd (yu T r (k+1) x.2) fun xs hxs=>R.Sim.ok ?_
   simp only [vI,hv,hx,hxs,qw]
def VU (M:MB)(T:Nat->Option Ty)(F:SF)(rs:Array ResultVar):R (TV W) :=
 match rs with
 | ⟨rs⟩=>(match nle (cnt rs) 64 with
   | true=>(F.dropR M (qy,[])).bd fun G=>(qcT M T 0 G rs).bd fun xs=>(match xs with
     | [x]=>R.ok (.v x)
     | xs=>R.ok (.tup xs))
   | false=>none)
theorem Vj (T:Nat->Option Ty)(F:SF)(rs:Array ResultVar):(VU qn T F rs).Sim fun r=>Qz std T false F.er rs=some (r.er W.erL):=by
 obtain ⟨rs⟩:=rs
 unfold VU
 dsimp only
 split
 . rename_i hc
   refine R.Sim.bd (F.dropR_sim _) fun G hG=>R.Sim.bd (yu T rs 0 G) fun xs hxs=>?_
   have hG:F.er.drop std (qy,[])=G.er:=hG
   split
   . refine R.Sim.ok ?_
     simp only [Qz,hc,hG,hxs,qw]
     rfl
   . rename_i h
     refine R.Sim.ok ?_
     simp only [Qz,hc,hG,hxs]
     match xs,h with
     | [],_=>rfl
     | [x],h=>exact (h x rfl).elim
     | x::y::r,_=>rfl
 . exact R.Sim.none'
def qpK (M:MB)(F:SF):B->R W
 | .fz d=>(match nzD d with | none=>R.ok (.fz d) | some _=>none)
 | .rf p _ off len=>(F.atR M p).bd fun o=>(match o with
   | .osl x=>(match x.clean with
     | true=>(match x.cut M off len with
       | some y=>some ([M.pLeN (M.nAdd off len) (x.len M)],.fz (.fn qaj [.sl y]))
       | none=>none)
     | false=>none)
   | _=>none)
 | _=>none
theorem Yu {x:LL}(h:x.clean=true):x.here=true:=by
 cases x
 case node o g l=>cases g with | none=>rfl | some _=>simp [LL.clean] at h
 case ii o g l=>cases g with | none=>rfl | some _=>simp [LL.clean] at h
 all_goals rfl
theorem qnm (F:SF):(x:B)->(qpK qn F x).Sim fun o=>qgh std F.er x.er=some o.er
 | .un=>R.Sim.none'
 | .ud=>R.Sim.none'
 | .pp ..=>R.Sim.none'
 | .clo ..=>R.Sim.none'
 | .fz d=>by
   simp only [qpK]
   split
   . rename_i hd
     refine R.Sim.ok ?_
     simp only [B.er,qgh,qns,hd,Option.map_none]
     rfl
   . exact R.Sim.none'
 | .rf p g off len=>by
   simp only [qpK]
   refine R.Sim.bd (F.atR_sim p) fun o ho=>?_
   split
   . rename_i x
     split
     . rename_i hc
       split
       . rename_i y hy
         refine R.Sim.mk fun hp=>?_
         have h1:off+len<=x.len qn:=hp.one
         have hcl:std.oClean x.ro=true:=LL.clean_ro x hc
         have hy':y.here=true:=by
          unfold LL.cut at hy
          split at hy<;>first | (simp only [Option.some.injEq] at hy;subst hy;rfl) | cases hy
         have e:WM std F.er (.rf p.er off len)=some (.sl y.rc):=by
          simp only [WM,ho]
          show (match decide (off+len<=x.ro.length),std.oClean x.ro with | true,true=>some (C.sl (O.frzLL ((x.ro.drop off).take len))) | _,_=>none)=_
          rw [LL.len_ro,decide_eq_true h1,hcl,<-LL.cut_ro hy,LL.frz_ro y hy']
         simp only [B.er,qgh,e]
         rfl
       . exact R.Sim.none'
     . exact R.Sim.none'
   . exact R.Sim.none'
def qik (M:MB)(F:SF):List B->R (List W)
 | []=>R.ok []
 | x::r=>(qpK M F x).bd fun y=>(qik M F r).bd fun ys=>R.ok (y::ys)
theorem qaW (F:SF):(l:List B)->(qik qn F l).Sim fun os=>YL std F.er (B.erL l)=some (W.erL os)
 | []=>R.Sim.ok rfl
 | x::r=>by
   simp only [qik]
   exact R.Sim.bd (qnm F x) fun y hy=>R.Sim.bd (qaW F r) fun ys hys=>R.Sim.ok (by simp only [B.erL,YL,hy,hys,W.erL])
def qjb (M:MB)(T:Nat->Option Ty)(F:SF):List ResultVar->R (List (V1 W))
 | []=>R.ok []
 | rv::r=>(qa4 M T F rv).bd fun v=>(match v with
   | .v x=>(qik M F x.2).bd fun os=>(qjb M T F r).bd fun xs=>R.ok ((x.1,os)::xs)
   | .tup _=>none)
theorem qbl (T:Nat->Option Ty)(F:SF):∀ rs:List ResultVar,(qjb qn T F rs).Sim fun xs=>wY std T F.er rs=some (qw W.erL xs)
 | []=>R.Sim.ok rfl
 | rv::r=>by
   simp only [qjb]
   refine R.Sim.bd (vY T F rv) fun v hv=>?_
   split
   . rename_i x
     refine R.Sim.bd (qaW F x.2) fun os hos=>R.Sim.bd (qbl T F r) fun xs hxs=>R.Sim.ok ?_
     obtain ⟨g,as⟩:=x
     simp only [wY,hv,TV.er,zY,hos,hxs,qw]
   . exact R.Sim.none'
def qqs:List (V1 W)->TV W
 | [x]=>.v x
 | xs=>.tup xs
theorem qmw (xs:List (V1 W)):qiY (qw W.erL xs)=(qqs xs).er W.erL:=by
 match xs with
 | []=>rfl
 | [x]=>rfl
 | x::y::r=>rfl
mutual
def B.idsB:B->List Nat
 | .rf p _ _ _=>[p.1]
 | .pp p _ _=>[p.1]
 | .clo _ caps=>W4 caps
 | _=>[]
def W4:List B->List Nat
 | []=>[]
 | a::r=>Qe a.idsB (W4 r)
end
mutual
theorem qqc:(x:B)->x.er.ids=x.idsB
 | .un=>rfl
 | .ud=>rfl
 | .fz d=>rfl
 | .rf ..=>rfl
 | .pp ..=>rfl
 | .clo f caps=>by simp only [B.er,A.ids,B.idsB,KJ caps]
theorem KJ:(l:List B)->A.idsL (B.erL l)=W4 l
 | []=>rfl
 | a::r=>by simp only [B.erL,A.idsL,W4,jm,qqc a,KJ r]
end
def qio:List (V1 B)->List Nat
 | []=>[]
 | x::r=>Qe (W4 x.2) (qio r)
def qn3:TV B->List Nat
 | .v x=>W4 x.2
 | .tup xs=>qio xs
theorem qfW (x:TV B):(x.er B.erL).ids=qn3 x:=by
 cases x with
 | v x=>exact KJ x.2
 | tup xs =>
   have key:∀ l:List (V1 B),qlg (qw B.erL l)=qio l:=by
    intro l
    induction l with
    | nil=>rfl
    | cons x l ih=>simp only [qw,qlg,zY,qio,jm,KJ,ih]
   exact key xs
def JE (F:SF):List Nat->List (Nat×TV B)
 | []=>[]
 | t::r=>(t,qa unB F.tm t)::JE F r
def Yk:List (Nat×TV B)->List Nat
 | []=>[]
 | (_,x)::r=>Qe (qn3 x) (Yk r)
def VW (F:SF):List Nat->List (Nat×W)->List (Nat×W)
 | [],acc=>acc
 | id::r,acc=>VW F r (match has acc id with | true=>acc | false=>Qe acc [(id,qa .un F.tb id)])
def SF.keepB (F:SF)(l:List Nat):SF:={ F with tm:=JE F l,tb:=VW F (Yk (JE F l)) [] }
theorem Zy (F:SF)(l:List Nat):(F.keepB l).er=F.er.keep l:=by
 have h1:∀ l,jf (JE F l)=Ql F.er l:=by
  intro l
  induction l with
  | nil=>rfl
  | cons t l ih=>simp only [JE,jf,Ql,ih];rw [show qa unT F.er.tm t=(qa unB F.tm t).er B.erL from QD _ _]
 have h2:∀ l:List (Nat×TV B),WP (jf l)=Yk l:=by
  intro l
  induction l with
  | nil=>rfl
  | cons x l ih=>obtain ⟨t,x⟩:=x;simp only [jf,WP,Yk,jm,qfW,ih]
 have h3:∀ (l:List Nat) (acc:List (Nat×W)),zF (VW F l acc)=K7 F.er l (zF acc):=by
  intro l
  induction l with
  | nil=>intro acc;rfl
  | cons id l ih =>
    intro acc
    simp only [VW,K7,ih,qgZ]
    cases has acc id with
    | true=>rfl
    | false =>
      dsimp only
      rw [jm,WN]
      rw [show qa .un F.er.tb id=(qa .un F.tb id).er from VY _ _]
      rfl
 unfold SF.keepB Fr.keep SF.er
 simp only
 have:=h3 (Yk (JE F l)) []
 rw [this,<-h2,h1]
 rfl
structure LE (F G:Fr):Prop where
 n:G.n=F.n
 tm:∀ t,qa unT G.tm t=qa unT F.tm t
 tb:∀ id,qa .un G.tb id=qa .un F.tb id
 has:∀ id,has G.tb id=has F.tb id
theorem LE.refl (F:Fr):LE F F:=⟨rfl,fun _=>rfl,fun _=>rfl,fun _=>rfl⟩
theorem LE.trans {F G H:Fr}(h:LE F G)(k:LE G H):LE F H:=⟨k.n.trans h.n,fun t=>(k.tm t).trans (h.tm t),fun t=>(k.tb t).trans (h.tb t),fun t=>(k.has t).trans (h.has t)⟩
theorem LE.fr {F G:Fr}(h:LE F G){J:ql}{σ:Gh}{w:World}{vt:Nat->Value}(hF:FR F σ w vt)(hd:Dom F σ []):FR G σ w vt/\Dom G σ []:=by
 refine ⟨⟨hF.inj,hF.lt,hF.old,fun id=>by rw [h.tb];exact hF.tb id,fun t=>by rw [h.tm];exact hF.tm t⟩,fun g x hx=>?_⟩
 rcases hd g x hx with h1 | h1
 . left
   have:G.at std x.p=F.at std x.p:=by unfold Fr.at;rw [h.tb]
   rw [this]
   exact h1
 . exact .inr h1
theorem Ex.le [zi] {P:Program}{ks:List K}{F G:Fr}{Post:Fr->Prop}(h:LE F G)(hx:Ex P ks G Post):Ex P ks F Post :=
 hx.weak h.n fun _ σ _ _ hF hd=>⟨σ,(h.fr hF hd).1,(h.fr hF hd).2,qL.refl _ _⟩
theorem LE.agree {F G H:Fr}(h:LE F G){X:List Nat}(ha:jN F H X):jN G H X :=
 ⟨fun t ht=>(ha.tm t ht).trans (h.tm t).symm,fun t ht id hid=>by rw [h.tm] at hid;exact (ha.tb t ht id hid).trans (h.tb id).symm⟩
theorem ku.le {P:Program}{all:Array Oper}{F G:Fr}{o:Oper}{it:It}(h:LE F G)(ha:ku P all G o it):ku P all F o it :=
 fun H hn hag hf=>ha H (hn.trans h.n.symm) (h.agree hag) hf
def SF.know (F:SF)(t:Nat)(b:Bool):SF:=F.put t (.v (false,[.fz (.bool true b)]))
theorem qpJ {F:SF}{t:Nat}{b:Bool}(h:∃ kn,qa unB F.tm t=.v (false,[.fz (.bool kn b)])):LE F.er (F.know t b).er:=by
 obtain ⟨kn,h⟩:=h
 refine ⟨rfl,fun t'=>?_,fun _=>rfl,fun _=>rfl⟩
 show qa unT ((t,_)::F.er.tm) t'=_
 rw [@qt qN]
 split
 . rename_i e
   subst e
   rw [show qa unT F.er.tm t=(qa unB F.tm t).er B.erL from QD _ _,h]
   rfl
 . rfl
end Go.Proofs.YtfafehnchmelnaaGreat.Ai
namespace Go.Proofs.YtfafehnchmelnaaGreat.Ai
open Go
variable [qf]
def Zo (ops:List Oper)(a:List Nat)(k i:Nat)(o:Oper):Bool:=match o.dst with
 | none=>false
 | some d=>(List.range k).all fun j=>match ops[j]? with
   | some o'=>(match o'.dst with
     | some d'=>(!(nq d d')||nq i j)&&(!((lkM ops o).contains d')||((a.getD i 0).testBit j&&nlt j i))
     | none=>false)
   | none=>false
def kB (ed:Oper->List Nat):List Oper->List Nat->List Nat
 | [],acc=>acc
 | o::r,acc=>kB ed r (acc++[(ed o).foldl (fun s e=>s ||| (1 <<< e) ||| acc.getD e 0) 0])
def qbn (ops:List Oper)(k:Nat):Bool :=
 nle k ops.length&&(List.range ops.length).all fun i=>match ops[i]? with
  | some o=>(o.after.toList.all fun e=>wB e&&nlt e.on i)&&(match nlt i k with
    | true=>Zo ops (kB Qi ops []) k i o
    | false=>nq ((kB Qi ops []).getD i 0) (2 ^ i-1))
  | none=>false
def yn (md:Region.Mode)(ops:List Oper):Nat->List Nat->List Nat
 | 0,done=>done.reverse
 | n+1,done=>match (List.range ops.length).find? (fun i=>!(done.contains i)&&(match ops[i]? with | some o=>(KF md o).all fun e=>done.contains e | none=>false)) with
   | some i=>yn md ops n (i::done)
   | none=>done.reverse
def W0 (ops:List Oper)(md:Region.Mode)(ord:List Nat):Bool:=(List.range ops.length).all fun i=>match ops[i]? with
 | some o=>(KF md o).all fun e=>nlt e ops.length&&nlt (ord.idxOf e) (ord.idxOf i)
 | none=>false
def Y0 (ops:List Oper):Bool :=
 ((List.range ops.length).all fun i=>match ops[i]? with
   | some o=>((zc o).all fun e=>nlt e i)&&Zo ops (kB zc ops []) ops.length i o
   | none=>false)&&(W0 ops .any (yn .any ops ops.length [])&&(W0 ops .text (yn .text ops ops.length [])&&W0 ops .gc (yn .gc ops ops.length [])))
def yq (ops:List Oper)(s:Nat)(ls:List Nat):Bool :=
 nlt s ops.length&&((ls.all fun l=>nlt l s)&&(((List.range ops.length).all fun i=>match ops[i]? with
  | some o=>((zc o).all fun e=>nlt e i)&&(match nlt i s with
    | true=>Zo ops (kB zc ops []) s i o
    | false=>(List.range i).all fun j=>((kB zc ops []).getD i 0).testBit j||ls.contains j)
  | none=>false)&&(W0 ops .any (yn .any ops ops.length [])&&(W0 ops .text (yn .text ops ops.length [])&&W0 ops .gc (yn .gc ops ops.length [])))))
def qaq (a:List Nat)(i j:Nat):Prop:=(a.getD i 0).testBit j=true
theorem qnA (ed:Oper->List Nat):∀ (ops:List Oper) (acc:List Nat),∃ r,kB ed ops acc=acc++r:=by
 intro ops
 induction ops with
 | nil=>intro acc;exact ⟨[],by simp [kB]⟩
 | cons o ops ih =>
   intro acc
   obtain ⟨r,hr⟩:=ih (acc++[(ed o).foldl (fun s e=>s ||| (1 <<< e) ||| acc.getD e 0) 0])
   exact ⟨[(ed o).foldl (fun s e=>s ||| (1 <<< e) ||| acc.getD e 0) 0]++r,by simp only [kB,hr,List.append_assoc]⟩
theorem ql9 (acc:List Nat)(j:Nat):∀ (es:List Nat) (s:Nat),(es.foldl (fun s e=>s ||| (1 <<< e) ||| acc.getD e 0) s).testBit j=true->s.testBit j=true\/∃ e∈es,e=j\/(acc.getD e 0).testBit j=true:=by
 intro es
 induction es with
 | nil=>intro s h;exact .inl h
 | cons e es ih =>
   intro s h
   rcases ih _ h with h | ⟨e',he,h⟩
   . simp only [Nat.testBit_or,Bool.or_eq_true] at h
     rcases h with (h | h) | h
     . exact .inl h
     . right
       refine ⟨e,List.mem_cons_self,.inl ?_⟩
       rw [Nat.one_shiftLeft,Nat.testBit_two_pow] at h
       simpa using h
     . exact .inr ⟨e,List.mem_cons_self,.inr h⟩
   . exact .inr ⟨e',List.mem_cons_of_mem _ he,h⟩
theorem yP (ed:Oper->List Nat):∀ (ops:List Oper) (acc:List Nat) (i j:Nat) (o:Oper),ops[i]?=some o->((kB ed ops acc).getD (acc.length+i) 0).testBit j=true->∃ e∈ed o,e=j\/((kB ed ops acc).getD e 0).testBit j=true:=by
 intro ops
 induction ops with
 | nil=>intro acc i j o h;simp at h
 | cons o0 ops ih =>
   intro acc i j o h ht
   cases i with
   | zero =>
     simp only [List.getElem?_cons_zero,Option.some.injEq] at h
     subst h
     obtain ⟨r,hr⟩:=qnA ed ops (acc++[(ed o0).foldl (fun s e=>s ||| (1 <<< e) ||| acc.getD e 0) 0])
     have e1:kB ed (o0::ops) acc=acc++[(ed o0).foldl (fun s e=>s ||| (1 <<< e) ||| acc.getD e 0) 0]++r:=by simp only [kB];exact hr
     rw [e1] at ht ⊢
     have h2:(acc++[(ed o0).foldl (fun s e=>s ||| (1 <<< e) ||| acc.getD e 0) 0]++r).getD (acc.length+0) 0=(ed o0).foldl (fun s e=>s ||| (1 <<< e) ||| acc.getD e 0) 0:=by simp [List.getD_eq_getElem?_getD]
     rw [h2] at ht
     rcases ql9 acc j _ 0 ht with h | ⟨e,he,h⟩
     . simp at h
     . refine ⟨e,he,h.imp id fun h=>?_⟩
       have hlt:e<acc.length:=by
        rcases Nat.lt_or_ge e acc.length with hl | hl
        . exact hl
        . simp [List.getD_eq_getElem?_getD,List.getElem?_eq_none hl] at h
       rw [List.append_assoc]
       simp only [List.getD_eq_getElem?_getD,List.getElem?_append_left hlt] at h ⊢
       exact h
   | succ i =>
     simp only [List.getElem?_cons_succ] at h
     have:=ih (acc++[(ed o0).foldl (fun s e=>s ||| (1 <<< e) ||| acc.getD e 0) 0]) i j o h (by
      simp only [kB] at ht
      rw [show acc.length+(i+1)=(acc++[(ed o0).foldl (fun s e=>s ||| (1 <<< e) ||| acc.getD e 0) 0]).length+i by simp;omega] at ht
      exact ht)
     simpa only [kB] using this
theorem qbw {ops:List Oper}{k:Nat}(h:qbn ops k=true):k<=ops.length/\∀ (i:Nat) (o:Oper),ops[i]?=some o->(∀ e∈o.after.toList,wB e=true/\e.on<i) ∧
 (i<k->Zo ops (kB Qi ops []) k i o=true)/\(k<=i->(kB Qi ops []).getD i 0=2 ^ i-1):=by
 simp only [qbn,Bool.and_eq_true] at h
 refine ⟨qA h.1,fun i o ho=>?_⟩
 have hi:i<ops.length:=(List.getElem?_eq_some_iff.1 ho).1
 have h2:=List.all_eq_true.1 h.2 i (List.mem_range.2 hi)
 rw [ho] at h2
 simp only [Bool.and_eq_true] at h2
 obtain ⟨h3,h4⟩:=h2
 refine ⟨fun e he=>?_,fun hk=>?_,fun hk=>?_⟩
 . have:=List.all_eq_true.1 h3 e he
   simp only [Bool.and_eq_true] at this
   exact ⟨this.1,Nat.lt_of_succ_le (qA this.2)⟩
 . have hb:nlt i k=true:=WA hk
   rw [hb] at h4
   exact h4
 . have hb:nlt i k=false:=by
    cases hc:nlt i k with
    | false=>rfl
    | true=>have:=Nat.lt_of_succ_le (qA hc);omega
   rw [hb] at h4
   exact Nat.eq_of_beq_eq_true h4
theorem qid {ops:List Oper}{k:Nat}(h:qbn ops k=true):qlu ops k (qaq (kB Qi ops [])):=by
 obtain ⟨h1,h2⟩:=qbw h
 refine ⟨h1,fun i o ho=>(h2 i o ho).1,fun i j o ho ha=>?_,fun i j hk hi hj=>?_⟩
 . exact yP Qi ops [] i j o ho (by simpa [qaq] using ha)
 . have:=(h2 i _ (List.getElem?_eq_getElem hi)).2.2 hk
   unfold qaq
   rw [this]
   simp [Nat.testBit_two_pow_sub_one,hj]
theorem qgX {ops:List Oper}(h:Y0 ops=true):qaS ops (qaq (kB zc ops []))/\∀ (i:Nat) (o:Oper),ops[i]?=some o->Zo ops (kB zc ops []) ops.length i o=true:=by
 simp only [Y0,Bool.and_eq_true] at h
 obtain ⟨h1,h2,h3,h4⟩:=h
 have key:∀ (i:Nat) (o:Oper),ops[i]?=some o->(∀ e∈zc o,e<i)/\Zo ops (kB zc ops []) ops.length i o=true:=by
  intro i o ho
  have:=List.all_eq_true.1 h1 i (List.mem_range.2 (List.getElem?_eq_some_iff.1 ho).1)
  rw [ho] at this
  simp only [Bool.and_eq_true] at this
  exact ⟨fun e he=>Nat.lt_of_succ_le (qA (List.all_eq_true.1 this.1 e he)),this.2⟩
 have top:∀ (md:Region.Mode) (ord:List Nat),W0 ops md ord=true->∃ rank:Nat->Nat,∀ (i:Nat) (o:Oper),ops[i]?=some o->∀ e∈KF md o,e<ops.length/\rank e<rank i:=by
  intro md ord h
  refine ⟨fun i=>ord.idxOf i,fun i o ho e he=>?_⟩
  have:=List.all_eq_true.1 h i (List.mem_range.2 (List.getElem?_eq_some_iff.1 ho).1)
  rw [ho] at this
  have:=List.all_eq_true.1 this e he
  simp only [Bool.and_eq_true] at this
  exact ⟨Nat.lt_of_succ_le (qA this.1),Nat.lt_of_succ_le (qA this.2)⟩
 refine ⟨⟨fun i o ho=>(key i o ho).1,fun i j o ho ha=>yP zc ops [] i j o ho (by simpa [qaq] using ha),fun md=>?_⟩,fun i o ho=>(key i o ho).2⟩
 cases md with
 | text=>exact top _ _ h3
 | gc=>exact top _ _ h4
 | any=>exact top _ _ h2
theorem qgb {ops:List Oper}{s:Nat}{ls:List Nat}(h:yq ops s ls=true):qbv ops s ls (qaq (kB zc ops []))/\∀ (i:Nat) (o:Oper),ops[i]?=some o->i<s->Zo ops (kB zc ops []) s i o=true:=by
 simp only [yq,Bool.and_eq_true] at h
 obtain ⟨hs,hl,h1,h2,h3,h4⟩:=h
 have hs:=Nat.lt_of_succ_le (qA hs)
 have key:∀ (i:Nat) (o:Oper),ops[i]?=some o->(∀ e∈zc o,e<i)/\(i<s->Zo ops (kB zc ops []) s i o=true)/\(s<=i->∀ j,j<i->j∉ls->qaq (kB zc ops []) i j):=by
  intro i o ho
  have:=List.all_eq_true.1 h1 i (List.mem_range.2 (List.getElem?_eq_some_iff.1 ho).1)
  rw [ho] at this
  simp only [Bool.and_eq_true] at this
  obtain ⟨k1,k2⟩:=this
  refine ⟨fun e he=>Nat.lt_of_succ_le (qA (List.all_eq_true.1 k1 e he)),fun hi=>?_,fun hi j hj hne=>?_⟩
  . have hb:nlt i s=true:=WA hi
    rw [hb] at k2
    exact k2
  . have hb:nlt i s=false:=by
     cases hc:nlt i s with
     | false=>rfl
     | true=>have:=Nat.lt_of_succ_le (qA hc);omega
    rw [hb] at k2
    have:=List.all_eq_true.1 k2 j (List.mem_range.2 hj)
    simp only [Bool.or_eq_true,Bool.and_eq_true] at this
    rcases this with h | h6
    . exact h
    . exact absurd (List.contains_iff_mem.1 h6) hne
 have top:∀ (md:Region.Mode) (ord:List Nat),W0 ops md ord=true->∃ rank:Nat->Nat,∀ (i:Nat) (o:Oper),ops[i]?=some o->∀ e∈KF md o,e<ops.length/\rank e<rank i:=by
  intro md ord h
  refine ⟨fun i=>ord.idxOf i,fun i o ho e he=>?_⟩
  have:=List.all_eq_true.1 h i (List.mem_range.2 (List.getElem?_eq_some_iff.1 ho).1)
  rw [ho] at this
  have:=List.all_eq_true.1 this e he
  simp only [Bool.and_eq_true] at this
  exact ⟨Nat.lt_of_succ_le (qA this.1),Nat.lt_of_succ_le (qA this.2)⟩
 refine ⟨⟨⟨fun i o ho=>(key i o ho).1,fun i j o ho ha=>yP zc ops [] i j o ho (by simpa [qaq] using ha),fun md=>?_⟩,hs,fun l hm=>Nat.lt_of_succ_le (qA (List.all_eq_true.1 hl l hm)),fun i j hi hil hj hne=>(key i _ (List.getElem?_eq_getElem hil)).2.2 hi j hj hne⟩,fun i o ho=>(key i o ho).2.1⟩
 cases md with
 | text=>exact top _ _ h3
 | gc=>exact top _ _ h4
 | any=>exact top _ _ h2
def VA (M:MB):List Prop->Prop->Prop
 | [],K=>K
 | p::r,K=>M.pAnd p (VA M r K)
theorem kZ:∀ (ps:List Prop) (K:Prop),VA qn ps K->Holds ps/\K
 | [],K,h=>⟨(fun p hp=>by cases hp),h⟩
 | p::r,K,h=>by
   obtain ⟨h1,h2⟩:p/\VA qn r K:=h
   obtain ⟨h3,h4⟩:=kZ r K h2
   exact ⟨fun q hq=>(List.mem_cons.1 hq).elim (fun e=>e▸h1) (h3 q),h4⟩
def qq9 (all:List Oper)(g:Nat):Option Nat:=match KI all g with
 | some ⟨some t,_,_,_,_,_⟩=>(match nlt t PH with | true=>some t | false=>none)
 | _=>none
def qij (M:MB)(F:SF)(t:Nat)(b:Bool)(K1 K2:SF->Prop):Prop :=
 M.pAnd (M.pImp b (K1 (F.know t true))) (M.pImp (M.bNot b) (K2 (F.know t false)))
def Jk (M:MB)(all:List Oper)(F:SF)(o:Oper)(doK skipK:SF->Prop):Prop :=
 match o.guard with
 | none=>doK F
 | some (g,want)=>(match qq9 all g with
   | some t=>(match qa unB F.tm t with
     | .v (false,[.fz (.bool kn b)])=>(match kn with
       | true=>(match b with
         | true=>(match want with | true=>doK F | false=>skipK F)
         | false=>(match want with | true=>skipK F | false=>doK F))
       | false=>(match want with
         | true=>qij M F t b doK skipK
         | false=>qij M F t b skipK doK))
     | .v (false,[.ud])=>skipK F
     | _=>M.pNo 1)
   | none=>M.pNo 2)
def vo (M:MB)(F:SF)(o:Oper)(K:SF->Prop):Prop :=
 match o.op with
 | .pick (.tmp t) _ _=>(match qa unB F.tm t with
   | .v (false,[.fz (.bool kn b)])=>(match kn with
     | true=>K F
     | false=>qij M F t b K K)
   | _=>K F)
 | _=>K F
theorem KN {F:SF}{t:Nat}{b kn:Bool}{K1 K2:SF->Prop}(hl:qa unB F.tm t=.v (false,[.fz (.bool kn b)]))(h:qij qn F t b K1 K2) :
 LE F.er (F.know t b).er/\qa unB (F.know t b).tm t=.v (false,[.fz (.bool true b)])/\((b=true/\K1 (F.know t b))\/(b=false/\K2 (F.know t b))):=by
 refine ⟨qpJ ⟨kn,hl⟩,by simp [SF.know,SF.put,qa],?_⟩
 obtain ⟨h1,h2⟩:(b=true->K1 (F.know t true))/\((!b)=true->K2 (F.know t false)):=h
 cases b with
 | true=>exact .inl ⟨rfl,h1 rfl⟩
 | false=>exact .inr ⟨rfl,h2 rfl⟩
theorem qa2 {F:SF}{all:List Oper}{g t:Nat}(h:qq9 all g=some t):Zk F.er ⟨all⟩ g=(qlq (qa unB F.tm t)).er:=by
 unfold qq9 at h
 unfold Zk
 dsimp only
 split at h
 . rename_i t' _ _ _ _ _ hn
   split at h
   . rename_i hph
     simp only [Option.some.injEq] at h
     subst h
     rw [hn]
     dsimp only
     rw [hph]
     dsimp only
     rw [qc6,<-show qa unT F.er.tm t'=(qa unB F.tm t').er B.erL from QD _ _]
   . cases h
 . cases h
theorem Kp {F:SF}{all:List Oper}{o:Oper}{doK skipK:SF->Prop}(h:Jk qn all F o doK skipK) :
 ∃ F':SF,LE F.er F'.er/\((ki F'.er ⟨all⟩ o true/\doK F')\/(ki F'.er ⟨all⟩ o false/\skipK F')):=by
 unfold Jk at h
 split at h
 . rename_i hg
   exact ⟨F,LE.refl _,.inl ⟨by unfold ki;rw [hg],h⟩⟩
 . rename_i g want hg
   split at h
   . rename_i t ht
     have key:∀ (F':SF) (b kn:Bool),qa unB F'.tm t=.v (false,[.fz (.bool kn b)])->ki F'.er ⟨all⟩ o (b == want):=by
      intro F' b kn hl
      unfold ki
      rw [hg]
      refine .inl ?_
      rw [qa2 ht,hl]
      cases b<;>cases want<;>rfl
     split at h
     . rename_i kn b hl
       split at h
       . split at h
         . split at h
           . exact ⟨F,LE.refl _,.inl ⟨key F _ _ hl,h⟩⟩
           . exact ⟨F,LE.refl _,.inr ⟨key F _ _ hl,h⟩⟩
         . split at h
           . exact ⟨F,LE.refl _,.inr ⟨key F _ _ hl,h⟩⟩
           . exact ⟨F,LE.refl _,.inl ⟨key F _ _ hl,h⟩⟩
       . split at h
         . obtain ⟨h1,h2,h3⟩:=KN hl h
           refine ⟨_,h1,?_⟩
           have:=key _ _ _ h2
           rcases h3 with ⟨rfl,h3⟩ | ⟨rfl,h3⟩
           . exact .inl ⟨this,h3⟩
           . exact .inr ⟨this,h3⟩
         . obtain ⟨h1,h2,h3⟩:=KN hl h
           refine ⟨_,h1,?_⟩
           have:=key _ _ _ h2
           rcases h3 with ⟨rfl,h3⟩ | ⟨rfl,h3⟩
           . exact .inr ⟨this,h3⟩
           . exact .inl ⟨this,h3⟩
     . rename_i hl
       refine ⟨F,LE.refl _,.inr ⟨?_,h⟩⟩
       unfold ki
       rw [hg]
       refine .inr ⟨rfl,?_⟩
       rw [qa2 ht,hl]
       rfl
     . exact h.elim
   . exact h.elim
theorem Jb {F:SF}{o:Oper}{K:SF->Prop}(h:vo qn F o K):∃ F':SF,LE F.er F'.er/\K F':=by
 unfold vo at h
 split at h
 . split at h
   . rename_i kn b hl
     split at h
     . exact ⟨F,LE.refl _,h⟩
     . obtain ⟨h1,_,h3⟩:=KN hl h
       exact ⟨_,h1,h3.elim (fun x=>x.2) (fun x=>x.2)⟩
   . exact ⟨F,LE.refl _,h⟩
 . exact ⟨F,LE.refl _,h⟩
theorem ki.le {F G:Fr}{all:Array Oper}{o:Oper}{b:Bool}(h:LE F G)(hw:ki F all o b):ki G all o b:=by
 refine K4 hw ⟨fun t _=>h.tm t,fun t _ id _=>h.tb id⟩
abbrev ItB:=Nat×List (Nat×W)×TV B
def VB (it:ItB):It:=(it.1,zF it.2.1,it.2.2.er B.erL)
def SF.apB (F:SF)(it:ItB):SF:=(F.addsB it.2.1).put it.1 it.2.2
theorem qnz (F:SF)(it:ItB):(F.apB it).er=F.er.ap (VB it):=by unfold SF.apB Fr.ap;rw [SF.put_er,yr];rfl
def qrC:TV B->Bool
 | .v (false,[.fz .nilsl])=>false
 | .v (false,[.fz _])=>true
 | _=>false
theorem qoN {x:TV B}(h:qrC x=true):qrG (x.er B.erL)=true:=by
 unfold qrC at h
 split at h
 . cases h
 . rename_i d hd
   cases d<;>first | rfl | exact (hd rfl).elim
 . cases h
def qpL (M:MB)(X:SX)(ora:Qp)(F:SF)(o:Oper):R ItB :=
 match o.dst with
 | none=>none
 | some d=>(match zQ F.n d with
   | true=>(match o.op with
     | .call ⟨.value f,⟨args⟩,_⟩=>(VT M F f).bd fun g=>(qdC M F args).bd fun as=>(ora g.1 (Qe as (Qu g.2))).bd fun r=>(match vH r with
       | true=>(match vE F (f::args) with
         | true=>R.ok (d,Jj d r,Yz M d r)
         | false=>(match vd r with
           | true=>R.ok (d,Jj d r,Yz M d r)
           | false=>none))
       | false=>none)
     | .alloc e=>(match X.T e with
       | some ty=>(match zWL ty.zero with
         | some zs=>R.ok (d,[(rid d 0 0,.obx zs)],ppB (rid d 0 0))
         | none=>none)
       | none=>none)
     | .assign x=>(match qrC (evB F x) with
       | true=>R.ok (d,[],evB F x)
       | false=>none)
     | op=>(qoQ M X.T F op).bd fun v=>R.ok (d,[],v))
   | false=>none)
theorem qru {M:Ops}{T:Nat->Option Ty}{kn:Bool}{ora:Ora}{F:Fr}{o:Oper}{d:Nat}(hd:o.dst=some d)(hlt:zQ F.n d=true)(h1:∀ f args ts,o.op=.call ⟨.value f,⟨args⟩,ts⟩->False)(h2:∀ e,o.op=.alloc e->False)(h3:∀ e,o.op=.assign e->False) :
 Wm M T kn ora F o=(match qop M T F o.op with | some (.val x)=>some (d,[],x) | _=>none):=by
 unfold Wm
 rw [hd]
 dsimp only
 rw [hlt]
 dsimp only
 split
 . rename_i he;exact (h1 _ _ _ he).elim
 . rename_i he;exact (h2 _ he).elim
 . rename_i he;exact (h3 _ he).elim
 . rfl
theorem qmu {P:Program}(X:SX){ora:Qp}(hO:qp P ora)(F:SF)(o:Oper):(qpL qn X ora F o).Sim fun it=>o.dst=some it.1/\∃ ora':Ora,(∀ g as r,ora' g as=some r->zG P g as r)/\Wm std X.T false ora' F.er o=some (VB it):=by
 unfold qpL
 split
 . exact R.Sim.none'
 . rename_i d hd
   split
   . rename_i hlt
     have hlt:zQ F.er.n d=true:=hlt
     split
     . rename_i f args ts hop
       refine R.Sim.bd (Vm F f) fun g hg=>R.Sim.bd (vS F args) fun as has=>R.Sim.bd (hO g.1 _) fun r hr=>?_
       split
       . rename_i hf
         have h1:qaf g.1 (qw D.erL (Qe as (Qu g.2))) (r.er W.erL) g.1 (qw D.erL as++Q5 (D.erL g.2))=some (r.er W.erL):=by
          unfold qaf
          rw [if_pos ⟨rfl,by rw [jm,Kg,qf1]⟩]
         have key:(vE F (f::args)=true\/vd r=true)->∃ ora':Ora,(∀ g as r,ora' g as=some r->zG P g as r)/\Wm std X.T false ora' F.er o=some (VB (d,Jj d r,Yz qn d r)):=by
          intro hc
          refine ⟨qaf g.1 (qw D.erL (Qe as (Qu g.2))) (r.er W.erL),?_,?_⟩
          . intro g' as' r' h'
            unfold qaf at h'
            split at h'
            . rename_i hh
              simp only [Option.some.injEq] at h'
              subst h'
              rw [hh.1,hh.2]
              exact hr
            . cases h'
          . unfold Wm qmP
            simp only [hd,hlt,hop,hg,has,h1,qeL hf,YU]
            rcases hc with hc | hc
            . simp only [hc,VB,ZX,vm]
            . cases hl:vE F (f::args) with
              | true=>simp only [VB,ZX,vm]
              | false=>simp only [Yl hc,VB,ZX,vm]
         split
         . rename_i hl;exact R.Sim.ok ⟨hd,key (.inl hl)⟩
         . split
           . rename_i hc;exact R.Sim.ok ⟨hd,key (.inr hc)⟩
           . exact R.Sim.none'
       . exact R.Sim.none'
     . rename_i e hop
       split
       . rename_i ty ht
         split
         . rename_i zs hz
           obtain ⟨h1,h2⟩:=qbV _ hz
           refine R.Sim.ok ⟨hd,fun _ _=>none,(fun _ _ _ h=>by cases h),?_⟩
           unfold Wm
           simp only [hd,hlt,hop,ht,h2,VB,zF,W.er,<-h1]
           rfl
         . exact R.Sim.none'
       . exact R.Sim.none'
     . rename_i x hop
       split
       . rename_i hs
         refine R.Sim.ok ⟨hd,fun _ _=>none,(fun _ _ _ h=>by cases h),?_⟩
         have hs:=qoN hs
         rw [kT] at hs
         unfold Wm
         simp only [hd,hlt,hop,hs,VB,zF,kT]
       . exact R.Sim.none'
     . rename_i h1 h2 h3
       refine R.Sim.bd (qeH X.T F o.op) fun v hv=>R.Sim.ok ⟨hd,fun _ _=>none,(fun _ _ _ h=>by cases h),?_⟩
       rw [qru hd hlt h1 h2 h3,hv]
       rfl
   . exact R.Sim.none'
def qsp (X:SX)(d t len:Nat):R ItB :=
 match X.T t with
 | some ⟨.sl e,_,_,_,_⟩=>(match X.T e with
   | some ty=>(match nq 0 len&&nle len 4096&&nlt 0 ty.size&&nle ty.size 4096 with
     | true=>R.ok (d,[(rid d 0 0,.onil)],rfB (rid d 0 0) len)
     | false=>none)
   | none=>none)
 | _=>none
def qhy (M:MB)(F:SF):B->R Bool
 | .fz .nilsl=>R.ok true
 | .rf (r,[]) _ off len=>(F.atR M (r,[])).bd fun o=>(match o with
   | .onil=>some ([M.pEqN off 0,M.pEqN len 0],true)
   | _=>none)
 | _=>none
def qf4:B->Option (Option LL)
 | .fz .nilsl=>some none
 | .fz (.sl zs)=>some (some zs.thaw)
 | _=>none
def qsx (M:MB)(X:SX)(F:SF)(d:Nat)(x y:Operand)(t t':Nat):R ItB :=
 match nq t t',X.T t with
 | true,some ⟨.sl e,_,_,_,_⟩=>(match X.T e with
   | some ty=>(qhy M F (z6 F x)).bd fun _=>(match qf4 (z6 F y) with
     | some z=>(match nle ty.bytes 4096&&nlt 0 ty.size&&nq (cnt ty.zero) ty.size&&qpm ty.size z with
       | true=>some ([M.pLeLim (yT M z)],(d,[(rid d 0 0,qrD z)],rfB (rid d 0 0) (yT M z)))
       | false=>none)
     | none=>none)
   | none=>none)
 | _,_=>none
def qr6 (X:SX)(d t len i:Nat)(x:Operand):R ItB :=
 match X.T t with
 | some ⟨.sl e,_,_,_,_⟩=>(match X.T e,x with
   | some ty,.const (.int .i64 n)=>(match nq 1 len&&nle len 4096&&nlt 0 ty.size&&nle ty.size 4096&&(nq i 0&&nq 1 ty.size) with
     | true=>R.ok (d,[(rid d 0 0,.osl (.i [n]))],rfB (rid d 0 0) len)
     | false=>none)
   | _,_=>none)
 | _=>none
def qsy (M:MB)(X:SX)(d t:Nat)(l c:Operand):R ItB :=
 match X.T t with
 | some ⟨.sl e,_,_,_,_⟩=>(match X.T e,l,c with
   | some ty,.const (.int _ n),.const (.int _ m)=>(match nle ty.bytes 4096&&nlt 0 ty.size&&nq (cnt ty.zero) ty.size with
     | true=>(match ty.zero with
       | [.int .i64 0]=>some ([M.pEqI n m,M.pRep n],(d,[(rid d 0 0,.osl (.i (M.rep (M.toN n) 0)))],rfB (rid d 0 0) (M.len (M.rep (M.toN n) (0:Int)))))
       | _=>none)
     | false=>none)
   | _,_,_=>none)
 | _=>none
def isK:Op->Bool
 | .buildSlice _ _ ⟨[]⟩=>true
 | .buildSlice _ _ ⟨[(_,.const _)]⟩=>true
 | .makeSlice _ (.const _) (.const _)=>true
 | .call ⟨.builtin .append,⟨[_,_]⟩,⟨[_,_]⟩⟩=>true
 | _=>false
def qn0 (M:MB)(X:SX)(F:SF)(o:Oper):R ItB :=
 match o.dst with
 | none=>none
 | some d=>(match zQ F.n d with
   | true=>(match o.op with
     | .buildSlice t len ⟨[]⟩=>qsp X d t len
     | .buildSlice t len ⟨[(i,x)]⟩=>qr6 X d t len i x
     | .makeSlice t l c=>qsy M X d t l c
     | .call ⟨.builtin .append,⟨[x,y]⟩,⟨[t,t']⟩⟩=>qsx M X F d x y t t'
     | _=>none)
   | false=>none)
def qp3 (F:SF)(o:Oper):Option ItB:=match o.op with
 | .nilCheck x=>(match o.dst with
   | some d=>(match zQ F.n d with
     | true=>(match z6 F x with
       | .fz (.ptr cs)=>some (d,[],.v (false,[.fz (.ptr cs)]))
       | _=>none)
     | false=>none)
   | none=>none)
 | _=>none
def qmN (M:MB)(X:SX)(ora:Qp)(F:SF)(o:Oper):R ItB:=match isK o.op with
 | true=>qn0 M X F o
 | false=>(match qp3 F o with
   | some it=>R.ok it
   | none=>qpL M X ora F o)
theorem qgz (F:SF)(x:B):(qhy qn F x).Sim fun _=>WY std F.er x.er=true:=by
 unfold qhy
 split
 . exact R.Sim.ok rfl
 . rename_i r w off len
   refine R.Sim.bd (F.atR_sim _) fun o ho=>?_
   split
   . refine R.Sim.mk fun hp=>?_
     obtain ⟨h1,h2⟩:=hp.two
     have h1:off=0:=h1
     have h2:len=0:=h2
     subst h1 h2
     have ho':F.er.at std (r,[])=.osl []:=ho
     show (match F.er.at std (r,[]) with | .osl []=>std.nEq 0 0&&std.nEq 0 0 | _=>false)=true
     rw [ho']
     rfl
   . exact R.Sim.none'
 . exact R.Sim.none'
theorem qlI {x:B}{z:Option LL}(h:qf4 x=some z):qbt std x.er=some (oro z):=by
 unfold qf4 at h
 split at h
 . injection h with h;subst h;rfl
 . rename_i zs
   injection h with h
   subst h
   simp only [B.er,D.er,qbt,oro,LL.thaw_ro]
   rfl
 . cases h
theorem qkI (X:SX)(F:SF)(o:Oper):(qn0 qn X F o).Sim fun it=>o.dst=some it.1/\yL std X.T F.er o=some (VB it):=by
 unfold qn0
 split
 . exact R.Sim.none'
 . rename_i d hd
   split
   . rename_i hlt
     have hlt:zQ F.er.n d=true:=hlt
     split
     . rename_i t len hop
       unfold qsp
       split
       . rename_i e g1 g2 g3 g4 ht
         split
         . rename_i ty hte
           split
           . rename_i hok
             refine R.Sim.ok ⟨hd,?_⟩
             unfold yL bsK
             simp only [hd,hlt,hop,ht,hte,hok]
             rfl
           . exact R.Sim.none'
         . exact R.Sim.none'
       . exact R.Sim.none'
     . rename_i t len i x hop
       unfold qr6
       split
       . rename_i e g1 g2 g3 g4 ht
         split
         . rename_i ty n hte
           split
           . rename_i hok
             refine R.Sim.ok ⟨hd,?_⟩
             unfold yL bsC
             simp only [hd,hlt,hop,ht,hte,hok]
             rfl
           . exact R.Sim.none'
         . exact R.Sim.none'
       . exact R.Sim.none'
     . rename_i t l c hop
       unfold qsy
       split
       . rename_i e g1 g2 g3 g4 ht
         split
         . rename_i ty k1 n k2 m hte
           split
           . rename_i hc
             split
             . rename_i hz
               refine R.Sim.mk fun hp=>⟨hd,?_⟩
               obtain ⟨h3,h4,h5⟩:=hp.two
               have h3:n=m:=h3
               subst h3
               have hr:std.oRep n (kc false ty.zero)=some (roI (List.replicate n.toNat 0)):=by
                show (if 0<=n/\n<=(lim:Int) then some (List.replicate n.toNat (kc false ty.zero)) else none)=_
                rw [if_pos ⟨h4,h5⟩,hz]
                simp [kc,roI]
               have hb:std.bEq n n=true:=by show (n == n)=true;simp
               have hlen:std.oLen (roI (List.replicate n.toNat 0))=(List.replicate n.toNat (0:Int)).length:=by show (roI _).length=_;simp [roI]
               have hnu:ZR ty.zero=true:=by rw [hz];rfl
               unfold yL mkC
               simp only [hd,hlt,hop,ht,hte,hb,hc,hnu,hr,hlen,Bool.and_self,Bool.true_and,Bool.and_true]
               rfl
             . exact R.Sim.none'
           . exact R.Sim.none'
         . exact R.Sim.none'
       . exact R.Sim.none'
     . rename_i x y t t' hop
       unfold qsx
       split
       . rename_i e g1 g2 g3 g4 htt ht
         split
         . rename_i ty hte
           refine R.Sim.bd (qgz F _) fun _ hb=>?_
           split
           . rename_i z hz
             split
             . rename_i hok
               refine R.Sim.mk fun hp=>⟨hd,?_⟩
               have h6:std.nLe (std.oLen (oro z)) lim=true:=by
                have:yT qn z<=lim:=hp.one
                show decide ((oro z).length<=lim)=true
                rw [vF]
                simpa using this
               have hz:=qlI hz
               rw [qI] at hb hz
               simp only [Bool.and_eq_true] at hok
               obtain ⟨⟨⟨h1,h2⟩,h3⟩,h4⟩:=hok
               unfold yL apK
               simp only [hd,hlt,hop,htt,ht,hte,hb,hz,h6,h1,h2,h3,qcd h4,Bool.and_self]
               have h8:std.oLen (oro z)=yT qn z:=vF z
               rw [h8]
               simp only [VB,zF,qi0]
               rfl
             . exact R.Sim.none'
           . exact R.Sim.none'
         . exact R.Sim.none'
       . exact R.Sim.none'
     . exact R.Sim.none'
   . exact R.Sim.none'
theorem qn2 {P:Program}{X:SX}(hT:kA P X.T){ora:Qp}(hO:qp P ora){all:Array Oper}(F:SF)(o:Oper)(hw:ki F.er all o true):(qmN qn X ora F o).Sim fun it=>o.dst=some it.1/\ku P all F.er o (VB it):=by
 unfold qmN
 split
 . exact (qkI X F o).mono fun it h=>⟨h.1,ku.of_aopK hT hw h.2⟩
 . split
   . rename_i it hn
     unfold qp3 at hn
     split at hn
     . rename_i x hop
       split at hn
       . rename_i d hd
         split at hn
         . rename_i hlt
           have hlt:zQ F.er.n d=true:=hlt
           split at hn
           . rename_i cs hx
             injection hn with hn
             subst hn
             exact R.Sim.ok ⟨hd,ku.of_nil hw hd hlt hop (by rw [<-qI,hx];rfl)⟩
           . cases hn
         . cases hn
       . cases hn
     . cases hn
   exact (qmu X hO F o).mono fun it h=>by
    obtain ⟨h1,ora',hO',hag⟩:=h
    exact ⟨h1,ku.of_aop hT hO' hw hag⟩
def qhH:List Nat->Nat->Bool
 | [],_=>false
 | a::r,n=>match nq a n with | true=>true | false=>qhH r n
theorem YB {l:List Nat}{n:Nat}:qhH l n=true↔n∈l:=by
 induction l with
 | nil=>simp [qhH]
 | cons a r ih =>
   simp only [qhH,List.mem_cons]
   cases h:nq a n with
   | true=>obtain rfl:=Nat.eq_of_beq_eq_true h;simp
   | false =>
     have:¬n=a:=fun e=>by subst e;simp at h
     simp [ih,this]
def Wy (all:List Oper)(DS:List Nat)(t:Nat):List Nat->Bool
 | []=>true
 | id::r=>match nq (Nat.div id 4096) t with
   | true=>Wy all DS t r
   | false=>(match qhH DS (Nat.div id 4096) with
     | true=>(match qhH (mvL all t) (Nat.div id 4096) with | true=>Wy all DS t r | false=>false)
     | false=>Wy all DS t r)
def qfV (all:List Oper)(F:SF)(DS:List Nat):List Nat->Bool
 | []=>true
 | t::r=>match Wy all DS t (qn3 (qa unB F.tm t)) with | true=>qfV all F DS r | false=>false
def qiK (F0:SF)(d:Nat):List (Nat×W)->Bool
 | []=>true
 | (id,_)::r=>match has F0.tb id with
   | true=>false
   | false=>(match nq (Nat.div id 4096) d with | true=>qiK F0 d r | false=>false)
theorem qhN {all:List Oper}{DS:List Nat}{t:Nat}{l:List Nat}(h:Wy all DS t l=true):∀ id∈l,id / 4096=t\/id / 4096∉DS\/id / 4096∈mvL all t:=by
 induction l with
 | nil=>intro id hid;cases hid
 | cons a r ih =>
   simp only [Wy] at h
   intro id hid
   split at h
   . rename_i he
     rcases List.mem_cons.1 hid with rfl | hid
     . exact .inl (Nat.eq_of_beq_eq_true he)
     . exact ih h id hid
   . split at h
     . split at h
       . rename_i hm
         rcases List.mem_cons.1 hid with rfl | hid
         . exact .inr (.inr (YB.1 hm))
         . exact ih h id hid
       . cases h
     . rename_i hm
       rcases List.mem_cons.1 hid with rfl | hid
       . exact .inr (.inl (fun hh=>by have:=YB.2 hh;rw [show id / 4096=Nat.div id 4096 from rfl,hm] at this;cases this))
       . exact ih h id hid
theorem qbr {all:List Oper}{F:SF}{DS:List Nat}{l:List Nat}(h:qfV all F DS l=true):∀ t∈l,∀ id∈(qa unT F.er.tm t).ids,id / 4096=t\/id / 4096∉DS\/id / 4096∈mvL all t:=by
 induction l with
 | nil=>intro t ht;cases ht
 | cons a r ih =>
   simp only [qfV] at h
   split at h
   . rename_i hc
     intro t ht
     rcases List.mem_cons.1 ht with rfl | ht
     . rw [show qa unT F.er.tm t=(qa unB F.tm t).er B.erL from QD _ _,qfW]
       exact qhN hc
     . exact ih h t ht
   . cases h
theorem qk3 {F0:SF}{d:Nat}{l:List (Nat×W)}(h:qiK F0 d l=true):qfL F0.er (zF l)/\∀ id o,(id,o)∈zF l->id / 4096=d:=by
 induction l with
 | nil=>exact ⟨(fun id o hm=>by cases hm),(fun id o hm=>by cases hm)⟩
 | cons a r ih =>
   obtain ⟨i,w⟩:=a
   simp only [qiK] at h
   split at h
   . cases h
   . rename_i hh
     split at h
     . rename_i he
       obtain ⟨h1,h2⟩:=ih h
       refine ⟨fun id o hm=>?_,fun id o hm=>?_⟩
       . rcases List.mem_cons.1 hm with e | hm
         . injection e with e _;subst e;rw [show F0.er.tb=zF F0.tb from rfl,qgZ];exact hh
         . exact h1 id o hm
       . rcases List.mem_cons.1 hm with e | hm
         . injection e with e _;subst e;exact Nat.eq_of_beq_eq_true he
         . exact h2 id o hm
     . cases h
def wpD (M:MB)(X:SX)(ora:Qp)(all:List Oper)(F0:SF)(DS:List Nat):List Oper->SF->(SF->Prop)->Prop
 | [],F,K=>K F
 | o::l,F,K=>Jk M all F o
   (fun F1=>vo M F1 o fun F2=>(match qmN M X ora F2 o with
     | some (ps,it)=>(match qfV all F2 DS (Qe (opL o.op) (gdT ⟨all⟩ o)) with
       | true=>(match qiK F0 it.1 it.2.1 with
         | true=>VA M ps (wpD M X ora all F0 DS l (F2.apB it) K)
         | false=>M.pNo 3)
       | false=>M.pNo 4)
     | none=>M.pNo 5))
   (fun F1=>(match o.dst with
     | some d=>(match nlt d PH with
       | true=>(match qfV all F1 DS (Qe (opL o.op) (gdT ⟨all⟩ o)) with
         | true=>wpD M X ora all F0 DS l (F1.apB (d,[],.v (false,[.ud]))) K
         | false=>M.pNo 6)
       | false=>M.pNo 8)
     | none=>M.pNo 7))
def qhZ:Op->Bool
 | .extract _ _=>true
 | .move _=>true
 | .load _ _=>true
 | .fieldAddr _ _ _=>true
 | _=>false
theorem qpW {M:MB}{X:SX}{ora:Qp}{F:SF}{o:Oper}{ps:List Prop}{it:ItB}(h:qmN M X ora F o=some (ps,it))(hn:qhZ o.op=true):it.2.1=[]:=by
 unfold qmN at h
 cases ho:o.op<;>rw [ho] at hn h<;>first | cases hn | skip
 all_goals (
  simp only [isK] at h
  have hnx:qp3 F o=none:=by unfold qp3;rw [ho]
  rw [hnx] at h
  dsimp only at h
  unfold qpL at h
  rw [ho] at h
  split at h
  . cases h
  . split at h
    . dsimp only at h
      unfold R.bd at h
      split at h
      . cases h
      . split at h
        . cases h
        . rename_i hb
          unfold R.ok at hb
          simp only [Option.some.injEq,Prod.mk.injEq] at hb h
          obtain ⟨_,hb⟩:=hb
          obtain ⟨_,h⟩:=h
          rw [<-h,<-hb]
    . cases h)
def frs (F:Fr)(its:List It)(i:Nat):Fr:=(its.take i).foldl Fr.ap F
theorem LE.ap {F G:Fr}(h:LE F G)(it:It):LE (F.ap it) (G.ap it):=by
 have htb:∀ H:Fr,(H.ap it).tb=it.2.1.reverse++H.tb:=fun H=>qiR _ _
 have htm:∀ H:Fr,(H.ap it).tm=(it.1,it.2.2)::H.tm:=by intro H;show (it.1,it.2.2)::(H.adds it.2.1).tm=_;rw [(@Jp qN it.2.1 H).1]
 refine ⟨?_,fun t=>?_,fun id=>?_,fun id=>?_⟩
 . show (G.adds it.2.1).n=(F.adds it.2.1).n;rw [(@Jp qN it.2.1 G).2,(@Jp qN it.2.1 F).2,h.n]
 . rw [htm,htm,@qt qN,@qt qN,h.tm]
 . rw [htb,htb,@kK qN,@kK qN,h.tb]
 . rw [htb,htb,@Q0 qN,@Q0 qN,h.has]
structure qeK (P:Program)(all:List Oper)(F0:SF)(DS:List Nat)(F:Fr)(o:Oper)(x:It):Prop where
 item:ku P ⟨all⟩ F o x
 dst:o.dst=some x.1
 fr:qfL F0.er x.2.1
 blk:∀ id o',(id,o')∈x.2.1->id / 4096=x.1
 ids:∀ t∈lkT ⟨all⟩ o,∀ id∈(qa unT F.tm t).ids,id / 4096∈lkM all o\/id / 4096∉DS
 nr:qhZ o.op=true->x.2.1=[]
theorem qmF {all:List Oper}{o:Oper}{t n:Nat}{Q:Prop}(ht:t∈lkT ⟨all⟩ o)(h:n=t\/Q\/n∈mvL all t):n∈lkM all o\/Q:=by
 rcases h with rfl | h | h
 . exact .inl (List.mem_append_left _ ht)
 . exact .inr h
 . exact .inl (List.mem_append_right _ (List.mem_flatMap.2 ⟨t,ht,h⟩))
theorem Wz {P:Program}{X:SX}(hT:kA P X.T){ora:Qp}(hO:qp P ora){all:List Oper}{F0:SF}{DS:List Nat}{K:SF->Prop}:∀ (l:List Oper) (F:SF) (Fc:Fr),LE Fc F.er->wpD qn X ora all F0 DS l F K →
 ∃ (its:List It) (G:SF),its.length=l.length/\K G/\LE (frs Fc its l.length) G.er/\∀ (i:Nat) (o:Oper) (x:It),l[i]?=some o->its[i]?=some x->qeK P all F0 DS (frs Fc its i) o x:=by
 intro l
 induction l with
 | nil=>intro F Fc hl h;exact ⟨[],F,rfl,h,hl,fun i o x ho=>by simp at ho⟩
 | cons o l ih =>
   intro F Fc hl h
   simp only [wpD] at h
   obtain ⟨F1,h1,h2⟩:=Kp h
   have go:∀ (F2:SF) (it:It) (F3:SF),LE Fc F2.er->F3.er=F2.er.ap it->wpD qn X ora all F0 DS l F3 K->qeK P all F0 DS Fc o it →
    ∃ (its:List It) (G:SF),its.length=(o::l).length/\K G/\LE (frs Fc its (o::l).length) G.er/\∀ (i:Nat) (o':Oper) (x:It),(o::l)[i]?=some o'->its[i]?=some x->qeK P all F0 DS (frs Fc its i) o' x:=by
    intro F2 it F3 hle he hw hit
    obtain ⟨its,G,k1,k2,k3,k4⟩:=ih F3 (Fc.ap it) (by rw [he];exact hle.ap it) hw
    refine ⟨it::its,G,by simp [k1],k2,k3,fun i o' x ho hx=>?_⟩
    cases i with
    | zero =>
      simp only [List.getElem?_cons_zero,Option.some.injEq] at ho hx
      subst ho hx
      exact hit
    | succ i=>exact k4 i o' x (by simpa using ho) (by simpa using hx)
   have hlk:∀ t∈lkT ⟨all⟩ o,t∈Qe (opL o.op) (gdT ⟨all⟩ o):=by intro t ht;rw [jm];exact ht
   rcases h2 with ⟨hw,h2⟩ | ⟨hw,h2⟩
   . obtain ⟨F2,h3,h4⟩:=Jb h2
     split at h4
     . rename_i ps it hit
       split at h4
       . rename_i hc1
         split at h4
         . rename_i hc2
           obtain ⟨hps,h5⟩:=kZ ps _ h4
           obtain ⟨hdst,hag⟩:=qn2 hT hO F2 o (hw.le h3) ps it hit hps
           have hle:LE Fc F2.er:=(hl.trans h1).trans h3
           obtain ⟨hf1,hf2⟩:=qk3 hc2
           refine go F2 (VB it) _ hle (qnz F2 it) h5 ⟨?_,hdst,hf1,hf2,?_,fun hnr=>?_⟩
           . exact ku.le hle hag
           . intro t ht id hid
             rw [<-hle.tm t] at hid
             exact qmF ht (qbr hc1 t (hlk t ht) id hid)
           . show zF it.2.1=[]
             rw [qpW hit hnr]
             rfl
         . exact h4.elim
       . exact h4.elim
     . exact h4.elim
   . split at h2
     . rename_i d hd
       split at h2
       . rename_i hph
         split at h2
         . rename_i hc1
           have hle:LE Fc F1.er:=hl.trans h1
           refine go F1 (d,[],.v (false,[.ud])) _ hle (qnz F1 _) h2 ⟨?_,hd,fun id o hm=>by (cases hm),fun id o hm=>by (cases hm),?_,fun _=>rfl⟩
           . exact ku.le hle (ku.of_skip hd hph hw)
           . intro t ht id hid
             rw [<-hle.tm t] at hid
             exact qmF ht (qbr hc1 t (hlk t ht) id hid)
         . exact h2.elim
       . exact h2.elim
     . exact h2.elim
end Go.Proofs.YtfafehnchmelnaaGreat.Ai
namespace Go.Proofs.YtfafehnchmelnaaGreat.Ai
open Go
variable [qf]
def Qo (P:Program)(g:FuncId)(args:List (V1 B))(tb:List (Nat×W))(ph:List B)(r:TV B)(tb':List (Nat×W))(ph':List B):Prop :=
 Vb P g (qw B.erL args) (zF tb) (B.erL ph) (r.er B.erL) (zF tb') (B.erL ph')
def qsh:LK->SP->B
 | .sl n,p=>.rf p true 0 n
 | .bx,p=>.pp p (true,0) 0
theorem qpo (k:LK)(p:SP):(qsh k p).er=jM k p.er:=by cases k<;>rfl
def qlE:Nat->List (LK×W)->List (Nat×W)
 | _,[]=>[]
 | i,x::r=>(lrt i,x.2)::qlE (i+1) r
def qll:Nat->List (LK×W)->List B
 | _,[]=>[]
 | i,x::r=>qsh x.1 (lrt i,[])::qll (i+1) r
def zz (P:Program)(X:SX):Prop:=∀ g as ls,R.Sim (X.OW g as ls) fun res=>Qo P g as (qlE 0 ls) (qll 0 ls) res.1 res.2.1 res.2.2
def wF (F:SF)(f:Operand):R (FuncId×List B):=match z6 F f with
 | .fz (.fn g caps)=>R.ok (g,fzB caps)
 | .clo g caps=>R.ok (g,caps)
 | _=>none
theorem qcg (F:SF)(f:Operand):(wF F f).Sim fun r=>JF F.er f=some (r.1,B.erL r.2):=by
 unfold wF
 split
 . rename_i g caps h
   refine R.Sim.ok ?_
   have:ev1 F.er f=.fz (.fn g (D.erL caps)):=by rw [<-qI,h];rfl
   unfold JF
   rw [this]
   simp only [qgo]
 . rename_i g caps h
   refine R.Sim.ok ?_
   have:ev1 F.er f=.clo g (B.erL caps):=by rw [<-qI,h];rfl
   unfold JF
   rw [this]
 . exact R.Sim.none'
def qdc (F:SF):List Operand->R (List (V1 B))
 | []=>R.ok []
 | x::r=>match evB F x with
   | .v y=>(qdc F r).bd fun l=>R.ok (y::l)
   | .tup _=>none
theorem yD (F:SF):∀ xs:List Operand,(qdc F xs).Sim fun l=>YD F.er xs=some (qw B.erL l)
 | []=>R.Sim.ok rfl
 | x::r=>by
   simp only [qdc]
   split
   . rename_i y hy
     refine R.Sim.bd (yD F r) fun l hl=>R.Sim.ok ?_
     have:ev F.er x=.v (zY B.erL y):=by rw [<-kT,hy];rfl
     simp only [YD,this,hl]
     rfl
   . exact R.Sim.none'
def WE:List B->List (V1 B)
 | []=>[]
 | c::r=>(false,[c])::WE r
theorem qkl (l:List B):qw B.erL (WE l)=Kn (B.erL l):=by induction l with | nil=>rfl | cons a l ih=>simp only [WE,qw,B.erL,Kn,ih];rfl
def qiD (M:MB)(F:SF):B->R (SP×LK×W)
 | .rf q true off n=>(F.atR M q).bd fun o=>(match o with
   | .osl x=>some ([M.pEqN off 0,M.pEqN n (x.len M)],(q,.sl n,.osl x))
   | .onil=>some ([M.pEqN off 0,M.pEqN n 0],(q,.sl n,.onil))
   | _=>none)
 | .pp q i j=>(match i,j with
   | (true,0),0=>(F.atR M q).bd fun o=>(match o with
     | .obx cs=>R.ok (q,.bx,.obx cs)
     | _=>none)
   | _,_=>none)
 | _=>none
def qcA:LK->O->Prop
 | .sl n,.osl xs=>xs.length=n
 | .bx,.obx _=>True
 | _,_=>False
theorem qby (F:SF)(b:B):(qiD qn F b).Sim fun r=>b.er=jM r.2.1 r.1.er/\F.er.at std r.1.er=r.2.2.er/\qcA r.2.1 r.2.2.er:=by
 unfold qiD
 split
 . rename_i q off n
   refine R.Sim.bd (F.atR_sim q) fun o ho=>?_
   split
   . rename_i x
     refine R.Sim.mk fun hp=>?_
     obtain ⟨h1,h2⟩:=hp.two
     have h1:off=0:=h1
     have h2:n=x.len qn:=h2
     subst h1 h2
     exact ⟨rfl,ho,LL.len_ro x⟩
   . refine R.Sim.mk fun hp=>?_
     obtain ⟨h1,h2⟩:=hp.two
     have h1:off=0:=h1
     have h2:n=0:=h2
     subst h1 h2
     exact ⟨rfl,ho,rfl⟩
   . exact R.Sim.none'
 . split
   . refine R.Sim.bd (F.atR_sim _) fun o ho=>?_
     split
     . exact R.Sim.ok ⟨rfl,ho,trivial⟩
     . exact R.Sim.none'
   . exact R.Sim.none'
 . exact R.Sim.none'
def qqv (all:List (V1 B))(k j:Nat):Option B:=match nth all k with
 | some x=>nth x.2 j
 | none=>none
def qcJ (M:MB)(F:SF)(all:List (V1 B)):List (Nat×Nat)->R (List (SP×LK×W))
 | []=>R.ok []
 | (k,j)::r=>(match qqv all k j with
   | some b=>(qiD M F b).bd fun x=>(qcJ M F all r).bd fun l=>R.ok (x::l)
   | none=>none)
theorem yW (F:SF)(all:List (V1 B)):∀ ps:List (Nat×Nat),(qcJ qn F all ps).Sim fun l=>∀ x∈l,F.er.at std x.1.er=x.2.2.er/\qcA x.2.1 x.2.2.er/\∃ (k:Nat) (y:V1 A) (j:Nat),(qw B.erL all)[k]?=some y/\y.2[j]?=some (jM x.2.1 x.1.er)
 | []=>R.Sim.ok (fun x h=>by cases h)
 | (k,j)::r=>by
   simp only [qcJ]
   split
   . rename_i b hb
     refine R.Sim.bd (qby F b) fun x hx=>R.Sim.bd (yW F all r) fun l hl=>R.Sim.ok ?_
     intro z hz
     rcases List.mem_cons.1 hz with rfl | hz
     . refine ⟨hx.2.1,hx.2.2,?_⟩
       unfold qqv at hb
       rw [qu] at hb
       cases hk:all[k]? with
       | none=>rw [hk] at hb;cases hb
       | some y =>
         rw [hk] at hb
         dsimp only at hb
         rw [qu] at hb
         refine ⟨k,zY B.erL y,j,by rw [qbi,hk];rfl,?_⟩
         show (B.erL y.2)[j]?=_
         rw [B.erL_eq,List.getElem?_map,hb]
         simp [hx.1]
     . exact hl z hz
   . exact R.Sim.none'
def qjY:List SP->Nat->SP->Option (Option SP)
 | [],_,_=>some none
 | q::L,i,x=>match nq x.1 q.1 with
   | true=>(match vj q.2 x.2 with
     | some (some s)=>some (some (lrt i,s))
     | some none=>qjY L (i+1) x
     | none=>none)
   | false=>qjY L (i+1) x
theorem qgN:∀ (L:List zg) (qs:List SP) (i:Nat),L.map (·.q)=qs.map SP.er->∀ (x:SP) (r:Option SP),qjY qs i x=some r->ren (inL i L) x.er=r.map SP.er:=by
 intro L
 induction L with
 | nil =>
   intro qs i hq x r h
   have:qs=[]:=by simpa using hq.symm
   subst this
   simp only [qjY,Option.some.injEq] at h
   subst h
   rfl
 | cons l L ih =>
   intro qs i hq x r h
   cases qs with
   | nil=>simp at hq
   | cons q qs =>
     simp only [List.map_cons,List.cons.injEq] at hq
     obtain ⟨h1,h2⟩:=hq
     simp only [qjY] at h
     simp only [inL,ren]
     rw [h1]
     show (match nq x.1 q.1 with | true=>(match pre std (ixs q.2) (ixs x.2) with | some s=>some ((lrt i,([]:List (Nat×Nat))).1,(lrt i,([]:List (Nat×Nat))).2++s) | none=>ren (inL (i+1) L) x.er) | false=>ren (inL (i+1) L) x.er)=_
     split at h
     . split at h
       . rename_i s hs
         rw [zo _ _ hs]
         simp only [Option.some.injEq] at h
         subst h
         simp [SP.er]
       . rename_i hs
         rw [zo _ _ hs]
         exact ih qs (i+1) h2 x r h
       . cases h
     . exact ih qs (i+1) h2 x r h
def Wh:List SP->SP->Option (Option SP)
 | [],x=>some (some x)
 | q::L,x=>match nq x.1 q.1 with
   | true=>(match vj q.2 x.2 with
     | some (some [])=>some (some x)
     | some (some (_::_))=>some none
     | some none=>Wh L x
     | none=>none)
   | false=>Wh L x
theorem qc2:∀ (L:List zg) (qs:List SP),L.map (·.q)=qs.map SP.er->∀ (x:SP) (r:Option SP),Wh qs x=some r->Qr L x.er=r.map SP.er:=by
 intro L
 induction L with
 | nil =>
   intro qs hq x r h
   have:qs=[]:=by simpa using hq.symm
   subst this
   simp only [Wh,Option.some.injEq] at h
   subst h
   rfl
 | cons l L ih =>
   intro qs hq x r h
   cases qs with
   | nil=>simp at hq
   | cons q qs =>
     simp only [List.map_cons,List.cons.injEq] at hq
     obtain ⟨h1,h2⟩:=hq
     simp only [Wh] at h
     simp only [Qr]
     rw [h1]
     show (match nq x.1 q.1 with | true=>(match pre std (ixs q.2) (ixs x.2) with | some []=>some x.er | some (_::_)=>none | none=>Qr L x.er) | false=>Qr L x.er)=_
     split at h
     . split at h
       . rename_i hs
         rw [zo _ _ hs]
         simp only [Option.some.injEq] at h
         subst h
         rfl
       . rename_i a s hs
         rw [zo _ _ hs]
         simp only [Option.some.injEq] at h
         subst h
         obtain ⟨⟨k,i⟩,j⟩:=a
         rfl
       . rename_i hs
         rw [zo _ _ hs]
         exact ih qs h2 x r h
       . cases h
     . exact ih qs h2 x r h
def qpA (p q:SP):Bool:=match nq p.1 q.1 with
 | false=>true
 | true=>(match vj p.2 q.2,vj q.2 p.2 with
   | some none,some none=>true
   | _,_=>false)
theorem YO {p q:SP}(h:qpA p q=true):¬Und p.er q.er/\¬Und q.er p.er:=by
 unfold qpA at h
 split at h
 . rename_i he
   refine ⟨fun hu=>?_,fun hu=>?_⟩
   . have:q.1=p.1:=hu.1
     rw [this,ju] at he
     cases he
   . have:p.1=q.1:=hu.1
     rw [this,ju] at he
     cases he
 . split at h
   . rename_i h1 h2
     have h1:=zo _ _ h1
     have h2:=zo _ _ h2
     refine ⟨fun ⟨_,s,hs⟩=>?_,fun ⟨_,s,hs⟩=>?_⟩
     . have hs:ixs q.2=ixs p.2++s:=hs
       rw [hs,jS] at h1
       cases h1
     . have hs:ixs p.2=ixs q.2++s:=hs
       rw [hs,jS] at h2
       cases h2
   . cases h
def qcq (p:SP):List SP->Bool
 | []=>true
 | q::r=>match qpA p q with | true=>qcq p r | false=>false
def Y7:List SP->Bool
 | []=>true
 | p::r=>match qcq p r with | true=>Y7 r | false=>false
theorem qhY {p:SP}:∀ {l:List SP},qcq p l=true->∀ q∈l,qpA p q=true:=by
 intro l
 induction l with
 | nil=>intro _ q h;cases h
 | cons a l ih =>
   intro h q hq
   simp only [qcq] at h
   split at h
   . rename_i h1
     rcases List.mem_cons.1 hq with rfl | hq
     . exact h1
     . exact ih h q hq
   . cases h
theorem wI:∀ {l:List SP},Y7 l=true->ja (l.map SP.er):=by
 intro l
 induction l with
 | nil=>intro _ i j p p' hi;simp at hi
 | cons a l ih =>
   intro h i j p p' hi hj hu
   simp only [Y7] at h
   split at h
   . rename_i h1
     have hc:=qhY h1
     cases i with
     | zero =>
       cases j with
       | zero=>rfl
       | succ j =>
         exfalso
         simp only [List.map_cons,List.getElem?_cons_zero,Option.some.injEq] at hi
         simp only [List.map_cons,List.getElem?_cons_succ,List.getElem?_map] at hj
         cases hb:l[j]? with
         | none=>rw [hb] at hj;simp at hj
         | some b =>
           rw [hb] at hj
           simp at hj
           subst hi hj
           exact (YO (hc b (List.mem_of_getElem? hb))).1 hu
     | succ i =>
       cases j with
       | zero =>
         exfalso
         simp only [List.map_cons,List.getElem?_cons_zero,Option.some.injEq] at hj
         simp only [List.map_cons,List.getElem?_cons_succ,List.getElem?_map] at hi
         cases hb:l[i]? with
         | none=>rw [hb] at hi;simp at hi
         | some b =>
           rw [hb] at hi
           simp at hi
           subst hi hj
           exact (YO (hc b (List.mem_of_getElem? hb))).2 hu
       | succ j=>exact congrArg (·+1) (ih h i j p p' (by simpa using hi) (by simpa using hj) hu)
   . cases h
structure zu where
 q:SP
 k:LK
 o:W
 r:SP
 z:W
def zu.er (l:zu):zg:=⟨l.q.er,l.k,l.o.er,l.r.er,l.z.er⟩
def qs6:W->W->Bool
 | .osl x,.osl y=>nq x.sz y.sz
 | .onil,_=>true
 | _,.onil=>true
 | .obx _,.obx _=>true
 | _,_=>false
def qmj (M:MB)(tb:List (Nat×W))(x:SP×LK×W)(b:B):R zu :=
 (qiD M ⟨0,[],tb⟩ b).bd fun y=>(match x.2.1,y.2.1 with
   | .sl n,.sl m=>(match qs6 x.2.2 y.2.2 with
     | true=>some ([M.pEqN m n],⟨x.1,.sl n,x.2.2,y.1,y.2.2⟩)
     | false=>none)
   | .bx,.bx=>R.ok ⟨x.1,.bx,x.2.2,y.1,y.2.2⟩
   | _,_=>none)
def qjh (M:MB)(tb:List (Nat×W)):List (SP×LK×W)->List B->R (List zu)
 | [],[]=>R.ok []
 | x::l,b::bs=>(qmj M tb x b).bd fun y=>(qjh M tb l bs).bd fun r=>R.ok (y::r)
 | _,_=>none
theorem qkb (tb:List (Nat×W))(x:SP×LK×W)(b:B)(hk:qcA x.2.1 x.2.2.er) :
 (qmj qn tb x b).Sim fun l=>l.q=x.1/\l.k=x.2.1/\l.o=x.2.2/\b.er=jM l.k l.r.er/\(Fr.mk 0 [] (zF tb)).at std l.r.er=l.z.er/\l.k.ok l.o.er l.z.er:=by
 unfold qmj
 refine R.Sim.bd (qby _ b) fun y ⟨h1,h2,h3⟩=>?_
 obtain ⟨q,k,o⟩:=x
 obtain ⟨r,k',z⟩:=y
 dsimp only at *
 cases k with
 | sl n =>
   cases k' with
   | bx=>exact R.Sim.none'
   | sl m =>
     dsimp only
     split
     . rename_i hs
       refine R.Sim.mk fun hp=>?_
       have e:m=n:=hp.one
       subst e
       refine ⟨rfl,rfl,rfl,h1,h2,?_⟩
       dsimp only
       cases o with
       | osl x =>
         cases z with
         | osl y =>
           refine ⟨hk,h3,fun a ha c hc=>?_⟩
           have:=Qk.1 hs
           rw [x.ro_sz a ha,y.ro_sz c hc,this]
         | onil=>exact ⟨hk,h3,fun a ha c hc=>by cases hc⟩
         | _=>exact h3.elim
       | onil =>
         cases z with
         | osl y=>exact ⟨hk,h3,fun a ha=>by cases ha⟩
         | onil=>exact ⟨hk,h3,fun a ha=>by cases ha⟩
         | _=>exact h3.elim
       | _=>exact hk.elim
     . exact R.Sim.none'
 | bx =>
   cases k' with
   | sl m=>exact R.Sim.none'
   | bx =>
     refine R.Sim.ok ⟨rfl,rfl,rfl,h1,h2,?_⟩
     dsimp only
     cases o<;>first | exact hk.elim | skip
     cases z<;>first | exact h3.elim | trivial
theorem qa0 (tb:List (Nat×W)):∀ (l:List (SP×LK×W)) (bs:List B),(∀ x∈l,qcA x.2.1 x.2.2.er) →
 (qjh qn tb l bs).Sim fun r=>r.map (·.q)=l.map (·.1)/\r.map (fun y=>(y.k,y.o))=l.map (·.2)/\B.erL bs=phR (r.map zu.er)/\∀ y∈r,(Fr.mk 0 [] (zF tb)).at std y.r.er=y.z.er/\y.k.ok y.o.er y.z.er
 | [],[],_=>R.Sim.ok ⟨rfl,rfl,rfl,fun y h=>by cases h⟩
 | x::l,b::bs,hk=>by
   simp only [qjh]
   refine R.Sim.bd (qkb tb x b (hk x List.mem_cons_self)) fun y ⟨h1,h2,h3,h4,h5,h6⟩=>R.Sim.bd (qa0 tb l bs (fun z hz=>hk z (List.mem_cons_of_mem _ hz))) fun r ⟨k1,k2,k3,k4⟩=>R.Sim.ok ⟨?_,?_,?_,?_⟩
   . simp [h1,k1]
   . simp [h2,h3,k2]
   . simp only [B.erL,List.map_cons,phR,k3,h4];rfl
   . intro z hz
     rcases List.mem_cons.1 hz with rfl | hz
     . exact ⟨h5,h6⟩
     . exact k4 z hz
 | [],_::_,_=>R.Sim.none'
 | _::_,[],_=>R.Sim.none'
def VM (M:MB)(F:SF):List zu->R SF
 | []=>R.ok F
 | l::L=>(VM M F L).bd fun G=>G.setR M l.q l.z
theorem Vn (F:SF):∀ L:List zu,(VM qn F L).Sim fun G=>kE std F.er (L.map zu.er)=G.er
 | []=>R.Sim.ok rfl
 | l::L=>by
   simp only [VM]
   refine R.Sim.bd (Vn F L) fun G hG=>(G.setR_sim l.q l.z).mono fun H hH=>?_
   simp only [List.map_cons,kE,hG]
   exact hH
def qsW:List zu->List SP
 | []=>[]
 | l::L=>l.q::qsW L
def rsW:List zu->List SP
 | []=>[]
 | l::L=>l.r::rsW L
theorem qhq (L:List zu):(L.map zu.er).map (·.q)=(qsW L).map SP.er:=by induction L with | nil=>rfl | cons l L ih=>simp only [List.map_cons,qsW,ih];rfl
theorem qrc (L:List zu):(L.map zu.er).map (·.r)=(rsW L).map SP.er:=by induction L with | nil=>rfl | cons l L ih=>simp only [List.map_cons,rsW,ih];rfl
def sps:List (SP×LK×W)->List SP
 | []=>[]
 | x::r=>x.1::sps r
def kos:List (SP×LK×W)->List (LK×W)
 | []=>[]
 | x::r=>x.2::kos r
theorem qrj (l:List (SP×LK×W)):sps l=l.map (·.1):=by induction l with | nil=>rfl | cons x r ih=>simp [sps,ih]
theorem qrE (l:List (SP×LK×W)):kos l=l.map (·.2):=by induction l with | nil=>rfl | cons x r ih=>simp [kos,ih]
theorem qoI (L:List zu):qsW L=L.map (·.q):=by induction L with | nil=>rfl | cons l L ih=>simp [qsW,ih]
def qfe (M:MB):List zu->B->R B
 | _,.fz d=>R.ok (.fz d)
 | l::L,.rf p g off n=>(match nq p.1 l.r.1 with
   | true=>(match vj l.r.2 p.2,l.k with
     | some (some []),.sl m=>some ([M.pLeN (M.nAdd off n) m],.rf l.q g off n)
     | some none,_=>qfe M L (.rf p g off n)
     | _,_=>none)
   | false=>qfe M L (.rf p g off n))
 | _,_=>none
theorem y6 {l:zg}{L:List zg}{a b:A}(h:w6 L a b):w6 (l::L) a b:=by
 cases h with
 | fz _ h=>exact .fz _ h
 | rf i l m off len hl hk hle=>exact .rf (i+1) l m off len (by simpa using hl) hk hle
theorem Wo:∀ (L:List zu) (x:B),(qfe qn L x).Sim fun y=>w6 (L.map zu.er) x.er y.er
 | [],.fz d=>R.Sim.ok (.fz _ rfl)
 | _::_,.fz d=>R.Sim.ok (.fz _ rfl)
 | l::L,.rf p g off n=>by
   simp only [qfe]
   split
   . rename_i hn
     split
     . rename_i m h1 hk
       refine R.Sim.mk fun hp=>?_
       have hp:off+n<=m:=hp.one
       have e:=wO (zo _ _ h1)
       have hq:p.er=(l.er).r:=Prod.ext (Qk.1 hn) (by rw [show p.er.2=ixs p.2 from rfl,e];simp [zu.er,SP.er,ixs])
       show w6 _ (.rf p.er off n) (.rf l.q.er off n)
       rw [hq]
       exact .rf 0 l.er m off n rfl hk hp
     . exact (Wo L _).mono fun y hy=>y6 hy
     . exact R.Sim.none'
   . exact (Wo L _).mono fun y hy=>y6 hy
 | [],.un=>R.Sim.none'
 | [],.ud=>R.Sim.none'
 | [],.rf ..=>R.Sim.none'
 | [],.pp ..=>R.Sim.none'
 | [],.clo ..=>R.Sim.none'
 | _::_,.un=>R.Sim.none'
 | _::_,.ud=>R.Sim.none'
 | _::_,.pp ..=>R.Sim.none'
 | _::_,.clo ..=>R.Sim.none'
def V8 (M:MB)(L:List zu):List B->R (List B)
 | []=>R.ok []
 | x::r=>(qfe M L x).bd fun y=>(V8 M L r).bd fun ys=>R.ok (y::ys)
theorem wA (L:List zu):∀ l:List B,(V8 qn L l).Sim fun l'=>(B.erL l).length=(B.erL l').length/\∀ (j:Nat) (a b:A),(B.erL l)[j]?=some a->(B.erL l')[j]?=some b->w6 (L.map zu.er) a b
 | []=>R.Sim.ok ⟨rfl,fun j a b h=>by simp [B.erL] at h⟩
 | x::r=>by
   simp only [V8]
   refine R.Sim.bd (Wo L x) fun y hy=>R.Sim.bd (wA L r) fun ys ⟨h1,h2⟩=>R.Sim.ok ⟨by simp [B.erL,h1],fun j a b ha hb=>?_⟩
   cases j with
   | zero=>simp [B.erL] at ha hb;subst ha hb;exact hy
   | succ j=>exact h2 j a b (by simpa [B.erL] using ha) (by simpa [B.erL] using hb)
def VC (M:MB)(L:List zu):List (V1 B)->R (List (V1 B))
 | []=>R.ok []
 | x::r=>(V8 M L x.2).bd fun y=>(VC M L r).bd fun ys=>R.ok ((x.1,y)::ys)
theorem WR (L:List zu):∀ l:List (V1 B),(VC qn L l).Sim fun l'=>(qw B.erL l).length=(qw B.erL l').length/\∀ (k:Nat) (x y:V1 A),(qw B.erL l)[k]?=some x->(qw B.erL l')[k]?=some y->qjc (L.map zu.er) x y
 | []=>R.Sim.ok ⟨rfl,fun j a b h=>by simp [qw] at h⟩
 | x::r=>by
   simp only [VC]
   refine R.Sim.bd (wA L x.2) fun y ⟨k1,k2⟩=>R.Sim.bd (WR L r) fun ys ⟨h1,h2⟩=>R.Sim.ok ⟨by simp [qw,h1],fun j a b ha hb=>?_⟩
   cases j with
   | zero=>simp [qw] at ha hb;subst ha hb;exact ⟨rfl,k1,k2⟩
   | succ j=>exact h2 j a b (by simpa [qw] using ha) (by simpa [qw] using hb)
def qmZ (M:MB)(L:List zu):TV B->R (TV B)
 | .v x=>(V8 M L x.2).bd fun y=>R.ok (.v (x.1,y))
 | .tup xs=>(VC M L xs).bd fun ys=>R.ok (.tup ys)
theorem qhw (L:List zu)(r:TV B):(qmZ qn L r).Sim fun r'=>qmq (L.map zu.er) (r.er B.erL) (r'.er B.erL):=by
 cases r with
 | v x=>exact R.Sim.bd (wA L x.2) fun y ⟨h1,h2⟩=>R.Sim.ok ⟨rfl,h1,h2⟩
 | tup xs=>exact R.Sim.bd (WR L xs) fun ys ⟨h1,h2⟩=>R.Sim.ok ⟨h1,h2⟩
def qgg (M:MB)(X:SX)(F:SF)(d:Nat)(f:Operand)(args:List Operand):R SF :=
 (wF F f).bd fun g=>(qdc F args).bd fun as=>(match X.S g.1 with
   | some ps=>(qcJ M F (Qe as (WE g.2)) ps).bd fun ls=>(match qlC (qjY (sps ls) 0) (Qe as (WE g.2)) with
     | some as'=>(X.OW g.1 as' (kos ls)).bd fun res=>(qjh M res.2.1 ls res.2.2).bd fun L=>(qmZ M L res.1).bd fun rr=>(match Y7 (qsW L) with
      | true=>(match Y7 (rsW L) with
        | true=>(VM M F L).bd fun G=>(G.trR (Wh (qsW L))).bd fun H=>R.ok (H.put d rr)
        | false=>none)
      | false=>none)
     | none=>none)
   | none=>none)
theorem qiW:∀ (L:List zu) (i:Nat),zF (qlE i (L.map fun y=>(y.k,y.o)))=tbL i (L.map zu.er)
 | [],_=>rfl
 | l::L,i=>by simp only [List.map_cons,qlE,zF,tbL,qiW L (i+1)];rfl
theorem qiH:∀ (L:List zu) (i:Nat),B.erL (qll i (L.map fun y=>(y.k,y.o)))=phL i (L.map zu.er)
 | [],_=>rfl
 | l::L,i=>by simp only [List.map_cons,qll,B.erL,phL,qiH L (i+1),qpo];rfl
theorem qg2 {P:Program}{X:SX}(hW:zz P X)(F:SF){o:Oper}{d:Nat}(hdst:o.dst=some d)(hok:zQ F.n d=true){f:Operand}{args:List Operand}{ts:Array TypeId}(ho:o.op=.call ⟨.value f,⟨args⟩,ts⟩) :
 (qgg qn X F d f args).Sim fun G=>ze P F.er o G.er:=by
 unfold qgg
 refine R.Sim.bd (qcg F f) fun g hg=>R.Sim.bd (yD F args) fun as has=>?_
 split
 . rename_i ps hps
   refine R.Sim.bd (yW F _ ps) fun ls hls=>?_
   split
   . rename_i as' htr
     refine R.Sim.bd (hW g.1 as' (kos ls)) fun res hres=>?_
     . refine R.Sim.bd (qa0 res.2.1 ls res.2.2 (fun x hx=>(hls x hx).2.1)) fun L ⟨l1,l2,l3,l4⟩=>R.Sim.bd (qhw L res.1) fun rr hrr=>?_
       split
       . rename_i ha
         split
         . rename_i hr
           refine R.Sim.bd (Vn F L) fun G hG=>R.Sim.bd (G.trR_sim (qc2 (L.map zu.er) (qsW L) (qhq L))) fun H hH=>R.Sim.ok ?_
           rw [SF.put_er,<-hH,<-hG]
           have hqs:qsW L=sps ls:=by rw [qoI,qrj,l1]
           have hall:qw B.erL (Qe as (WE g.2))=qw B.erL as++Kn (B.erL g.2):=by rw [jm,Kg,qkl]
           refine ze.of_callW hdst hok ho hg has hrr (tb':=zF res.2.1) ⟨by rw [qhq];exact wI ha,by rw [qrc];exact wI hr,?_,?_,?_⟩ ?_
           . intro l hl
             obtain ⟨y,hy,rfl⟩:=List.mem_map.1 hl
             refine ⟨?_,(l4 y hy).2⟩
             have h1:y.q∈L.map (·.q):=List.mem_map.2 ⟨y,hy,rfl⟩
             obtain ⟨i,hi⟩:=List.getElem?_of_mem hy
             have e1:(L.map (·.q))[i]?=some y.q:=by rw [List.getElem?_map,hi];rfl
             have e2:(L.map fun y=>(y.k,y.o))[i]?=some (y.k,y.o):=by rw [List.getElem?_map,hi];rfl
             rw [l1,List.getElem?_map] at e1
             rw [l2,List.getElem?_map] at e2
             cases hx:ls[i]? with
             | none=>rw [hx] at e1;simp at e1
             | some x =>
               rw [hx] at e1 e2
               simp only [Option.map_some,Option.some.injEq] at e1 e2
               have:=(hls x (List.mem_of_getElem? hx)).1
               rw [e1,e2] at this
               exact this
           . intro l hl
             obtain ⟨y,hy,rfl⟩:=List.mem_map.1 hl
             exact (l4 y hy).1
           . intro l hl
             obtain ⟨y,hy,rfl⟩:=List.mem_map.1 hl
             obtain ⟨i,hi⟩:=List.getElem?_of_mem hy
             have e1:(L.map (·.q))[i]?=some y.q:=by rw [List.getElem?_map,hi];rfl
             have e2:(L.map fun y=>(y.k,y.o))[i]?=some (y.k,y.o):=by rw [List.getElem?_map,hi];rfl
             rw [l1,List.getElem?_map] at e1
             rw [l2,List.getElem?_map] at e2
             cases hx:ls[i]? with
             | none=>rw [hx] at e1;simp at e1
             | some x =>
               rw [hx] at e1 e2
               simp only [Option.map_some,Option.some.injEq] at e1 e2
               have:=(hls x (List.mem_of_getElem? hx)).2.2
               rw [e1,e2,hall] at this
               exact this
           . unfold Qo at hres
             rw [qrE,<-l2,qiW,qiH,l3] at hres
             have:=J5 (τ':=ren (inL 0 (L.map zu.er))) (qgN (L.map zu.er) (sps ls) 0 (by rw [qhq,hqs])) _ htr
             rw [hall,@jy qN] at this
             rw [this]
             exact hres
         . exact R.Sim.none'
       . exact R.Sim.none'
   . exact R.Sim.none'
 . exact R.Sim.none'
end Go.Proofs.YtfafehnchmelnaaGreat.Ai
namespace Go.Proofs.YtfafehnchmelnaaGreat.Ai
open Go
variable [qf]
def Ym {α:Type}:List α->Nat->List α
 | _,0=>[]
 | [],_+1=>[]
 | a::r,n+1=>a::Ym r n
theorem qdt {α:Type}(l:List α)(n:Nat):Ym l n=l.take n:=by
 induction l generalizing n with
 | nil=>cases n<;>rfl
 | cons a r ih=>cases n<;>simp [Ym,ih]
def JS:List Oper->List Nat
 | []=>[]
 | o::r=>match o.dst with | some d=>d::JS r | none=>JS r
def drS (n:Nat):Nat:=Nat.mod n 65536
def qsi:Nat->Nat->List Nat
 | 0,_=>[]
 | f+1,n=>match nq n 0 with
   | true=>[]
   | false=>Nat.pred (Nat.mod n 256)::qsi f (Nat.div n 256)
def qoq (n:Nat):List Nat:=qsi 6 (Nat.div n 65536)
def kS (dr:Nat->Nat):Code->Bool
 | .region id ⟨ops⟩ true=>match nlt (dr id) 65536 with
   | true=>qbn ops (dr id)||(nq (dr id) ops.length&&Y0 ops)
   | false=>yq ops (drS (dr id)) (qoq (dr id))
 | .seq a b=>kS dr a&&kS dr b
 | .cond _ a b=>kS dr a&&kS dr b
 | .block _ b=>kS dr b
 | .loop b=>kS dr b
 | _=>true
def kOK (dr:Nat->Nat):K->Bool
 | .c x=>kS dr x
 | .lp b=>kS dr b
 | _=>true
def qgY (M:MB)(X:SX)(F:SF)(t:TypeId)(x:Operand):R SF :=
 match X.T t with
 | some ⟨.sl e,_,_,_,_⟩=>(match X.T e with
   | some ⟨_,_,1,_,[.int .i64 0]⟩=>(match z6 F x with
     | .rf (r,[]) _ off len=>(F.atR M (r,[])).bd fun o=>(match o with
       | .osl (.i l)=>some ([M.pLeN (M.nAdd off len) (M.len l)],{ F with tb:=(r,.osl (.i (M.zap l off len 0)))::del F.tb r })
       | _=>none)
     | _=>none)
   | _=>none)
 | _=>none
theorem qhj (X:SX)(F:SF)(t:TypeId)(x:Operand):(qgY qn X F t x).Sim fun G=>qbP std X.T F.er t x=some G.er:=by
 unfold qgY
 split
 . rename_i e g1 g2 g3 g4 ht
   split
   . rename_i k0 ag by0 hte
     split
     . rename_i r w off len hx
       refine R.Sim.bd (F.atR_sim (r,[])) fun o ho=>?_
       split
       . rename_i l
         refine R.Sim.mk fun hp=>?_
         have h1:off+len<=l.length:=hp.one
         have hv:ev1 F.er x=.rf (r,[]) off len:=by rw [<-qI,hx];rfl
         have ho:F.er.at std (r,[])=.osl (roI l):=ho
         have h2:(std.nLe (std.nAdd off len) (std.oLen (roI l))&&std.oSz 1 (roI l)&&std.oFlat (roI l))=true:=by
          simp [std,roI,h1,O.isFz]
         have h3:(roI (kU l off len 0))=kU (roI l) off len [.fz (.int .i64 0)]:=by unfold roI;rw [yp]
         unfold qbP
         simp only [ht,hte,hv,qg0,ho,h2]
         show some (F.er.re r (.osl (kU (roI l) off len [.fz (.int .i64 0)])))=some ⟨F.n,jf F.tm,zF ((r,.osl (.i (kU l off len 0)))::del F.tb r)⟩
         rw [<-h3]
         simp only [zF,<-Yg]
         rfl
       . exact R.Sim.none'
     . exact R.Sim.none'
   . exact R.Sim.none'
 . exact R.Sim.none'
def qp5:List B->R (List D)
 | []=>R.ok []
 | .fz d::r=>(match d with
   | .un=>none
   | _=>(qp5 r).bd fun l=>R.ok (d::l))
 | _=>none
theorem qfA:∀ l:List B,(qp5 l).Sim fun ds=>B.erL l=fzL (D.erL ds)/\okL (B.erL l)=true
 | []=>R.Sim.ok ⟨rfl,rfl⟩
 | .fz d::r=>by
   simp only [qp5]
   split
   . exact R.Sim.none'
   . rename_i hd
     refine R.Sim.bd (qfA r) fun ds ⟨h1,h2⟩=>R.Sim.ok ⟨by simp only [B.erL,B.er,D.erL,fzL,h1],?_⟩
     simp only [B.erL,B.er,okL,h2]
     cases d<;>first | rfl | exact (hd rfl).elim
 | .un::_=>R.Sim.none'
 | .ud::_=>R.Sim.none'
 | .rf ..::_=>R.Sim.none'
 | .pp ..::_=>R.Sim.none'
 | .clo ..::_=>R.Sim.none'
def qmk (F:SF)(d:Nat)(x:Operand):R SF:=match evB F x with
 | .v (_,as)=>(qp5 as).bd fun ds=>R.ok (F.put d (.v (false,[.fz (.ptr ds)])))
 | .tup _=>none
theorem qkP {P:Program}(F:SF){o:Oper}{d:Nat}(hd:o.dst=some d)(hlt:zQ F.er.n d=true){e:TypeId}{x:Operand}(ho:o.op=.box e x):(qmk F d x).Sim fun G=>ze P F.er o G.er:=by
 unfold qmk
 split
 . rename_i g as hx
   refine R.Sim.bd (qfA as) fun ds ⟨h1,h2⟩=>R.Sim.ok ?_
   rw [SF.put_er]
   refine ze.of_boxF hd hlt ho (as:=D.erL ds) ?_ (by rw [<-h1];exact h2)
   rw [<-kT,hx,<-h1]
   rfl
 . exact R.Sim.none'
noncomputable def qm0:jP:=match qf.fut with | some g=>g | none=>fun _=>false
theorem qkq (h:qf.fut.isSome=true):qf.fut=some qm0:=by
 unfold qm0
 cases hh:qf.fut with
 | none=>rw [hh] at h;cases h
 | some g=>rfl
def qbL (X:SX)(t:Nat):Bool:=match X.T t with
 | some ⟨.str,_,_,_,_⟩=>true
 | _=>false
theorem Yr {X:SX}{t:Nat}(h:qbL X t=true):∃ ty,X.T t=some ty/\ty.kind=.str:=by
 unfold qbL at h
 split at h
 . rename_i he;exact ⟨_,he,rfl⟩
 . cases h
def qro (X:SX)(F:SF)(t:Nat)(m k x:Operand):R SF :=
 match X.T t with
 | some ⟨.mp kt _,_,_,_,_⟩=>(match qbL X kt with
   | true=>(match z6 F m,z6 F k,z6 F x with
     | .fz (.mp g),.fz (.str s),.fz (.bool _ b)=>some ([b=g s],F)
     | _,_,_=>none)
   | false=>none)
 | _=>none
theorem qne {P:Program}{X:SX}(hT:kA P X.T)(F:SF){o:Oper}(hd:o.dst=none){t:Nat}{m k x:Operand}(hop:o.op=.mapUpdate t m k x):(qro X F t m k x).Sim fun G=>ze P F.er o G.er:=by
 unfold qro
 split
 . rename_i kt et a1 a2 a3 a4 ht
   split
   . rename_i hk
     obtain ⟨tk,h1,h2⟩:=Yr hk
     split
     . rename_i g s kn b hm hs hx
       refine R.Sim.mk fun hp=>?_
       have hb:b=g s:=hp.one
       refine ze.of_mapUpdate hT ht rfl h1 h2 hd hop (g:=g) (s:=s) ?_ ?_ ?_
       . rw [<-qI,hm];rfl
       . rw [<-qI,hs];rfl
       . rw [<-qI,hx,<-hb];rfl
     . exact R.Sim.none'
   . exact R.Sim.none'
 . exact R.Sim.none'
def qrw (F:SF)(d:Nat)(x:Operand):R SF:=match z6 F x with
 | .fz (.ptr cs)=>R.ok (F.put d (.v (false,[.fz (.ptr cs)])))
 | _=>none
theorem qov {P:Program}(F:SF){o:Oper}{d:Nat}(hd:o.dst=some d)(hlt:zQ F.er.n d=true){x:Operand}(hop:o.op=.nilCheck x):(qrw F d x).Sim fun G=>ze P F.er o G.er:=by
 unfold qrw
 split
 . rename_i cs hx
   refine R.Sim.ok ?_
   rw [SF.put_er]
   exact ze.of_nilCheck hd hlt hop (by rw [<-qI,hx];rfl)
 . exact R.Sim.none'
noncomputable def qoi (F:SF)(d:Nat):R SF:=some ([qf.fut.isSome=true],F.put d (.v (false,[.fz (.mp qm0)])))
theorem qgT {P:Program}(F:SF){o:Oper}{d:Nat}(hd:o.dst=some d)(hlt:zQ F.er.n d=true){t:Nat}(hop:o.op=.makeMap t none):(qoi F d).Sim fun G=>ze P F.er o G.er:=by
 refine R.Sim.mk fun hp=>?_
 rw [SF.put_er]
 exact ze.of_makeMap hd hlt hop (qkq hp.one)
noncomputable def opB (M:MB)(X:SX)(ora:Qp)(F:SF)(o:Oper):R SF :=
 match o.dst with
 | none=>(match o.op with
   | .store t a x=>(match X.T t with
     | some ty=>qha M F ty.size a x
     | none=>none)
   | .call ⟨.builtin .clear,⟨[x]⟩,⟨[t]⟩⟩=>qgY M X F t x
   | .mapUpdate t m k x=>qro X F t m k x
   | _=>none)
 | some d=>(match zQ F.n d with
   | true=>(match o.op with
     | .call ⟨.value f,⟨args⟩,_⟩=>(match (match wF F f with | some (_,g)=>X.S g.1 | none=>none) with
       | some _=>qgg M X F d f args
       | none=>qnC M ora F d f args)
     | .box e x=>(match X.FB d with
       | true=>qmk F d x
       | false=>qm3 M X F d (.box e x))
     | .assign x=>(match X.FB d with
       | true=>R.ok (F.put d (evB F x))
       | false=>qm3 M X F d (.assign x))
     | .makeMap _ none=>qoi F d
     | .nilCheck x=>qrw F d x
     | op=>qm3 M X F d op)
   | false=>none)
theorem qcH {P:Program}{X:SX}(hT:kA P X.T)(hW:zz P X){ora:Qp}(hO:qp P ora)(F:SF)(o:Oper):(opB qn X ora F o).Sim fun G=>ze P F.er o G.er:=by
 have none':∀ g as r,(fun _ _=>none:Ora) g as=some r->zG P g as r:=fun _ _ _ h=>by cases h
 unfold opB
 split
 . rename_i hd
   split
   . rename_i t a x hop
     split
     . rename_i ty ht
       refine (qgM F ty.size a x).mono fun G hG=>?_
       refine ze.of_opS (kn:=false) hT none' ?_
       unfold opS
       simp only [hd,hop,ht]
       exact hG
     . exact R.Sim.none'
   . rename_i x t hop
     exact (qhj X F t x).mono fun G hG=>ze.of_clear hT hd hop hG
   . rename_i t m k x hop
     exact qne hT F hd hop
   . exact R.Sim.none'
 . rename_i d hd
   split
   . rename_i hlt
     have hlt:zQ F.er.n d=true:=hlt
     split
     . rename_i f args ts hop
       split
       . exact qg2 hW F hd hlt hop
       . refine (qlo hO F d f args).mono fun G ⟨g,as,r,h1,h2⟩=>?_
         refine ze.of_opS (kn:=false) (ora:=qaf g as r) hT ?_ ?_
         . intro g' as' r' h'
           unfold qaf at h'
           split at h'
           . rename_i hh
             simp only [Option.some.injEq] at h'
             subst h'
             rw [hh.1,hh.2]
             exact h1
           . cases h'
         . unfold opS
           simp only [hd,hlt,hop]
           exact h2
     . rename_i e x hop
       split
       . exact qkP F hd hlt hop
       . refine (Yt X F d (.box e x)).mono fun G hG=>ze.of_opS (kn:=false) hT none' ?_
         unfold opS
         rw [hd]
         dsimp only
         rw [hlt]
         dsimp only
         rw [hop]
         exact hG
     . rename_i x hop
       split
       . refine R.Sim.ok ?_
         rw [SF.put_er,kT]
         exact ze.of_asgP hd hlt hop
       . refine (Yt X F d (.assign x)).mono fun G hG=>ze.of_opS (kn:=false) hT none' ?_
         unfold opS
         rw [hd]
         dsimp only
         rw [hlt]
         dsimp only
         rw [hop]
         exact hG
     . rename_i hop
       exact qgT F hd hlt hop
     . rename_i x hop
       exact qov F hd hlt hop
     . rename_i h1 _ _ _ _
       refine (Yt X F d o.op).mono fun G hG=>ze.of_opS (kn:=false) hT none' ?_
       unfold opS
       rw [hd]
       dsimp only
       rw [hlt]
       dsimp only
       split
       . rename_i he;exact (h1 _ _ _ he).elim
       . exact hG
   . exact R.Sim.none'
def qqB:B->Option LL
 | .fz (.sl y)=>some y
 | _=>none
def qh1 (X:SX)(F:SF)(o:Oper):Option (Nat×LL) :=
 match o.op with
 | .binOp .eql t x (.const (.slice none 0 0)) _=>(match qqB (z6 F x),X.T t,o.dst with
   | some y,some ⟨.sl _,_,_,_,_⟩,some d=>(match zQ F.n d with | true=>some (d,y) | false=>none)
   | _,_,_=>none)
 | _=>none
theorem qhW {X:SX}{F:SF}{o:Oper}{d:Nat}{y:LL}(h:qh1 X F o=some (d,y)):∃ t e g1 g2 g3 g4 x tn,X.T t=some ⟨.sl e,g1,g2,g3,g4⟩/\o.dst=some d/\zQ F.er.n d=true/\o.op=.binOp .eql t x (.const (.slice none 0 0)) tn/\qiT (ev1 F.er x)=true/\ev1 F.er x=.fz (.sl y.rc):=by
 unfold qh1 at h
 split at h
 . rename_i t x tn hop
   split at h
   . rename_i y' e g1 g2 g3 g4 d' hx ht hd
     split at h
     . rename_i hlt
       simp only [Option.some.injEq,Prod.mk.injEq] at h
       obtain ⟨rfl,rfl⟩:=h
       have hv:ev1 F.er x=.fz (.sl y'.rc):=by
        rw [<-qI]
        unfold qqB at hx
        split at hx
        . rename_i hv
          rw [hv]
          simp only [Option.some.injEq] at hx
          subst hx
          rfl
        . cases hx
       refine ⟨t,e,g1,g2,g3,g4,x,tn,ht,hd,hlt,hop,?_,hv⟩
       rw [hv]
       rfl
     . cases h
   . cases h
 . cases h
def qnu (X:SX)(F:SF)(o:Oper):Option (Nat×jP×ByteArray) :=
 match o.op with
 | .lookup t x ix true=>(match X.T t,o.dst with
   | some ⟨.mp kt et,_,_,_,_⟩,some d=>(match qbL X kt,X.T et,zQ F.n d,z6 F x,z6 F ix with
     | true,some _,true,.fz (.mp g),.fz (.str s)=>some (d,g,s)
     | _,_,_,_,_=>none)
   | _,_=>none)
 | _=>none
theorem qdX {P:Program}{X:SX} [zi] (hT:kA P X.T){F:SF}{o:Oper}{d:Nat}{g:jP}{s:ByteArray}(h:qnu X F o=some (d,g,s)){ks:List K}{Post:Fr->Prop}{all:Array Oper}{l:List Oper}(hw:ki F.er all o true)
 (hy:Ex P (.r all l::ks) (F.put d (.tup [(false,[.fz (.bool false (g s))]),(false,[.fz (.bool true true)])])).er Post) (hno:Ex P (.r all l::ks) (F.put d (.tup [(false,[.un]),(false,[.fz (.bool true false)])])).er Post):Ex P (.r all (o::l)::ks) F.er Post:=by
 unfold qnu at h
 split at h
 . rename_i t x ix hop
   split at h
   . rename_i kt et a1 a2 a3 a4 d' ht hd
     split at h
     . rename_i te g' s' hk he hlt hx hi
       simp only [Option.some.injEq,Prod.mk.injEq] at h
       obtain ⟨rfl,rfl,rfl⟩:=h
       obtain ⟨tk,h1,h2⟩:=Yr hk
       have hlt:zQ F.er.n d'=true:=hlt
       refine Ex.op_look hT ht rfl h1 h2 he hw hd hlt hop (g:=g') (s:=s') (by rw [<-qI,hx];rfl) (by rw [<-qI,hi];rfl) ?_ ?_
       . rw [SF.put_er] at hy;exact hy
       . rw [SF.put_er] at hno;exact hno
     . cases h
   . cases h
 . cases h
def qrh {α:Type}:Option α->Bool
 | none=>true
 | some _=>false
theorem qiX {α:Type}{x:Option α}(h:qrh x=true):x=none:=by cases x with | none=>rfl | some _=>cases h
theorem JD:∀ (l:List Oper) (n:Nat),KI l n=l[n]?
 | [],n=>rfl
 | o::r,0=>rfl
 | o::r,n+1=>by simp only [KI,JD r n,List.getElem?_cons_succ]
theorem ze.le {P:Program}{F G H:Fr}{o:Oper}(h:LE F G)(ho:ze P G o H):ze P F o H:=by
 intro J a w σ hfut hF hd hn
 obtain ⟨h1,h2⟩:=h.fr hF hd
 have:=ho J a w σ hfut h1 h2 (by rw [h.n];exact hn)
 intro b k cs ops i rest hoi hw
 obtain ⟨a',w',σ',k1,k2,k3,k4,k5,k6,k7⟩:=this b k cs ops i rest hoi hw
 exact ⟨a',w',σ',k1,k2,k3,k4,k5.trans h.n,k6,k7⟩
theorem LE.put {F G:Fr}(h:LE F G)(d:Nat)(x:TV A):LE (F.put d x) (G.put d x):=by
 refine ⟨h.n,fun t=>?_,h.tb,h.has⟩
 show qa unT ((d,x)::G.tm) t=qa unT ((d,x)::F.tm) t
 rw [@qt qN,@qt qN,h.tm]
def qmO {α:Type}(M:MB)(p:α->Prop):List α->Prop
 | []=>True
 | x::r=>M.pAnd (p x) (qmO M p r)
theorem yI {α:Type}{p:α->Prop}:∀ {l:List α},qmO qn p l->∀ x∈l,p x
 | _::_,h,_,hx=>by
   obtain ⟨h1,h2⟩:p _/\qmO qn p _:=h
   rcases List.mem_cons.1 hx with rfl | hx
   . exact h1
   . exact yI h2 _ hx
noncomputable def qnM (M:MB)(X:SX)(ora:Qp)(ops:List Oper)(K:Nat->SF->Prop):Nat->List Nat->Nat->SF->Prop
 | _,[],j,F=>K j F
 | 0,_::_,_,_=>M.pNo 20
 | n+1,l::r,j,F=>qmO M (fun m=>match KI ops m with
   | some o=>(match K3 o (l::r) with
     | true=>(match qrh o.guard with
       | true=>(match opB M X ora F o with
         | some (ps,G)=>VA M ps (qnM M X ora ops K n ((l::r).filter fun x=>!nq x m) (match nq m j with | true=>j+1 | false=>j) G)
         | none=>M.pNo 20)
       | false=>M.pNo 21)
     | false=>True)
   | none=>True) (j::l::r)
def Jf (ops:List Oper):List Nat->SF->Option SF
 | [],F=>some F
 | l::r,F=>match KI ops l with
   | some o=>(match qhZ o.op,o.dst with
     | true,some d=>Jf ops r (F.put d unB)
     | _,_=>none)
   | none=>none
noncomputable def qgR (M:MB)(X:SX)(ora:Qp)(ops:List Oper)(os:Oper)(s:Nat)(ls:List Nat)(F:SF)(K:Nat->SF->Prop):Prop :=
 match Jf ops ls F with
 | some G=>(match opB M X ora G os with
   | some (ps,H)=>VA M ps (qnM M X ora ops K 12 ls (s+1) H)
   | none=>M.pNo 25)
 | none=>M.pNo 26
noncomputable def qhc (M:MB)(X:SX)(ora:Qp)(ops:List Oper)(os:Oper)(s:Nat)(ls:List Nat)(F:SF)(K:Nat->SF->Prop):Prop :=
 match Jf ops ls F with
 | some _=>qmO M (fun suf=>match vX ops ls suf&&K3 os suf with
   | true=>qgR M X ora ops os s suf F K
   | false=>True) (qat ls)
 | none=>M.pNo 26
theorem W8 {P:Program}{X:SX}(hT:kA P X.T)(hW:zz P X){ora:Qp}(hO:qp P ora){ops:List Oper}{K:Nat->SF->Prop}{Q:Nat->Fr->Prop}(hK:∀ j G,K j G->Q j G.er):∀ (n:Nat) (ls:List Nat) (j:Nat) (F:SF),qnM qn X ora ops K n ls j F->qk5 P ops Q n ls j F.er
 | 0,[],j,F,h=>hK j F h
 | _+1,[],j,F,h=>hK j F h
 | 0,_::_,_,_,h=>h.elim
 | n+1,l::r,j,F,h=>by
   intro m o hm ho hfr
   have h1:=yI h m (by rcases hm with h | h;exact List.mem_cons_of_mem _ h;rw [h];exact List.mem_cons_self)
   rw [JD,ho] at h1
   dsimp only at h1
   rw [hfr] at h1
   dsimp only at h1
   split at h1
   . rename_i hg
     split at h1
     . rename_i ps G hG
       obtain ⟨hps,h1⟩:=kZ ps _ h1
       exact ⟨G.er,qiX hg,qcH hT hW hO F o ps G hG hps,W8 hT hW hO hK n _ _ G h1⟩
     . exact h1.elim
   . exact h1.elim
theorem Zi {P:Program}{ops:List Oper}{its:List It}{F0:SF}{DS:List Nat}{Gs:Nat->Fr}{k:Nat}(hit:∀ (i:Nat) (o:Oper),i<k->ops[i]?=some o->∃ x,its[i]?=some x/\qeK P ops F0 DS (Gs i) o x):∀ (ls:List Nat) (F G:SF) (Fc:Fr),(∀ l∈ls,l<k)->LE Fc F.er->Jf ops ls F=some G->LE (jc its ls Fc) G.er/\∀ l∈ls,∀ x,its[l]?=some x->x.2.1=[]
 | [],F,G,Fc,_,hle,h=>by simp only [Jf,Option.some.injEq] at h;subst h;exact ⟨hle,fun _ hl=>by cases hl⟩
 | l::r,F,G,Fc,hk,hle,h=>by
   simp only [Jf] at h
   split at h
   . rename_i o ho
     rw [JD] at ho
     split at h
     . rename_i d hnr hd
       obtain ⟨x,hx,hok⟩:=hit l o (hk l List.mem_cons_self) ho
       have hdx:dOf its l=d:=by
        unfold dOf
        rw [hx]
        have:=hok.dst
        rw [hd] at this
        injection this with this
        exact this.symm
       obtain ⟨h1,h2⟩:=Zi hit r (F.put d unB) G (Fc.put (dOf its l) unT) (fun m hm=>hk m (List.mem_cons_of_mem _ hm)) (by rw [hdx];exact hle.put d unT) h
       refine ⟨h1,fun m hm y hy=>?_⟩
       rcases List.mem_cons.1 hm with rfl | hm
       . rw [hx] at hy
         injection hy with hy
         subst hy
         exact hok.nr hnr
       . exact h2 m hm y hy
     . cases h
   . cases h
theorem qc1 {P:Program}{X:SX}(hT:kA P X.T)(hW:zz P X){ora:Qp}(hO:qp P ora){ops:List Oper}{os:Oper}{its:List It}{F0:SF}{DS:List Nat}{Gs:Nat->Fr}{k s:Nat}(hit:∀ (i:Nat) (o:Oper),i<k->ops[i]?=some o->∃ x,its[i]?=some x/\qeK P ops F0 DS (Gs i) o x)
 {K:Nat->SF->Prop} {Q:Nat->Fr->Prop} (hK:∀ j G,K j G->Q j G.er) {F:SF} {Fc:Fr} (hle:LE Fc F.er) (ls:List Nat) (hl:∀ l∈ls,l<k) (h:qhc qn X ora ops os s ls F K):(∀ suf∈qat ls,vX ops ls suf=true->K3 os suf=true->∃ FB,ze P (jc its suf Fc) os FB/\qk5 P ops Q 12 suf (s+1) FB)/\∀ l∈ls,∀ x,its[l]?=some x->x.2.1=[]:=by
 unfold qhc at h
 split at h
 . rename_i G0 hG0
   refine ⟨fun suf hs hc hf=>?_,(Zi hit ls F G0 Fc hl hle hG0).2⟩
   have h:=yI h suf hs
   rw [hc,hf] at h
   have h:qgR qn X ora ops os s suf F K:=h
   have hsl:∀ l∈suf,l<k:=fun l hm=>hl l (yX hs l hm)
   unfold qgR at h
   split at h
   . rename_i G hG
     obtain ⟨h1,h2⟩:=Zi hit suf F G Fc hsl hle hG
     split at h
     . rename_i ps H hH
       obtain ⟨hps,h⟩:=kZ ps _ h
       exact ⟨H.er,ze.le h1 (qcH hT hW hO G os ps H hH hps),W8 hT hW hO hK 12 suf (s+1) H h⟩
     . exact h.elim
   . exact h.elim
 . exact h.elim
noncomputable def wp (M:MB)(X:SX)(dr:Nat->Nat)(lv:Nat->List Nat)(ora:Qp)(fin:SF->Prop)(L N:List K->SF->Prop):Nat->List K->SF->Prop
 | 0,ks,F=>N ks F
 | n+1,ks,F=>(match ks with
   | []=>fin F
   | .bl _::ks=>wp M X dr lv ora fin L N n ks F
   | .lp b::ks=>wp M X dr lv ora fin L N n (.c (.loop b)::ks) F
   | .c x::ks=>(match x with
     | .skip=>wp M X dr lv ora fin L N n ks F
     | .region id ⟨ops⟩ d=>(match d with
       | false=>wp M X dr lv ora fin L N n (.r ⟨ops⟩ ops::ks) F
       | true=>(match nlt (dr id) 65536 with
         | true=>wpD M X ora ops F (JS (Ym ops (dr id))) (Ym ops (dr id)) F fun G=>wp M X dr lv ora fin L N n (.r ⟨ops⟩ (Qv ops (dr id))::ks) G
         | false=>wpD M X ora ops F (JS (Ym ops (drS (dr id)))) (Ym ops (drS (dr id))) F fun G=>(match KI ops (drS (dr id)) with
           | some os=>(match qrh os.guard with
             | true=>qhc M X ora ops os (drS (dr id)) (qoq (dr id)) G fun j GA=>wp M X dr lv ora fin L N n (.r ⟨ops⟩ (Qv ops j)::ks) GA
             | false=>M.pNo 23)
           | none=>M.pNo 24)))
     | .seq a b=>wp M X dr lv ora fin L N n (.c a::.c b::ks) F
     | .cond y a b=>(match z6 F y with
       | .fz (.bool kn t)=>(match kn with
         | true=>(match t with
           | true=>wp M X dr lv ora fin L N n (.c a::ks) F
           | false=>wp M X dr lv ora fin L N n (.c b::ks) F)
         | false=>M.pAnd (M.pImp t (wp M X dr lv ora fin L N n (.c a::ks) F)) (M.pImp (M.bNot t) (wp M X dr lv ora fin L N n (.c b::ks) F)))
       | _=>M.pNo 10)
     | .block id b=>wp M X dr lv ora fin L N n (.c b::.bl id::ks) F
     | .loop b=>L (.c b::.lp b::ks) (F.keepB (lv (Wa b)))
     | .exit id=>(match J0 id ks with
       | some ks'=>wp M X dr lv ora fin L N n ks' F
       | none=>M.pNo 11)
     | .ret=>fin F
     | _=>M.pNo 12)
   | .r all l::ks=>(match l with
     | []=>wp M X dr lv ora fin L N n ks F
     | o::l=>(match all with
       | ⟨al⟩=>Jk M al F o
         (fun F1=>vo M F1 o fun F2=>(match qh1 X F2 o with
           | some (d,y)=>M.pAnd (M.pImp (M.bEq (M.nI (y.len M)) 0) (wp M X dr lv ora fin L N n (.r ⟨al⟩ l::ks) (F2.put d (.v (false,[.fz (.bool true true)]))))) (wp M X dr lv ora fin L N n (.r ⟨al⟩ l::ks) (F2.put d (.v (false,[.fz (.bool true false)]))))
           | none=>(match qnu X F2 o with
             | some (d,g,s)=>M.pAnd (wp M X dr lv ora fin L N n (.r ⟨al⟩ l::ks) (F2.put d (.tup [(false,[.fz (.bool false (g s))]),(false,[.fz (.bool true true)])]))) (wp M X dr lv ora fin L N n (.r ⟨al⟩ l::ks) (F2.put d (.tup [(false,[.un]),(false,[.fz (.bool true false)])])))
             | none=>(match opB M X ora F2 o with
               | some (ps,G)=>VA M ps (wp M X dr lv ora fin L N n (.r ⟨al⟩ l::ks) G)
               | none=>M.pNo 13))))
         (fun F1=>(match o.dst with
           | some d=>(match nlt d PH with | true=>wp M X dr lv ora fin L N n (.r ⟨al⟩ l::ks) (F1.put d (.v (false,[.ud]))) | false=>M.pNo 16)
           | none=>wp M X dr lv ora fin L N n (.r ⟨al⟩ l::ks) F1)))))
theorem Zu {α:Type}{l:List α}{k i:Nat}(h:i<k):(l.take k)[i]?=l[i]?:=by simp [List.getElem?_take,h]
theorem qh8 {P:Program}{ops:List Oper}{k:Nat}{a:List Nat}{F:SF}{its:List It}(hle:k<=ops.length)(hall:∀ (i:Nat) (o:Oper),ops[i]?=some o->i<k->Zo ops a k i o=true)
 (k1:its.length=(ops.take k).length) (k4:∀ (i:Nat) (o:Oper) (x:It),(ops.take k)[i]?=some o->its[i]?=some x->qeK P ops F (JS (ops.take k)) (frs F.er its i) o x) :
 Dyn ops k (qaq a) F.er its (frs F.er its)/\(∀ (i:Nat) (o:Oper) (x:It),ops[i]?=some o->its[i]?=some x->ku P ⟨ops⟩ (frs F.er its i) o x)/\(ops.take k).length=k:=by
 have hlen:its.length=k:=by rw [k1,List.length_take];omega
 have get:∀ (i:Nat) (x:It),its[i]?=some x->∃ o,i<k/\ops[i]?=some o/\qeK P ops F (JS (ops.take k)) (frs F.er its i) o x:=by
  intro i x hx
  have hi:i<k:=by rw [<-hlen];exact (List.getElem?_eq_some_iff.1 hx).1
  have ho:ops[i]?=some ops[i]:=List.getElem?_eq_getElem (by omega)
  exact ⟨ops[i],hi,ho,k4 i _ x (by rw [Zu hi];exact ho) hx⟩
 have hmem:∀ (j:Nat) (y:It),its[j]?=some y->y.1∈JS (ops.take k):=by
  intro j y hy
  obtain ⟨o,hj,ho,hio⟩:=get j y hy
  have hin:o∈ops.take k:=List.mem_of_getElem? (i:=j) (by rw [Zu hj];exact ho)
  have key:∀ l:List Oper,o∈l->y.1∈JS l:=by
   intro l
   induction l with
   | nil=>intro h;cases h
   | cons a l ihl =>
     intro hm
     simp only [JS]
     rcases List.mem_cons.1 hm with rfl | hm
     . rw [hio.dst];exact List.mem_cons_self
     . split
       . exact List.mem_cons_of_mem _ (ihl hm)
       . exact ihl hm
  exact key _ hin
 have hpair:∀ (i j:Nat) (o o':Oper) (d d':Nat),i<k->j<k->ops[i]?=some o->ops[j]?=some o'->o.dst=some d->o'.dst=some d' →
  (d=d'->i=j)/\(d'∈lkM ops o->qaq a i j/\j<i):=by
  intro i j o o' d d' hi hj ho ho' hd hd'
  have:=hall i o ho hi
  unfold Zo at this
  rw [hd] at this
  dsimp only at this
  have:=List.all_eq_true.1 this j (List.mem_range.2 hj)
  rw [ho'] at this
  dsimp only at this
  rw [hd'] at this
  simp only [Bool.and_eq_true,Bool.or_eq_true,Bool.not_eq_true'] at this
  obtain ⟨h1,h2⟩:=this
  refine ⟨fun e=>?_,fun hm=>?_⟩
  . subst e
    rcases h1 with h1 | h1
    . simp at h1
    . exact Nat.eq_of_beq_eq_true h1
  . rcases h2 with h2 | h2
    . rw [List.contains_iff_mem.2 hm] at h2;cases h2
    . exact ⟨h2.1,Nat.lt_of_succ_le (qA h2.2)⟩
 refine ⟨⟨hlen,?_,?_,?_,?_,?_,rfl,?_⟩,?_,by rw [List.length_take];omega⟩
 . intro i j x y hx hy he
   obtain ⟨o,hi,ho,hio⟩:=get i x hx
   obtain ⟨o',hj,ho',hjo⟩:=get j y hy
   exact (hpair i j o o' _ _ hi hj ho ho' hio.dst hjo.dst).1 he
 . intro i j o y hi ho hy hm
   obtain ⟨o',hj,ho',hjo⟩:=get j y hy
   obtain ⟨x,hx⟩:∃ x,its[i]?=some x:=⟨its[i]'(by omega),List.getElem?_eq_getElem _⟩
   obtain ⟨o2,_,ho2,hio⟩:=get i x hx
   rw [ho] at ho2
   injection ho2 with ho2
   subst ho2
   exact (hpair i j o o' _ _ hi hj ho ho' hio.dst hjo.dst).2 hm
 . intro j y hy
   obtain ⟨o,_,_,hjo⟩:=get j y hy
   exact hjo.fr
 . intro j y hy
   obtain ⟨o,_,_,hjo⟩:=get j y hy
   exact hjo.blk
 . intro i o hi ho t ht id' hid j y hy he
   obtain ⟨x,hx⟩:∃ x,its[i]?=some x:=⟨its[i]'(by omega),List.getElem?_eq_getElem _⟩
   obtain ⟨o2,_,ho2,hio⟩:=get i x hx
   rw [ho] at ho2
   injection ho2 with ho2
   subst ho2
   rcases hio.ids t ht id' hid with h | h
   . exact h
   . rw [he] at h
     exact (h (hmem j y hy)).elim
 . intro i x hx
   unfold frs
   rw [List.take_add_one,hx]
   simp
 . intro i o x ho hx
   obtain ⟨o2,_,ho2,hio⟩:=get i x hx
   rw [ho] at ho2
   injection ho2 with ho2
   subst ho2
   exact hio.item
theorem YI [zi] {P:Program}{X:SX}(hT:kA P X.T)(hW:zz P X){dr:Nat->Nat}{lv:Nat->List Nat}{ora:Qp}(hO:qp P ora){fin:SF->Prop}{L N:List K->SF->Prop}{Post:Fr->Prop}(hfin:∀ F,fin F->Post F.er)
 (hL:∀ ks F,(∀ k∈ks,kOK dr k=true)->L ks F->Ex P ks F.er Post) (hN:∀ ks F,(∀ k∈ks,kOK dr k=true)->N ks F->Ex P ks F.er Post):∀ (n:Nat) (ks:List K) (F:SF),(∀ k∈ks,kOK dr k=true)->wp qn X dr lv ora fin L N n ks F->Ex P ks F.er Post:=by
 intro n
 induction n with
 | zero=>intro ks F hk h;exact hN ks F hk h
 | succ n ih =>
   intro ks F hk h
   cases ks with
   | nil=>exact Ex.nil (hfin F h)
   | cons k ks =>
     have hks:∀ k∈ks,kOK dr k=true:=fun x hx=>hk x (List.mem_cons_of_mem _ hx)
     have hk0:=hk k List.mem_cons_self
     have cons1:∀ k',kOK dr k'=true->∀ x∈k'::ks,kOK dr x=true:=fun k' h' x hx=>(List.mem_cons.1 hx).elim (fun e=>e▸h') (hks x)
     have cons2:∀ k' k'',kOK dr k'=true->kOK dr k''=true->∀ x∈k'::k''::ks,kOK dr x=true:=fun k' k'' h' h'' x hx=>(List.mem_cons.1 hx).elim (fun e=>e▸h') (cons1 k'' h'' x)
     cases k with
     | bl id=>exact Ex.bl (ih ks F hks h)
     | lp b=>exact Ex.lp (ih _ F (cons1 _ hk0) h)
     | r all l =>
       obtain ⟨al⟩:=all
       cases l with
       | nil=>exact Ex.reg_end (ih ks F hks h)
       | cons o l =>
         simp only [wp] at h
         obtain ⟨F1,h1,h2⟩:=Kp h
         refine Ex.le h1 ?_
         rcases h2 with ⟨hw,h2⟩ | ⟨hw,h2⟩
         . obtain ⟨F2,h3,h4⟩:=Jb h2
           refine Ex.le h3 ?_
           split at h4
           . rename_i d y hd
             obtain ⟨k1,k2⟩:_/\_:=h4
             obtain ⟨t,e,g1,g2,g3,g4,x,tn,q1,q2,q3,q4,q5,q6⟩:=qhW hd
             refine Ex.op_nil hT q1 (hw.le h3) q2 q3 q4 q5 fun b hb=>?_
             cases b with
             | true =>
               refine ih _ _ (cons1 _ rfl) (k1 ?_)
               have h7:=hb rfl _ q6
               have h8:y.len qn=0:=by rw [<-LL.len_rc,h7];rfl
               show (((y.len qn:Nat):Int) == 0)=true
               rw [h8]
               rfl
             | false=>exact ih _ _ (cons1 _ rfl) k2
           . split at h4
             . rename_i d g s hlk
               obtain ⟨k1,k2⟩:_/\_:=h4
               exact qdX hT hlk (hw.le h3) (ih _ _ (cons1 _ rfl) k1) (ih _ _ (cons1 _ rfl) k2)
             . split at h4
               . rename_i ps G hG
                 obtain ⟨hps,h5⟩:=kZ ps _ h4
                 exact Ex.op (hw.le h3) (qcH hT hW hO F2 o ps G hG hps) (ih _ G (cons1 _ rfl) h5)
               . exact h4.elim
         . refine Ex.op_not hw ?_
           unfold KH
           split at h2
           . rename_i d hd
             split at h2
             . rename_i hph
               rw [hd]
               dsimp only
               rw [hph]
               exact ih _ _ (cons1 _ rfl) h2
             . exact h2.elim
           . rename_i hd
             rw [hd]
             exact ih _ _ (cons1 _ rfl) h2
     | c x =>
       simp only [wp] at h
       cases x with
       | skip=>exact Ex.skip (ih ks F hks h)
       | region id ops d =>
         obtain ⟨ops⟩:=ops
         cases d with
         | false=>exact Ex.reg (ih _ F (cons1 _ rfl) h)
         | true =>
           dsimp only at h
           have hk0':(match nlt (dr id) 65536 with
            | true=>qbn ops (dr id)||(nq (dr id) ops.length&&Y0 ops)
            | false=>yq ops (drS (dr id)) (qoq (dr id)))=true:=hk0
           split at h
           . rename_i hlt
             rw [hlt] at hk0'
             have hst:(qbn ops (dr id)||(nq (dr id) ops.length&&Y0 ops))=true:=hk0'
             rw [qdt] at h
             rw [Bool.or_eq_true] at hst
             rcases hst with hst | hst
             . obtain ⟨hle,hall⟩:=qbw hst
               obtain ⟨its,G,k1,k2,k3,k4⟩:=Wz hT hO (ops.take (dr id)) F F.er (LE.refl _) h
               obtain ⟨hD,hit,hlt⟩:=qh8 hle (fun i o ho hi=>(hall i o ho).2.1 hi) k1 k4
               rw [hlt] at k3
               refine Ex.draw (qid hst) hD hit (Ex.le k3 ?_)
               rw [jp] at k2
               exact ih _ G (cons1 _ rfl) k2
             . simp only [Bool.and_eq_true] at hst
               obtain ⟨hk,hst⟩:=hst
               have hk:=Nat.eq_of_beq_eq_true hk
               obtain ⟨hst2,hall⟩:=qgX hst
               obtain ⟨its,G,k1,k2,k3,k4⟩:=Wz hT hO (ops.take (dr id)) F F.er (LE.refl _) h
               obtain ⟨hD,hit,hlt⟩:=qh8 (Nat.le_of_eq hk) (fun i o ho hi=>by rw [hk];exact hall i o ho) k1 k4
               rw [hlt] at k3
               rw [hk] at hD k3 k2
               refine Ex.draw2 hst2 hD hit (Ex.le k3 ?_)
               rw [jp,List.drop_length] at k2
               exact ih _ G (cons1 _ rfl) k2
           . rename_i hlt
             rw [hlt] at hk0'
             have hst:yq ops (drS (dr id)) (qoq (dr id))=true:=hk0'
             obtain ⟨hst4,hall⟩:=qgb hst
             rw [qdt] at h
             obtain ⟨its,G,k1,k2,k3,k4⟩:=Wz hT hO (ops.take (drS (dr id))) F F.er (LE.refl _) h
             obtain ⟨hD,hit,hlt2⟩:=qh8 (Nat.le_of_lt hst4.sl) (fun i o ho hi=>hall i o ho hi) k1 k4
             rw [hlt2] at k3
             split at k2
             . rename_i os hos
               rw [JD] at hos
               split at k2
               . rename_i hgs
                 have hgs:=qiX hgs
                 have hits:∀ (i:Nat) (o:Oper),i<drS (dr id)->ops[i]?=some o->∃ x,its[i]?=some x/\qeK P ops F (JS (ops.take (drS (dr id)))) (frs F.er its i) o x:=by
                  intro i o hi ho
                  obtain ⟨x,hx⟩:∃ x,its[i]?=some x:=⟨its[i]'(by rw [hD.len];exact hi),List.getElem?_eq_getElem _⟩
                  exact ⟨x,hx,k4 i o x (by rw [Zu hi];exact ho) hx⟩
                 obtain ⟨hV,hxr⟩:=qc1 hT hW hO hits (Q:=fun j G=>Ex P (.r ⟨ops⟩ (ops.drop j)::ks) G Post) (fun j GA hGA=>ih _ GA (cons1 _ rfl) (by rw [jp] at hGA;exact hGA)) k3 (qoq (dr id)) hst4.ll k2
                 exact Ex.draw4 hst4 hD hit hos hgs hxr hV
               . exact k2.elim
             . exact k2.elim
       | seq a b =>
         have hab:kS dr a=true/\kS dr b=true:=by simpa [kOK,kS] using hk0
         exact Ex.seq (ih _ F (cons2 _ _ hab.1 hab.2) h)
       | cond y a b =>
         have hab:kS dr a=true/\kS dr b=true:=by simpa [kOK,kS] using hk0
         dsimp only at h
         split at h
         . rename_i kn t hy
           have hy':ev1 F.er y=.fz (.bool t):=by rw [<-qI,hy];rfl
           have h':(t=true->wp qn X dr lv ora fin L N n (.c a::ks) F)/\(t=false->wp qn X dr lv ora fin L N n (.c b::ks) F):=by
            cases kn with
            | true=>cases t with
              | true=>exact ⟨fun _=>h,fun e=>by cases e⟩
              | false=>exact ⟨(fun e=>by cases e),fun _=>h⟩
            | false =>
              obtain ⟨h1,h2⟩:(t=true->_)/\((!t)=true->_):=h
              exact ⟨h1,fun e=>h2 (by rw [e];rfl)⟩
           clear h
           refine Ex.cond hy' ?_
           cases t with
           | true=>exact ih _ F (cons1 _ hab.1) (h'.1 rfl)
           | false=>exact ih _ F (cons1 _ hab.2) (h'.2 rfl)
         . exact h.elim
       | block id b=>exact Ex.block (ih _ F (cons2 _ _ hk0 rfl) h)
       | loop b =>
         refine Ex.loop (lv (Wa b)) ?_
         rw [<-Zy]
         exact hL _ _ (cons2 _ _ hk0 hk0) h
       | exit id =>
         dsimp only at h
         split at h
         . rename_i ks' hp
           exact Ex.exit hp (ih ks' F (fun k hk'=>hks k ((@wq qN _ _ _ hp).2 k hk')) h)
         . exact h.elim
       | ret=>exact Ex.ret (hfin F h)
       | _=>exact h.elim
def qcP:Nat->List (V1 D)->List (Nat×TV B)
 | _,[]=>[]
 | i,x::r=>(i,.v (x.1,fzB x.2))::qcP (i+1) r
def qrB (n:Nat)(args:List (V1 D)):SF:=⟨n,qcP 0 args,[]⟩
theorem qpg (n:Nat)(args:List (V1 D)):(qrB n args).er=enter n (qw D.erL args):=by
 have key:∀ (l:List (V1 D)) (i:Nat),jf (qcP i l)=Zh i (qw D.erL l):=by
  intro l
  induction l with
  | nil=>intro i;rfl
  | cons x l ih=>intro i;simp only [qcP,jf,qw,Zh,ih,TV.er,zY,qgo]
 unfold qrB enter SF.er
 simp only [key]
 rfl
def qqG (M:MB)(F:SF):Array ResultVar->R SF
 | ⟨[.tmp t]⟩=>(match qa unB F.tm t with
   | .v (false,[.rf (r,[]) false off n])=>(F.atR M (r,[])).bd fun o=>(match o with
     | .osl x=>(match x.flat with
       | true=>(match x.here with
         | true=>(match x.cut M 0 n with
           | some y=>(match qks (qiw (r,[])) F.tm with
             | some tm=>some ([M.pEqN off 0,M.pLtN 0 n,M.pLeN n (x.len M)],⟨F.n,(t,.v (false,[.rf (r,[]) true 0 n]))::tm,(r,.osl y)::del F.tb r⟩)
             | none=>none)
           | none=>none)
         | false=>none)
       | false=>none)
     | _=>none)
   | _=>none)
 | _=>none
theorem qmX (F:SF)(rs:Array ResultVar):(qqG qn F rs).Sim fun G=>∃ t r n xs,qju F.er t r n xs/\F.er.shr std t r n xs=G.er:=by
 unfold qqG
 split
 . rename_i t
   split
   . rename_i r off n hx
     refine R.Sim.bd (F.atR_sim (r,[])) fun o ho=>?_
     split
     . rename_i x
       split
       . rename_i hfl
         split
         . rename_i hh
           split
           . rename_i y hy
             split
             . rename_i tm htm
               refine R.Sim.mk fun hp=>?_
               obtain ⟨h1,h2,h3⟩:=hp.three
               have h1:off=0:=h1
               have h2:0<n:=h2
               have h3:n<=x.len qn:=h3
               subst h1
               have ho:F.er.at std (r,[])=.osl x.ro:=ho
               refine ⟨t,r,n,x.ro,⟨?_,ho,LL.flat_ro x hfl hh,h2,by rw [LL.len_ro];exact h3⟩,?_⟩
               . show qa unT (jf F.tm) t=_
                 rw [QD,hx]
                 rfl
               . have e1:=wv (τ':=zd std (r,[])) (fun x r' h=>WX (p:=(r,[])) h) F.tm htm
                 have e2:std.oCut x.ro 0 n=y.ro:=(LL.cut_ro hy).symm
                 unfold Fr.shr
                 rw [e2]
                 show Fr.mk F.n ((t,TV.v (false,[A.rf (r,[]) 0 n]))::Zm (zd std (r,[])) (jf F.tm)) ((r,O.osl y.ro)::del (zF F.tb) r)=_
                 rw [e1,Yg]
                 rfl
             . exact R.Sim.none'
           . exact R.Sim.none'
         . exact R.Sim.none'
       . exact R.Sim.none'
     . exact R.Sim.none'
   . exact R.Sim.none'
 . exact R.Sim.none'
def qdq (M:MB)(T:Nat->Option Ty)(rs:Array ResultVar)(R:TV W->Prop)(F:SF):Prop:=match qqG M F rs with
 | some (ps,G)=>VA M ps (match VU M T G rs with
   | some (ps,r)=>VA M ps (R r)
   | none=>M.pNo 22)
 | none=>(match VU M T F rs with
   | some (ps,r)=>VA M ps (R r)
   | none=>(match rs with
     | ⟨l⟩=>(match qjb M T F l with
       | some (ps,xs)=>VA M ps (R (qqs xs))
       | none=>M.pNo 14)))
def qqV (T:Nat->Option Ty)(rs:Array ResultVar)(r:TV W)(F:Fr):Prop:=Qz std T false F rs=some (r.er W.erL)\/(∃ xs,wY std T F rs.toList=some xs/\qiY xs=r.er W.erL)\/∃ t r0 n xs,qju F t r0 n xs/\Qz std T false (F.shr std t r0 n xs) rs=some (r.er W.erL)
theorem qeM {T:Nat->Option Ty}{rs:Array ResultVar}{r:TV W}{F:SF}(h:qdq qn T rs (fun r'=>r'.er W.erL=r.er W.erL) F):qqV T rs r F.er:=by
 unfold qdq at h
 split at h
 . rename_i ps G he
   obtain ⟨h1,h2⟩:=kZ ps _ h
   split at h2
   . rename_i ps2 r' he2
     obtain ⟨h3,h4⟩:=kZ ps2 _ h2
     obtain ⟨t,r0,n,xs,h5,h6⟩:=qmX F rs ps G he h1
     right;right
     refine ⟨t,r0,n,xs,h5,?_⟩
     rw [h6,Vj T G rs ps2 r' he2 h3,h4]
   . exact h2.elim
 . split at h
   . rename_i ps r' he
     obtain ⟨h1,h2⟩:=kZ ps _ h
     left
     rw [Vj T F rs ps r' he h1,h2]
   . obtain ⟨l⟩:=rs
     dsimp only at h
     split at h
     . rename_i ps xs he
       obtain ⟨h1,h2⟩:=kZ ps _ h
       right;left
       exact ⟨_,qbl T F l ps xs he h1,by rw [qmw,h2]⟩
     . exact h.elim
def SEx (P:Program)(T:Nat->Option Ty)(dr:Nat->Nat)(rs:Array ResultVar)(ks:List K)(F:SF)(r:TV W):Prop:=(∀ k∈ks,kOK dr k=true)->@Ex _ ye P ks F.er (qqV T rs r)
theorem SEx.walk {P:Program}{X:SX}(hT:kA P X.T){dr:Nat->Nat}(lv:Nat->List Nat){ora:Qp}(hO:qp P ora){rs:Array ResultVar}{ks:List K}{F:SF}{r:TV W}(n:Nat)
 (h:∀ (M:MB) (R:TV W->Prop) (L N:List K->SF->Prop),M=qn->(∀ r',r'.er W.erL=r.er W.erL->R r')->(∀ ks F,SEx P X.T dr rs ks F r->L ks F)->(∀ ks F,SEx P X.T dr rs ks F r->N ks F)->wp M X dr lv ora (qdq M X.T rs R) L N n ks F) (hW:zz P X:=by exact fun _ _ _=>Y6):SEx P X.T dr rs ks F r:=by
 intro hk
 letI:zi:=ye
 refine YI hT hW hO (fin:=qdq qn X.T rs fun r'=>r'.er W.erL=r.er W.erL) (L:=fun ks F=>SEx P X.T dr rs ks F r) (N:=fun ks F=>SEx P X.T dr rs ks F r) ?_ (fun ks F hk h=>h hk) (fun ks F hk h=>h hk) n ks F hk (h qn _ _ _ rfl (fun _ h=>h) (fun _ _ h=>h) (fun _ _ h=>h))
 exact fun F hF=>qeM hF
def qe (P:Program)(g:FuncId)(args:List (V1 D))(r:TV W):Prop:=zG P g (qw D.erL args) (r.er W.erL)
theorem qe.of {P : Program} {T : Nat → Option Ty} (hT : kA P T) {g : FuncId} {fn : Func} {c : Code} {args : List (V1 D)} {r : TV W} {dr : Nat → Nat} (hf : P.funcs[g]? = some fn) (hb : fn.body = some c) (hnm : (fn.name == "runtime.NumGoroutine") = false) (h1 : (nle (cnt args) fn.ntmps && nle (cnt args) 1000) = true) (hc : kS dr c = true)
 (h:SEx P T dr fn.results [.c c] (qrB fn.ntmps args) r):qe P g args r:=by
 rw [Bool.and_eq_true] at h1
 have hl:∀ l:List (V1 D),(qw D.erL l).length=cnt l:=by intro l;induction l with | nil=>rfl | cons x l ih=>simp [qw,cnt,ih]
 refine @zG.of_Ex _ ye _ _ hT _ _ _ _ _ false hf hb hnm ?_ ?_ ?_
 . rw [hl]
   exact qA h1.1
 . rw [hl]
   exact Nat.le_trans (qA h1.2) (by decide)
 . have:=h (fun k hk=>by simp at hk;subst hk;exact hc)
   rwa [qpg] at this
theorem SEx.ind {P:Program}{T:Nat->Option Ty}{dr:Nat->Nat}{rs:Array ResultVar}{ks:List K}{α:Type}(f:α->SF)(R:α->TV W)(Inv:α->Prop)(μ:α->Nat)(x0:α)(hI:Inv x0)
 (step:∀ x,Inv x->(∀ y,Inv y->μ y<μ x->SEx P T dr rs ks (f y) (R y))->SEx P T dr rs ks (f x) (R x)):SEx P T dr rs ks (f x0) (R x0):=by
 have key:∀ n x,μ x=n->Inv x->SEx P T dr rs ks (f x) (R x):=by
  intro n
  induction n using Nat.strongRecOn with
  | _ n ih =>
    intro x hx hI
    exact step x hI (fun y hy hlt=>ih (μ y) (by omega) y rfl hy)
 exact key _ x0 rfl hI
theorem SEx.keep {P:Program}{T:Nat->Option Ty}{dr:Nat->Nat}{rs:Array ResultVar}{ks:List K}{F:SF}{r:TV W}(l:List Nat)(h:SEx P T dr rs ks (F.keepB l) r):SEx P T dr rs ks F r:=by
 intro hk
 have:=h hk
 rw [Zy] at this
 exact @Ex.weak _ ye _ _ _ _ (F.er.keep l) rfl (fun J σ w vt hF hd=>by letI:=J;exact ZW hF hd l) this
def qoL:List K->Nat
 | .r _ (o::_)::_=>(match o.dst with | some d=>d+1 | none=>0)
 | _=>0
def SF.trimB (F:SF)(lv:Nat->Option (List Nat))(n:Nat):SF:=match lv n with | some l=>F.keepB l | none=>F
theorem SEx.trim {P:Program}{T:Nat->Option Ty}{dr:Nat->Nat}{rs:Array ResultVar}{ks:List K}{F:SF}{r:TV W}(lv:Nat->Option (List Nat))(h:SEx P T dr rs ks (F.trimB lv (qoL ks)) r):SEx P T dr rs ks F r:=by
 unfold SF.trimB at h
 split at h
 . exact SEx.keep _ h
 . exact h
theorem SEx.go {P:Program}{X:SX}(hT:kA P X.T){dr:Nat->Nat}(lv:Nat->List Nat)(lt:Nat->Option (List Nat)){ora:Qp}(hO:qp P ora){rs:Array ResultVar}{ks:List K}{F:SF}{r:TV W}(n:Nat)
 (h:∀ (M:MB) (R:TV W->Prop) (L N:List K->SF->Prop),M=qn->(∀ p q:Prop,p->q->M.pAnd p q)->(∀ (b:Bool) (p:Prop),(b=true->p)->M.pImp b p)->(∀ r',r'.er W.erL=r.er W.erL->R r')->(∀ ks F,SEx P X.T dr rs ks F r->L ks F) →
   (∀ ks F,wp M X dr lv ora (qdq M X.T rs R) L N n ks (F.trimB lt (qoL ks))->N ks F)->wp M X dr lv ora (qdq M X.T rs R) L N n ks F) (hW:zz P X:=by exact fun _ _ _=>Y6):SEx P X.T dr rs ks F r:=by
 have key:∀ ks F,wp qn X dr lv ora (qdq qn X.T rs fun r'=>r'.er W.erL=r.er W.erL) (fun ks F=>SEx P X.T dr rs ks F r) (fun ks F=>SEx P X.T dr rs ks F r) n ks F->SEx P X.T dr rs ks F r:=by
  intro ks F hw hk
  letI:zi:=ye
  refine YI hT hW hO (fin:=qdq qn X.T rs fun r'=>r'.er W.erL=r.er W.erL) (L:=fun ks F=>SEx P X.T dr rs ks F r) (N:=fun ks F=>SEx P X.T dr rs ks F r) ?_ (fun ks F hk h=>h hk) (fun ks F hk h=>h hk) n ks F hk hw
  exact fun F hF=>qeM hF
 exact key ks F (h qn _ _ _ rfl (fun _ _ h1 h2=>⟨h1,h2⟩) (fun _ _ h=>h) (fun _ h=>h) (fun _ _ h=>h) (fun ks F hw=>SEx.trim lt (key ks _ hw)))
theorem SEx.same {P:Program}{T:Nat->Option Ty}{dr:Nat->Nat}{rs:Array ResultVar}{ks:List K}{F G:SF}{r r':TV W}(h:SEx P T dr rs ks G r')(he:G.er=F.er)(hr:r'.er W.erL=r.er W.erL):SEx P T dr rs ks F r:=by
 intro hk
 have:=h hk
 unfold qqV at this ⊢
 rw [he,hr] at this
 exact this
end Go.Proofs.YtfafehnchmelnaaGreat.Ai
namespace Go.Proofs.YtfafehnchmelnaaGreat.Ai
open Go
variable [qf]
theorem qq.frzOwn [ql] {w:World}{σ σ':Gh}(hst:kH w σ w σ'){p:qk}{o:O}{v:Value}(h:qq w σ p o v):o.clean=true →
 (∀ g s n cap sz,σ g=some ⟨(p.1,p.2++s),n,cap,sz⟩->jJ σ' g)->qr w σ' o.frz v:=by
 induction h with
 | un p v hv=>intro h;cases h
 | fz p c v h=>exact fun _ _=>h.move (Nat.le_refl _) hst
 | oslz p b=>exact fun _ _=>qr.sl [] 0 b 0 (fun _ _=>undef) (Nat.le_refl _) (by simp) (by simp) (by simp) (by simp)
 | osl p xs e sz g cap cur us hh hc hcm hl hs hg hm hr ih =>
   intro hcl hfr
   simp only [O.clean,O.cleanLL_eq,List.all_eq_true] at hcl
   have hlen:(O.frzLL xs).length=xs.length:=by simp [O.frzLL_eq]
   show qr w σ' (.sl (O.frzLL xs)) _
   rw [<-hlen]
   have hget:∀ (i j:Nat) (y:List C) (c:C),(O.frzLL xs)[i]?=some y->y[j]?=some c->∃ y' o,xs[i]?=some y'/\y'[j]?=some o/\c=o.frz:=by
    intro i j y c hi hj
    rw [O.frzLL_eq,List.getElem?_map] at hi
    cases hx:xs[i]? with
    | none=>rw [hx] at hi;simp at hi
    | some y' =>
      rw [hx] at hi
      simp at hi
      subst hi
      rw [List.getElem?_map] at hj
      cases ho:y'[j]? with
      | none=>rw [ho] at hj;simp at hj
      | some o=>rw [ho] at hj;simp at hj;exact ⟨y',o,rfl,ho,hj.symm⟩
   refine qr.sl _ sz _ cap us (by omega) ?_ (fun _=>⟨_,rfl,rfl,kQ hh,hfr g [] _ _ _ (by simpa using hg)⟩) ?_ ?_
   . intro y hy
     rw [O.frzLL_eq] at hy
     obtain ⟨y',hy',rfl⟩:=List.mem_map.1 hy
     simpa using hs y' hy'
   . intro ad e i j y c hi hj
     injection e with e
     subst e
     obtain ⟨y',o,h1,h2,rfl⟩:=hget i j y c hi hj
     rw [q7]
     simp only [World.cell?,hh]
     simpa using hm i j y' o h1 h2
   . intro i j y c hi hj
     obtain ⟨y',o,h1,h2,rfl⟩:=hget i j y c hi hj
     refine ih i j y' o h1 h2 (hcl y' (List.mem_of_getElem? h1) o (List.mem_of_getElem? h2)) fun g s n cap sz hg=>?_
     exact hfr g ((i,j)::s) n cap sz (by simpa using hg)
 | obx p cs g e cells us n' cap sz hh hl hg hm hr ih =>
   intro hcl hfr
   simp only [O.clean,O.cleanL_eq,List.all_eq_true] at hcl
   show qr w σ' (.ptr (O.frzL cs)) _
   have hget:∀ (j:Nat) (c:C),(O.frzL cs)[j]?=some c->∃ o,cs[j]?=some o/\c=o.frz:=by
    intro j c hj
    rw [O.frzL_eq,List.getElem?_map] at hj
    cases ho:cs[j]? with
    | none=>rw [ho] at hj;simp at hj
    | some o=>rw [ho] at hj;simp at hj;exact ⟨o,rfl,hj.symm⟩
   refine qr.ptr _ _ us rfl (kQ hh) (hfr g [] _ _ _ (by simpa using hg)) ?_ ?_
   . intro j c hj
     obtain ⟨o,h1,rfl⟩:=hget j c hj
     rw [q7]
     simp only [World.cell?,hh]
     simpa using hm j o h1
   . intro j c hj
     obtain ⟨o,h1,rfl⟩:=hget j c hj
     refine ih j o h1 (hcl o (List.mem_of_getElem? h1)) fun g s n cap sz hg=>?_
     exact hfr g ((0,j)::s) n cap sz (by simpa using hg)
def FzA (r:Nat)(c:C)(n:Nat)(a b:A):Prop:=(a=.rf (r,[]) 0 n/\b=.fz c)\/(b=a/\r∉a.ids)
def FzL (r:Nat)(c:C)(n:Nat)(x y:List A):Prop:=x.length=y.length/\∀ (j:Nat) (a b:A),x[j]?=some a->y[j]?=some b->FzA r c n a b
def FzT (r:Nat)(c:C)(n:Nat):TV A->TV A->Prop
 | .v x,.v y=>x.1=y.1/\FzL r c n x.2 y.2
 | .tup xs,.tup ys=>xs.length=ys.length/\∀ (k:Nat) (x y:V1 A),xs[k]?=some x->ys[k]?=some y->x.1=y.1/\FzL r c n x.2 y.2
 | _,_=>False
theorem FzL.back {r:Nat}{c:C}{n:Nat}{x y:List A}(h:FzL r c n x y){j:Nat}{b:A}(hb:y[j]?=some b):∃ a,x[j]?=some a/\FzA r c n a b:=by
 have hj:j<x.length:=by rw [h.1];exact (List.getElem?_eq_some_iff.1 hb).1
 exact ⟨x[j],List.getElem?_eq_getElem hj,h.2 j _ b (List.getElem?_eq_getElem hj) hb⟩
structure qs0 (F:Fr)(r:Nat)(xs:List (List O))(G:Fr):Prop where
 n:G.n=F.n
 lies:F.at std (r,[])=.osl xs
 cl:O.cleanLL xs=true
 tb:∀ id,qa .un G.tb id=if id=r then .un else qa .un F.tb id
 tm:∀ t,FzT r (.sl (O.frzLL xs)) xs.length (qa unT F.tm t) (qa unT G.tm t)
theorem qnB {F G:Fr}{r:Nat}{xs:List (List O)}(h:qs0 F r xs G){J:ql}{σ:Gh}{w:World}{vt:Nat->Value}(hF:FR F σ w vt)(hd:Dom F σ [])(hnf:@NF ye J σ):∃ σ',FR G σ' w vt/\Dom G σ' []/\qL w σ w σ':=by
 let σ':Gh:=fun g=>match σ g with | some y=>if y.p.1=r then none else some y | none=>none
 have hk:∀ g y,σ g=some y->y.p.1≠r->σ' g=some y:=by intro g y hy hi;simp only [σ',hy,if_neg hi]
 have hsub:∀ g y,σ' g=some y->σ g=some y/\y.p.1≠r:=by
  intro g y hy
  simp only [σ'] at hy
  split at hy
  . rename_i z hz
    split at hy
    . cases hy
    . rename_i hi;injection hy with hy;subst hy;exact ⟨hz,hi⟩
  . cases hy
 have hst:kH w σ w σ':=⟨fun b _ h0=>by simp only [σ',h0],fun _ _ _=>.inl rfl⟩
 obtain ⟨u,hu⟩:=zm hF (r,[])
 rw [h.lies] at hu
 have hfree:∀ g s n cap sz,σ g=some ⟨(r,[]++s),n,cap,sz⟩->jJ σ' g:=fun g s n cap sz hg=>⟨by simp only [σ',hg,if_true],hnf rfl g _ hg⟩
 have hown:∀ v,qm w σ (.rf (r,[]) 0 xs.length) v->qr w σ' (.sl (O.frzLL xs)) v:=by
  intro v hv
  have hfz:qr w σ' (.sl (O.frzLL xs)) u:=hu.frzOwn hst h.cl hfree
  generalize hlen:xs.length=len at hv
  cases hv with
  | rz _ _ b =>
    have:xs=[]:=List.eq_nil_of_length_eq_zero hlen
    subst this
    exact qr.sl [] 0 b 0 (fun _ _=>undef) (Nat.le_refl _) (by simp) (by simp) (by simp) (by simp)
  | rf _ _ _ g n cap sz hg hl hn =>
    cases hu with
    | oslz =>
      simp only [List.length_nil] at hlen
      subst hlen
      exact qr.sl [] 0 _ _ (fun _ _=>undef) (Nat.zero_le _) (by simp) (by simp) (by simp) (by simp)
    | osl _ _ e sz' g' cap' cur us hh hc hcm hl2 hs hg' hm hr =>
      obtain rfl:=hF.inj _ _ _ _ hg hg' rfl
      rw [hg] at hg'
      simp only [Option.some.injEq,Own.mk.injEq] at hg'
      obtain ⟨_,rfl,rfl,rfl⟩:=hg'
      rw [<-hlen,Nat.zero_mul,Nat.sub_zero]
      exact hfz
 have hA:∀ {a b:A} {v:Value},FzA r (.sl (O.frzLL xs)) xs.length a b->qm w σ a v->qm w σ' b v:=by
  intro a b v hab ha
  rcases hab with ⟨rfl,rfl⟩ | ⟨rfl,hi⟩
  . exact .fz _ _ (hown v ha)
  . exact ha.kept (S:=fun id=>id≠r) hk hst (fun id hid e=>hi (e▸hid))
 have hL:∀ {x y:V1 A} {v:Value},x.1=y.1->FzL r (.sl (O.frzLL xs)) xs.length x.2 y.2->qS (fun _=>qm w σ) x v->qS (fun _=>qm w σ') y v:=by
  intro x y v hg hl hx
  obtain ⟨g,as⟩:=x
  obtain ⟨g',bs⟩:=y
  obtain rfl:g=g':=hg
  cases g with
  | true =>
    obtain ⟨cs,rfl,h1,h2⟩:=hx
    refine ⟨cs,rfl,by rw [h1];exact hl.1,fun j b hj=>?_⟩
    obtain ⟨a,ha,hab⟩:=hl.back hj
    obtain ⟨u,h3,h4⟩:=h2 j a ha
    exact ⟨u,h3,hA hab h4⟩
  | false =>
    match as,bs,hl,hx with
    | [a],[b],hl,hx=>exact hA (hl.2 0 a b rfl rfl) hx
    | [a],[],hl,_=>simp [FzL] at hl
    | [a],_::_::_,hl,_=>simp [FzL] at hl
 refine ⟨σ',⟨fun g g' x y hx hy he=>hF.inj g g' x y (hsub g x hx).1 (hsub g' y hy).1 he,fun g x hx=>hF.lt g x (hsub g x hx).1,hF.old,fun id=>?_,fun t=>?_⟩,fun g x hx=>?_,⟨hst,Nat.le_refl _,rfl,rfl,rfl⟩⟩
 . rw [h.tb]
   split
   . exact ⟨.bool false,.un _ _ rfl⟩
   . rename_i hi
     obtain ⟨v,hv⟩:=hF.tb id
     exact ⟨v,hv.move (Nat.le_refl _) hst _ fun g s n cap sz hg _=>⟨rfl,hk g _ hg hi⟩⟩
 . have h1:=h.tm t
   have h2:=hF.tm t
   generalize qa unT F.tm t=x at h1 h2
   generalize qa unT G.tm t=y at h1
   cases x with
   | v x=>cases y with
     | v y=>exact hL h1.1 h1.2 h2
     | tup _=>exact h1.elim
   | tup xs'=>cases y with
     | v y=>exact h1.elim
     | tup ys =>
       obtain ⟨vs,e,h3,h4⟩:=h2
       refine ⟨vs,e,h3.trans h1.1,fun k y hk'=>?_⟩
       have hlt:k<xs'.length:=by rw [h1.1];exact (List.getElem?_eq_some_iff.1 hk').1
       obtain ⟨u,h5,h6⟩:=h4 k _ (List.getElem?_eq_getElem hlt)
       obtain ⟨h7,h8⟩:=h1.2 k _ y (List.getElem?_eq_getElem hlt) hk'
       exact ⟨u,h5,hL h7 h8 h6⟩
 . obtain ⟨h1,h2⟩:=hsub g x hx
   rcases hd g x h1 with h3 | ⟨_,_,_,h3,_⟩
   . left
     unfold Fr.at at h3 ⊢
     rw [h.tb,if_neg h2]
     exact h3
   . cases h3
def qq4 (r:Nat)(d:D):B->Option (List Nat×B)
 | .rf p w off len=>match nq p.1 r with
   | false=>some ([],.rf p w off len)
   | true=>(match p.2,off with
     | [],0=>some ([len],.fz d)
     | _,_=>none)
 | .pp p i j=>match nq p.1 r with
   | false=>some ([],.pp p i j)
   | true=>none
 | .clo f caps=>match qhH (W4 caps) r with
   | false=>some ([],.clo f caps)
   | true=>none
 | x=>some ([],x)
def qki (r:Nat)(d:D):List B->Option (List Nat×List B)
 | []=>some ([],[])
 | a::l=>match qq4 r d a,qki r d l with
   | some x,some y=>some (Qe x.1 y.1,x.2::y.2)
   | _,_=>none
def qd4 (r:Nat)(d:D):List (V1 B)->Option (List Nat×List (V1 B))
 | []=>some ([],[])
 | a::l=>match qki r d a.2,qd4 r d l with
   | some x,some y=>some (Qe x.1 y.1,(a.1,x.2)::y.2)
   | _,_=>none
def qoA (r:Nat)(d:D):TV B->Option (List Nat×TV B)
 | .v x=>match qki r d x.2 with
   | some y=>some (y.1,.v (x.1,y.2))
   | none=>none
 | .tup xs=>match qd4 r d xs with
   | some y=>some (y.1,.tup y.2)
   | none=>none
def qmo (r:Nat)(d:D):List (Nat×TV B)->Option (List Nat×List (Nat×TV B))
 | []=>some ([],[])
 | a::l=>match qoA r d a.2,qmo r d l with
   | some x,some y=>some (Qe x.1 y.1,(a.1,x.2)::y.2)
   | _,_=>none
theorem qcz {l r:List Nat}{n:Nat}(h:∀ x∈Qe l r,x=n):(∀ x∈l,x=n)/\∀ x∈r,x=n:=by
 rw [jm] at h
 exact ⟨fun x hx=>h x (List.mem_append_left _ hx),fun x hx=>h x (List.mem_append_right _ hx)⟩
theorem qm6 {a b:Nat}(h:nq a b=false):a≠b:=fun e=>by subst e;simp at h
theorem qoE {r:Nat}{d:D}{n:Nat}{b:B}{x:List Nat×B}(h:qq4 r d b=some x)(hn:∀ m∈x.1,m=n):FzA r d.er n b.er x.2.er:=by
 unfold qq4 at h
 split at h
 . rename_i p w off len
   split at h
   . rename_i hne
     injection h with h;subst h
     exact .inr ⟨rfl,by simp only [B.er,A.ids,SP.er,List.mem_singleton];exact fun e=>qm6 hne e.symm⟩
   . rename_i he
     have he2:=Nat.eq_of_beq_eq_true he
     clear he
     split at h
     . rename_i hp
       injection h with h;subst h
       obtain rfl:=hn _ List.mem_cons_self
       obtain ⟨p1,p2⟩:=p
       dsimp only at hp he2
       subst hp he2
       exact .inl ⟨rfl,rfl⟩
     . cases h
 . rename_i p i j
   split at h
   . rename_i hne
     injection h with h;subst h
     exact .inr ⟨rfl,by simp only [B.er,A.ids,SP.er,List.mem_singleton];exact fun e=>qm6 hne e.symm⟩
   . cases h
 . rename_i f caps
   split at h
   . rename_i hm
     injection h with h;subst h
     refine .inr ⟨rfl,fun hh=>?_⟩
     have hh:r∈W4 caps:=by rw [<-KJ];simpa only [B.er,A.ids] using hh
     rw [YB.2 hh] at hm
     cases hm
   . cases h
 . rename_i h1 h2 h3
   injection h with h;subst h
   refine .inr ⟨rfl,?_⟩
   cases b with
   | un=>simp [B.er,A.ids]
   | ud=>simp [B.er,A.ids]
   | fz d=>simp [B.er,A.ids]
   | rf p w o l=>exact (h1 p w o l rfl).elim
   | pp p i j=>exact (h2 p i j rfl).elim
   | clo f c=>exact (h3 f c rfl).elim
theorem qb8 {r:Nat}{d:D}{n:Nat}:∀ {l:List B} {x:List Nat×List B},qki r d l=some x->(∀ m∈x.1,m=n)->FzL r d.er n (B.erL l) (B.erL x.2)
 | [],x,h,_=>by simp only [qki,Option.some.injEq] at h;subst h;exact ⟨rfl,fun j a b h=>by simp [B.erL] at h⟩
 | a::l,x,h,hn=>by
   simp only [qki] at h
   split at h
   . rename_i y z hy hz
     injection h with h;subst h
     obtain ⟨h1,h2⟩:=qcz hn
     have h3:=qoE hy h1
     have h4:=qb8 hz h2
     refine ⟨by simp only [B.erL,List.length_cons,h4.1],fun j a' b' ha hb=>?_⟩
     cases j with
     | zero=>simp only [B.erL,List.getElem?_cons_zero,Option.some.injEq] at ha hb;subst ha hb;exact h3
     | succ j=>exact h4.2 j a' b' (by simpa [B.erL] using ha) (by simpa [B.erL] using hb)
   . cases h
theorem qdR {r:Nat}{d:D}{n:Nat}:∀ {l:List (V1 B)} {x:List Nat×List (V1 B)},qd4 r d l=some x->(∀ m∈x.1,m=n)->(qw B.erL l).length=(qw B.erL x.2).length/\∀ (k:Nat) (p q:V1 A),(qw B.erL l)[k]?=some p->(qw B.erL x.2)[k]?=some q->p.1=q.1/\FzL r d.er n p.2 q.2
 | [],x,h,_=>by simp only [qd4,Option.some.injEq] at h;subst h;exact ⟨rfl,fun j a b h=>by simp [qw] at h⟩
 | a::l,x,h,hn=>by
   simp only [qd4] at h
   split at h
   . rename_i y z hy hz
     injection h with h;subst h
     obtain ⟨h1,h2⟩:=qcz hn
     have h3:=qb8 hy h1
     have h4:=qdR hz h2
     refine ⟨by simp only [qw,List.length_cons,h4.1],fun j a' b' ha hb=>?_⟩
     cases j with
     | zero=>simp only [qw,List.getElem?_cons_zero,Option.some.injEq] at ha hb;subst ha hb;exact ⟨rfl,h3⟩
     | succ j=>exact h4.2 j a' b' (by simpa [qw] using ha) (by simpa [qw] using hb)
   . cases h
theorem qoJ {r:Nat}{d:D}{n:Nat}{t:TV B}{x:List Nat×TV B}(h:qoA r d t=some x)(hn:∀ m∈x.1,m=n):FzT r d.er n (t.er B.erL) (x.2.er B.erL):=by
 cases t with
 | v t =>
   simp only [qoA] at h
   split at h
   . rename_i y hy
     injection h with h;subst h
     exact ⟨rfl,qb8 hy hn⟩
   . cases h
 | tup ts =>
   simp only [qoA] at h
   split at h
   . rename_i y hy
     injection h with h;subst h
     exact qdR hy hn
   . cases h
theorem qiM {r:Nat}{d:D}{n:Nat}:∀ {l:List (Nat×TV B)} {x:List Nat×List (Nat×TV B)},qmo r d l=some x->(∀ m∈x.1,m=n)->∀ t,FzT r d.er n (qa unT (jf l) t) (qa unT (jf x.2) t)
 | [],x,h,_=>by
   simp only [qmo,Option.some.injEq] at h;subst h
   intro t
   refine ⟨rfl,rfl,fun j a b ha hb=>.inr ?_⟩
   cases j with
   | zero=>simp only [jf,qa,unT,List.getElem?_cons_zero,Option.some.injEq] at ha hb;subst ha hb;exact ⟨rfl,by simp [A.ids]⟩
   | succ j=>simp [jf,qa,unT] at ha
 | a::l,x,h,hn=>by
   simp only [qmo] at h
   split at h
   . rename_i y z hy hz
     injection h with h;subst h
     obtain ⟨h1,h2⟩:=qcz hn
     intro t
     obtain ⟨k,v⟩:=a
     simp only [jf,qa]
     cases nq k t with
     | true=>exact qoJ hy h1
     | false=>exact qiM hz h2 t
   . cases h
theorem qkD (l:List (Nat×O))(r id:Nat):qa .un (del l r) id=if id=r then .un else qa .un l id:=by
 induction l with
 | nil=>simp [del,qa]
 | cons x l ih =>
   obtain ⟨k,v⟩:=x
   simp only [del]
   cases hk:nq k r with
   | true =>
     have hk:=Nat.eq_of_beq_eq_true hk
     subst hk
     show qa .un (del l k) id=_
     rw [ih]
     split
     . rfl
     . rename_i hne
       simp only [qa]
       have:nq k id=false:=by cases h:nq k id with | false=>rfl | true=>exact absurd (Nat.eq_of_beq_eq_true h).symm hne
       rw [this]
       rfl
   | false =>
     show qa .un ((k,v)::del l r) id=_
     simp only [qa]
     cases h:nq k id with
     | true =>
       have h:=Nat.eq_of_beq_eq_true h
       subst h
       rw [if_neg (qm6 hk)]
       rfl
     | false=>exact ih
theorem SEx.freeze {P:Program}{T:Nat->Option Ty}{dr:Nat->Nat}{rs:Array ResultVar}{ks:List K}{n:Nat}{tm:List (Nat×TV B)}{tb:List (Nat×W)}{res:TV W}(r:Nat){x:LL}{y:List Nat×List (Nat×TV B)}
 (hx:qa .un tb r=.osl x) (hc:x.clean=true) (hy:qmo r (.sl x.thaw) tm=some y) (hl:∀ m∈y.1,m=x.len qn) (h:SEx P T dr rs ks ⟨n,y.2,del tb r⟩ res):SEx P T dr rs ks ⟨n,tm,tb⟩ res:=by
 intro hk
 letI:zi:=ye
 refine Ex.weakN (G:=(SF.mk n y.2 (del tb r)).er) rfl (fun J σ w vt hF hd hnf=>?_) (h hk)
 have hh:=Yu hc
 have e1:O.frzLL x.ro=x.rc:=LL.frz_ro x hh
 have e2:(D.sl x.thaw).er=.sl (O.frzLL x.ro):=by rw [e1];cases x<;>rfl
 have e3:x.len qn=x.ro.length:=(LL.len_ro x).symm
 refine qnB (F:=(SF.mk n tm tb).er) (G:=(SF.mk n y.2 (del tb r)).er) (r:=r) (xs:=x.ro) ⟨rfl,?_,LL.clean_ro x hc,fun id=>?_,fun t=>?_⟩ hF hd hnf
 . show (qa .un (zF tb) r).at std []=_
   rw [VY,hx]
   rfl
 . show qa .un (zF (del tb r)) id=_
   rw [<-Yg]
   exact qkD _ _ _
 . rw [<-e2,<-e3]
   exact qiM hy hl t
end Go.Proofs.YtfafehnchmelnaaGreat.Ai
namespace Go.Proofs.YtfafehnchmelnaaGreat.Ai
open Go
variable [qf]
abbrev RW:=TV B×List (Nat×W)×List B
def RW.eqv (x y:RW):Prop:=x.1.er B.erL=y.1.er B.erL/\zF x.2.1=zF y.2.1/\B.erL x.2.2=B.erL y.2.2
def qb3 (M:MB)(T:Nat->Option Ty)(F:SF):List ResultVar->R (List (V1 B))
 | []=>R.ok []
 | rv::r=>(qa4 M T F rv).bd fun v=>(match v with
   | .v x=>(qb3 M T F r).bd fun l=>R.ok (x::l)
   | .tup _=>none)
theorem y9 (T:Nat->Option Ty)(F:SF):∀ rs:List ResultVar,(qb3 qn T F rs).Sim fun xs=>Ve T F.er rs=some (qw B.erL xs)
 | []=>R.Sim.ok rfl
 | rv::r=>by
   simp only [qb3]
   refine R.Sim.bd (vY T F rv) fun v hv=>?_
   split
   . refine R.Sim.bd (y9 T F r) fun l hl=>R.Sim.ok ?_
     simp only [Ve,hv,hl,TV.er,qw]
   . exact R.Sim.none'
def qqg:List (V1 B)->TV B
 | [x]=>.v x
 | xs=>.tup xs
theorem qn1 (xs:List (V1 B)):qmJ (qw B.erL xs)=(qqg xs).er B.erL:=by
 match xs with
 | []=>rfl
 | [x]=>rfl
 | x::y::r=>rfl
def qlN (F:SF):Nat->Nat->List B
 | _,0=>[]
 | i,m+1=>qlq (qa unB F.tm (PH+i))::qlN F (i+1) m
def qit (F:SF):Nat->Nat->Bool
 | _,0=>true
 | i,m+1=>match qa unB F.tm (PH+i) with
   | .v (false,[_])=>qit F (i+1) m
   | _=>false
theorem qpv (F:SF):∀ (m i:Nat),qit F i m=true->∀ (k:Nat) (x:A),(B.erL (qlN F i m))[k]?=some x->qa unT F.er.tm (PH+(i+k))=.v (false,[x]):=by
 intro m
 induction m with
 | zero=>intro i _ k x h;simp [qlN,B.erL] at h
 | succ m ih =>
   intro i h k x hk
   simp only [qit] at h
   split at h
   . rename_i b hb
     cases k with
     | zero =>
       simp only [qlN,B.erL,hb,qlq,List.getElem?_cons_zero,Option.some.injEq] at hk
       show qa unT (jf F.tm) (PH+(i+0))=_
       rw [QD,Nat.add_zero,hb,<-hk]
       rfl
     | succ k =>
       simp only [qlN,B.erL,List.getElem?_cons_succ] at hk
       rw [show i+(k+1)=i+1+k by omega]
       exact ih (i+1) h k x hk
   . cases h
def qdj:List ResultVar->List Nat
 | []=>[]
 | .tmp t::r=>t::qdj r
 | .cell a _::r=>a::qdj r
def qmB:Nat->Nat->List Nat
 | _,0=>[]
 | i,m+1=>(PH+i)::qmB (i+1) m
def qbd (M:MB)(T:Nat->Option Ty)(rs:Array ResultVar)(m:Nat)(R:RW->Prop)(F:SF):Prop:=match rs with
 | ⟨rs⟩=>(match F.keepB (Qe (qdj rs) (qmB 0 m)) with
   | G=>(match qit G 0 m with
     | true=>(match qb3 M T G rs with
       | some (ps,xs)=>VA M ps (R (qqg xs,G.tb,qlN G 0 m))
       | none=>M.pNo 17)
     | false=>M.pNo 18))
def qmm (T:Nat->Option Ty)(rs:Array ResultVar)(x:RW):Fr->Prop:=fun F'=>∃ l,(∃ xs,Ve T (F'.keep l) rs.toList=some xs/\qmJ xs=x.1.er B.erL) ∧
 (∀ (i:Nat) (y:A),(B.erL x.2.2)[i]?=some y->qa unT (F'.keep l).tm (PH+i)=.v (false,[y]))/\(F'.keep l).tb=zF x.2.1
theorem qd7 {T:Nat->Option Ty}{rs:Array ResultVar}{m:Nat}{x:RW}{F:SF}(h:qbd qn T rs m (fun y=>RW.eqv y x) F):qmm T rs x F.er:=by
 obtain ⟨rs⟩:=rs
 unfold qbd at h
 dsimp only at h
 split at h
 . rename_i hph
   split at h
   . rename_i ps xs he
     obtain ⟨h1,h2,h3,h4⟩:=kZ ps _ h
     refine ⟨Qe (qdj rs) (qmB 0 m),⟨qw B.erL xs,?_,?_⟩,?_,?_⟩
     . rw [<-Zy]
       exact y9 T _ rs ps xs he h1
     . rw [qn1];exact h2
     . intro i y hy
       rw [<-Zy]
       rw [<-h4] at hy
       have:=qpv _ m 0 hph i y hy
       rwa [Nat.zero_add] at this
     . rw [<-Zy]
       exact h3
   . exact h.elim
 . exact h.elim
def jn (P:Program)(T:Nat->Option Ty)(dr:Nat->Nat)(rs:Array ResultVar)(ks:List K)(F:SF)(x:RW):Prop:=(∀ k∈ks,kOK dr k=true)->@Ex _ qo3 P ks F.er (qmm T rs x)
theorem jn.keep {P:Program}{T:Nat->Option Ty}{dr:Nat->Nat}{rs:Array ResultVar}{ks:List K}{F:SF}{r:RW}(l:List Nat)(h:jn P T dr rs ks (F.keepB l) r):jn P T dr rs ks F r:=by
 intro hk
 have:=h hk
 rw [Zy] at this
 exact @Ex.weak _ qo3 _ _ _ _ (F.er.keep l) rfl (fun J σ w vt hF hd=>by letI:=J;exact ZW hF hd l) this
theorem jn.trim {P:Program}{T:Nat->Option Ty}{dr:Nat->Nat}{rs:Array ResultVar}{ks:List K}{F:SF}{r:RW}(lv:Nat->Option (List Nat))(h:jn P T dr rs ks (F.trimB lv (qoL ks)) r):jn P T dr rs ks F r:=by
 unfold SF.trimB at h
 split at h
 . exact jn.keep _ h
 . exact h
theorem jn.go {P:Program}{X:SX}(hT:kA P X.T){dr:Nat->Nat}(lv:Nat->List Nat)(lt:Nat->Option (List Nat)){ora:Qp}(hO:qp P ora){rs:Array ResultVar}{ks:List K}{F:SF}{r:RW}(n m:Nat)
 (h:∀ (M:MB) (R:RW->Prop) (L N:List K->SF->Prop),M=qn->(∀ p q:Prop,p->q->M.pAnd p q)->(∀ (b:Bool) (p:Prop),(b=true->p)->M.pImp b p)->(∀ r',RW.eqv r' r->R r')->(∀ ks F,jn P X.T dr rs ks F r->L ks F) →
   (∀ ks F,wp M X dr lv ora (qbd M X.T rs m R) L N n ks (F.trimB lt (qoL ks))->N ks F)->wp M X dr lv ora (qbd M X.T rs m R) L N n ks F) (hW:zz P X:=by exact fun _ _ _=>Y6):jn P X.T dr rs ks F r:=by
 have key:∀ ks F,wp qn X dr lv ora (qbd qn X.T rs m fun r'=>RW.eqv r' r) (fun ks F=>jn P X.T dr rs ks F r) (fun ks F=>jn P X.T dr rs ks F r) n ks F->jn P X.T dr rs ks F r:=by
  intro ks F hw hk
  letI:zi:=qo3
  exact YI hT hW hO (fin:=qbd qn X.T rs m fun r'=>RW.eqv r' r) (L:=fun ks F=>jn P X.T dr rs ks F r) (N:=fun ks F=>jn P X.T dr rs ks F r) (fun F hF=>qd7 hF) (fun ks F hk h=>h hk) (fun ks F hk h=>h hk) n ks F hk hw
 exact key ks F (h qn _ _ _ rfl (fun _ _ h1 h2=>⟨h1,h2⟩) (fun _ _ h=>h) (fun _ h=>h) (fun _ _ h=>h) (fun ks F hw=>jn.trim lt (key ks _ hw)))
theorem jn.same {P:Program}{T:Nat->Option Ty}{dr:Nat->Nat}{rs:Array ResultVar}{ks:List K}{F G:SF}{r r':RW}(h:jn P T dr rs ks G r')(he:G.er=F.er)(hr:RW.eqv r' r):jn P T dr rs ks F r:=by
 intro hk
 have:=h hk
 rw [he] at this
 unfold qmm at this ⊢
 obtain ⟨h1,h2,h3⟩:=hr
 rw [h1,h2,h3] at this
 exact this
theorem jn.ind {P:Program}{T:Nat->Option Ty}{dr:Nat->Nat}{rs:Array ResultVar}{ks:List K}{α:Type}(f:α->SF)(R:α->RW)(Inv:α->Prop)(μ:α->Nat)(x0:α)(hI:Inv x0)
 (step:∀ x,Inv x->(∀ y,Inv y->μ y<μ x->jn P T dr rs ks (f y) (R y))->jn P T dr rs ks (f x) (R x)):jn P T dr rs ks (f x0) (R x0):=by
 have key:∀ n x,μ x=n->Inv x->jn P T dr rs ks (f x) (R x):=by
  intro n
  induction n using Nat.strongRecOn with
  | _ n ih =>
    intro x hx hI
    exact step x hI (fun y hy hlt=>ih (μ y) (by omega) y rfl hy)
 exact key _ x0 rfl hI
def VL:Nat->List (V1 B)->List (Nat×TV B)
 | _,[]=>[]
 | i,x::r=>(i,.v x)::VL (i+1) r
def qiS:Nat->List B->List (Nat×TV B)
 | _,[]=>[]
 | i,x::r=>(PH+i,.v (false,[x]))::qiS (i+1) r
def qqJ (n:Nat)(args:List (V1 B))(ph:List B)(tb:List (Nat×W)):SF:=⟨n,Qe (VL 0 args) (qiS 0 ph),tb⟩
theorem qpC (n:Nat)(args:List (V1 B))(ph:List B)(tb:List (Nat×W)):(qqJ n args ph tb).er=wl n (qw B.erL args) (B.erL ph) (zF tb):=by
 have h1:∀ (l:List (V1 B)) (i:Nat),jf (VL i l)=Q1 i (qw B.erL l):=by
  intro l
  induction l with
  | nil=>intro i;rfl
  | cons x l ih=>intro i;simp only [VL,jf,qw,Q1,ih,TV.er]
 have h2:∀ (l:List B) (i:Nat),jf (qiS i l)=qeN i (B.erL l):=by
  intro l
  induction l with
  | nil=>intro i;rfl
  | cons x l ih=>intro i;simp only [qiS,jf,B.erL,qeN,ih,TV.er,zY]
 have h3:∀ l r:List (Nat×TV B),jf (l++r)=jf l++jf r:=by
  intro l r
  induction l with
  | nil=>rfl
  | cons x l ih=>obtain ⟨t,x⟩:=x;simp only [List.cons_append,jf,ih]
 unfold qqJ wl SF.er
 simp only [jm,h3,h1,h2]
theorem Qo.of {P : Program} {T : Nat → Option Ty} (hT : kA P T) {g : FuncId} {fn : Func} {c : Code} {args : List (V1 B)} {tb : List (Nat × W)} {ph : List B} {r : RW} {dr : Nat → Nat} (hf : P.funcs[g]? = some fn) (hb : fn.body = some c) (hnm : (fn.name == "runtime.NumGoroutine") = false)
 (h1:(nle (cnt args) fn.ntmps&&nle (cnt args) 1000)=true) (hc:kS dr c=true) (h:jn P T dr fn.results [.c c] (qqJ fn.ntmps args ph tb) r):Qo P g args tb ph r.1 r.2.1 r.2.2:=by
 rw [Bool.and_eq_true] at h1
 have hl:∀ l:List (V1 B),(qw B.erL l).length=cnt l:=by intro l;induction l with | nil=>rfl | cons x l ih=>simp [qw,cnt,ih]
 refine Vb.of_Ex hT hf hb hnm ?_ ?_ ?_
 . rw [hl]
   exact qA h1.1
 . rw [hl]
   exact Nat.le_trans (qA h1.2) (by decide)
 . have:=h (fun k hk=>by simp at hk;subst hk;exact hc)
   rwa [qpC] at this
def qsv:List Nat->Nat->Bool
 | [],_=>false
 | x::r,d=>match nq x d with | true=>true | false=>qsv r d
abbrev WrW:=List (V1 B)->List (LK×W)->R RW
def Qs:List (Nat×WrW)->FuncId->WrW
 | [],_,_,_=>none
 | (k,f)::r,g,xs,ls=>match nq k g with | true=>f xs ls | false=>Qs r g xs ls
def qi6 (P:Program)(g:FuncId)(f:WrW):Prop:=∀ xs ls,R.Sim (f xs ls) fun res=>Qo P g xs (qlE 0 ls) (qll 0 ls) res.1 res.2.1 res.2.2
def qbQ (P:Program)(ow:FuncId->WrW):Prop:=∀ g xs ls,R.Sim (ow g xs ls) fun res=>Qo P g xs (qlE 0 ls) (qll 0 ls) res.1 res.2.1 res.2.2
theorem Jy {P:Program}:qbQ P (Qs []):=fun _ _ _=>R.Sim.none'
theorem ZT {P:Program}{k:Nat}{f:WrW}{r:List (Nat×WrW)}(h:qi6 P k f)(hr:qbQ P (Qs r)):qbQ P (Qs ((k,f)::r)):=by
 intro g xs ls
 simp only [Qs]
 split
 . rename_i e
   obtain rfl:=Qk.1 e
   exact h xs ls
 . exact hr g xs ls
def SX.withF (X:SX)(l:List Nat):SX:={ X with FB:=fun d=>qsv l d }
theorem SX.withF_ok {P:Program}{X:SX}{l:List Nat}(h:zz P X):zz P (X.withF l):=h
def SX.withW (X:SX)(S:List (Nat×List (Nat×Nat)))(ow:FuncId->WrW):SX:={ X with S:=fun g=>qa none (S.map fun x=>(x.1,some x.2)) g,OW:=ow }
theorem SX.withW_ok {P:Program}{X:SX}{S:List (Nat×List (Nat×Nat))}{ow:FuncId->WrW}(h:qbQ P ow):zz P (X.withW S ow):=h
end Go.Proofs.YtfafehnchmelnaaGreat.Ai
namespace Go.Proofs.YtfafehnchmelnaaGreat.Ai
open Go
variable [qf]
theorem qlS {P:Program}{l:List (Nat×Option Ty)}(h:∀ p∈l,p.2=none\/kV P p.1=p.2):kA P (qa none l):=by
 intro t y ht
 induction l with
 | nil=>simp [qa] at ht
 | cons a r ih =>
   obtain ⟨k,v⟩:=a
   simp only [qa] at ht
   cases hb:nq k t with
   | true =>
     rw [hb] at ht
     obtain rfl:=Nat.eq_of_beq_eq_true hb
     have ht:v=some y:=ht
     subst ht
     rcases h _ List.mem_cons_self with h | h
     . cases h
     . exact h
   | false =>
     rw [hb] at ht
     exact ih (fun p hp=>h p (List.mem_cons_of_mem _ hp)) ht
def aI (n:Int):V1 D:=(false,[.int .i64 n])
def aB (b:Bool):V1 D:=(false,[.bool false b])
def aS (s:ByteArray):V1 D:=(false,[.str s])
def aIs (l:List Int):V1 D:=(false,[.sl (.i l)])
def qsj (l:List (List Int)):V1 D:=(false,[.sl (.ii false none l)])
def Y4 (q:Tie):V1 D:=(true,q.d)
def wV (q:qi):V1 D:=(true,q.d)
def WS (l:List Tie):V1 D:=(false,[.sl (.tie l)])
def vU (l:List qi):V1 D:=(false,[.sl (.node false none l)])
def aF (f:FuncId)(caps:List D):V1 D:=(false,[.fn f caps])
structure qj where
 nodes:List qi
 ties:List Tie
 hor:Int
structure qh where
 now:Int
 times:List Int
 vals:List Int
def qj.d (t:qj):List D:=[.sl (.node false none t.nodes),.sl (.tie t.ties),.int .i64 t.hor]
def qh.d (t:qh):List D:=[.int .i64 t.now,.sl (.i t.times),.sl (.i t.vals)]
def qH (t:qj):V1 D:=(true,t.d)
def qQ (t:qh):V1 D:=(true,t.d)
structure Dc (α:Type) where
 enc:α->V1 D
 dec:V1 D->Option α
 ok:∀ x a,dec x=some a->zY D.erL x=zY D.erL (enc a)
def dcI:Dc Int:=⟨aI,fun | (false,[.int .i64 n])=>some n | _=>none,by intro x a h;split at h<;>first | (simp only [Option.some.injEq] at h;subst h;rfl) | cases h⟩
def dcB:Dc Bool:=⟨aB,fun | (false,[.bool _ n])=>some n | _=>none,by intro x a h;split at h<;>first | (simp only [Option.some.injEq] at h;subst h;rfl) | cases h⟩
def dcS:Dc ByteArray:=⟨aS,fun | (false,[.str n])=>some n | _=>none,by intro x a h;split at h<;>first | (simp only [Option.some.injEq] at h;subst h;rfl) | cases h⟩
def kw:Dc (List Int):=⟨aIs,fun | (false,[.sl (.i l)])=>some l | _=>none,by intro x a h;split at h<;>first | (simp only [Option.some.injEq] at h;subst h;rfl) | cases h⟩
def qr1:Dc (List (List Int)):=⟨qsj,fun | (false,[.sl (.ii _ _ l)])=>some l | (false,[.sl (.i [])])=>some [] | _=>none,by intro x a h;split at h<;>first | (simp only [Option.some.injEq] at h;subst h;rfl) | cases h⟩
def Z0:Dc (List Tie):=⟨WS,fun | (false,[.sl (.tie l)])=>some l | (false,[.sl (.i [])])=>some [] | _=>none,by intro x a h;split at h<;>first | (simp only [Option.some.injEq] at h;subst h;rfl) | cases h⟩
def vr:Dc (List qi):=⟨vU,fun | (false,[.sl (.node _ _ l)])=>some l | (false,[.sl (.i [])])=>some [] | _=>none,by intro x a h;split at h<;>first | (simp only [Option.some.injEq] at h;subst h;rfl) | cases h⟩
def yz:Dc Tie:=⟨Y4,fun
 | (true,[.int .i64 x1,.int .i64 x2,.int .i64 x3,.int .i64 x4,.bool _ x5])=>some ⟨x1,x2,x3,x4,x5⟩
 | _=>none,by intro x a h;split at h<;>first | (simp only [Option.some.injEq] at h;subst h;rfl) | cases h⟩
def wc:Dc qi:=⟨wV,fun
 | (true,[.str x1,.sl (.i x2),.int .i64 x3])=>some ⟨x1,x2,x3⟩
 | _=>none,by intro x a h;split at h<;>first | (simp only [Option.some.injEq] at h;subst h;rfl) | cases h⟩
def qbO:D->Option (List Tie)
 | .sl (.tie l)=>some l
 | .sl (.i [])=>some []
 | _=>none
def VZ:D->Option (List qi)
 | .sl (.node _ _ l)=>some l
 | .sl (.i [])=>some []
 | _=>none
theorem qbs {d:D}{l:List Tie}(h:qbO d=some l):d.er=.sl (l.map Tie.rc):=by
 unfold qbO at h;split at h<;>first | (simp only [Option.some.injEq] at h;subst h;rfl) | cases h
theorem yR {d:D}{l:List qi}(h:VZ d=some l):d.er=.sl (l.map qi.rc):=by
 unfold VZ at h;split at h<;>first | (simp only [Option.some.injEq] at h;subst h;rfl) | cases h
def qK:Dc qj:=⟨qH,fun
 | (true,[d,e,.int .i64 x3])=>(match VZ d,qbO e with | some x1,some x2=>some ⟨x1,x2,x3⟩ | _,_=>none)
 | _=>none,by
   intro x a h
   split at h
   . split at h
     . rename_i hd he
       simp only [Option.some.injEq] at h;subst h;simp only [zY,D.erL,yR hd,qbs he,qH,qj.d];rfl
     . cases h
   . cases h⟩
def qP:Dc qh:=⟨qQ,fun
 | (true,[.int .i64 x1,.sl (.i x2),.sl (.i x3)])=>some ⟨x1,x2,x3⟩
 | _=>none,by intro x a h;split at h<;>first | (simp only [Option.some.injEq] at h;subst h;rfl) | cases h⟩
def rB (b:Bool):TV W:=.v (false,[.fz (.bool false b)])
def rI (n:Int):TV W:=.v (false,[.fz (.int .i64 n)])
def rS (s:ByteArray):TV W:=.v (false,[.fz (.str s)])
def rIs (l:List Int):TV W:=.v (false,[.osl (.i l)])
def Kv (l:List (List Int)):TV W:=.v (false,[.osl (.ii true none l)])
def qfv (l:List Tie):TV W:=.v (false,[.osl (.tie l)])
def qgy (l:List qi):TV W:=.v (false,[.osl (.node true none l)])
def qj.w (t:qj):List W:=[.osl (.node true none t.nodes),.osl (.tie t.ties),.fz (.int .i64 t.hor)]
def qh.w (t:qh):List W:=[.fz (.int .i64 t.now),.osl (.i t.times),.osl (.i t.vals)]
def qrX (q:Tie):TV W:=.v (true,fzW q.d)
def qqn (q:qi):TV W:=.v (true,q.w true)
def Yj (t:qj):TV W:=.v (true,t.w)
def kF (t:qh):TV W:=.v (true,t.w)
abbrev eR (r:TV W):TV O:=r.er W.erL
@[simp] theorem jH (k b b'):eR (.v (false,[.fz (.bool k b)]))=eR (rB b')↔b=b':=by simp [eR,TV.er,zY,W.erL,W.er,D.er,rB]
@[simp] theorem wh (n n'):eR (.v (false,[.fz (.int .i64 n)]))=eR (rI n')↔n=n':=by simp [eR,TV.er,zY,W.erL,W.er,D.er,rI]
theorem qe.er {P:Program}{g:FuncId}{as as':List (V1 D)}{r r':TV W}(h:qe P g as r)(ha:qw D.erL as'=qw D.erL as)(hr:eR r'=eR r):qe P g as' r':=by
 unfold qe at h ⊢
 rw [ha,show r'.er W.erL=r.er W.erL from hr]
 exact h
abbrev Wr:=List (V1 D)->R (TV W)
def qJ:List (Nat×Wr)->Qp
 | [],_,_=>none
 | (k,f)::r,g,xs=>match nq k g with | true=>f xs | false=>qJ r g xs
def qz (P:Program)(g:FuncId)(f:Wr):Prop:=∀ xs,R.Sim (f xs) fun r=>qe P g xs r
theorem qd {P:Program}:qp P (qJ []):=fun _ _=>R.Sim.none'
theorem qb {P:Program}{k:Nat}{f:Wr}{r:List (Nat×Wr)}(h:qz P k f)(hr:qp P (qJ r)):qp P (qJ ((k,f)::r)):=by
 intro g xs
 simp only [qJ]
 split
 . rename_i e
   obtain rfl:=Nat.eq_of_beq_eq_true e
   exact h xs
 . exact hr g xs
def w1 {α:Type}(a:Dc α)(f:α->TV W)(p:α->List Prop):Wr
 | [x]=>match a.dec x with | some x=>some (p x,f x) | none=>none
 | _=>none
def w2 {α β:Type}(a:Dc α)(b:Dc β)(f:α->β->TV W)(p:α->β->List Prop):Wr
 | [x,y]=>match a.dec x,b.dec y with | some x,some y=>some (p x y,f x y) | _,_=>none
 | _=>none
def w3 {α β γ:Type}(a:Dc α)(b:Dc β)(c:Dc γ)(f:α->β->γ->TV W)(p:α->β->γ->List Prop):Wr
 | [x,y,z]=>match a.dec x,b.dec y,c.dec z with | some x,some y,some z=>some (p x y z,f x y z) | _,_,_=>none
 | _=>none
def w4 {α β γ δ:Type}(a:Dc α)(b:Dc β)(c:Dc γ)(d:Dc δ)(f:α->β->γ->δ->TV W)(p:α->β->γ->δ->List Prop):Wr
 | [x,y,z,u]=>match a.dec x,b.dec y,c.dec z,d.dec u with | some x,some y,some z,some u=>some (p x y z u,f x y z u) | _,_,_,_=>none
 | _=>none
theorem zl {P:Program}{g:FuncId}{α:Type}{a:Dc α}{f:α->TV W}{p:α->List Prop}(h:∀ x,Holds (p x)->qe P g [a.enc x] (f x)):qz P g (w1 a f p):=by
 intro xs
 unfold w1
 split
 . split
   . rename_i hx
     exact R.Sim.mk fun hp=>(h _ hp).er (by simp only [qw,a.ok _ _ hx]) rfl
   . exact R.Sim.none'
 . exact R.Sim.none'
theorem qF {P:Program}{g:FuncId}{α β:Type}{a:Dc α}{b:Dc β}{f:α->β->TV W}{p:α->β->List Prop}(h:∀ x y,Holds (p x y)->qe P g [a.enc x,b.enc y] (f x y)):qz P g (w2 a b f p):=by
 intro xs
 unfold w2
 split
 . split
   . rename_i hx hy
     exact R.Sim.mk fun hp=>(h _ _ hp).er (by simp only [qw,a.ok _ _ hx,b.ok _ _ hy]) rfl
   . exact R.Sim.none'
 . exact R.Sim.none'
theorem jL {P:Program}{g:FuncId}{α β γ:Type}{a:Dc α}{b:Dc β}{c:Dc γ}{f:α->β->γ->TV W}{p:α->β->γ->List Prop}(h:∀ x y z,Holds (p x y z)->qe P g [a.enc x,b.enc y,c.enc z] (f x y z)):qz P g (w3 a b c f p):=by
 intro xs
 unfold w3
 split
 . split
   . rename_i hx hy hz
     exact R.Sim.mk fun hp=>(h _ _ _ hp).er (by simp only [qw,a.ok _ _ hx,b.ok _ _ hy,c.ok _ _ hz]) rfl
   . exact R.Sim.none'
 . exact R.Sim.none'
theorem qrW {P:Program}{g:FuncId}{α β γ δ:Type}{a:Dc α}{b:Dc β}{c:Dc γ}{d:Dc δ}{f:α->β->γ->δ->TV W}{p:α->β->γ->δ->List Prop}(h:∀ x y z u,Holds (p x y z u)->qe P g [a.enc x,b.enc y,c.enc z,d.enc u] (f x y z u)):qz P g (w4 a b c d f p):=by
 intro xs
 unfold w4
 split
 . split
   . rename_i hx hy hz hu
     exact R.Sim.mk fun hp=>(h _ _ _ _ hp).er (by simp only [qw,a.ok _ _ hx,b.ok _ _ hy,c.ok _ _ hz,d.ok _ _ hu]) rfl
   . exact R.Sim.none'
 . exact R.Sim.none'
end Go.Proofs.YtfafehnchmelnaaGreat.Ai
namespace Go.Proofs.YtfafehnchmelnaaGreat.Ai
open Go Go.RowKit
instance fenceFree:ql:=qN
inductive Sh where
 | bool
 | int (k:IntKind)
 | str
 | sl (e:Sh)
 | st (fs:List Sh)
mutual
def Sh.n:Sh->Nat
 | .st fs=>Sh.nL fs
 | _=>1
def Sh.nL:List Sh->Nat
 | []=>0
 | s::r=>s.n+Sh.nL r
end
mutual
def Wt:Sh->List C->Prop
 | .bool,xs=>∃ b,xs=[.bool b]
 | .int k,xs=>∃ n,xs=[.int k n]/\k.min<=n/\n<=k.max
 | .str,xs=>∃ s,xs=[.str s]/\s.size<=maxLen
 | .sl e,xs=>∃ ys,xs=[.sl ys]/\ys.length<=maxLen/\∀ y,y∈ys->Wt e y
 | .st fs,xs=>WtL fs xs
def WtL:List Sh->List C->Prop
 | [],xs=>xs=[]
 | s::r,xs=>∃ a b,xs=a++b/\Wt s a/\WtL r b
end
mutual
theorem Wt.len:(s:Sh)->{xs:List C}->Wt s xs->xs.length=s.n
 | .bool,_,⟨_,h⟩=>by subst h;rfl
 | .int _,_,⟨_,h,_⟩=>by subst h;rfl
 | .str,_,⟨_,h,_⟩=>by subst h;rfl
 | .sl _,_,⟨_,h,_⟩=>by subst h;rfl
 | .st fs,_,h=>WtL.len fs h
theorem WtL.len:(l:List Sh)->{xs:List C}->WtL l xs->xs.length=Sh.nL l
 | [],_,h=>by have h:_=[]:=h;subst h;rfl
 | s::r,_,⟨a,b,h,h1,h2⟩=>by subst h;simp [Sh.nL,Wt.len s h1,WtL.len r h2]
end
def shL (f:TypeId->Option Sh)(P:Program):Nat->List Field->Option (List Sh×Nat)
 | off,[]=>some ([],off)
 | off,x::r=>match f x.type with
   | some s=>if x.offset=off/\P.cellsOf x.type=s.n then (match shL f P (off+s.n) r with | some (l,m)=>some (s::l,m) | none=>none) else none
   | none=>none
def yF (P:Program):Nat->TypeId->Option Sh
 | 0,_=>none
 | n+1,t=>match P.underlying t with
   | some .bool=>some .bool
   | some (.int k)=>some (.int k)
   | some .string=>some .str
   | some (.slice e)=>match yF P n e with
     | some s=>if P.cellsOf e=s.n/\0<s.n then some (.sl s) else none
     | none=>none
   | some (.struct fs)=>match shL (yF P n) P 0 fs.toList with
     | some (l,m)=>if P.cellsOf t=m then some (.st l) else none
     | none=>none
   | _=>none
def Jd (w:World)(xs:List C)(cs:List Value):Prop:=xs.length=cs.length/\∀ (j:Nat) (c:C),xs[j]?=some c->∃ u,cs[j]?=some u/\zU w c u
theorem Jd.one {w:World}{c:C}{u:Value}(h:zU w c u):Jd w [c] [u]:=⟨rfl,fun j c' hj=>by
 cases j with
 | zero=>simp at hj;subst hj;exact ⟨u,rfl,h⟩
 | succ j=>simp at hj⟩
theorem Jd.append {w:World}{xs xs':List C}{cs cs':List Value}(h:Jd w xs cs)(h':Jd w xs' cs'):Jd w (xs++xs') (cs++cs'):=by
 refine ⟨by simp [h.1,h'.1],fun j c hj=>?_⟩
 by_cases hlt:j<xs.length
 . rw [List.getElem?_append_left hlt] at hj
   obtain ⟨u,h1,h2⟩:=h.2 j c hj
   exact ⟨u,by rw [List.getElem?_append_left (by rw [<-h.1];exact hlt)];exact h1,h2⟩
 . rw [List.getElem?_append_right (by omega)] at hj
   obtain ⟨u,h1,h2⟩:=h'.2 _ c hj
   exact ⟨u,by rw [List.getElem?_append_right (by rw [<-h.1];omega),<-h.1];exact h1,h2⟩
theorem qe2 {α:Type}(p:Nat->α->Prop):∀ n:Nat,(∀ i,i<n->∃ y,p i y)->∃ ys:List α,ys.length=n/\∀ (i:Nat) (y:α),ys[i]?=some y->p i y:=by
 intro n
 induction n with
 | zero=>intro _;exact ⟨[],rfl,fun i y h=>by simp at h⟩
 | succ n ih =>
   intro h
   obtain ⟨ys,h1,h2⟩:=ih (fun i hi=>h i (by omega))
   obtain ⟨y,hy⟩:=h n (by omega)
   refine ⟨ys++[y],by simp [h1],fun i z hz=>?_⟩
   by_cases hlt:i<ys.length
   . rw [List.getElem?_append_left hlt] at hz;exact h2 i z hz
   . rw [List.getElem?_append_right (by omega)] at hz
     have hi:i-ys.length=0:=by
      rcases Nat.eq_zero_or_pos (i-ys.length) with e | e
      . exact e
      . rw [List.getElem?_eq_none (by simp;omega)] at hz;cases hz
     rw [hi] at hz
     simp at hz
     subst hz
     rw [show i=n by omega]
     exact hy
theorem Wn {α β:Type}{f:α->Option β}:∀ {l:List α} {r:List β},l.mapM f=some r->r.length=l.length/\∀ (i:Nat) (x:α),l[i]?=some x->∃ y,r[i]?=some y/\f x=some y:=by
 intro l
 induction l with
 | nil=>intro r h;simp at h;subst h;exact ⟨rfl,fun i x h=>by simp at h⟩
 | cons a l ih =>
   intro r h
   simp only [List.mapM_cons] at h
   cases hf:f a with
   | none=>rw [hf] at h;simp at h
   | some b =>
     rw [hf] at h
     cases hr:l.mapM f with
     | none=>rw [hr] at h;simp at h
     | some r' =>
       rw [hr] at h
       simp at h
       subst h
       obtain ⟨h1,h2⟩:=ih hr
       refine ⟨by simp [h1],fun i x hx=>?_⟩
       cases i with
       | zero=>simp at hx;subst hx;exact ⟨b,rfl,hf⟩
       | succ i=>obtain ⟨y,h3,h4⟩:=h2 i x (by simpa using hx);exact ⟨y,by simpa using h3,h4⟩
theorem cells?_inv {w:World}{base:Nat}{a:Addr}{n:Nat}{cs:List Value}(h:w.cells? base a n=some cs):cs.length=n/\∀ j,j<n->∃ u,cs[j]?=some u/\w.cell? (a.add j)=some u:=by
 unfold World.cells? at h
 split at h
 . obtain ⟨h1,h2⟩:=Wn h
   refine ⟨by simpa using h1,fun j hj=>?_⟩
   obtain ⟨y,h3,h4⟩:=h2 j j (by simp [hj])
   exact ⟨y,h3,h4⟩
 . cases h
theorem qdP {w:World}{P:Program}{f:TypeId->Option Sh}{g:TypeId->List Value->Prop}(hf:∀ t s cs,f t=some s->g t cs->∃ xs,Wt s xs/\Jd w xs cs):∀ (fs:List Field) (off:Nat) (l:List Sh) (m:Nat) (cs:List Value),shL f P off fs=some (l,m) →
 cs.length=m->(∀ x∈fs,g x.type ((cs.drop x.offset).take (P.cellsOf x.type)))->off<=m/\∃ xs,WtL l xs/\Jd w xs (cs.drop off):=by
 intro fs
 induction fs with
 | nil =>
   intro off l m cs h hl _
   simp [shL] at h
   obtain ⟨rfl,rfl⟩:=h
   exact ⟨Nat.le_refl _,[],rfl,by rw [List.drop_eq_nil_of_le (by omega)];exact ⟨rfl,fun j c h=>by simp at h⟩⟩
 | cons x fs ih =>
   intro off l m cs h hl hg
   simp only [shL] at h
   split at h
   . rename_i s hs
     split at h
     . rename_i hx
       obtain ⟨hx1,hx2⟩:=hx
       split at h
       . rename_i l' m' hrec
         simp at h
         obtain ⟨rfl,rfl⟩:=h
         obtain ⟨h1,xs,h2,h3⟩:=ih _ _ _ cs hrec hl (fun y hy=>hg y (List.mem_cons_of_mem _ hy))
         obtain ⟨ys,h4,h5⟩:=hf _ _ _ hs (hg x List.mem_cons_self)
         refine ⟨by omega,ys++xs,⟨ys,xs,rfl,h4,h2⟩,?_⟩
         have hcat:cs.drop off=(cs.drop off).take s.n++cs.drop (off+s.n):=by
          rw [<-List.drop_drop,List.take_append_drop]
         rw [hcat]
         rw [hx1,hx2] at h5
         exact h5.append h3
       . cases h
     . cases h
   . cases h
theorem qib {H:Type}{enc:TypeId×Value->H}{P:Program}{w:World}{base:Nat}{sp:Nat->Bool}:∀ (n:Nat) (t:TypeId) (s:Sh),yF P n t=some s->∀ (fuel:Nat) (cs:List Value) (x:DataW H×List MemPlace),DataW.trod enc P w base sp true fuel t cs=some x →
 ∃ xs,Wt s xs/\Jd w xs cs:=by
 intro n
 induction n with
 | zero=>intro t s h;simp [yF] at h
 | succ n ih =>
   intro t s h fuel cs x hx
   cases fuel with
   | zero=>simp [DataW.trod] at hx
   | succ fuel =>
     simp only [yF] at h
     unfold DataW.trod at hx
     split at h
     . rename_i hu
       rw [hu] at hx
       simp at h
       subst h
       dsimp only at hx
       clear ih
       split at hx<;>simp_all
       rename_i b
       exact ⟨[.bool b],⟨b,rfl⟩,.one (zU.bool b)⟩
     . rename_i k hu
       rw [hu] at hx
       simp at h
       subst h
       dsimp only at hx
       clear ih
       split at hx<;>simp_all
       obtain ⟨⟨rfl,h1⟩,_⟩:=hx
       simp [Lit.wf] at h1
       exact ⟨[.int _ _],⟨_,rfl,h1.1,h1.2⟩,.one (zU.int _ _)⟩
     . rename_i hu
       rw [hu] at hx
       simp at h
       subst h
       dsimp only at hx
       clear ih
       split at hx<;>simp_all
       rename_i b
       exact ⟨[.str b],⟨b,rfl,hx.1⟩,.one (zU.str b)⟩
     . rename_i e hu
       rw [hu] at hx
       split at h
       . rename_i s' he
         split at h
         . rename_i hsz
           simp at h
           subst h
           have ih':∀ (cs:List Value) (x:DataW H×List MemPlace),DataW.trod enc P w base sp true fuel e cs=some x->∃ xs,Wt s' xs/\Jd w xs cs:=fun cs x hx=>ih e s' he fuel cs x hx
           clear ih
           dsimp only at hx
           split at hx
           all_goals first
            | (rename_i h1;cases h1;done)
            | skip
           . exact ⟨[.sl []],⟨[],rfl,Nat.zero_le _,fun y hy=>by cases hy⟩,.one (zU.sl [] s'.n none 0 (fun _ _=>undef) (Nat.le_refl _) (fun y hy=>by cases hy) (fun h=>(h rfl).elim) (fun ad h=>by cases h) (fun i j y c h=>by simp at h))⟩
           . rename_i e' a len cap heq
             injection heq with heq
             injection heq with heq
             subst heq
             split at hx
             . rename_i hc
               obtain ⟨_,hlc,hcm⟩:=hc
               cases hel:(List.range len).mapM (fun i=>(w.cells? base (a.add (i * P.cellsOf e)) (P.cellsOf e)).bind (DataW.trod enc P w base sp true fuel e)) with
               | none=>rw [hel] at hx;simp at hx
               | some elems =>
                 obtain ⟨_,hm⟩:=Wn hel
                 obtain ⟨ys,hyl,hys⟩:=qe2 (fun i (y:List C)=>Wt s' y/\y.length=s'.n/\∀ (j:Nat) (c:C),y[j]?=some c->∃ u,w.cell? ((a.add (i * s'.n)).add j)=some u/\zU w c u) len (by
                  intro i hi
                  obtain ⟨z,_,hz⟩:=hm i i (by simp [hi])
                  cases hcs:w.cells? base (a.add (i * P.cellsOf e)) (P.cellsOf e) with
                  | none=>rw [hcs] at hz;simp at hz
                  | some csi =>
                    rw [hcs] at hz
                    obtain ⟨xs,h1,h2⟩:=ih' csi z hz
                    obtain ⟨h3,h4⟩:=cells?_inv hcs
                    refine ⟨xs,h1,Wt.len s' h1,fun j c hj=>?_⟩
                    obtain ⟨u,h5,h6⟩:=h2.2 j c hj
                    have hjl:j<P.cellsOf e:=by rw [<-h3];exact (List.getElem?_eq_some_iff.1 h5).1
                    obtain ⟨u',h7,h8⟩:=h4 j hjl
                    rw [h5] at h7
                    injection h7 with h7
                    subst h7
                    rw [hsz.1] at h8
                    exact ⟨u,h8,h6⟩)
                 refine ⟨[.sl ys],⟨ys,rfl,by omega,fun y hy=>?_⟩,?_⟩
                 . obtain ⟨i,hi⟩:=List.mem_iff_getElem?.1 hy
                   exact (hys i y hi).1
                 . have hspot:ys≠[]->a.spot=none/\a.block<w.heap.size:=by
                    intro hne
                    obtain ⟨y,hy⟩:=kM (l:=ys) (i:=0) (by cases ys with | nil=>exact absurd rfl hne | cons _ _=>simp)
                    obtain ⟨_,h2,h3⟩:=hys 0 y hy
                    obtain ⟨c,hc⟩:=kM (l:=y) (i:=0) (by omega)
                    obtain ⟨u,h4,_⟩:=h3 0 c hc
                    have h4':w.cell? a=some u:=by simpa [Addr.add] using h4
                    refine ⟨?_,qgD h4'⟩
                    unfold World.cell? at h4'
                    split at h4'
                    . split at h4'
                      . cases h4'
                      . rename_i hs;simpa using hs
                    . cases h4'
                   rw [<-hyl]
                   refine Jd.one (zU.sl ys s'.n (some a) cap (fun i j=>(w.cell? ((a.add (i * s'.n)).add j)).getD undef) (by omega) (fun y hy=>?_) (fun hne=>⟨a,rfl,(hspot hne).1,(hspot hne).2,jU _⟩) ?_ ?_)
                   . obtain ⟨i,hi⟩:=List.mem_iff_getElem?.1 hy
                     exact (hys i y hi).2.1
                   . intro ad hab i j y c hi hj
                     injection hab with hab
                     subst hab
                     obtain ⟨u,h1,_⟩:=(hys i y hi).2.2 j c hj
                     have hne:ys≠[]:=by intro e;subst e;simp at hi
                     rw [h1,<-Jo (hspot hne).1,h1]
                     rfl
                   . intro i j y c hi hj
                     obtain ⟨u,h1,h2⟩:=(hys i y hi).2.2 j c hj
                     simp only [h1,Option.getD_some]
                     exact h2
             . cases hx
           . cases hx
         . cases h
       . cases h
     . rename_i fs hu
       rw [hu] at hx
       split at h
       . rename_i l m hsl
         split at h
         . rename_i hcl
           simp at h
           subst h
           dsimp only at hx
           split at hx
           . rename_i hlen
             cases hm:fs.toList.mapM (fun f=>DataW.trod enc P w base sp true fuel f.type ((cs.drop f.offset).take (P.cellsOf f.type))) with
             | none=>rw [hm] at hx;simp at hx
             | some r =>
               obtain ⟨_,h2⟩:=Wn hm
               obtain ⟨_,xs,h3,h4⟩:=qdP (w:=w) (P:=P) (f:=yF P n) (g:=fun t cs=>∃ x,DataW.trod enc P w base sp true fuel t cs=some x) (fun t s cs hs ⟨x,hx⟩=>ih t s hs fuel cs x hx) fs.toList 0 l m cs hsl (by rw [hlen,hcl]) (by
                intro f hf
                obtain ⟨i,hi⟩:=List.mem_iff_getElem?.1 hf
                obtain ⟨y,_,hy⟩:=h2 i f hi
                exact ⟨y,hy⟩)
               exact ⟨xs,h3,by simpa using h4⟩
           . cases hx
         . cases h
       . cases h
     . cases h
end Go.Proofs.YtfafehnchmelnaaGreat.Ai
namespace Go.Proofs.YtfafehnchmelnaaGreat.Ai
open Go Go.RowKit Go.ChangeShapes
instance fenceFree':ql:=qN
def Sh.isSt:Sh->Bool
 | .st _=>true
 | _=>false
def yj:List Sh->List (V1 C)->Prop
 | [],xs=>xs=[]
 | s::r,xs=>∃ y ys,xs=(s.isSt,y)::ys/\Wt s y/\yj r ys
theorem qkZ {H:Type}{enc:TypeId×Value->H}{P:Program}{W:World}{sp:Nat->Bool}{n:Nat}{t:TypeId}{s:Sh}(hs:yF P n t=some s){r:Reach}{base b0:Nat}{v:Value}{d:DataW H}{ps:List MemPlace}(hok:Value.okWide P W r b0 t v)
 (h:DataW.Trod enc P W base sp true t v d ps):∃ xs,Wt s xs/\qS (fun _=>@qr qN W (fun _=>none)) (s.isSt,xs) v:=by
 obtain ⟨fuel,h⟩:=h
 obtain ⟨xs,h1,h2⟩:=qib n t s hs fuel _ _ h
 refine ⟨xs,h1,?_⟩
 cases n with
 | zero=>simp [yF] at hs
 | succ n =>
   have one:∀ c:C,xs=[c]->v.cells=#[v]->s.isSt=false->qS (fun _=>@qr qN W (fun _=>none)) (s.isSt,xs) v:=by
    intro c hc hv hst
    subst hc
    rw [hst]
    obtain ⟨u,h3,h4⟩:=h2.2 0 c rfl
    rw [hv] at h3
    simp at h3
    subst h3
    exact h4
   have hv1:∀ u:TypeDesc,P.underlying t=some u->(∀ fs,u≠.struct fs)->(∀ m e,u≠.array m e)->Cell.okWide P W r b0 t v:=by
    intro u hu h3 h4
    unfold Value.okWide at hok
    rw [hu] at hok
    cases u<;>first | exact hok | exact absurd rfl (h3 _) | exact absurd rfl (h4 _ _)
   simp only [yF] at hs
   split at hs
   . rename_i hu
     simp at hs
     subst hs
     have hc:=hv1 _ hu (by simp) (by simp)
     obtain ⟨b,hb⟩:=h1
     refine one _ hb ?_ rfl
     unfold Cell.okWide Cell.ok at hc
     simp only [hu] at hc
     cases v<;>first | rfl | exact hc.elim
   . rename_i k hu
     simp at hs
     subst hs
     have hc:=hv1 _ hu (by simp) (by simp)
     obtain ⟨b,hb,_⟩:=h1
     refine one _ hb ?_ rfl
     unfold Cell.okWide Cell.ok at hc
     simp only [hu] at hc
     cases v<;>first | rfl | exact hc.elim
   . rename_i hu
     simp at hs
     subst hs
     have hc:=hv1 _ hu (by simp) (by simp)
     obtain ⟨b,hb,_⟩:=h1
     refine one _ hb ?_ rfl
     unfold Cell.okWide Cell.ok at hc
     simp only [hu] at hc
     cases v<;>first | rfl | exact hc.elim
   . rename_i e hu
     have hc:=hv1 _ hu (by simp) (by simp)
     have hcells:v.cells=#[v]:=by
      unfold Cell.okWide Cell.ok at hc
      simp only [hu] at hc
      cases v<;>first | rfl | exact hc.elim
     split at hs
     . split at hs
       . simp at hs
         subst hs
         obtain ⟨ys,hb,_⟩:=h1
         exact one _ hb hcells rfl
       . cases hs
     . cases hs
   . rename_i fs hu
     split at hs
     . split at hs
       . simp at hs
         subst hs
         unfold Value.okWide at hok
         rw [hu] at hok
         obtain ⟨cs,rfl,_⟩:=hok
         refine ⟨cs,rfl,?_,?_⟩
         . have:=h2.1
           simpa [Value.cells] using this.symm
         . intro j c hj
           obtain ⟨u,h3,h4⟩:=h2.2 j c hj
           exact ⟨u,by simpa [Value.cells] using h3,h4⟩
       . cases hs
     . cases hs
   . cases hs
theorem qk1 {H:Type}{enc:TypeId×Value->H}{P:Program}{W:World}{sp:Nat->Bool}{n:Nat}{r:Reach}{base b0:Nat}:∀ (ts:List TypeId) (shs:List Sh) (vs:List Value) (ds:List (DataW H)) (ps:List MemPlace),ts.map (yF P n)=shs.map some →
 (∀ (j:Nat) t v,ts[j]?=some t->vs[j]?=some v->Value.okWide P W r b0 t v)->DataW.TrodAll enc P W base sp true ts vs ds ps →
 vs.length=ts.length/\∃ xs,yj shs xs/\xs.length=vs.length/\∀ (k:Nat) (x:V1 C),xs[k]?=some x->∃ u,vs[k]?=some u/\qS (fun _=>@qr qN W (fun _=>none)) x u:=by
 intro ts
 induction ts with
 | nil =>
   intro shs vs ds ps hsh hok h
   obtain ⟨rfl,rfl,rfl⟩:=trodAll_nil h
   have:shs=[]:=by cases shs<;>simp_all
   subst this
   exact ⟨rfl,[],rfl,rfl,fun k x hk=>by simp at hk⟩
 | cons t ts ih =>
   intro shs vs ds ps hsh hok h
   obtain ⟨v,vs',d,ds',p,q,rfl,rfl,rfl,h0,hr⟩:=trodAll_cons h
   cases shs with
   | nil=>simp at hsh
   | cons s shs =>
     simp only [List.map_cons,List.cons.injEq] at hsh
     obtain ⟨h1,xs,h2,h3,h4⟩:=ih shs vs' ds' q hsh.2 (fun j t v ht hv=>hok (j+1) t v (by simpa using ht) (by simpa using hv)) hr
     obtain ⟨y,h5,h6⟩:=qkZ hsh.1 (hok 0 t v rfl rfl) h0
     refine ⟨by simp [h1],(s.isSt,y)::xs,⟨y,xs,rfl,h5,h2⟩,by simp [h3],fun k x hk=>?_⟩
     cases k with
     | zero=>simp at hk;subst hk;exact ⟨v,rfl,h6⟩
     | succ k=>obtain ⟨u,h7,h8⟩:=h4 k x (by simpa using hk);exact ⟨u,by simpa using h7,h8⟩
theorem qkh {H:Type}{enc:TypeId×Value->H}{P:Program}(hl:laidOutB P=true){W W':World}(hb:Below W.heap.size W W'):∀ (ts:List TypeId) (vs:List Value) (ds:List (DataW H)) (ps:List MemPlace),(ts.all fun t=>P.readableRec t&&decide (t<P.types.size))=true →
 DataW.TrodAll enc P W 0 (fun _=>true) true ts vs ds ps->(∀ x∈ps,x.block<W.heap.size)->DataW.TrodAll enc P W' 0 (fun b=>decide (b<W.heap.size)) true ts vs ds ps:=by
 intro ts
 induction ts with
 | nil=>intro vs ds ps _ h _;obtain ⟨rfl,rfl,rfl⟩:=trodAll_nil h;exact rfl
 | cons t ts ih =>
   intro vs ds ps ht h hlt
   obtain ⟨v,vs',d,ds',p,q,rfl,rfl,rfl,h0,hr⟩:=trodAll_cons h
   simp only [List.all_cons,Bool.and_eq_true,decide_eq_true_eq] at ht
   exact ⟨p,q,Below.trod hl ht.1.1 ht.1.2 h0 hb (fun x hx=>hlt x (List.mem_append.2 (.inl hx))),ih vs' ds' q ht.2 hr (fun x hx=>hlt x (List.mem_append.2 (.inr hx))),rfl⟩
def qsb:TV O:=.v (false,[.fz (.bool true)])
@[reducible] def YS [qf] (n:Nat):ql:=⟨fun _=>False,fun _=>.bool false,n,fun _=>none,qf.fut⟩
theorem qox [qf] {P:Program}{g:FuncId}{W:World}{args:Array Value}{xs:List (V1 C)}(h:zG P g xs qsb)(hl:xs.length=args.toList.length)(hk:∀ (k:Nat) (x:V1 C),xs[k]?=some x->∃ u,args.toList[k]?=some u/\qS (fun _=>@qr qN W (fun _=>none)) x u) :
 Calls P g args W fun e W'=>e=.returned (.bool true)/\Below W.heap.size W W':=by
 refine (h.2 (YS W.heap.size) W args rfl (@Ks.mk (YS W.heap.size) _ (fun b hb=>hb.elim) (Nat.le_refl _)) (by simpa using hl.symm) (fun k x hx=>?_)).mono ?_
 . obtain ⟨u,h1,h2⟩:=hk k x hx
   refine ⟨u,by simpa using h1,qS.imp (fun j c v hr=>?_) h2⟩
   refine qr.swap hr (fun b _ hb=>⟨rfl,fun h=>h⟩) fun b hb=>?_
   unfold ql.memo
   show (if b<0 then none else none)=(if b<W.heap.size then none else _)
   rw [if_pos hb,if_neg (by omega)]
 . rintro e W' ⟨v,rfl,hres⟩
   obtain ⟨σr,_,_,hrep,_⟩:=@jb.rep (YS W.heap.size) _ _ _ _ hres
   have hv:@qq (YS W.heap.size) W' σr (qy,[(0,0)]) (.fz (.bool true)) v:=hrep
   have:v=.bool true:=by
    cases hv with
    | fz _ _ _ h=>exact @qr.bool_inv (YS W.heap.size) _ _ _ _ h
   subst this
   have hb:=@jb.below (YS W.heap.size) _ _ _ _ hres
   refine ⟨rfl,@zJ.os (YS W.heap.size) _ _ hb,@zJ.tape (YS W.heap.size) _ _ hb,@zJ.output (YS W.heap.size) _ _ hb,@zJ.size (YS W.heap.size) _ _ hb,fun b hlt=>?_⟩
   rcases @zJ.heap (YS W.heap.size) _ _ hb b hlt with h | ⟨g,x,x',h1,_⟩
   . exact h
   . exfalso
     unfold ql.memo at h1
     have h1:(if b<W.heap.size then none else qf.fut)=some g:=h1
     rw [if_pos hlt] at h1
     cases h1
end Go.Proofs.YtfafehnchmelnaaGreat.Ai
namespace Go.Proofs.YtfafehnchmelnaaGreat.Ai
open Go
theorem qfC (n:Nat):@NatCast.natCast Int instNatCastInt n=(n:Int):=rfl
theorem Cue.eta (q:Cue):(⟨q.name,q.after,q.atEnd,q.low,q.high,q.min,q.max,q.free,q.cond,q.watch,q.device⟩:Cue)=q:=rfl
theorem Tie.eta (q:Tie):(⟨q.src,q.dst,q.low,q.high,q.free⟩:Tie)=q:=rfl
theorem Edge.eta (q:Go.Proofs.YtfafehnchmelnaaGreat.Ai.Edge):(⟨q.src,q.dst,q.w⟩:Go.Proofs.YtfafehnchmelnaaGreat.Ai.Edge)=q:=rfl
theorem Qq.eta (q:Qq):(⟨q.src,q.dst,q.low,q.high⟩:Qq)=q:=rfl
theorem qi.eta (q:qi):(⟨q.name,q.label,q.watch⟩:qi)=q:=rfl
theorem qrJ {k:IntKind}{y:List C}(h:Wt (.int k) y):∃ n,y=[.int k n]/\k.min<=n/\n<=k.max:=h
def inI (n:Int):Prop:=IntKind.min .i64<=n/\n<=IntKind.max .i64
theorem kv (n:Int):inI n↔-9223372036854775808<=n/\n<=9223372036854775807:=Iff.rfl
theorem VG {α:Type}{e:Sh}{f:α->List C}{P:α->Prop}(he:∀ y,Wt e y->∃ a,y=f a/\P a):∀ {ys:List (List C)},(∀ y,y∈ys->Wt e y)->∃ l:List α,ys=l.map f/\∀ a∈l,P a
 | [],_=>⟨[],rfl,fun _ h=>by cases h⟩
 | y::ys,h=>by
   obtain ⟨a,h1,h2⟩:=he y (h y List.mem_cons_self)
   obtain ⟨l,h3,h4⟩:=VG he (ys:=ys) (fun z hz=>h z (List.mem_cons_of_mem _ hz))
   exact ⟨a::l,by rw [h1,h3];rfl,fun b hb=>(List.mem_cons.1 hb).elim (fun e=>e▸h2) (h4 b)⟩
theorem qpw {y:List C}(h:Wt (.sl (.int .i64)) y):∃ l:List Int,y=[(D.sl (.i l)).er]/\l.length<=maxLen/\∀ n∈l,inI n:=by
 obtain ⟨ys,rfl,h1,h2⟩:=h
 obtain ⟨l,rfl,h3⟩:=VG (f:=fun n:Int=>[C.int .i64 n]) (P:=inI) (fun y hy=>by obtain ⟨n,h1,h2⟩:=hy;exact ⟨n,h1,h2⟩) h2
 exact ⟨l,rfl,by simpa using h1,h3⟩
def qnK:Sh:=.st [.str,.sl (.int .i64),.int .i64]
def qqE:Sh:=.st [.int .i64,.int .i64,.int .i64,.int .i64,.bool]
def qgd:Sh:=.st [.sl qnK,.sl qqE,.int .i64]
structure ql1 (q:qi):Prop where
 name:q.name.size<=maxLen
 len:q.label.length<=maxLen
 label:∀ n∈q.label,inI n
 watch:inI q.watch
structure qqi (q:Tie):Prop where
 src:inI q.src
 dst:inI q.dst
 low:inI q.low
 high:inI q.high
structure qcW (t:qj):Prop where
 len:t.nodes.length<=maxLen
 tlen:t.ties.length<=maxLen
 nodes:∀ q∈t.nodes,ql1 q
 ties:∀ q∈t.ties,qqi q
 hor:inI t.hor
theorem qpp {y:List C}(h:Wt qnK y):∃ q:qi,y=D.erL q.d/\ql1 q:=by
 obtain ⟨_,_,rfl,⟨x1,rfl,h1⟩,h⟩:=h
 obtain ⟨_,_,rfl,h2,h⟩:=h
 obtain ⟨_,_,rfl,⟨x3,rfl,h3⟩,h⟩:=h
 obtain rfl:=h
 obtain ⟨l,rfl,h4,h5⟩:=qpw h2
 exact ⟨⟨x1,l,x3⟩,rfl,h1,h4,h5,h3⟩
theorem qry {y:List C}(h:Wt qqE y):∃ q:Tie,y=D.erL q.d/\qqi q:=by
 obtain ⟨_,_,rfl,⟨x1,rfl,h1⟩,h⟩:=h
 obtain ⟨_,_,rfl,⟨x2,rfl,h2⟩,h⟩:=h
 obtain ⟨_,_,rfl,⟨x3,rfl,h3⟩,h⟩:=h
 obtain ⟨_,_,rfl,⟨x4,rfl,h4⟩,h⟩:=h
 obtain ⟨_,_,rfl,⟨x5,rfl⟩,h⟩:=h
 obtain rfl:=h
 exact ⟨⟨x1,x2,x3,x4,x5⟩,rfl,h1,h2,h3,h4⟩
theorem qo5 {y:List C}(h:Wt qgd y):∃ t:qj,y=D.erL t.d/\qcW t:=by
 obtain ⟨_,_,rfl,⟨ys,rfl,h1,h2⟩,h⟩:=h
 obtain ⟨_,_,rfl,⟨zs,rfl,h3,h4⟩,h⟩:=h
 obtain ⟨_,_,rfl,⟨x3,rfl,h5⟩,h⟩:=h
 obtain rfl:=h
 obtain ⟨l,rfl,h6⟩:=VG (fun y hy=>qpp hy) h2
 obtain ⟨ts,rfl,h7⟩:=VG (fun y hy=>qry hy) h4
 exact ⟨⟨l,ts,x3⟩,rfl,by simpa using h1,by simpa using h3,h6,h7,h5⟩
theorem qhQ {ys:List (V1 C)}(h:yj [] ys):ys=[]:=h
theorem WO {s:Sh}{r:List Sh}{ys:List (V1 C)}(h:yj (s::r) ys):∃ y zs,ys=(s.isSt,y)::zs/\Wt s y/\yj r zs:=h
end Go.Proofs.YtfafehnchmelnaaGreat.Ai
