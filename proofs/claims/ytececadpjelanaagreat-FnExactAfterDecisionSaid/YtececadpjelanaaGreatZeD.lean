/- The law's proof, part 4 of 10: what of its author's texts it needs; no condition. -/
import Derived.Carry
import Derived.ChangeShapes
import Derived.Test.YtececadpjelanaaGreatZeC
set_option linter.unusedSectionVars false
set_option linter.unusedSimpArgs false
set_option linter.unusedVariables false
namespace Go.Proofs.YtececadpjelanaaGreat.Ai
open Go
theorem R.Sim.mk {α:Type}{ps:List Prop}{a:α}{Q:α->Prop}(h:Holds ps->Q a):R.Sim (some (ps,a)) Q:=by
 intro qs b e hp;injection e with e;injection e with e1 e2;subst e1 e2;exact h hp
def qmu:Option B->Option (Option Int)
 | none=>some none
 | some (.fz (.int _ n))=>some (some n)
 | some _=>none
def lhB (M:MB):Option Int->Option Int->Nat->R (Nat×Nat)
 | none,none,len=>R.ok (0,len)
 | some l,none,len=>some ([M.pGeZ l,M.pLeN (M.toN l) len],(M.toN l,len))
 | none,some h,len=>some ([M.pGeZ h,M.pLeN (M.toN h) len],(0,M.toN h))
 | some l,some h,len=>some ([M.pGeZ l,M.pGeZ h,M.pLeN (M.toN l) (M.toN h),M.pLeN (M.toN h) len],(M.toN l,M.toN h))
theorem Holds.four {p q r t:Prop}(h:Holds [p,q,r,t]):p/\q/\r/\t:=⟨h p (by simp),h q (by simp),h r (by simp),h t (by simp)⟩
theorem qbc (lo hi:Option Int)(len:Nat):(lhB qk lo hi len).Sim fun r=>std.lh lo hi len=some r/\r.1<=r.2/\r.2<=len:=by
 cases lo with
 | none =>
   cases hi with
   | none=>exact R.Sim.ok ⟨rfl,Nat.zero_le _,Nat.le_refl _⟩
   | some h =>
     refine R.Sim.mk fun hp=>?_
     obtain ⟨h1,h2⟩:=hp.two
     simp only [qk] at h1 h2
     refine ⟨?_,Nat.zero_le _,h2⟩
     show Q8 none (some h) len=_
     simp only [Q8]
     rw [if_pos ⟨h1,by omega⟩]
     rfl
 | some l =>
   cases hi with
   | none =>
     refine R.Sim.mk fun hp=>?_
     obtain ⟨h1,h2⟩:=hp.two
     simp only [qk] at h1 h2
     refine ⟨?_,h2,Nat.le_refl _⟩
     show Q8 (some l) none len=_
     simp only [Q8]
     rw [if_pos ⟨h1,by omega⟩]
     rfl
   | some h =>
     refine R.Sim.mk fun hp=>?_
     obtain ⟨h1,h2,h3,h4⟩:=hp.four
     simp only [qk] at h1 h2 h3 h4
     refine ⟨?_,h3,h4⟩
     show Q8 (some l) (some h) len=_
     simp only [Q8]
     rw [if_pos ⟨h1,by omega,by omega⟩]
     rfl
def evO (F:SF):Option Operand->Option B
 | none=>none
 | some x=>some (zJ F x)
theorem qjj (F:SF)(x:Option Operand):(evO F x).map B.er=jJ F.er x:=by
 cases x with
 | none=>rfl
 | some y=>simp only [evO,Option.map_some,qE,jJ]
theorem qgw {x:Option B}{r:Option Int}(h:qmu x=some r):bnd (x.map B.er)=some r:=by
 unfold qmu at h
 split at h
 . simp only [Option.some.injEq] at h;subst h;rfl
 . simp only [Option.some.injEq] at h;subst h;rfl
 . cases h
def qgv:Option B->Bool
 | none=>true
 | some _=>false
def qai (M:MB)(F:SF)(str:Bool)(size:Nat)(x:B)(lo hi mx:Option B):R (TV B) :=
 match qgv mx with
 | false=>none
 | true=>(match qmu lo,qmu hi with
   | some lo,some hi=>(match str with
     | true=>(match x with
       | .fz (.str s)=>(lhB M lo hi (M.sLen s)).bd fun r=>R.ok (.v (false,[.fz (.str (M.sCut s r.1 r.2))]))
       | _=>none)
     | false=>(match x with
       | .fz (.sl x)=>(match nq x.sz size with
         | true=>(lhB M lo hi (x.len M)).bd fun r=>(match x.cut M r.1 (M.nSub r.2 r.1) with
           | some y=>R.ok (.v (false,[.fz (.sl y)]))
           | none=>none)
         | false=>none)
       | .rf p _ off len=>(F.atR M p).bd fun o=>(match o with
         | .osl x=>(match nq x.sz size with
           | true=>(lhB M lo hi len).bd fun r=>some ([M.pLeN (M.nAdd off len) (x.len M)],.v (false,[.rf p false (M.nAdd off r.1) (M.nSub r.2 r.1)]))
           | false=>none)
         | _=>none)
       | _=>none))
   | _,_=>none)
theorem qaD {α:Type}{l:List (List α)}{n:Nat}(h:∀ y∈l,y.length=n):(l.all fun y=>y.length == n)=true:=by
 rw [List.all_eq_true];intro y hy;simp [h y hy]
theorem Vg (F:SF)(str:Bool)(size:Nat)(x:B)(lo hi mx:Option B):(qai qk F str size x lo hi mx).Sim fun v =>
 (match str with | true=>W2 std x.er (lo.map B.er) (hi.map B.er) (mx.map B.er) | false=>QK std F.er size x.er (lo.map B.er) (hi.map B.er) (mx.map B.er))=some (.val (v.er B.erL)):=by
 unfold qai
 split
 . exact R.Sim.none'
 . rename_i hmx
   have hm:mx.map B.er=none:=by cases mx with | none=>rfl | some _=>simp [qgv] at hmx
   rw [hm]
   split
   . rename_i lo' hi' hl hh
     have hl:=qgw hl
     have hh:=qgw hh
     cases str with
     | true =>
       dsimp only
       split
       . rename_i s
         refine R.Sim.bd (qbc lo' hi' _) fun r hr=>R.Sim.ok ?_
         simp only [B.er,D.er,W2,hl,hh]
         have:std.lh lo' hi' (std.sLen s)=some r:=hr.1
         rw [this]
         rfl
       . exact R.Sim.none'
     | false =>
       dsimp only
       split
       . rename_i x
         split
         . rename_i hsz
           obtain hsz:=Nat.eq_of_beq_eq_true hsz
           refine R.Sim.bd (qbc lo' hi' _) fun r hr=>?_
           split
           . rename_i y hy
             refine R.Sim.ok ?_
             simp only [B.er,D.er,QK,hl,hh]
             have h1:std.lh lo' hi' (std.cLen x.rc)=some r:=by have:=hr.1;show Q8 lo' hi' x.rc.length=_;rw [LL.len_rc];exact this
             have h2:std.cSz size x.rc=true:=qaD (by rw [<-hsz];exact x.rc_sz)
             rw [h1,h2]
             show some (QR.val (.v (false,[.fz (.sl ((x.rc.drop r.1).take (r.2-r.1)))])))=_
             have h3:=LL.cut_rc hy
             rw [show qk.nSub r.2 r.1=r.2-r.1 from rfl] at h3
             rw [<-h3]
             rfl
           . exact R.Sim.none'
         . exact R.Sim.none'
       . rename_i p w off len
         refine R.Sim.bd (F.atR_sim p) fun o ho=>?_
         split
         . rename_i x
           split
           . rename_i hsz
             obtain hsz:=Nat.eq_of_beq_eq_true hsz
             refine R.Sim.bd (qbc lo' hi' _) fun r hr=>R.Sim.mk fun hp=>?_
             simp only [B.er,QK,hl,hh,ho,W.er]
             have h2:(std.oSz size x.ro&&std.nLe (std.nAdd off len) (std.oLen x.ro))=true:=by
              have h3:std.oSz size x.ro=true:=qaD (by rw [<-hsz];exact x.ro_sz)
              have h4:off+len<=x.len qk:=hp.one
              rw [h3]
              show decide (off+len<=x.ro.length)=true
              rw [LL.len_ro]
              simpa using h4
             rw [hr.1,h2]
             rfl
           . exact R.Sim.none'
         . exact R.Sim.none'
       . exact R.Sim.none'
   . exact R.Sim.none'
def qfs (off:Nat):B->Option B
 | .pp p i j=>some (.pp p i (j+off))
 | .fz (.ptr cs)=>some (.fz (.ptr (jX cs off)))
 | _=>none
theorem qiJ {off:Nat}{x y:B}(h:qfs off x=some y):yw off x.er=some y.er:=by
 unfold qfs at h
 split at h
 . simp only [Option.some.injEq] at h;subst h;rfl
 . simp only [Option.some.injEq] at h;subst h;simp only [B.er,D.er,yw,D.erL_eq,Yt]
 . cases h
def qdQ (M:MB)(F:SF)(size:Nat)(x i:B):R B :=
 match i with
 | .fz (.int _ n)=>(match x with
   | .rf p w off len=>(F.atR M p).bd fun o=>(match o with
     | .osl y=>(match nq y.sz size with
       | true=>(match w with
         | true=>some ([M.pIx n len,M.pEqN off 0,M.pEqN len (y.len M)],.pp p (false,M.toN n) 0)
         | false=>some ([M.pIx n len,M.pLeN (M.nAdd off len) (y.len M)],.pp p (false,M.nAdd off (M.toN n)) 0))
       | false=>none)
     | _=>none)
   | .fz (.sl y)=>(match nq y.sz size with
     | true=>some ([M.pIx n (y.len M)],.fz (.ptr (y.atD M (M.toN n))))
     | false=>none)
   | _=>none)
 | _=>none
theorem qll (x:LL)(n:Nat)(M:MB):(x.atD M n).length=x.sz:=by cases x<;>rfl
theorem qec (F:SF)(size:Nat)(x i:B):(qdQ qk F size x i).Sim fun y=>Zl std x.er i.er=some y.er/\jQ std F.er size y.er=true:=by
 unfold qdQ
 split
 . rename_i k n
   split
   . rename_i p w off len
     refine R.Sim.bd (F.atR_sim p) fun o ho=>?_
     split
     . rename_i y
       split
       . rename_i hsz
         obtain hsz:=Nat.eq_of_beq_eq_true hsz
         have key:0<=n->n<len->off+len<=y.len qk->Zl std (B.rf p w off len).er (B.fz (.int k n)).er=some (A.pp p.er (off+n.toNat) 0)/\jQ std F.er size (A.pp p.er (off+n.toNat) 0)=true:=by
          intro h1 h2 h3
          have hix:std.ix n len=some n.toNat:=if_pos ⟨h1,h2⟩
          refine ⟨by simp only [B.er,D.er,Zl,hix];rfl,?_⟩
          have hlt:off+n.toNat<y.ro.length:=by rw [LL.len_ro];omega
          have hg:std.oGet y.ro (off+n.toNat)=some y.ro[off+n.toNat]:=List.getElem?_eq_getElem hlt
          simp only [jQ,ho,W.er,hg]
          have:=y.ro_sz _ (List.getElem_mem hlt)
          rw [kf,this,hsz]
          simp
         split
         . refine R.Sim.mk fun hp=>?_
           obtain ⟨⟨h1,h2⟩,h3,h4⟩:=hp.three
           have h3:off=0:=h3
           have h4:len=y.len qk:=h4
           have:=key h1 h2 (by omega)
           subst h3
           simpa [B.er,qk] using this
         . refine R.Sim.mk fun hp=>?_
           obtain ⟨⟨h1,h2⟩,h3⟩:=hp.two
           exact key h1 h2 h3
       . exact R.Sim.none'
     . exact R.Sim.none'
   . rename_i y
     split
     . rename_i hsz
       obtain hsz:=Nat.eq_of_beq_eq_true hsz
       refine R.Sim.mk fun hp=>?_
       obtain ⟨h1,h2⟩:=hp.one
       have hlt:n.toNat<y.len qk:=by omega
       have hix:std.ix n (std.cLen y.rc)=some n.toNat:=by
        show (if 0<=n/\n<(y.rc.length:Int) then some n.toNat else none)=_
        rw [LL.len_rc,if_pos ⟨h1,h2⟩]
       have hg:std.cGet y.rc n.toNat=some ((y.atD qk n.toNat).map D.er):=LL.rc_get y _ hlt
       refine ⟨by simp only [B.er,D.er,Zl,hix,hg,D.erL_eq];rfl,?_⟩
       simp only [B.er,D.er,jQ,D.erL_eq,kf,List.length_map]
       show nq (y.atD qk n.toNat).length size=true
       rw [qll,hsz]
       simp
     . exact R.Sim.none'
   . exact R.Sim.none'
 . exact R.Sim.none'
def qnz (M:MB):B->Option Int
 | .fz (.sl x)=>some (M.nI (x.len M))
 | .fz .nilsl=>some 0
 | .rf _ _ _ len=>some (M.nI len)
 | _=>none
theorem qlL {x:B}{n:Int}(h:qnz qk x=some n):qlz std x.er=some n:=by
 unfold qnz at h
 split at h
 . rename_i x
   simp only [Option.some.injEq] at h
   subst h
   show some (std.nI (x.rc.length))=_
   rw [LL.len_rc]
   rfl
 . simp only [Option.some.injEq] at h;subst h;rfl
 . simp only [Option.some.injEq] at h;subst h;rfl
 . cases h
def qee (M:MB)(F:SF):B->R ByteArray
 | .fz .nilsl=>R.ok (M.sOf [])
 | .fz (.sl (.u l))=>R.ok (M.sOf l)
 | .rf p _ off len=>(F.atR M p).bd fun o=>(match o with
   | .osl (.u l)=>some ([M.pEqN off 0,M.pEqN len (M.len l)],M.sOf l)
   | .onil=>some ([M.pEqN off 0,M.pEqN len 0],M.sOf [])
   | _=>none)
 | _=>none
theorem qkY (l:List Int):QQ (l.map fun n=>[C.int .u8 n])=some (l.map fun n=>UInt8.ofNat n.toNat):=by
 induction l with
 | nil=>rfl
 | cons a r ih=>simp [QQ,ih]
theorem qeP (F:SF)(x:B):(qee qk F x).Sim fun s=>∃ xs,QJ std F.er x.er=some xs/\std.sOf xs=some s:=by
 have key:∀ l:List Int,std.sOf (l.map fun n=>[C.int .u8 n])=some (qk.sOf l):=by
  intro l;show (QQ _).map _=_;rw [qkY];rfl
 unfold qee
 split
 . exact R.Sim.ok ⟨[],rfl,key []⟩
 . exact R.Sim.ok ⟨_,rfl,key _⟩
 . rename_i p w off len
   refine R.Sim.bd (F.atR_sim p) fun o ho=>?_
   split
   . rename_i l
     refine R.Sim.mk fun hp=>?_
     obtain ⟨h1,h2⟩:=hp.two
     have h1:off=0:=h1
     have h2:len=l.length:=h2
     subst h1 h2
     refine ⟨l.map fun n=>[C.int .u8 n],?_,key l⟩
     simp only [B.er,QJ,ho,W.er,LL.ro]
     show (match decide (0+l.length<=(l.map fun n=>[O.fz (C.int .u8 n)]).length) with | true=>some (O.frzLL (((l.map fun n=>[O.fz (C.int .u8 n)]).drop 0).take l.length)) | false=>none)=_
     rw [List.drop_zero,List.take_of_length_le (by simp)]
     simp [O.frzLL_eq,O.frz,Function.comp_def]
   . refine R.Sim.mk fun hp=>?_
     obtain ⟨h1,h2⟩:=hp.two
     have h1:off=0:=h1
     have h2:len=0:=h2
     subst h1 h2
     refine ⟨[],?_,key []⟩
     simp only [B.er,QJ,ho,W.er]
     rfl
   . exact R.Sim.none'
 . exact R.Sim.none'
mutual
def B.okB:B->Bool
 | .un=>false
 | .ud=>false
 | .fz .un=>false
 | .clo _ caps=>qex caps
 | _=>true
def qex:List B->Bool
 | []=>true
 | a::r=>match a.okB with | true=>qex r | false=>false
end
mutual
theorem qnB:(x:B)->x.er.ok=x.okB
 | .un=>rfl
 | .ud=>rfl
 | .fz d=>by cases d<;>rfl
 | .rf ..=>rfl
 | .pp ..=>rfl
 | .clo f caps=>by simp only [B.er,A.ok,B.okB,JP caps]
theorem JP:(l:List B)->okL (B.erL l)=qex l
 | []=>rfl
 | a::r=>by simp only [B.erL,okL,qex,qnB a,JP r];cases a.okB<;>rfl
end
theorem Wp (l:List B):cnt (B.erL l)=cnt l:=by induction l with | nil=>rfl | cons a r ih=>simp [B.erL,cnt,ih]
def yP:List B->Nat->List B->Option (List B)
 | as,0,[]=>some as
 | [],_,_=>none
 | a::r,off+1,cs=>match yP r off cs with | some l=>some (a::l) | none=>none
 | _::r,0,c::cs=>match yP r 0 cs with | some l=>some (c::l) | none=>none
theorem qau:∀ (as:List B) (off:Nat) (cs:List B) {r:List B},yP as off cs=some r->putCells (B.erL as) off (B.erL cs)=some (B.erL r)
 | as,0,[],r,h=>by
   have:yP as 0 []=some as:=by cases as<;>rfl
   rw [this] at h
   simp only [Option.some.injEq] at h
   subst h
   cases as<;>rfl
 | [],0,_::_,r,h=>by simp [yP] at h
 | [],off+1,[],r,h=>by simp [yP] at h
 | [],off+1,_::_,r,h=>by simp [yP] at h
 | a::as,off+1,cs,r,h=>by
   simp only [yP] at h
   split at h
   . rename_i l hl
     simp only [Option.some.injEq] at h
     subst h
     simp only [B.erL,putCells,qau as off cs hl]
   . cases h
 | a::as,0,c::cs,r,h=>by
   simp only [yP] at h
   split at h
   . rename_i l hl
     simp only [Option.some.injEq] at h
     subst h
     have:=qau as 0 cs hl
     simp only [B.erL,putCells,this]
   . cases h
def VQ (F:SF)(fs:List (Nat×Nat×Bool)):List B->List (Nat×Operand)->Option (List B)
 | as,[]=>some as
 | as,(i,x)::r=>match nth fs i with
   | some (off,size,_)=>(match evB F x with
     | .v (_,cs)=>(match qex cs with
       | true=>(match nq (cnt cs) size with
         | true=>(match yP as off cs with | some as'=>VQ F fs as' r | none=>none)
         | false=>none)
       | false=>none)
     | .tup _=>none)
   | none=>none
theorem YE (F:SF)(fs:List (Nat×Nat×Bool)):∀ (l:List (Nat×Operand)) (as:List B) {r:List B},VQ F fs as l=some r->QU F.er fs (B.erL as) l=some (B.erL r)
 | [],as,r,h=>by simp only [VQ,Option.some.injEq] at h;subst h;rfl
 | (i,x)::l,as,r,h=>by
   simp only [VQ] at h
   split at h
   . rename_i off size g hi
     split at h
     . rename_i g' cs hx
       split at h
       . rename_i hok
         split at h
         . rename_i hsz
           split at h
           . rename_i as' hp
             simp only [QU,hi,<-kz,hx,TV.er,zZ,JP,hok,Wp,hsz,Bool.and_self,qau as off cs hp]
             exact YE F fs l as' h
           . cases h
         . cases h
       . cases h
     . cases h
   . cases h
def zD:C->Option B
 | .un=>some .un
 | .int k n=>some (.fz (.int k n))
 | .bool b=>some (.fz (.bool true b))
 | .str s=>some (.fz (.str s))
 | .nilsl=>some (.fz .nilsl)
 | _=>none
def zDL:List C->Option (List B)
 | []=>some []
 | c::r=>match zD c,zDL r with | some d,some l=>some (d::l) | _,_=>none
theorem qje:∀ (l:List C) {r:List B},zDL l=some r->B.erL r=fzU l
 | [],r,h=>by simp only [zDL,Option.some.injEq] at h;subst h;rfl
 | c::l,r,h=>by
   simp only [zDL] at h
   split at h
   . rename_i d l' hd hl
     simp only [Option.some.injEq] at h
     subst h
     have h1:=qje l hl
     cases c<;>simp only [zD] at hd<;>first | (cases hd;done) | (injection hd with hd;subst hd;simp only [B.erL,B.er,D.er,h1,fzU,zA])
   . cases h
def qga (F:SF):List Operand->List B
 | []=>[]
 | x::r=>zJ F x::qga F r
theorem qjL (F:SF)(l:List Operand):B.erL (qga F l)=qaq F.er l:=by induction l with | nil=>rfl | cons a r ih=>simp only [qga,B.erL,qaq,qE,ih]
def vD (x:R D):R (TV B):=x.bd fun d=>R.ok (.v (false,[.fz d]))
def vB (x:Option B):R (TV B):=match x with | some b=>R.ok (.v (false,[b])) | none=>none
def qmi (M:MB)(T:Nat->Option Ty)(F:SF):Op->R (TV B)
 | .move x=>R.ok (evB F x)
 | .pick c a b=>(match zJ F c with
   | .fz (.bool true b')=>R.ok (match b' with | true=>evB F a | false=>evB F b)
   | _=>none)
 | .binOp op t x y _=>(match T t with
   | some ty=>vD (qnj M ty.kind op (zJ F x) (zJ F y))
   | none=>none)
 | .unOp op _ x=>vD (qnl M op (zJ F x))
 | .load t x=>(match T t with
   | some ty=>(qaZ M F ty.size (zJ F x)).bd fun as=>oR (qlM ty.agg as)
   | none=>none)
 | .fieldAddr t x f=>(match T t with
   | some ⟨.st fs,_,_,_,_⟩=>(match nth fs f with
     | some (_,0,_)=>none
     | some (off,_+1,_)=>vB (qfs off (zJ F x))
     | none=>none)
   | _=>none)
 | .indexAddr t x i=>(match T t with
   | some ⟨.sl e,_,_,_,_⟩=>(match T e with
     | some ty=>(qdQ M F ty.size (zJ F x) (zJ F i)).bd fun a=>R.ok (.v (false,[a]))
     | none=>none)
   | _=>none)
 | .index t x i=>(match T t with
   | some ⟨.str,_,_,_,_⟩=>(match zJ F x,zJ F i with
     | .fz (.str s),.fz (.int _ n)=>some ([M.pIx n (M.sLen s)],.v (false,[.fz (.int .u8 (M.sAt s (M.toN n)))]))
     | _,_=>none)
   | _=>none)
 | .slice t x lo hi mx=>(match T t with
   | some ⟨.str,_,_,_,_⟩=>qai M F true 0 (zJ F x) (evO F lo) (evO F hi) (evO F mx)
   | some ⟨.sl e,_,_,_,_⟩=>(match T e with
     | some ty=>qai M F false ty.size (zJ F x) (evO F lo) (evO F hi) (evO F mx)
     | none=>none)
   | _=>none)
 | .convert s t x=>(match T s,T t with
   | some ⟨ks,_,_,_,_⟩,some ⟨.int k,_,_,_,_⟩=>(match zJ F x with
     | .fz (.int _ n)=>(match ks with
       | .int _=>R.ok (.v (false,[.fz (.int k (M.iWrap k n))]))
       | _=>none)
     | _=>none)
   | some ⟨.str,_,_,_,_⟩,some ⟨.str,_,_,_,_⟩=>(match zJ F x with
     | .fz (.str s)=>R.ok (.v (false,[.fz (.str s)]))
     | _=>none)
   | some ⟨.sl e,_,_,_,_⟩,some ⟨.str,_,_,_,_⟩=>(match T e with
     | some ⟨.int .u8,_,_,_,_⟩=>(qee M F (zJ F x)).bd fun s=>R.ok (.v (false,[.fz (.str s)]))
     | _=>none)
   | _,_=>none)
 | .extract x i=>(match evB F x with
   | .tup xs=>(match nth xs i with
     | some y=>R.ok (.v y)
     | none=>none)
   | _=>none)
 | .makeFunc (.func f) ⟨[]⟩ ⟨caps⟩=>R.ok (.v (false,[.clo f (qga F caps)]))
 | .build t ⟨parts⟩=>(match T t with
   | some ⟨.st fs,_,_,_,z⟩=>(match zDL z with
     | some ds=>(match VQ F fs ds parts with
       | some as=>R.ok (.v (true,as))
       | none=>none)
     | none=>none)
   | _=>none)
 | .call ⟨.builtin .len,⟨[x]⟩,⟨[t]⟩⟩=>(match T t with
  | some ⟨.str,_,_,_,_⟩=>(match zJ F x with | .fz (.str s)=>R.ok (.v (false,[.fz (.int .i64 (M.nI (M.sLen s)))])) | _=>none)
  | some ⟨.sl _,_,_,_,_⟩=>(match qnz M (zJ F x) with | some n=>R.ok (.v (false,[.fz (.int .i64 n)])) | none=>none)
  | _=>none)
 | .call ⟨.builtin .max,⟨[x,y]⟩,_⟩=>(match zJ F x,zJ F y with
  | .fz (.int k a),.fz (.int k' b)=>(match Jb k k' with | true=>R.ok (.v (false,[.fz (.int k (M.iMax a b))])) | false=>none)
  | _,_=>none)
 | .call ⟨.builtin .min,⟨[x,y]⟩,_⟩=>(match zJ F x,zJ F y with
  | .fz (.int k a),.fz (.int k' b)=>(match Jb k k' with | true=>R.ok (.v (false,[.fz (.int k (M.iMin a b))])) | false=>none)
  | _,_=>none)
 | _=>none
theorem Yx (xs:List (V1 B))(i:Nat):(qw B.erL xs)[i]?=(xs[i]?).map (zZ B.erL):=by
 induction xs generalizing i with
 | nil=>simp [qw]
 | cons x r ih=>cases i<;>simp [qw,ih]
theorem qbY (T:Nat->Option Ty)(F:SF)(op:Op):(qmi qk T F op).Sim fun v=>qop std T F.er op=some (.val (v.er B.erL)):=by
 unfold qmi
 split
 . exact R.Sim.ok (by simp only [qop,kz])
 . rename_i c a b
   split
   . rename_i b' hc
     refine R.Sim.ok ?_
     have:ev1 F.er c=.fz (.bool b'):=by rw [<-qE,hc];rfl
     simp only [qop,this]
     cases b'<;>simp only [kz]
   . exact R.Sim.none'
 . split
   . rename_i ty ht
     refine R.Sim.bd (qkD _ _ _ _) fun d hd=>R.Sim.ok ?_
     simp only [qop,ht,<-qE,hd]
     rfl
   . exact R.Sim.none'
 . refine R.Sim.bd (qkP _ _) fun d hd=>R.Sim.ok ?_
   simp only [qop,<-qE,hd]
   rfl
 . split
   . rename_i ty ht
     refine R.Sim.bd (WV F _ _) fun as has=>W4 fun v hv=>?_
     simp only [qop,ht,<-qE,has,qfU hv]
   . exact R.Sim.none'
 . split
   . rename_i fs g1 g2 g3 g4 ht
     split
     . exact R.Sim.none'
     . rename_i off sz g5 hf
       unfold vB
       split
       . rename_i y hy
         refine R.Sim.ok ?_
         simp only [qop,ht,hf,<-qE,qiJ hy]
         rfl
       . exact R.Sim.none'
     . exact R.Sim.none'
   . exact R.Sim.none'
 . split
   . rename_i e g1 g2 g3 g4 ht
     split
     . rename_i ty hte
       refine R.Sim.bd (qec F _ _ _) fun y ⟨h1,h2⟩=>R.Sim.ok ?_
       simp only [qop,ht,hte,<-qE,h1,h2]
       rfl
     . exact R.Sim.none'
   . exact R.Sim.none'
 . split
   . rename_i g1 g2 g3 g4 ht
     split
     . rename_i s k n hx hi
       refine R.Sim.mk fun hp=>?_
       obtain ⟨h1,h2⟩:=hp.one
       have h2:n<(s.size:Int):=h2
       have hlt:n.toNat<s.size:=by omega
       have hs:std.sAt s n=some (qk.sAt s (qk.toN n)):=by
        show (if 0<=n then (s[n.toNat]?).map (fun b=>(b.toNat:Int)) else none)=_
        rw [if_pos h1]
        simp [qk,hlt]
       simp only [qop,ht,<-qE,hx,hi,B.er,D.er,qet,hs,qiq]
       rfl
     . exact R.Sim.none'
   . exact R.Sim.none'
 . split
   . rename_i g1 g2 g3 g4 ht
     refine (Vg F true 0 _ _ _ _).mono fun v hv=>?_
     simp only [qjj,qE] at hv
     simp only [qop,ht]
     exact hv
   . rename_i e g1 g2 g3 g4 ht
     split
     . rename_i ty hte
       refine (Vg F false _ _ _ _ _).mono fun v hv=>?_
       simp only [qjj,qE] at hv
       simp only [qop,ht,hte]
       exact hv
     . exact R.Sim.none'
   . exact R.Sim.none'
 . split
   . rename_i ks _ _ _ _ k _ _ _ _ hs ht
     split
     . rename_i k' n hx
       split
       . refine R.Sim.ok ?_
         simp only [qop,hs,ht,<-qE,hx,B.er,D.er]
         rfl
       . exact R.Sim.none'
     . exact R.Sim.none'
   . rename_i hs ht
     split
     . rename_i s hx
       refine R.Sim.ok ?_
       simp only [qop,hs,ht,<-qE,hx,B.er,D.er]
       rfl
     . exact R.Sim.none'
   . rename_i e _ _ _ _ _ _ _ _ hs ht
     split
     . rename_i hte
       refine R.Sim.bd (qeP F _) fun s ⟨xs,h1,h2⟩=>R.Sim.ok ?_
       simp only [qop,hs,ht,hte,<-qE,h1,h2]
       rfl
     . exact R.Sim.none'
   . exact R.Sim.none'
 . split
   . rename_i xs hx
     split
     . rename_i y hy
       refine R.Sim.ok ?_
       rw [qq] at hy
       simp only [qop,<-kz,hx,TV.er,qq,Yx,hy,Option.map_some]
     . exact R.Sim.none'
   . exact R.Sim.none'
 . refine R.Sim.ok ?_
   simp only [qop,TV.er,zZ,B.erL,B.er,qjL]
 . split
   . rename_i fs _ _ _ z ht
     split
     . rename_i ds hz
       have h1:=qje z hz
       split
       . rename_i as has
         refine R.Sim.ok ?_
         have:=YE F fs _ _ has
         rw [h1] at this
         simp only [qop,ht,this]
         rfl
       . exact R.Sim.none'
     . exact R.Sim.none'
   . exact R.Sim.none'
 . split
   . rename_i ht
     split
     . rename_i s hx
       refine R.Sim.ok ?_
       simp only [qop,ht,<-qE,hx,B.er,D.er]
       rfl
     . exact R.Sim.none'
   . rename_i ht
     split
     . rename_i n hn
       refine R.Sim.ok ?_
       simp only [qop,ht,<-qE,qlL hn]
       rfl
     . exact R.Sim.none'
   . exact R.Sim.none'
 . split
   . rename_i k a k' b hx hy
     split
     . rename_i hk
       refine R.Sim.ok ?_
       simp only [qop,qc8,evC,<-qE,hx,hy,B.er,D.er,C?,Ka,mxA,hk]
       rfl
     . exact R.Sim.none'
   . exact R.Sim.none'
 . split
   . rename_i k a k' b hx hy
     split
     . rename_i hk
       refine R.Sim.ok ?_
       simp only [qop,qc8,evC,<-qE,hx,hy,B.er,D.er,C?,Ka,mxA,hk]
       rfl
     . exact R.Sim.none'
   . exact R.Sim.none'
 . exact R.Sim.none'
end Go.Proofs.YtececadpjelanaaGreat.Ai
namespace Go.Proofs.YtececadpjelanaaGreat.Ai
open Go
theorem jb (a b:Nat):std.nEq a b=(a == b):=rfl
def qfj (M:MB)(F:SF)(a:B)(q:SP):R (W×Option SP) :=
 match a with
 | .fz .nilsl=>R.ok (.onil,none)
 | .fz .un=>none
 | .fz d=>R.ok (.fz d,none)
 | .rf p _ off len=>(F.atR M p).bd fun o=>(match o with
   | .osl x=>(match nq p.1 q.1 with
     | false=>some ([M.pEqN off 0,M.pEqN len (x.len M)],(.osl x,some p))
     | true=>none)
   | .onil=>(match nq p.1 q.1 with
     | false=>some ([M.pEqN off 0,M.pEqN len 0],(.onil,some p))
     | true=>none)
   | _=>none)
 | .pp p i j=>(F.atR M p).bd fun o=>(match o with
   | .obx cs=>(match i with
     | (true,0)=>(match j with
       | 0=>(match nq p.1 q.1 with
         | false=>R.ok (.obx cs,some p)
         | true=>none)
       | _+1=>none)
     | _=>none)
   | _=>none)
 | _=>none
theorem qeN (F:SF)(a:B)(q:SP):(qfj qk F a q).Sim fun r=>ZF std false F.er a.er q.er=some (r.1.er,r.2.map SP.er):=by
 unfold qfj
 split
 . exact R.Sim.ok rfl
 . exact R.Sim.none'
 . rename_i d h1 h2
   refine R.Sim.ok ?_
   cases d<;>first | rfl | exact (h1 rfl).elim | exact (h2 rfl).elim
 . rename_i p w off len
   refine R.Sim.bd (F.atR_sim p) fun o ho=>?_
   split
   . rename_i x
     split
     . rename_i hne
       refine R.Sim.mk fun hp=>?_
       obtain ⟨h1,h2⟩:=hp.two
       have h1:off=0:=h1
       have h2:len=x.len qk:=h2
       subst h1 h2
       have hne':nq p.er.1 q.er.1=false:=hne
       have hl:std.oLen x.ro=x.len qk:=LL.len_ro x
       simp only [B.er,ZF,ho,W.er,jb,hne',hl]
       simp
     . exact R.Sim.none'
   . split
     . rename_i hne
       refine R.Sim.mk fun hp=>?_
       obtain ⟨h1,h2⟩:=hp.two
       have h1:off=0:=h1
       have h2:len=0:=h2
       subst h1 h2
       have hne':nq p.er.1 q.er.1=false:=hne
       have hl:std.oLen []=0:=rfl
       simp only [B.er,ZF,ho,W.er,jb,hne',hl]
       simp
     . exact R.Sim.none'
   . exact R.Sim.none'
 . rename_i p i j
   refine R.Sim.bd (F.atR_sim p) fun o ho=>?_
   split
   . rename_i cs
     split
     . split
       . split
         . rename_i hne
           refine R.Sim.ok ?_
           have hne':nq p.er.1 q.er.1=false:=hne
           simp only [B.er,ZF,ho,W.er,hne']
           rfl
         . exact R.Sim.none'
       . exact R.Sim.none'
     . exact R.Sim.none'
   . exact R.Sim.none'
 . exact R.Sim.none'
def QP (M:MB)(q:Nat->SP):Nat->Nat->SF->List B->R (List W×SF)
 | _,0,F,[]=>R.ok ([],F)
 | j,n+1,F,a::rest=>(qfj M F a (q j)).bd fun r=>(match r.2 with
   | none=>(QP M q (j+1) n F rest).bd fun s=>R.ok (r.1::s.1,s.2)
   | some p=>(F.liftR M p (q j)).bd fun F1=>(match B.trL (qg5 p (q j)) rest with
     | some l=>(QP M q (j+1) n F1 l).bd fun s=>R.ok (r.1::s.1,s.2)
     | none=>none))
 | _,_,_,_=>none
theorem ql8 (τ':qg->Option qg)(l:List A):A.trL τ' l=l.map (A.tr τ'):=ju τ' l
theorem Zg (q:Nat->SP):∀ (n j:Nat) (F:SF) (as:List B),(QP qk q j n F as).Sim fun r=>∀ (f:A->A) (l:List A),l.map f=B.erL as->jl std false (fun j=>(q j).er) j F.er f l=some (W.erL r.1,r.2.er)
 | 0,j,F,[]=>R.Sim.ok fun f l hl=>by
   cases l with
   | nil=>rfl
   | cons a l=>simp [B.erL] at hl
 | 0,j,F,_::_=>R.Sim.none'
 | n+1,j,F,[]=>R.Sim.none'
 | n+1,j,F,a::rest=>by
   simp only [QP]
   refine R.Sim.bd (qeN F a (q j)) fun r hr=>?_
   split
   . rename_i hr2
     rw [hr2] at hr
     refine R.Sim.bd (Zg q n (j+1) F rest) fun s hs=>R.Sim.ok fun f l hl=>?_
     cases l with
     | nil=>simp [B.erL] at hl
     | cons b l =>
       simp only [List.map_cons,B.erL,List.cons.injEq] at hl
       simp only [jl,hl.1,hr,Option.map_none,hs f l hl.2]
       rfl
   . rename_i p hr2
     rw [hr2] at hr
     refine R.Sim.bd (F.liftR_sim p (q j)) fun F1 hF1=>?_
     split
     . rename_i rest' hrest
       refine R.Sim.bd (Zg q n (j+1) F1 rest') fun s hs=>R.Sim.ok fun f l hl=>?_
       cases l with
       | nil=>simp [B.erL] at hl
       | cons b l =>
         simp only [List.map_cons,B.erL,List.cons.injEq] at hl
         have h1:l.map (fun x=>(f x).tr (jf std p.er (q j).er))=B.erL rest':=by
          rw [<-B.trL_sound (fun x r=>vI) rest hrest,ql8,<-hl.2,List.map_map]
          rfl
         have h2:=hs _ l h1
         simp only [jl,hl.1,hr,Option.map_some,hF1,h2]
         rfl
     . exact R.Sim.none'
def qB (r:Nat)(s:kC)(i:Bool×Nat)(j:Nat):SP:=(r,s++[(i,j)])
theorem qcA (r:Nat)(s:kC)(i:Bool×Nat)(j:Nat):(qB r s i j).er=qAt r (ixs s) i.2 j:=by simp only [qB,SP.er,Jm,qAt];rfl
theorem wB (r:Nat)(s:kC)(i:Bool×Nat)(n:Nat)(F:SF)(as:List B):(QP qk (qB r s i) 0 n F as).Sim fun x=>jl std false (qAt r (ixs s) i.2) 0 F.er idA (B.erL as)=some (W.erL x.1,x.2.er):=by
 refine (Zg (qB r s i) n 0 F as).mono fun x hx=>?_
 have:=hx idA (B.erL as) (by show List.map (fun a=>a) _=_;simp)
 have hq:(fun j=>(qB r s i j).er)=qAt r (ixs s) i.2:=by funext j;exact qcA r s i j
 rw [hq] at this
 exact this
theorem qfn (r:Nat)(s:kC)(i:Bool×Nat)(j n:Nat)(F:SF)(as:List B):(QP qk (qB r s i) j n F as).Sim fun x=>jl std false (qAt r (ixs s) i.2) j F.er idA (B.erL as)=some (W.erL x.1,x.2.er):=by
 refine (Zg (qB r s i) n j F as).mono fun x hx=>?_
 have:=hx idA (B.erL as) (by show List.map (fun a=>a) _=_;simp)
 have hq:(fun j=>(qB r s i j).er)=qAt r (ixs s) i.2:=by funext j;exact qcA r s i j
 rw [hq] at this
 exact this
def qgs:TV B->Option (List B)
 | .v (_,as)=>some as
 | .tup _=>none
def ppB (r:Nat):TV B:=.v (false,[.pp (r,[]) (true,0) 0])
def rfB (r len:Nat):TV B:=.v (false,[.rf (r,[]) true 0 len])
def qmY (M:MB)(F:SF)(d:Nat)(x:Operand):R SF :=
 match qgs (evB F x) with
 | some as=>(QP M (qB (rid d 0 0) [] (true,0)) 0 (cnt as) F as).bd fun s=>R.ok ((s.2.root (rid d 0 0) (.obx s.1)).put d (ppB (rid d 0 0)))
 | none=>none
theorem qkp (F:SF)(d:Nat)(x:Operand):(qmY qk F d x).Sim fun G=>qjC std false F.er d x=some G.er:=by
 unfold qmY
 split
 . rename_i as has
   have hx:(ev F.er x).cells=some (B.erL as):=by
    rw [<-kz]
    unfold qgs at has
    split at has
    . rename_i g as' he
      simp only [Option.some.injEq] at has
      subst has
      rw [he]
      rfl
    . cases has
   refine R.Sim.bd (wB _ _ _ _ F as) fun s hs=>R.Sim.ok ?_
   unfold qjC
   rw [hx]
   dsimp only
   rw [show qAt (rid d 0 0) [] 0=qAt (rid d 0 0) (ixs []) (true,0).2 from rfl,hs]
   rfl
 . exact R.Sim.none'
def zW:C->Option W
 | .int k n=>some (.fz (.int k n))
 | .bool b=>some (.fz (.bool true b))
 | .str s=>some (.fz (.str s))
 | .nilsl=>some .onil
 | _=>none
def zWL:List C->Option (List W)
 | []=>some []
 | c::r=>match zW c,zWL r with | some d,some l=>some (d::l) | _,_=>none
theorem qbq:∀ (l:List C) {r:List W},zWL l=some r->W.erL r=zN false l/\Q6 l=true
 | [],r,h=>by simp only [zWL,Option.some.injEq] at h;subst h;exact ⟨rfl,rfl⟩
 | c::l,r,h=>by
   simp only [zWL] at h
   split at h
   . rename_i d l' hd hl
     simp only [Option.some.injEq] at h
     subst h
     obtain ⟨h1,h2⟩:=qbq l hl
     cases c<;>simp only [zW] at hd<;>first | (cases hd;done) | (injection hd with hd;subst hd;exact ⟨by simp only [W.erL,W.er,D.er,zN,h1],by simp only [Q6,h2]⟩)
   . cases h
def qjt (M:MB)(T:Nat->Option Ty)(F:SF)(d:Nat)(e:Nat):R SF :=
 match T e with
 | some ty=>(match zWL ty.zero with
   | some zs=>(F.clearR M (rid d 0 0)).bd fun G=>R.ok ((G.root (rid d 0 0) (.obx zs)).put d (ppB (rid d 0 0)))
   | none=>none)
 | none=>none
def LL.cons1:LL->LL->Option LL
 | .i [x1],.i l=>some (.i (x1::l))
 | .u [x1],.u l=>some (.u (x1::l))
 | .b [x1],.b l=>some (.b (x1::l))
 | .s [x1],.s l=>some (.s (x1::l))
 | .cue [x1],.cue l=>some (.cue (x1::l))
 | .tie [x1],.tie l=>some (.tie (x1::l))
 | .edge [x1],.edge l=>some (.edge (x1::l))
 | .link [x1],.link l=>some (.link (x1::l))
 | .node true none [x1],.node true none l=>some (.node true none (x1::l))
 | .node false none [x1],.node false none l=>some (.node false none (x1::l))
 | .ii true none [x1],.ii true none l=>some (.ii true none (x1::l))
 | .ii false none [x1],.ii false none l=>some (.ii false none (x1::l))
 | _,_=>none
theorem LL.cons1_ro {x y z:LL}(h:x.cons1 y=some z):z.ro=x.ro++y.ro:=by
 unfold LL.cons1 at h
 split at h<;>first | (simp only [Option.some.injEq] at h;subst h;rfl) | cases h
def LL.many (k:EK):List (List W)->Option W
 | []=>some .onil
 | [c]=>(match LL.one k c with | some x=>some (.osl x) | none=>none)
 | c::r=>(match LL.one k c,LL.many k r with
   | some x,some (.osl y)=>(match x.cons1 y with | some z=>some (.osl z) | none=>none)
   | _,_=>none)
theorem LL.many_er (k:EK):∀ (l:List (List W)) {w:W},LL.many k l=some w->w.er=.osl (l.map W.erL)
 | [],w,h=>by simp only [LL.many,Option.some.injEq] at h;subst h;rfl
 | [c],w,h=>by
   simp only [LL.many] at h
   split at h
   . rename_i x hx
     simp only [Option.some.injEq] at h
     subst h
     simp only [W.er,LL.one_ro hx,List.map_cons,List.map_nil,W.erL_eq]
   . cases h
 | c::c'::r,w,h=>by
   simp only [LL.many] at h
   split at h
   . rename_i x y hx hy
     split at h
     . rename_i z hz
       simp only [Option.some.injEq] at h
       subst h
       have:=LL.many_er k (c'::r) hy
       simp only [W.er,O.osl.injEq] at this ⊢
       rw [LL.cons1_ro hz,LL.one_ro hx,this]
       simp [W.erL_eq]
     . cases h
   . cases h
def qa3 (M:MB)(r size:Nat):Nat->SF->List (Nat×Operand)->R (List (List W)×SF)
 | _,F,[]=>R.ok ([],F)
 | i,F,(i',x)::rest=>(match nq i' i with
   | true=>(match evB F x with
     | .v (_,as)=>(match nq (cnt as) size with
       | true=>(QP M (qB r [] (true,i)) 0 (cnt as) F as).bd fun s=>(qa3 M r size (i+1) s.2 rest).bd fun t=>R.ok (s.1::t.1,t.2)
       | false=>none)
     | .tup _=>none)
   | false=>none)
theorem yr (r size:Nat):∀ (l:List (Nat×Operand)) (i:Nat) (F:SF),(qa3 qk r size i F l).Sim fun t=>QT std false r size i F.er l=some (t.1.map W.erL,t.2.er)
 | [],i,F=>R.Sim.ok rfl
 | (i',x)::l,i,F=>by
   simp only [qa3]
   split
   . rename_i hi
     split
     . rename_i g as hx
       split
       . rename_i hsz
         refine R.Sim.bd (wB r [] (true,i) _ F as) fun s hs=>R.Sim.bd (yr r size l (i+1) s.2) fun t ht=>R.Sim.ok ?_
         have hs':jl std false (qAt r [] i) 0 F.er idA (B.erL as)=some (W.erL s.1,s.2.er):=hs
         simp only [QT,hi,<-kz,hx,TV.er,zZ,Wp,hsz,hs',ht]
         rfl
       . exact R.Sim.none'
     . exact R.Sim.none'
   . exact R.Sim.none'
def qj1 (M:MB)(F:SF):B->R (Option LL×SF)
 | .fz .nilsl=>R.ok (none,F)
 | .rf p _ off len=>(F.atR M p).bd fun o=>(match o with
   | .osl x=>(F.dropR M p).bd fun G=>some ([M.pEqN off 0,M.pEqN len (x.len M)],(some x,G))
   | .onil=>(F.dropR M p).bd fun G=>some ([M.pEqN off 0,M.pEqN len 0],(none,G))
   | _=>none)
 | _=>none
def oro:Option LL->List (List O)
 | none=>[]
 | some x=>x.ro
theorem qg8 (F:SF)(x:B):(qj1 qk F x).Sim fun r=>KR std F.er x.er=some (oro r.1,r.2.er):=by
 unfold qj1
 split
 . exact R.Sim.ok rfl
 . rename_i p w off len
   refine R.Sim.bd (F.atR_sim p) fun o ho=>?_
   split
   . rename_i x
     refine R.Sim.bd (F.dropR_sim p) fun G hG=>R.Sim.mk fun hp=>?_
     obtain ⟨h1,h2⟩:=hp.two
     have h1:off=0:=h1
     have h2:len=x.len qk:=h2
     subst h1 h2
     have hl:std.oLen x.ro=x.len qk:=LL.len_ro x
     simp only [B.er,KR,ho,W.er,jb,hl,hG]
     simp [oro]
   . refine R.Sim.bd (F.dropR_sim p) fun G hG=>R.Sim.mk fun hp=>?_
     obtain ⟨h1,h2⟩:=hp.two
     have h1:off=0:=h1
     have h2:len=0:=h2
     subst h1 h2
     have hl:std.oLen []=0:=rfl
     simp only [B.er,KR,ho,W.er,jb,hl,hG]
     simp [oro]
   . exact R.Sim.none'
 . exact R.Sim.none'
def qmR:kC->Bool
 | []=>true
 | _::_=>false
def qjU (M:MB)(F:SF):B->R (Option LL×Option SP)
 | .fz .nilsl=>R.ok (none,none)
 | .fz (.sl zs)=>R.ok (some zs.thaw,none)
 | .rf p w off len=>(F.atR M p).bd fun o=>(match o with
   | .osl x=>(match x.here with
     | true=>(match x.flat with
       | true=>(match w with
         | true=>some ([M.pEqN off 0,M.pEqN len (x.len M)],(some x,none))
         | false=>(match x.cut M off len with
           | some y=>some ([M.pLeN (M.nAdd off len) (x.len M)],(some y,none))
           | none=>none))
       | false=>(match x.some1 with
         | true=>(match qmR p.2 with
           | true=>some ([M.pEqN off 0,M.pEqN len (x.len M)],(some x,some p))
           | false=>none)
         | false=>none))
     | false=>none)
   | .onil=>some ([M.pEqN off 0,M.pEqN len 0],(none,none))
   | _=>none)
 | _=>none
theorem qiG (F:SF)(x:B):(qjU qk F x).Sim fun r=>ZI std F.er x.er=some (oro r.1,r.2.map SP.er):=by
 unfold qjU
 split
 . exact R.Sim.ok rfl
 . rename_i zs
   refine R.Sim.ok ?_
   simp only [B.er,D.er,ZI,oro,LL.thaw_ro]
   rfl
 . rename_i p w off len
   refine R.Sim.bd (F.atR_sim p) fun o ho=>?_
   split
   . rename_i x
     split
     . rename_i hh
       split
       . rename_i hf
         have hfl:std.oFlat x.ro=true:=LL.flat_ro x hf hh
         split
         . refine R.Sim.mk fun hp=>?_
           obtain ⟨h1,h2⟩:=hp.two
           have h1:off=0:=h1
           have h2:len=x.len qk:=h2
           subst h1 h2
           have hl:std.oLen x.ro=x.len qk:=LL.len_ro x
           have hn:std.nLe (std.nAdd 0 (x.len qk)) (x.len qk)=true:=by show decide (0+x.len qk<=x.len qk)=true;simp
           simp only [B.er,ZI,ho,W.er,hl,hn,hfl,jb]
           simp [oro]
         . split
           . rename_i y hy
             refine R.Sim.mk fun hp=>?_
             have h1:off+len<=x.len qk:=hp.one
             have hl:std.oLen x.ro=x.len qk:=LL.len_ro x
             have hn:std.nLe (std.nAdd off len) (x.len qk)=true:=by show decide (off+len<=x.len qk)=true;simpa using h1
             have hc:std.oCut x.ro off len=y.ro:=(LL.cut_ro hy).symm
             simp only [B.er,ZI,ho,W.er,hl,hn,hfl,jb,hc]
             by_cases he:off=0/\len=x.len qk
             . obtain ⟨rfl,rfl⟩:=he
               have:y.ro=x.ro:=by
                rw [LL.cut_ro hy,List.drop_zero,<-LL.len_ro]
                simp
               simp [oro,this]
             . have:(off == 0&&len == x.len qk)=false:=by
                cases hb:(off == 0&&len == x.len qk) with
                | false=>rfl
                | true=>simp at hb;exact absurd hb he
               simp only [this,oro,Option.map_none]
           . exact R.Sim.none'
       . rename_i hf
         split
         . rename_i hs
           split
           . rename_i hn0
             refine R.Sim.mk fun hp=>?_
             obtain ⟨h1,h2⟩:=hp.two
             have h1:off=0:=h1
             have h2:len=x.len qk:=h2
             subst h1 h2
             have hl:std.oLen x.ro=x.len qk:=LL.len_ro x
             have hfl:std.oFlat x.ro=false:=LL.some1_ro x hs hf
             have hn:std.nLe (std.nAdd 0 (x.len qk)) (x.len qk)=true:=by show decide (0+x.len qk<=x.len qk)=true;simp
             obtain ⟨r,s⟩:=p
             cases s with
             | cons _ _=>simp [qmR] at hn0
             | nil =>
               simp only [B.er,ZI,ho,W.er,hl,hn,hfl,jb]
               simp [oro,SP.er,ixs]
           . exact R.Sim.none'
         . exact R.Sim.none'
     . exact R.Sim.none'
   . refine R.Sim.mk fun hp=>?_
     obtain ⟨h1,h2⟩:=hp.two
     have h1:off=0:=h1
     have h2:len=0:=h2
     subst h1 h2
     simp only [B.er,ZI,ho,W.er]
     rfl
   . exact R.Sim.none'
 . exact R.Sim.none'
def qmE (M:MB)(F:SF):Option SP->R SF
 | none=>R.ok F
 | some p=>F.dropR M p
def WW (M:MB):Option LL->Nat
 | none=>0
 | some x=>x.len M
def qnH (M:MB):Option LL->Option LL->Option (Option LL)
 | none,y=>some y
 | some x,none=>some (some x)
 | some x,some y=>(match x.app M y with | some z=>some (some z) | none=>none)
def qml (n:Nat):Option LL->Bool
 | none=>true
 | some x=>nq x.sz n
def qm3:Option LL->W
 | none=>.onil
 | some x=>.osl x
theorem JK (x:Option LL):(oro x).length=WW qk x:=by cases x with | none=>rfl | some x=>exact LL.len_ro x
theorem qgx (x:Option LL):(qm3 x).er=.osl (oro x):=by cases x<;>rfl
theorem qme {x y z:Option LL}(h:qnH qk x y=some z):oro z=oro x++oro y:=by
 unfold qnH at h
 split at h
 . simp only [Option.some.injEq] at h;subst h;rfl
 . simp only [Option.some.injEq] at h;subst h;simp [oro]
 . split at h
   . rename_i z' hz
     simp only [Option.some.injEq] at h
     subst h
     exact LL.app_ro hz
   . cases h
theorem qan {n:Nat}{x:Option LL}(h:qml n x=true):std.oSz n (oro x)=true:=by
 cases x with
 | none=>rfl
 | some x =>
   have:=Nat.eq_of_beq_eq_true h
   exact qaD (by rw [<-this];exact x.ro_sz)
def Y8 (M:MB)(ty:Ty)(d:Nat)(x y:Operand)(F:SF):R SF :=
 (qj1 M F (zJ F x)).bd fun r=>(qjU M r.2 (zJ r.2 y)).bd fun s =>
   (match nle ty.bytes 4096&&nlt 0 ty.size&&nq (cnt ty.zero) ty.size&&qml ty.size s.1&&qml ty.size r.1 with
   | true=>(match qnH M r.1 s.1 with
     | some z=>(qmE M r.2 s.2).bd fun G=>some ([M.pLeLim (M.nAdd (WW M r.1) (WW M s.1))],(G.root (rid d 0 0) (qm3 z)).put d (rfB (rid d 0 0) (WW M z)))
     | none=>none)
   | false=>none)
theorem qdn (ty:Ty)(d:Nat)(x y:Operand)(F:SF):(Y8 qk ty d x y F).Sim fun G=>ZB std ty d x y F.er=some G.er:=by
 unfold Y8
 refine R.Sim.bd (qg8 F _) fun r hr=>R.Sim.bd (qiG r.2 _) fun s hs=>?_
 split
 . rename_i hc
   split
   . rename_i z hz
     have hg:(qmE qk r.2 s.2).Sim fun G=>YQ std r.2.er (s.2.map SP.er)=G.er:=by
      cases s.2 with
      | none=>exact R.Sim.ok rfl
      | some p=>exact r.2.dropR_sim p
     refine R.Sim.bd hg fun G hG=>R.Sim.mk fun hp=>?_
     rw [qE] at hr hs
     unfold ZB
     simp only [hr,hs]
     simp only [Bool.and_eq_true] at hc
     obtain ⟨⟨⟨⟨h1,h2⟩,h3⟩,h4⟩,h5⟩:=hc
     have h6:std.nLe (std.nAdd (std.oLen (oro r.1)) (std.oLen (oro s.1))) lim=true:=by
      have:WW qk r.1+WW qk s.1<=lim:=hp.one
      show decide ((oro r.1).length+(oro s.1).length<=lim)=true
      rw [JK,JK]
      simpa using this
     rw [h1,h2,h3,qan h4,qan h5,h6]
     have h7:std.oCat (oro r.1) (oro s.1)=oro z:=(qme hz).symm
     simp only [Bool.and_self,hG,h7]
     have h8:std.oLen (oro z)=WW qk z:=JK z
     rw [h8,<-qgx]
     rfl
   . exact R.Sim.none'
 . exact R.Sim.none'
def YZ (M:MB)(F:SF)(d:Nat)(x:TV B):R SF :=
 match x with
 | .v (false,[.fz .nilsl])=>(F.clearR M (rid d 0 0)).bd fun G=>R.ok ((G.root (rid d 0 0) .onil).put d (rfB (rid d 0 0) 0))
 | .v (false,[.rf (id,[]) w off len])=>(F.atR M (id,[])).bd fun o=>(match w with
   | true=>(match o with
     | .osl x=>(match nq id (rid d 0 0) with
       | true=>some ([M.pEqN off 0,M.pEqN len (x.len M)],F.put d (.v (false,[.rf (id,[]) w off len])))
       | false=>(F.clearR M (rid d 0 0)).bd fun G=>(G.liftR M (id,[]) (rid d 0 0,[])).bd fun H=>some ([M.pEqN off 0,M.pEqN len (x.len M)],(H.root (rid d 0 0) (.osl x)).put d (rfB (rid d 0 0) len)))
     | .onil=>(match nq id (rid d 0 0) with
       | true=>some ([M.pEqN off 0,M.pEqN len 0],F.put d (.v (false,[.rf (id,[]) w off len])))
       | false=>(F.clearR M (rid d 0 0)).bd fun G=>(G.liftR M (id,[]) (rid d 0 0,[])).bd fun H=>some ([M.pEqN off 0,M.pEqN len 0],(H.root (rid d 0 0) .onil).put d (rfB (rid d 0 0) len)))
     | _=>none)
   | false=>none)
 | x=>R.ok (F.put d x)
theorem qmX (x:TV B):(∃ id off len,x.er B.erL=TV.v (false,[A.rf (id,[]) off len]))->∃ id w off len,x=.v (false,[.rf (id,[]) w off len]):=by
 rintro ⟨id,off,len,h⟩
 cases x with
 | tup xs=>simp [TV.er] at h
 | v x =>
   obtain ⟨g,as⟩:=x
   simp only [TV.er,zZ,TV.v.injEq,Prod.mk.injEq] at h
   obtain ⟨rfl,h⟩:=h
   match as,h with
   | [a],h =>
     simp only [B.erL,List.cons.injEq,and_true] at h
     cases a with
     | rf p w off' len' =>
       obtain ⟨r,s⟩:=p
       cases s with
       | nil =>
         simp only [B.er,A.rf.injEq,SP.er,ixs,Prod.mk.injEq,and_true] at h
         obtain ⟨rfl,rfl,rfl⟩:=h
         exact ⟨_,_,_,_,rfl⟩
       | cons z s=>obtain ⟨⟨k,i⟩,j⟩:=z;simp [B.er,SP.er,ixs] at h
     | _=>simp [B.er] at h
   | [],h=>simp [B.erL] at h
   | _::_::_,h=>simp [B.erL] at h
theorem qlE (x:TV B):x.er B.erL=TV.v (false,[A.fz .nilsl])->x=.v (false,[.fz .nilsl]):=by
 intro h
 cases x with
 | tup xs=>simp [TV.er] at h
 | v x =>
   obtain ⟨g,as⟩:=x
   simp only [TV.er,zZ,TV.v.injEq,Prod.mk.injEq] at h
   obtain ⟨rfl,h⟩:=h
   match as,h with
   | [a],h =>
     simp only [B.erL,List.cons.injEq,and_true] at h
     cases a with
     | fz d=>cases d<;>simp [B.er,D.er] at h;rfl
     | _=>simp [B.er] at h
   | [],h=>simp [B.erL] at h
   | _::_::_,h=>simp [B.erL] at h
theorem qbI (F:SF)(d:Nat)(x:TV B):(YZ qk F d x).Sim fun G=>qeW std false F.er d (x.er B.erL)=some G.er:=by
 unfold YZ
 split
 . refine R.Sim.bd (F.clearR_sim _) fun G hG=>R.Sim.ok ?_
   show some (F.er.putQ std d .mt)=_
   simp only [Fr.putQ,hG]
   rfl
 . rename_i id w off len
   refine R.Sim.bd (F.atR_sim (id,[])) fun o ho0=>?_
   have ho:F.er.at std (id,[])=o.er:=ho0
   clear ho0
   have key:qeW std false F.er d ((TV.v (false,[B.rf (id,[]) w off len])).er B.erL)=j9 std F.er d (.v (false,[.rf (id,[]) off len])):=rfl
   rw [key]
   split
   . split
     . rename_i x
       have hl:std.oLen x.ro=x.len qk:=LL.len_ro x
       split
       . rename_i hid
         refine R.Sim.mk fun hp=>?_
         obtain ⟨h1,h2⟩:=hp.two
         have h1:off=0:=h1
         have h2:len=x.len qk:=h2
         subst h1 h2
         simp only [j9,hid,ho,W.er,jb,hl]
         simp [SF.put_er,TV.er,zZ,B.erL,B.er,SP.er,ixs]
       . rename_i hid
         refine R.Sim.bd (F.clearR_sim _) fun G hG=>R.Sim.bd (G.liftR_sim _ _) fun H hH0=>R.Sim.mk fun hp=>?_
         obtain ⟨h1,h2⟩:=hp.two
         have h1:off=0:=h1
         have h2:len=x.len qk:=h2
         subst h1 h2
         have hH:G.er.lift std (id,[]) (rid d 0 0,[])=H.er:=hH0
         simp only [j9,hid,ho,W.er,jb,hl,hG,hH]
         simp [SF.put_er,SF.root_er,TV.er,zZ,B.erL,B.er,SP.er,ixs,rfB,rfV,W.er]
     . have hl:std.oLen []=0:=rfl
       split
       . rename_i hid
         refine R.Sim.mk fun hp=>?_
         obtain ⟨h1,h2⟩:=hp.two
         have h1:off=0:=h1
         have h2:len=0:=h2
         subst h1 h2
         simp only [j9,hid,ho,W.er,jb,hl]
         simp [SF.put_er,TV.er,zZ,B.erL,B.er,SP.er,ixs]
       . rename_i hid
         refine R.Sim.bd (F.clearR_sim _) fun G hG=>R.Sim.bd (G.liftR_sim _ _) fun H hH0=>R.Sim.mk fun hp=>?_
         obtain ⟨h1,h2⟩:=hp.two
         have h1:off=0:=h1
         have h2:len=0:=h2
         subst h1 h2
         have hH:G.er.lift std (id,[]) (rid d 0 0,[])=H.er:=hH0
         simp only [j9,hid,ho,W.er,jb,hl,hG,hH]
         simp [SF.put_er,SF.root_er,TV.er,zZ,B.erL,B.er,SP.er,ixs,rfB,rfV,W.er]
     . exact R.Sim.none'
   . exact R.Sim.none'
 . rename_i h1 h2
   refine R.Sim.ok ?_
   rw [SF.put_er]
   generalize he:x.er B.erL=y
   unfold qeW
   split
   . exact (h1 (qlE x he)).elim
   . unfold j9
     split
     . rename_i id off len h3
       obtain ⟨id,w,off,len,rfl⟩:=qmX x ⟨_,_,_,he⟩
       exact (h2 _ _ _ _ rfl).elim
     . rfl
end Go.Proofs.YtececadpjelanaaGreat.Ai
namespace Go.Proofs.YtececadpjelanaaGreat.Ai
open Go
variable [qh]
def W.isFz:W->Bool
 | .fz _=>true
 | _=>false
theorem W.isFz_er (o:W):o.er.isFz=o.isFz:=by cases o<;>rfl
def VJ (M:MB)(r:Nat)(s:kC)(i:Bool×Nat):Nat->Nat->SF->R SF
 | _,0,F=>R.ok F
 | j,n+1,F=>(F.atR M (qB r s i j)).bd fun o=>(match o.isFz with
   | true=>VJ M r s i (j+1) n F
   | false=>(F.dropR M (qB r s i j)).bd fun G=>VJ M r s i (j+1) n G)
theorem Ji (r:Nat)(s:kC)(i:Bool×Nat):∀ (n j:Nat) (F:SF),(VJ qk r s i j n F).Sim fun G=>QG std r (ixs s) i.2 j n F.er=G.er
 | 0,j,F=>R.Sim.ok rfl
 | n+1,j,F=>by
   simp only [VJ]
   refine R.Sim.bd (F.atR_sim _) fun o ho=>?_
   rw [qcA] at ho
   split
   . rename_i hz
     refine (Ji r s i n (j+1) F).mono fun G hG=>?_
     simp only [QG,ho,W.isFz_er,hz,hG]
   . rename_i hz
     refine R.Sim.bd (F.dropR_sim _) fun G hG=>(Ji r s i n (j+1) G).mono fun H hH=>?_
     rw [qcA] at hG
     simp only [QG,ho,W.isFz_er,hz,hG,hH]
def qgU (M:MB)(r:Nat)(s:kC)(i:Bool×Nat):Nat->SF->List W->R SF
 | _,F,[]=>R.ok F
 | j,F,o::os=>(F.setR M (qB r s i j) o).bd fun G=>qgU M r s i (j+1) G os
theorem YN (r:Nat)(s:kC)(i:Bool×Nat):∀ (os:List W) (j:Nat) (F:SF),(qgU qk r s i j F os).Sim fun G=>qb7 std r (ixs s) i.2 j F.er (W.erL os)=G.er
 | [],j,F=>R.Sim.ok rfl
 | o::os,j,F=>by
   simp only [qgU]
   refine R.Sim.bd (F.setR_sim _ o) fun G hG=>(YN r s i os (j+1) G).mono fun H hH=>?_
   rw [qcA] at hG
   simp only [W.erL,qb7,hG,hH]
theorem wj {α:Type}:∀ (l:List α) (j n:Nat),j+n<=l.length->∃ r,cut l j n=some r
 | l,0,0,_=>⟨[],by cases l<;>rfl⟩
 | [],0,n+1,h=>by simp at h
 | [],j+1,n,h=>by simp at h
 | a::l,j+1,n,h=>by
   obtain ⟨r,hr⟩:=wj l j n (by simp at h;omega)
   exact ⟨r,by cases n<;>exact hr⟩
 | a::l,0,n+1,h=>by
   obtain ⟨r,hr⟩:=wj l 0 n (by simp at h;omega)
   exact ⟨a::r,by simp only [cut,hr]⟩
def qj0 (M:MB)(F:SF)(p:SP)(i:Bool×Nat)(m:Nat):R Unit :=
 (F.atR M p).bd fun o=>(match o with
   | .osl x=>(match nle m x.sz with
     | true=>some ([M.pLtN i.2 (x.len M)],())
     | false=>none)
   | .obx cs=>(match i with
     | (true,0)=>(match nle m (cnt cs) with | true=>R.ok () | false=>none)
     | _=>none)
   | _=>none)
theorem qh6 (F:SF)(p:SP)(i:Bool×Nat)(j n:Nat):(qj0 qk F p i (j+n)).Sim fun _=>∃ l,zQ std F.er n (.pp p.er i.2 j)=some l:=by
 unfold qj0
 refine R.Sim.bd (F.atR_sim p) fun o ho=>?_
 simp only [zQ,ho]
 split
 . rename_i x
   split
   . rename_i hm
     refine R.Sim.mk fun hp=>?_
     have h1:i.2<x.len qk:=hp.one
     have h2:i.2<x.ro.length:=by rw [LL.len_ro];exact h1
     have h3:std.oGet x.ro i.2=some x.ro[i.2]:=List.getElem?_eq_getElem h2
     have h4:=x.ro_sz _ (List.getElem_mem h2)
     obtain ⟨r,hr⟩:=wj x.ro[i.2] j n (by rw [h4];exact qv hm)
     simp only [W.er,h3,hr]
     exact ⟨_,rfl⟩
   . exact R.Sim.none'
 . rename_i cs
   split
   . split
     . rename_i hm
       refine R.Sim.ok ?_
       rw [kf] at hm
       obtain ⟨r,hr⟩:=wj (W.erL cs) j n (by rw [W.erL_eq,List.length_map];exact qv hm)
       simp only [W.er,hr]
       exact ⟨_,rfl⟩
     . exact R.Sim.none'
   . exact R.Sim.none'
 . exact R.Sim.none'
def qe5 (M:MB)(F:SF)(size:Nat)(a x:Operand):R SF :=
 match zJ F a with
 | .pp p i j=>(VJ M p.1 p.2 i j size F).bd fun F1=>(match evB F1 x with
   | .v (_,as)=>(match nq (cnt as) size&&nlt 0 size with
     | true=>(QP M (qB p.1 p.2 i) j (cnt as) F1 as).bd fun s=>(qj0 M s.2 p i (j+size)).bd fun _=>qgU M p.1 p.2 i j s.2 s.1
     | false=>none)
   | .tup _=>none)
 | _=>none
theorem qel (F:SF)(size:Nat)(a x:Operand):(qe5 qk F size a x).Sim fun G=>WX std false F.er size a x=some G.er:=by
 unfold qe5
 split
 . rename_i p i j ha
   refine R.Sim.bd (Ji p.1 p.2 i size j F) fun F1 hF1=>?_
   split
   . rename_i g as hx
     split
     . rename_i hc
       refine R.Sim.bd (qfn p.1 p.2 i j _ F1 as) fun s hs=>R.Sim.bd (qh6 s.2 p i j size) fun _ ⟨l,hl⟩=>(YN p.1 p.2 i s.1 j s.2).mono fun G hG=>?_
       have ha':ev1 F.er a=.pp p.er i.2 j:=by rw [<-qE,ha];rfl
       have hx':ev F1.er x=.v (g,B.erL as):=by rw [<-kz,hx];rfl
       unfold WX
       rw [ha']
       dsimp only
       rw [show p.er.1=p.1 from rfl,show p.er.2=ixs p.2 from rfl,hF1,hx']
       dsimp only
       rw [Wp,hc]
       dsimp only
       rw [hs]
       dsimp only
       rw [hl]
       dsimp only
       rw [hG]
     . exact R.Sim.none'
   . exact R.Sim.none'
 . exact R.Sim.none'
structure SX where
 T:Nat->Option Ty
 K:Nat->Option EK
 S:FuncId->Option (List (Nat×Nat)):=fun _=>none
 OW:FuncId->List (V1 B)->List (LK×W)->R (TV B×List (Nat×W)×List B):=fun _ _ _=>none
 FB:Nat->Bool:=fun _=>false
 ST:Nat->Option (List Nat):=fun _=>none
def qmN (M:MB)(X:SX)(F:SF)(d:Nat)(t:Nat)(l c:Operand):R SF :=
 match X.T t with
 | some ⟨.sl e,_,_,_,_⟩=>(match X.T e,X.K e with
   | some ty,some k=>(match zJ F l,zJ F c with
     | .fz (.int _ n),.fz (.int _ m)=>(match nle ty.bytes 4096&&nlt 0 ty.size&&nq (cnt ty.zero) ty.size with
       | true=>(match zWL ty.zero with
         | some zs=>(match LL.one k zs with
           | some x=>(match x.rep M (M.toN n) with
             | some y=>(F.clearR M (rid d 0 0)).bd fun G=>some ([M.pEqI n m,M.pRep n],(G.root (rid d 0 0) (.osl y)).put d (rfB (rid d 0 0) (y.len M)))
             | none=>none)
           | none=>none)
         | none=>none)
       | false=>none)
     | _,_=>none)
   | _,_=>none)
 | _=>none
def qg3 (M:MB)(X:SX)(F:SF)(d:Nat)(t len:Nat)(parts:List (Nat×Operand)):R SF :=
 match X.T t with
 | some ⟨.sl e,_,_,_,_⟩=>(match X.T e,X.K e with
   | some ty,some k=>(match nq (cnt parts) len&&nle len 4096&&nlt 0 ty.size&&nle ty.size 4096 with
     | true=>(F.clearR M (rid d 0 0)).bd fun G=>(qa3 M (rid d 0 0) ty.size 0 G parts).bd fun s=>(match LL.many k s.1 with
       | some w=>R.ok ((s.2.root (rid d 0 0) w).put d (rfB (rid d 0 0) len))
       | none=>none)
     | false=>none)
   | _,_=>none)
 | _=>none
def qlh (M:MB)(X:SX)(F:SF)(d:Nat):Op->R SF
 | .assign x=>YZ M F d (evB F x)
 | .box _ x=>(F.clearR M (rid d 0 0)).bd fun G=>qmY M G d x
 | .alloc e=>qjt M X.T F d e
 | .buildSlice t len ⟨parts⟩=>qg3 M X F d t len parts
 | .makeSlice t l c=>qmN M X F d t l c
 | .call ⟨.builtin .append,⟨[x,y]⟩,⟨[t,t']⟩⟩=>(match nq t t',X.T t with
   | true,some ⟨.sl e,_,_,_,_⟩=>(match X.T e with
     | some ty=>(F.dropR M (rid d 0 0,[])).bd fun G=>Y8 M ty d x y G
     | none=>none)
   | _,_=>none)
 | o=>(qmi M X.T F o).bd fun v=>R.ok (F.put d v)
theorem W3 (X:SX)(F:SF)(d:Nat)(op:Op):(qlh qk X F d op).Sim fun G=>wop std X.T false F.er d op=some G.er:=by
 unfold qlh
 split
 . rename_i x
   refine (qbI F d _).mono fun G hG=>?_
   rw [kz] at hG
   exact hG
 . refine R.Sim.bd (F.clearR_sim _) fun G hG=>(qkp G d _).mono fun H hH=>?_
   simp only [wop,hG,hH]
 . rename_i e
   unfold qjt
   split
   . rename_i ty ht
     split
     . rename_i zs hz
       obtain ⟨h1,h2⟩:=qbq _ hz
       refine R.Sim.bd (F.clearR_sim _) fun G hG=>R.Sim.ok ?_
       simp only [wop,ht,h2,hG,<-h1]
       rfl
     . exact R.Sim.none'
   . exact R.Sim.none'
 . rename_i t len parts
   unfold qg3
   split
   . rename_i e _ _ _ _ ht
     split
     . rename_i ty k hte hk
       split
       . rename_i hc
         refine R.Sim.bd (F.clearR_sim _) fun G hG=>R.Sim.bd (yr _ _ _ _ G) fun s hs=>?_
         split
         . rename_i w hw
           refine R.Sim.ok ?_
           have:=LL.many_er k _ hw
           simp only [wop,ht,hte,hc,hG,hs,SF.put_er,SF.root_er,this]
           rfl
         . exact R.Sim.none'
       . exact R.Sim.none'
     . exact R.Sim.none'
   . exact R.Sim.none'
 . rename_i t l c
   unfold qmN
   split
   . rename_i e _ _ _ _ ht
     split
     . rename_i ty k hte hk
       split
       . rename_i k1 n k2 m hl hm
         split
         . rename_i hc
           split
           . rename_i zs hz
             obtain ⟨h1,h2⟩:=qbq _ hz
             split
             . rename_i x hx
               split
               . rename_i y hy
                 refine R.Sim.bd (F.clearR_sim _) fun G hG=>R.Sim.mk fun hp=>?_
                 obtain ⟨h3,h4,h5⟩:=hp.two
                 have h3:n=m:=h3
                 subst h3
                 obtain ⟨z,hz1,hz2⟩:=LL.rep_ro hy
                 have hxo:=LL.one_ro hx
                 rw [hz1] at hxo
                 injection hxo with hxo
                 have hzz:z=zN false ty.zero:=by rw [hxo,<-W.erL_eq,h1]
                 have hl':ev1 F.er l=.fz (.int k1 n):=by rw [<-qE,hl];rfl
                 have hm':ev1 F.er c=.fz (.int k2 n):=by rw [<-qE,hm];rfl
                 have hr:std.oRep n (zN false ty.zero)=some y.ro:=by
                  show (if 0<=n/\n<=(lim:Int) then some (List.replicate n.toNat (zN false ty.zero)) else none)=_
                  rw [if_pos ⟨h4,h5⟩,hz2,hzz]
                  rfl
                 have hb:std.bEq n n=true:=by show (n == n)=true;simp
                 have hlen:std.oLen y.ro=y.len qk:=LL.len_ro y
                 simp only [wop,ht,hte,hl',hm',hb,hc,h2,hr,hG,hlen,Bool.and_self,Bool.true_and,Bool.and_true]
                 rfl
               . exact R.Sim.none'
             . exact R.Sim.none'
           . exact R.Sim.none'
         . exact R.Sim.none'
       . exact R.Sim.none'
     . exact R.Sim.none'
   . exact R.Sim.none'
 . rename_i x y t t'
   split
   . rename_i e _ _ _ _ htt ht
     split
     . rename_i ty hte
       refine R.Sim.bd (F.dropR_sim _) fun G hG=>(qdn ty d x y G).mono fun H hH=>?_
       have hG:F.er.drop std (rid d 0 0,[])=G.er:=hG
       simp only [wop,htt,ht,hte,hG,hH]
     . exact R.Sim.none'
   . exact R.Sim.none'
 . rename_i h1 h2 h3 h4 h5 h6
   refine R.Sim.bd (qbY X.T F op) fun v hv=>R.Sim.ok ?_
   have:wop std X.T false F.er d op=qfS std F.er d (qop std X.T F.er op):=by
    unfold wop
    split<;>first
     | rfl
     | exact (h1 _ rfl).elim
     | exact (h2 _ _ rfl).elim
     | exact (h3 _ rfl).elim
     | exact (h4 _ _ _ rfl).elim
     | exact (h5 _ _ _ rfl).elim
     | exact (h6 _ _ _ _ rfl).elim
   rw [this,hv]
   rfl
def qjY (M:MB)(F:SF):TV B->R (V1 D)
 | .v (g,as)=>(match qex as with
   | true=>(Yp M F as).bd fun l=>R.ok (g,l)
   | false=>none)
 | .tup _=>none
theorem qiT (F:SF)(x:TV B):(qjY qk F x).Sim fun y=>qcI std F.er (x.er B.erL)=some (zZ D.erL y):=by
 unfold qjY
 split
 . rename_i g as
   split
   . rename_i hok
     refine R.Sim.bd (Ks F as) fun l hl=>R.Sim.ok ?_
     simp only [TV.er,zZ,qcI,JP,hok,hl]
   . exact R.Sim.none'
 . exact R.Sim.none'
def qb9 (M:MB)(F:SF):List Operand->R (List (V1 D))
 | []=>R.ok []
 | x::r=>(qjY M F (evB F x)).bd fun y=>(qb9 M F r).bd fun ys=>R.ok (y::ys)
theorem wu (F:SF):∀ (l:List Operand),(qb9 qk F l).Sim fun ys=>Z4 std F.er l=some (qw D.erL ys)
 | []=>R.Sim.ok rfl
 | x::r=>by
   simp only [qb9]
   refine R.Sim.bd (qiT F _) fun y hy=>R.Sim.bd (wu F r) fun ys hys=>R.Sim.ok ?_
   rw [kz] at hy
   simp only [Z4,hy,hys]
   rfl
mutual
def B.isFzB:B->Bool
 | .fz _=>true
 | .clo _ caps=>Vb caps
 | _=>false
def Vb:List B->Bool
 | []=>true
 | a::r=>match a.isFzB with | true=>Vb r | false=>false
end
mutual
theorem qkE:(x:B)->x.er.isFz=x.isFzB
 | .un=>rfl
 | .ud=>rfl
 | .fz d=>rfl
 | .rf ..=>rfl
 | .pp ..=>rfl
 | .clo f caps=>by simp only [B.er,A.isFz,B.isFzB,wJ caps]
theorem wJ:(l:List B)->ZG (B.erL l)=Vb l
 | []=>rfl
 | a::r=>by simp only [B.erL,ZG,Vb,qkE a,wJ r];cases a.isFzB<;>rfl
end
def qna:TV B->Bool
 | .v (_,as)=>Vb as
 | .tup _=>false
theorem qmv (x:TV B):(x.er B.erL).isFz=qna x:=by
 cases x with
 | v x=>exact wJ x.2
 | tup xs=>rfl
def Js (F:SF):List Operand->Bool
 | []=>true
 | x::r=>match qna (evB F x) with | true=>Js F r | false=>false
theorem Vw (F:SF):∀ l,KK F.er l=Js F l
 | []=>rfl
 | x::r=>by simp only [KK,Js,<-kz,qmv,Vw F r];cases qna (evB F x)<;>rfl
def Wo (M:MB)(F:SF)(f:Operand):R (FuncId×List D) :=
 match zJ F f with
 | .fz (.fn g caps)=>R.ok (g,caps)
 | .clo g caps=>(match qex caps with
   | true=>(Yp M F caps).bd fun l=>R.ok (g,l)
   | false=>none)
 | _=>none
theorem v8 (F:SF)(f:Operand):(Wo qk F f).Sim fun r=>callee std F.er f=some (r.1,D.erL r.2):=by
 unfold Wo
 split
 . rename_i g caps h
   refine R.Sim.ok ?_
   have:ev1 F.er f=.fz (.fn g (D.erL caps)):=by rw [<-qE,h];rfl
   simp only [callee,this]
 . rename_i g caps h
   split
   . rename_i hok
     refine R.Sim.bd (Ks F caps) fun l hl=>R.Sim.ok ?_
     have:ev1 F.er f=.clo g (B.erL caps):=by rw [<-qE,h];rfl
     simp only [callee,this,JP,hok,hl]
   . exact R.Sim.none'
 . exact R.Sim.none'
def jr:List D->List (V1 D)
 | []=>[]
 | c::r=>(false,[c])::jr r
theorem qbw (l:List D):qw D.erL (jr l)=QE (D.erL l):=by induction l with | nil=>rfl | cons a r ih=>simp only [jr,qw,D.erL,QE,ih];rfl
theorem Zm {α β:Type}(f:List α->List β)(l r:List (V1 α)):qw f (l++r)=qw f l++qw f r:=by induction l with | nil=>rfl | cons a l ih=>simp [qw,ih]
mutual
def W.cleanB:W->Bool
 | .un=>false
 | .fz d=>(match d with | .sl (.i [])=>true | .un | .sl _ | .ptr _ | .mp _=>false | .fn _ caps=>(match caps with | []=>true | _::_=>false) | _=>true)
 | .osl x=>x.clean
 | .onil=>true
 | .obx cs=>JB cs
def JB:List W->Bool
 | []=>true
 | a::r=>match a.cleanB with | true=>JB r | false=>false
end
mutual
theorem qhu:(o:W)->o.cleanB=true->o.er.cleanM std=true
 | .un,h=>by simp [W.cleanB] at h
 | .fz d,h=>by
   cases d<;>simp only [W.cleanB] at h<;>first | rfl | (cases h;done) | skip
   case sl x =>
    by_cases hx:x=.i []
    . subst hx;rfl
    . exfalso
      revert h
      cases x with
      | i l=>cases l with
        | nil=>exact absurd rfl hx
        | cons _ _=>intro h;cases h
      | _=>intro h;cases h
   case fn f caps=>cases caps with | nil=>rfl | cons _ _=>simp at h
 | .osl x,h=>LL.clean_ro x h
 | .onil,_=>rfl
 | .obx cs,h=>Je cs h
theorem Je:(l:List W)->JB l=true->O.cleanML std (W.erL l)=true
 | [],_=>rfl
 | a::r,h=>by
   simp only [JB] at h
   split at h
   . rename_i ha
     simp only [W.erL,O.cleanML,qhu a ha,Je r h]
   . cases h
end
def nzD:D->Option D
 | .fn f [c]=>(match nq f qfc with | true=>some c | false=>none)
 | _=>none
def nzW:W->Option D
 | .fz d=>nzD d
 | _=>none
theorem qjP (d:D):nzC d.er=(nzD d).map D.er:=by
 cases d with
 | fn f caps =>
   match caps with
   | []=>rfl
   | [c] =>
     simp only [D.er,D.erL,nzC,nzD]
     cases nq f qfc<;>rfl
   | _::_::_=>rfl
 | _=>rfl
theorem qeE (o:W):nzO o.er=(nzW o).map D.er:=by
 cases o with
 | fz d=>exact qjP d
 | _=>rfl
def WJ:List W->Bool
 | []=>true
 | o::r=>match nzW o with | none=>WJ r | some _=>false
theorem Vh:∀ l:List W,QD (W.erL l)=WJ l
 | []=>rfl
 | o::r=>by
   simp only [W.erL,QD,WJ,qeE]
   cases nzW o with
   | none=>exact Vh r
   | some d=>rfl
def qkk (M:MB)(q:SP)(o:W):B:=match nzW o with
 | some c=>.fz c
 | none=>qnG M q o
theorem qlv (q:SP)(o:W):(qkk qk q o).er=qiO std q.er o.er:=by
 unfold qkk qiO
 rw [qeE]
 cases nzW o with
 | none=>exact qf5 q o
 | some d=>rfl
def KG:List W->Bool
 | []=>true
 | o::r=>match nzW o with
   | some _=>KG r
   | none=>(match JB [o] with | true=>KG r | false=>false)
theorem Zi:∀ l:List W,KG l=true->QC std (W.erL l)=true
 | [],_=>rfl
 | o::r,h=>by
   simp only [KG] at h
   simp only [W.erL,QC,qeh,qeE]
   cases hz:nzW o with
   | some d =>
     rw [hz] at h
     exact Zi r h
   | none =>
     rw [hz] at h
     dsimp only at h
     split at h
     . rename_i hc
       have h1:=Je [o] hc
       simp only [W.erL,O.cleanML] at h1
       cases hk:o.er.cleanM std with
       | false=>rw [hk] at h1;cases h1
       | true=>simp only [Option.map_none,hk];exact Zi r h
     . cases h
def Ju:List (V1 W)->Bool
 | []=>true
 | x::r=>match KG x.2 with | true=>Ju r | false=>false
def JL:TV W->Bool
 | .v x=>KG x.2
 | .tup xs=>Ju xs
theorem VO {r:TV W}(h:JL r=true):(r.er W.erL).cleanM std=true:=by
 cases r with
 | v x=>exact Zi x.2 h
 | tup xs =>
   have key:∀ l:List (V1 W),Ju l=true->KA std (qw W.erL l)=true:=by
    intro l
    induction l with
    | nil=>intro _;rfl
    | cons x l ih =>
      intro h
      simp only [Ju] at h
      split at h
      . rename_i hx
        simp only [qw,KA,zZ,Zi x.2 hx,ih h]
      . cases h
   exact key xs h
def qca (M:MB)(d k:Nat):Nat->List W->List B
 | _,[]=>[]
 | j,o::r=>qkk M (rid d k j,[]) o::qca M d k (j+1) r
def Kl (d k:Nat):Nat->List W->List (Nat×W)
 | _,[]=>[]
 | j,o::r=>match o.isFz with
   | true=>Kl d k (j+1) r
   | false=>(rid d k j,o)::Kl d k (j+1) r
def qaQ (M:MB)(d:Nat):Nat->List (V1 W)->List (V1 B)
 | _,[]=>[]
 | k,x::r=>(x.1,qca M d k 0 x.2)::qaQ M d (k+1) r
def Qv {α:Type}:List α->List α->List α
 | [],r=>r
 | a::l,r=>a::Qv l r
theorem jB {α:Type}(l r:List α):Qv l r=l++r:=by induction l with | nil=>rfl | cons a l ih=>simp [Qv,ih]
def wi (d:Nat):Nat->List (V1 W)->List (Nat×W)
 | _,[]=>[]
 | k,x::r=>Qv (Kl d k 0 x.2) (wi d (k+1) r)
def VB (M:MB)(d:Nat):TV W->TV B
 | .v (g,os)=>.v (g,qca M d 0 0 os)
 | .tup xs=>.tup (qaQ M d 0 xs)
def KB (d:Nat):TV W->List (Nat×W)
 | .v (_,os)=>Kl d 0 0 os
 | .tup xs=>wi d 0 xs
theorem WU (d k:Nat):∀ (l:List W) (j:Nat),B.erL (qca qk d k j l)=Wa std d k j (W.erL l)
 | [],j=>rfl
 | o::r,j=>by simp only [qca,B.erL,W.erL,Wa,qlv,WU d k r];rfl
theorem Zd (d k:Nat):∀ (l:List W) (j:Nat),zr (Kl d k j l)=Zc d k j (W.erL l)
 | [],j=>rfl
 | o::r,j=>by
   simp only [Kl,W.erL,Zc,W.isFz_er]
   cases o.isFz with
   | true=>exact Zd d k r (j+1)
   | false=>simp only [zr,Zd d k r]
theorem vF (l r:List (Nat×W)):zr (l++r)=zr l++zr r:=by induction l with | nil=>rfl | cons a l ih=>obtain ⟨i,o⟩:=a;simp [zr,ih]
theorem wc (d:Nat)(r:TV W):(VB qk d r).er B.erL=yT std d (r.er W.erL):=by
 cases r with
 | v x=>obtain ⟨g,os⟩:=x;simp only [VB,TV.er,zZ,yT,WU]
 | tup xs =>
   have key:∀ (l:List (V1 W)) (k:Nat),qw B.erL (qaQ qk d k l)=KV std d k (qw W.erL l):=by
    intro l
    induction l with
    | nil=>intro k;rfl
    | cons x l ih=>intro k;simp only [qaQ,qw,zZ,KV,WU,ih]
   simp only [VB,TV.er,yT,key]
theorem ZC (d:Nat)(r:TV W):zr (KB d r)=zH d (r.er W.erL):=by
 cases r with
 | v x=>obtain ⟨g,os⟩:=x;exact Zd d 0 os 0
 | tup xs =>
   have key:∀ (l:List (V1 W)) (k:Nat),zr (wi d k l)=Zs d k (qw W.erL l):=by
    intro l
    induction l with
    | nil=>intro k;rfl
    | cons x l ih=>intro k;simp only [wi,jB,vF,qw,zZ,Zs,Zd,ih]
   exact key xs 0
def SF.clearsR (M:MB)(F:SF):List (Nat×W)->R SF
 | []=>R.ok F
 | (id,_)::r=>(F.clearR M id).bd fun G=>G.clearsR M r
def SF.addsB (F:SF):List (Nat×W)->SF
 | []=>F
 | (id,o)::r=>(F.root id o).addsB r
theorem vZ:∀ (l:List (Nat×W)) (F:SF),(F.clearsR qk l).Sim fun G=>F.er.clears std (zr l)=G.er
 | [],F=>R.Sim.ok rfl
 | (id,o)::r,F=>by
   simp only [SF.clearsR]
   exact R.Sim.bd (F.clearR_sim id) fun G hG=>(vZ r G).mono fun H hH=>by simp only [zr,Fr.clears,hG,hH]
theorem VP:∀ (l:List (Nat×W)) (F:SF),(F.addsB l).er=F.er.adds (zr l)
 | [],F=>rfl
 | (id,o)::r,F=>by simp only [SF.addsB,VP r,zr,Fr.adds,SF.root_er]
def JS.fitsVs:List (V1 W)->Bool
 | []=>true
 | x::r=>match nle (cnt x.2) 64 with | true=>JS.fitsVs r | false=>false
def JS:TV W->Bool
 | .v (_,os)=>nle (cnt os) 64
 | .tup xs=>match nle (cnt xs) 64 with | true=>JS.fitsVs xs | false=>false
theorem qcg {α β:Type}(f:α->β)(l:List α):cnt (l.map f)=cnt l:=by simp [kf]
theorem qcF {r:TV W}(h:JS r=true):TV.fits (r.er W.erL)=true:=by
 cases r with
 | v x =>
   obtain ⟨g,os⟩:=x
   have h':nle (cnt os) 64=true:=h
   simpa only [TV.er,zZ,TV.fits,W.erL_eq,qcg] using h'
 | tup xs =>
   have key:∀ l:List (V1 W),JS.fitsVs l=true->y9 (qw W.erL l)=true:=by
    intro l
    induction l with
    | nil=>intro _;rfl
    | cons x l ih =>
      intro h
      simp only [JS.fitsVs] at h
      split at h
      . rename_i hx
        simp only [qw,y9,zZ,W.erL_eq,qcg,hx]
        exact ih h
      . cases h
   have hl:∀ l:List (V1 W),cnt (qw W.erL l)=cnt l:=by intro l;induction l with | nil=>rfl | cons x l ih=>simp [qw,cnt,ih]
   simp only [JS] at h
   split at h
   . rename_i hx
     simp only [TV.er,TV.fits,hl,hx,key xs h,Bool.and_self]
   . cases h
def SF.importB (M:MB)(F:SF)(d:Nat)(r:TV W):R SF:=match JS r with
 | true=>(F.clearsR M (KB d r)).bd fun G=>R.ok ((G.addsB (KB d r)).put d (VB M d r))
 | false=>none
theorem vW (F:SF)(d:Nat)(r:TV W):(F.importB qk d r).Sim fun G=>F.er.import std d (r.er W.erL)=some G.er:=by
 unfold SF.importB
 split
 . rename_i hf
   refine R.Sim.bd (vZ _ F) fun G hG=>R.Sim.ok ?_
   unfold Fr.import
   rw [qcF hf]
   dsimp only
   rw [<-ZC,hG,SF.put_er,VP,wc]
 . exact R.Sim.none'
abbrev jS:=FuncId->List (V1 D)->R (TV W)
def qm (P:Program)(ora:jS):Prop:=∀ g as,R.Sim (ora g as) fun r=>kM P g (qw D.erL as) (r.er W.erL)
def qjs (M:MB)(ora:jS)(F:SF)(d:Nat)(f:Operand)(args:List Operand):R SF :=
 (Wo M F f).bd fun g=>(qb9 M F args).bd fun as=>(ora g.1 (Qv as (jr g.2))).bd fun r=>(match Js F (f::args) with
   | true=>F.importB M d r
   | false=>(match JL r with
     | true=>F.importB M d r
     | false=>none))
open Classical in
noncomputable def yH (g:FuncId)(as:List (V1 C))(r:TV O):Ora:=fun g' as'=>if g'=g/\as'=as then some r else none
theorem qi2 {P:Program}{ora:jS}(hO:qm P ora)(F:SF)(d:Nat)(f:Operand)(args:List Operand):(qjs qk ora F d f args).Sim fun G=>∃ g as r,kM P g as r/\VI std (yH g as r) F.er d f args=some G.er:=by
 unfold qjs
 refine R.Sim.bd (v8 F f) fun g hg=>R.Sim.bd (wu F args) fun as has=>R.Sim.bd (hO g.1 _) fun r hr=>?_
 have key:∀ G:SF,F.er.import std d (r.er W.erL)=some G.er->(Js F (f::args)=true\/JL r=true)->∃ g as r,kM P g as r/\VI std (yH g as r) F.er d f args=some G.er:=by
  intro G hG hc
  refine ⟨_,_,_,hr,?_⟩
  unfold VI qk6
  simp only [hg,has]
  have h1:yH g.1 (qw D.erL (Qv as (jr g.2))) (r.er W.erL) g.1 (qw D.erL as++QE (D.erL g.2))=some (r.er W.erL):=by
   unfold yH
   rw [if_pos ⟨rfl,by rw [jB,Zm,qbw]⟩]
  simp only [h1,Vw]
  rcases hc with hc | hc
  . simp only [hc,hG]
  . cases hl:Js F (f::args) with
    | true=>simp only [hG]
    | false=>simp only [VO hc,hG]
 split
 . rename_i hl
   exact (vW F d r).mono fun G hG=>key G hG (.inl hl)
 . split
   . rename_i hc
     exact (vW F d r).mono fun G hG=>key G hG (.inr hc)
   . exact R.Sim.none'
end Go.Proofs.YtececadpjelanaaGreat.Ai
namespace Go.Proofs.YtececadpjelanaaGreat.Ai
open Go
variable [qh]
def qjm (M:MB)(k:Nat)(F:SF):TV B->R (V1 W×SF)
 | .v (g,as)=>(match nle (cnt as) 64 with
   | true=>(QP M (qB qA [] (true,k)) 0 (cnt as) F as).bd fun s=>(match WJ s.1 with | true=>R.ok ((g,s.1),s.2) | false=>none)
   | false=>none)
 | .tup _=>none
theorem qiM (k:Nat)(F:SF)(x:TV B):(qjm qk k F x).Sim fun r=>qms std false k F.er (x.er B.erL)=some (zZ W.erL r.1,r.2.er):=by
 unfold qjm
 split
 . rename_i g as
   split
   . rename_i hc
     refine R.Sim.bd (wB qA [] (true,k) _ F as) fun s hs=>?_
     have hs':jl std false (qAt qA [] k) 0 F.er idA (B.erL as)=some (W.erL s.1,s.2.er):=hs
     split
     . rename_i hm
       refine R.Sim.ok ?_
       simp only [TV.er,zZ,qms,Wp,hc,hs',Vh,hm]
     . exact R.Sim.none'
   . exact R.Sim.none'
 . exact R.Sim.none'
def Yr (M:MB)(T:Nat->Option Ty)(F:SF):ResultVar->R (TV B)
 | .tmp t=>(match nlt t PH with | true=>R.ok (qa unB F.tm t) | false=>none)
 | .cell a t=>(match nlt a PH,T t with
   | true,some ty=>(qaZ M F ty.size (qhw (qa unB F.tm a))).bd fun as=>oR (qlM ty.agg as)
   | _,_=>none)
theorem wY (T:Nat->Option Ty)(F:SF)(r:ResultVar):(Yr qk T F r).Sim fun x=>qba std T F.er r=some (x.er B.erL):=by
 cases r with
 | tmp t =>
   unfold Yr
   dsimp only
   split
   . rename_i hph
     refine R.Sim.ok ?_
     simp only [qba,hph]
     rw [show qa unT F.er.tm t=(qa unB F.tm t).er B.erL from Qc _ _]
   . exact R.Sim.none'
 | cell c t =>
   unfold Yr
   dsimp only
   split
   . rename_i ty hph ht
     refine R.Sim.bd (WV F _ _) fun as has=>W4 fun v hv=>?_
     simp only [qba,hph,ht]
     rw [show qa unT F.er.tm c=(qa unB F.tm c).er B.erL from Qc _ _,<-qbl,has]
     exact qfU hv
   . exact R.Sim.none'
def qad (M:MB)(T:Nat->Option Ty):Nat->SF->List ResultVar->R (List (V1 W))
 | _,_,[]=>R.ok []
 | k,F,rv::r=>(Yr M T F rv).bd fun v=>(qjm M k F v).bd fun x=>(qad M T (k+1) x.2 r).bd fun xs=>R.ok (x.1::xs)
theorem VG (T:Nat->Option Ty):∀ (rs:List ResultVar) (k:Nat) (F:SF),(qad qk T k F rs).Sim fun xs=>JW std T false k F.er rs=some (qw W.erL xs)
 | [],k,F=>R.Sim.ok rfl
 | rv::r,k,F=>by
   simp only [qad]
   refine R.Sim.bd (wY T F rv) fun v hv=>R.Sim.bd (qiM k F _) fun x hx=>R.Sim.bd (VG T r (k+1) x.2) fun xs hxs=>R.Sim.ok ?_
   simp only [JW,hv,hx,hxs,qw]
def WL (M:MB)(T:Nat->Option Ty)(F:SF)(rs:Array ResultVar):R (TV W) :=
 match rs with
 | ⟨rs⟩=>(match nle (cnt rs) 64 with
   | true=>(F.dropR M (qA,[])).bd fun G=>(qad M T 0 G rs).bd fun xs=>(match xs with
     | [x]=>R.ok (.v x)
     | xs=>R.ok (.tup xs))
   | false=>none)
theorem vG (T:Nat->Option Ty)(F:SF)(rs:Array ResultVar):(WL qk T F rs).Sim fun r=>Qb std T false F.er rs=some (r.er W.erL):=by
 obtain ⟨rs⟩:=rs
 unfold WL
 dsimp only
 split
 . rename_i hc
   refine R.Sim.bd (F.dropR_sim _) fun G hG=>R.Sim.bd (VG T rs 0 G) fun xs hxs=>?_
   have hG:F.er.drop std (qA,[])=G.er:=hG
   split
   . refine R.Sim.ok ?_
     simp only [Qb,hc,hG,hxs,qw]
     rfl
   . rename_i h
     refine R.Sim.ok ?_
     simp only [Qb,hc,hG,hxs]
     match xs,h with
     | [],_=>rfl
     | [x],h=>exact (h x rfl).elim
     | x::y::r,_=>rfl
 . exact R.Sim.none'
def qlH (M:MB)(F:SF):B->R W
 | .fz d=>(match nzD d with | none=>R.ok (.fz d) | some _=>none)
 | .rf p _ off len=>(F.atR M p).bd fun o=>(match o with
   | .osl x=>(match x.clean with
     | true=>(match x.cut M off len with
       | some y=>some ([M.pLeN (M.nAdd off len) (x.len M)],.fz (.fn qfc [.sl y]))
       | none=>none)
     | false=>none)
   | _=>none)
 | _=>none
theorem qkt (F:SF):(x:B)->(qlH qk F x).Sim fun o=>qfL std F.er x.er=some o.er
 | .un=>R.Sim.none'
 | .ud=>R.Sim.none'
 | .pp ..=>R.Sim.none'
 | .clo ..=>R.Sim.none'
 | .fz d=>by
   simp only [qlH]
   split
   . rename_i hd
     refine R.Sim.ok ?_
     simp only [B.er,qfL,qjP,hd,Option.map_none]
     rfl
   . exact R.Sim.none'
 | .rf p g off len=>by
   simp only [qlH]
   refine R.Sim.bd (F.atR_sim p) fun o ho=>?_
   split
   . rename_i x
     split
     . rename_i hc
       split
       . rename_i y hy
         refine R.Sim.mk fun hp=>?_
         have h1:off+len<=x.len qk:=hp.one
         have hcl:std.oClean x.ro=true:=LL.clean_ro x hc
         have hy':y.here=true:=by
          unfold LL.cut at hy
          split at hy<;>first | (simp only [Option.some.injEq] at hy;subst hy;rfl) | cases hy
         have e:ww std F.er (.rf p.er off len)=some (.sl y.rc):=by
          simp only [ww,ho]
          show (match decide (off+len<=x.ro.length),std.oClean x.ro with | true,true=>some (C.sl (O.frzLL ((x.ro.drop off).take len))) | _,_=>none)=_
          rw [LL.len_ro,decide_eq_true h1,hcl,<-LL.cut_ro hy,LL.frz_ro y hy']
         simp only [B.er,qfL,e]
         rfl
       . exact R.Sim.none'
     . exact R.Sim.none'
   . exact R.Sim.none'
def qgm (M:MB)(F:SF):List B->R (List W)
 | []=>R.ok []
 | x::r=>(qlH M F x).bd fun y=>(qgm M F r).bd fun ys=>R.ok (y::ys)
theorem yZ (F:SF):(l:List B)->(qgm qk F l).Sim fun os=>yk std F.er (B.erL l)=some (W.erL os)
 | []=>R.Sim.ok rfl
 | x::r=>by
   simp only [qgm]
   exact R.Sim.bd (qkt F x) fun y hy=>R.Sim.bd (yZ F r) fun ys hys=>R.Sim.ok (by simp only [B.erL,yk,hy,hys,W.erL])
def qgR (M:MB)(T:Nat->Option Ty)(F:SF):List ResultVar->R (List (V1 W))
 | []=>R.ok []
 | rv::r=>(Yr M T F rv).bd fun v=>(match v with
   | .v x=>(qgm M F x.2).bd fun os=>(qgR M T F r).bd fun xs=>R.ok ((x.1,os)::xs)
   | .tup _=>none)
theorem Yv (T:Nat->Option Ty)(F:SF):∀ rs:List ResultVar,(qgR qk T F rs).Sim fun xs=>J8 std T F.er rs=some (qw W.erL xs)
 | []=>R.Sim.ok rfl
 | rv::r=>by
   simp only [qgR]
   refine R.Sim.bd (wY T F rv) fun v hv=>?_
   split
   . rename_i x
     refine R.Sim.bd (yZ F x.2) fun os hos=>R.Sim.bd (Yv T F r) fun xs hxs=>R.Sim.ok ?_
     obtain ⟨g,as⟩:=x
     simp only [J8,hv,TV.er,zZ,hos,hxs,qw]
   . exact R.Sim.none'
def qmU:List (V1 W)->TV W
 | [x]=>.v x
 | xs=>.tup xs
theorem qjo (xs:List (V1 W)):qf8 (qw W.erL xs)=(qmU xs).er W.erL:=by
 match xs with
 | []=>rfl
 | [x]=>rfl
 | x::y::r=>rfl
mutual
def B.idsB:B->List Nat
 | .rf p _ _ _=>[p.1]
 | .pp p _ _=>[p.1]
 | .clo _ caps=>Yf caps
 | _=>[]
def Yf:List B->List Nat
 | []=>[]
 | a::r=>Qv a.idsB (Yf r)
end
mutual
theorem ql2:(x:B)->x.er.ids=x.idsB
 | .un=>rfl
 | .ud=>rfl
 | .fz d=>rfl
 | .rf ..=>rfl
 | .pp ..=>rfl
 | .clo f caps=>by simp only [B.er,A.ids,B.idsB,wg caps]
theorem wg:(l:List B)->A.idsL (B.erL l)=Yf l
 | []=>rfl
 | a::r=>by simp only [B.erL,A.idsL,Yf,jB,ql2 a,wg r]
end
def qgF:List (V1 B)->List Nat
 | []=>[]
 | x::r=>Qv (Yf x.2) (qgF r)
def qjD:TV B->List Nat
 | .v x=>Yf x.2
 | .tup xs=>qgF xs
theorem qcN (x:TV B):(x.er B.erL).ids=qjD x:=by
 cases x with
 | v x=>exact wg x.2
 | tup xs =>
   have key:∀ l:List (V1 B),qhe (qw B.erL l)=qgF l:=by
    intro l
    induction l with
    | nil=>rfl
    | cons x l ih=>simp only [qw,qhe,zZ,qgF,jB,wg,ih]
   exact key xs
def Ko (F:SF):List Nat->List (Nat×TV B)
 | []=>[]
 | t::r=>(t,qa unB F.tm t)::Ko F r
def VH:List (Nat×TV B)->List Nat
 | []=>[]
 | (_,x)::r=>Qv (qjD x) (VH r)
def WE (F:SF):List Nat->List (Nat×W)->List (Nat×W)
 | [],acc=>acc
 | id::r,acc=>WE F r (match has acc id with | true=>acc | false=>Qv acc [(id,qa .un F.tb id)])
def SF.keepB (F:SF)(l:List Nat):SF:={ F with tm:=Ko F l,tb:=WE F (VH (Ko F l)) [] }
theorem Qq (F:SF)(l:List Nat):(F.keepB l).er=F.er.keep l:=by
 have h1:∀ l,jF (Ko F l)=jL F.er l:=by
  intro l
  induction l with
  | nil=>rfl
  | cons t l ih=>simp only [Ko,jF,jL,ih];rw [show qa unT F.er.tm t=(qa unB F.tm t).er B.erL from Qc _ _]
 have h2:∀ l:List (Nat×TV B),vO (jF l)=VH l:=by
  intro l
  induction l with
  | nil=>rfl
  | cons x l ih=>obtain ⟨t,x⟩:=x;simp only [jF,vO,VH,jB,qcN,ih]
 have h3:∀ (l:List Nat) (acc:List (Nat×W)),zr (WE F l acc)=Ki F.er l (zr acc):=by
  intro l
  induction l with
  | nil=>intro acc;rfl
  | cons id l ih =>
    intro acc
    simp only [WE,Ki,ih,qe0]
    cases has acc id with
    | true=>rfl
    | false =>
      dsimp only
      rw [jB,vF]
      rw [show qa .un F.er.tb id=(qa .un F.tb id).er from Y5 _ _]
      rfl
 unfold SF.keepB Fr.keep SF.er
 simp only
 have:=h3 (VH (Ko F l)) []
 rw [this,<-h2,h1]
 rfl
structure LE (F G:Fr):Prop where
 n:G.n=F.n
 tm:∀ t,qa unT G.tm t=qa unT F.tm t
 tb:∀ id,qa .un G.tb id=qa .un F.tb id
 has:∀ id,has G.tb id=has F.tb id
theorem LE.refl (F:Fr):LE F F:=⟨rfl,fun _=>rfl,fun _=>rfl,fun _=>rfl⟩
theorem LE.trans {F G H:Fr}(h:LE F G)(k:LE G H):LE F H:=⟨k.n.trans h.n,fun t=>(k.tm t).trans (h.tm t),fun t=>(k.tb t).trans (h.tb t),fun t=>(k.has t).trans (h.has t)⟩
theorem LE.fr {F G:Fr}(h:LE F G){J:qi}{σ:Gh}{w:World}{vt:Nat->Value}(hF:FR F σ w vt)(hd:Dom F σ []):FR G σ w vt/\Dom G σ []:=by
 refine ⟨⟨hF.inj,hF.lt,hF.old,fun id=>by rw [h.tb];exact hF.tb id,fun t=>by rw [h.tm];exact hF.tm t⟩,fun g x hx=>?_⟩
 rcases hd g x hx with h1 | h1
 . left
   have:G.at std x.p=F.at std x.p:=by unfold Fr.at;rw [h.tb]
   rw [this]
   exact h1
 . exact .inr h1
theorem Ex.le [za] {P:Program}{ks:List K}{F G:Fr}{Post:Fr->Prop}(h:LE F G)(hx:Ex P ks G Post):Ex P ks F Post :=
 hx.weak h.n fun _ σ _ _ hF hd=>⟨σ,(h.fr hF hd).1,(h.fr hF hd).2,qF.refl _ _⟩
theorem LE.agree {F G H:Fr}(h:LE F G){X:List Nat}(ha:jq F H X):jq G H X :=
 ⟨fun t ht=>(ha.tm t ht).trans (h.tm t).symm,fun t ht id hid=>by rw [h.tm] at hid;exact (ha.tb t ht id hid).trans (h.tb id).symm⟩
theorem z7.le {P:Program}{all:Array Oper}{F G:Fr}{o:Oper}{it:It}(h:LE F G)(ha:z7 P all G o it):z7 P all F o it :=
 fun H hn hag hf=>ha H (hn.trans h.n.symm) (h.agree hag) hf
def SF.know (F:SF)(t:Nat)(b:Bool):SF:=F.put t (.v (false,[.fz (.bool true b)]))
theorem qls {F:SF}{t:Nat}{b:Bool}(h:∃ kn,qa unB F.tm t=.v (false,[.fz (.bool kn b)])):LE F.er (F.know t b).er:=by
 obtain ⟨kn,h⟩:=h
 refine ⟨rfl,fun t'=>?_,fun _=>rfl,fun _=>rfl⟩
 show qa unT ((t,_)::F.er.tm) t'=_
 rw [@qp qG]
 split
 . rename_i e
   subst e
   rw [show qa unT F.er.tm t=(qa unB F.tm t).er B.erL from Qc _ _,h]
   rfl
 . rfl
end Go.Proofs.YtececadpjelanaaGreat.Ai
namespace Go.Proofs.YtececadpjelanaaGreat.Ai
open Go
variable [qh]
def QV (ops:List Oper)(a:List Nat)(k i:Nat)(o:Oper):Bool:=match o.dst with
 | none=>false
 | some d=>(List.range k).all fun j=>match ops[j]? with
   | some o'=>(match o'.dst with
     | some d'=>(!(nq d d')||nq i j)&&(!((lkM ops o).contains d')||((a.getD i 0).testBit j&&nlt j i))
     | none=>false)
   | none=>false
def kb (ed:Oper->List Nat):List Oper->List Nat->List Nat
 | [],acc=>acc
 | o::r,acc=>kb ed r (acc++[(ed o).foldl (fun s e=>s ||| (1 <<< e) ||| acc.getD e 0) 0])
def YC (ops:List Oper)(k:Nat):Bool :=
 nle k ops.length&&(List.range ops.length).all fun i=>match ops[i]? with
  | some o=>(o.after.toList.all fun e=>K7 e&&nlt e.on i)&&(match nlt i k with
    | true=>QV ops (kb jM ops []) k i o
    | false=>nq ((kb jM ops []).getD i 0) (2 ^ i-1))
  | none=>false
def V4 (md:Region.Mode)(ops:List Oper):Nat->List Nat->List Nat
 | 0,done=>done.reverse
 | n+1,done=>match (List.range ops.length).find? (fun i=>!(done.contains i)&&(match ops[i]? with | some o=>(ZZ md o).all fun e=>done.contains e | none=>false)) with
   | some i=>V4 md ops n (i::done)
   | none=>done.reverse
def vL (ops:List Oper)(md:Region.Mode)(ord:List Nat):Bool:=(List.range ops.length).all fun i=>match ops[i]? with
 | some o=>(ZZ md o).all fun e=>nlt e ops.length&&nlt (ord.idxOf e) (ord.idxOf i)
 | none=>false
def VV (ops:List Oper):Bool :=
 ((List.range ops.length).all fun i=>match ops[i]? with
   | some o=>((qS o).all fun e=>nlt e i)&&QV ops (kb qS ops []) ops.length i o
   | none=>false)&&(vL ops .any (V4 .any ops ops.length [])&&(vL ops .text (V4 .text ops ops.length [])&&vL ops .gc (V4 .gc ops ops.length [])))
def yj (ops:List Oper)(s:Nat)(ls:List Nat):Bool :=
 nlt s ops.length&&((ls.all fun l=>nlt l s)&&(((List.range ops.length).all fun i=>match ops[i]? with
  | some o=>((qS o).all fun e=>nlt e i)&&(match nlt i s with
    | true=>QV ops (kb qS ops []) s i o
    | false=>(List.range i).all fun j=>((kb qS ops []).getD i 0).testBit j||ls.contains j)
  | none=>false)&&(vL ops .any (V4 .any ops ops.length [])&&(vL ops .text (V4 .text ops ops.length [])&&vL ops .gc (V4 .gc ops ops.length [])))))
def yO (a:List Nat)(i j:Nat):Prop:=(a.getD i 0).testBit j=true
theorem qla (ed:Oper->List Nat):∀ (ops:List Oper) (acc:List Nat),∃ r,kb ed ops acc=acc++r:=by
 intro ops
 induction ops with
 | nil=>intro acc;exact ⟨[],by simp [kb]⟩
 | cons o ops ih =>
   intro acc
   obtain ⟨r,hr⟩:=ih (acc++[(ed o).foldl (fun s e=>s ||| (1 <<< e) ||| acc.getD e 0) 0])
   exact ⟨[(ed o).foldl (fun s e=>s ||| (1 <<< e) ||| acc.getD e 0) 0]++r,by simp only [kb,hr,List.append_assoc]⟩
theorem qjp (acc:List Nat)(j:Nat):∀ (es:List Nat) (s:Nat),(es.foldl (fun s e=>s ||| (1 <<< e) ||| acc.getD e 0) s).testBit j=true->s.testBit j=true\/∃ e∈es,e=j\/(acc.getD e 0).testBit j=true:=by
 intro es
 induction es with
 | nil=>intro s h;exact .inl h
 | cons e es ih =>
   intro s h
   rcases ih _ h with h | ⟨e',he,h⟩
   . simp only [Nat.testBit_or,Bool.or_eq_true] at h
     rcases h with (h | h) | h
     . exact .inl h
     . right
       refine ⟨e,List.mem_cons_self,.inl ?_⟩
       rw [Nat.one_shiftLeft,Nat.testBit_two_pow] at h
       simpa using h
     . exact .inr ⟨e,List.mem_cons_self,.inr h⟩
   . exact .inr ⟨e',List.mem_cons_of_mem _ he,h⟩
theorem yo (ed:Oper->List Nat):∀ (ops:List Oper) (acc:List Nat) (i j:Nat) (o:Oper),ops[i]?=some o->((kb ed ops acc).getD (acc.length+i) 0).testBit j=true->∃ e∈ed o,e=j\/((kb ed ops acc).getD e 0).testBit j=true:=by
 intro ops
 induction ops with
 | nil=>intro acc i j o h;simp at h
 | cons o0 ops ih =>
   intro acc i j o h ht
   cases i with
   | zero =>
     simp only [List.getElem?_cons_zero,Option.some.injEq] at h
     subst h
     obtain ⟨r,hr⟩:=qla ed ops (acc++[(ed o0).foldl (fun s e=>s ||| (1 <<< e) ||| acc.getD e 0) 0])
     have e1:kb ed (o0::ops) acc=acc++[(ed o0).foldl (fun s e=>s ||| (1 <<< e) ||| acc.getD e 0) 0]++r:=by simp only [kb];exact hr
     rw [e1] at ht ⊢
     have h2:(acc++[(ed o0).foldl (fun s e=>s ||| (1 <<< e) ||| acc.getD e 0) 0]++r).getD (acc.length+0) 0=(ed o0).foldl (fun s e=>s ||| (1 <<< e) ||| acc.getD e 0) 0:=by simp [List.getD_eq_getElem?_getD]
     rw [h2] at ht
     rcases qjp acc j _ 0 ht with h | ⟨e,he,h⟩
     . simp at h
     . refine ⟨e,he,h.imp id fun h=>?_⟩
       have hlt:e<acc.length:=by
        rcases Nat.lt_or_ge e acc.length with hl | hl
        . exact hl
        . simp [List.getD_eq_getElem?_getD,List.getElem?_eq_none hl] at h
       rw [List.append_assoc]
       simp only [List.getD_eq_getElem?_getD,List.getElem?_append_left hlt] at h ⊢
       exact h
   | succ i =>
     simp only [List.getElem?_cons_succ] at h
     have:=ih (acc++[(ed o0).foldl (fun s e=>s ||| (1 <<< e) ||| acc.getD e 0) 0]) i j o h (by
      simp only [kb] at ht
      rw [show acc.length+(i+1)=(acc++[(ed o0).foldl (fun s e=>s ||| (1 <<< e) ||| acc.getD e 0) 0]).length+i by simp;omega] at ht
      exact ht)
     simpa only [kb] using this
theorem Yo {ops:List Oper}{k:Nat}(h:YC ops k=true):k<=ops.length/\∀ (i:Nat) (o:Oper),ops[i]?=some o->(∀ e∈o.after.toList,K7 e=true/\e.on<i) ∧
 (i<k->QV ops (kb jM ops []) k i o=true)/\(k<=i->(kb jM ops []).getD i 0=2 ^ i-1):=by
 simp only [YC,Bool.and_eq_true] at h
 refine ⟨qv h.1,fun i o ho=>?_⟩
 have hi:i<ops.length:=(List.getElem?_eq_some_iff.1 ho).1
 have h2:=List.all_eq_true.1 h.2 i (List.mem_range.2 hi)
 rw [ho] at h2
 simp only [Bool.and_eq_true] at h2
 obtain ⟨h3,h4⟩:=h2
 refine ⟨fun e he=>?_,fun hk=>?_,fun hk=>?_⟩
 . have:=List.all_eq_true.1 h3 e he
   simp only [Bool.and_eq_true] at this
   exact ⟨this.1,Nat.lt_of_succ_le (qv this.2)⟩
 . have hb:nlt i k=true:=wG hk
   rw [hb] at h4
   exact h4
 . have hb:nlt i k=false:=by
    cases hc:nlt i k with
    | false=>rfl
    | true=>have:=Nat.lt_of_succ_le (qv hc);omega
   rw [hb] at h4
   exact Nat.eq_of_beq_eq_true h4
theorem qfr {ops:List Oper}{k:Nat}(h:YC ops k=true):qhJ ops k (yO (kb jM ops [])):=by
 obtain ⟨h1,h2⟩:=Yo h
 refine ⟨h1,fun i o ho=>(h2 i o ho).1,fun i j o ho ha=>?_,fun i j hk hi hj=>?_⟩
 . exact yo jM ops [] i j o ho (by simpa [yO] using ha)
 . have:=(h2 i _ (List.getElem?_eq_getElem hi)).2.2 hk
   unfold yO
   rw [this]
   simp [Nat.testBit_two_pow_sub_one,hj]
theorem qeu {ops:List Oper}(h:VV ops=true):YJ ops (yO (kb qS ops []))/\∀ (i:Nat) (o:Oper),ops[i]?=some o->QV ops (kb qS ops []) ops.length i o=true:=by
 simp only [VV,Bool.and_eq_true] at h
 obtain ⟨h1,h2,h3,h4⟩:=h
 have key:∀ (i:Nat) (o:Oper),ops[i]?=some o->(∀ e∈qS o,e<i)/\QV ops (kb qS ops []) ops.length i o=true:=by
  intro i o ho
  have:=List.all_eq_true.1 h1 i (List.mem_range.2 (List.getElem?_eq_some_iff.1 ho).1)
  rw [ho] at this
  simp only [Bool.and_eq_true] at this
  exact ⟨fun e he=>Nat.lt_of_succ_le (qv (List.all_eq_true.1 this.1 e he)),this.2⟩
 have top:∀ (md:Region.Mode) (ord:List Nat),vL ops md ord=true->∃ rank:Nat->Nat,∀ (i:Nat) (o:Oper),ops[i]?=some o->∀ e∈ZZ md o,e<ops.length/\rank e<rank i:=by
  intro md ord h
  refine ⟨fun i=>ord.idxOf i,fun i o ho e he=>?_⟩
  have:=List.all_eq_true.1 h i (List.mem_range.2 (List.getElem?_eq_some_iff.1 ho).1)
  rw [ho] at this
  have:=List.all_eq_true.1 this e he
  simp only [Bool.and_eq_true] at this
  exact ⟨Nat.lt_of_succ_le (qv this.1),Nat.lt_of_succ_le (qv this.2)⟩
 refine ⟨⟨fun i o ho=>(key i o ho).1,fun i j o ho ha=>yo qS ops [] i j o ho (by simpa [yO] using ha),fun md=>?_⟩,fun i o ho=>(key i o ho).2⟩
 cases md with
 | text=>exact top _ _ h3
 | gc=>exact top _ _ h4
 | any=>exact top _ _ h2
theorem qd7 {ops:List Oper}{s:Nat}{ls:List Nat}(h:yj ops s ls=true):YI ops s ls (yO (kb qS ops []))/\∀ (i:Nat) (o:Oper),ops[i]?=some o->i<s->QV ops (kb qS ops []) s i o=true:=by
 simp only [yj,Bool.and_eq_true] at h
 obtain ⟨hs,hl,h1,h2,h3,h4⟩:=h
 have hs:=Nat.lt_of_succ_le (qv hs)
 have key:∀ (i:Nat) (o:Oper),ops[i]?=some o->(∀ e∈qS o,e<i)/\(i<s->QV ops (kb qS ops []) s i o=true)/\(s<=i->∀ j,j<i->j∉ls->yO (kb qS ops []) i j):=by
  intro i o ho
  have:=List.all_eq_true.1 h1 i (List.mem_range.2 (List.getElem?_eq_some_iff.1 ho).1)
  rw [ho] at this
  simp only [Bool.and_eq_true] at this
  obtain ⟨k1,k2⟩:=this
  refine ⟨fun e he=>Nat.lt_of_succ_le (qv (List.all_eq_true.1 k1 e he)),fun hi=>?_,fun hi j hj hne=>?_⟩
  . have hb:nlt i s=true:=wG hi
    rw [hb] at k2
    exact k2
  . have hb:nlt i s=false:=by
     cases hc:nlt i s with
     | false=>rfl
     | true=>have:=Nat.lt_of_succ_le (qv hc);omega
    rw [hb] at k2
    have:=List.all_eq_true.1 k2 j (List.mem_range.2 hj)
    simp only [Bool.or_eq_true,Bool.and_eq_true] at this
    rcases this with h | h6
    . exact h
    . exact absurd (List.contains_iff_mem.1 h6) hne
 have top:∀ (md:Region.Mode) (ord:List Nat),vL ops md ord=true->∃ rank:Nat->Nat,∀ (i:Nat) (o:Oper),ops[i]?=some o->∀ e∈ZZ md o,e<ops.length/\rank e<rank i:=by
  intro md ord h
  refine ⟨fun i=>ord.idxOf i,fun i o ho e he=>?_⟩
  have:=List.all_eq_true.1 h i (List.mem_range.2 (List.getElem?_eq_some_iff.1 ho).1)
  rw [ho] at this
  have:=List.all_eq_true.1 this e he
  simp only [Bool.and_eq_true] at this
  exact ⟨Nat.lt_of_succ_le (qv this.1),Nat.lt_of_succ_le (qv this.2)⟩
 refine ⟨⟨⟨fun i o ho=>(key i o ho).1,fun i j o ho ha=>yo qS ops [] i j o ho (by simpa [yO] using ha),fun md=>?_⟩,hs,fun l hm=>Nat.lt_of_succ_le (qv (List.all_eq_true.1 hl l hm)),fun i j hi hil hj hne=>(key i _ (List.getElem?_eq_getElem hil)).2.2 hi j hj hne⟩,fun i o ho=>(key i o ho).2.1⟩
 cases md with
 | text=>exact top _ _ h3
 | gc=>exact top _ _ h4
 | any=>exact top _ _ h2
def Wl (M:MB):List Prop->Prop->Prop
 | [],K=>K
 | p::r,K=>M.pAnd p (Wl M r K)
theorem kE:∀ (ps:List Prop) (K:Prop),Wl qk ps K->Holds ps/\K
 | [],K,h=>⟨(fun p hp=>by cases hp),h⟩
 | p::r,K,h=>by
   obtain ⟨h1,h2⟩:p/\Wl qk r K:=h
   obtain ⟨h3,h4⟩:=kE r K h2
   exact ⟨fun q hq=>(List.mem_cons.1 hq).elim (fun e=>e▸h1) (h3 q),h4⟩
def qnv (all:List Oper)(g:Nat):Option Nat:=match Kg all g with
 | some ⟨some t,_,_,_,_,_⟩=>(match nlt t PH with | true=>some t | false=>none)
 | _=>none
def qgn (M:MB)(F:SF)(t:Nat)(b:Bool)(K1 K2:SF->Prop):Prop :=
 M.pAnd (M.pImp b (K1 (F.know t true))) (M.pImp (M.bNot b) (K2 (F.know t false)))
def KI (M:MB)(all:List Oper)(F:SF)(o:Oper)(doK skipK:SF->Prop):Prop :=
 match o.guard with
 | none=>doK F
 | some (g,want)=>(match qnv all g with
   | some t=>(match qa unB F.tm t with
     | .v (false,[.fz (.bool kn b)])=>(match kn with
       | true=>(match b with
         | true=>(match want with | true=>doK F | false=>skipK F)
         | false=>(match want with | true=>skipK F | false=>doK F))
       | false=>(match want with
         | true=>qgn M F t b doK skipK
         | false=>qgn M F t b skipK doK))
     | .v (false,[.ud])=>skipK F
     | _=>M.pNo 1)
   | none=>M.pNo 2)
def Jw (M:MB)(F:SF)(o:Oper)(K:SF->Prop):Prop :=
 match o.op with
 | .pick (.tmp t) _ _=>(match qa unB F.tm t with
   | .v (false,[.fz (.bool kn b)])=>(match kn with
     | true=>K F
     | false=>qgn M F t b K K)
   | _=>K F)
 | _=>K F
theorem Z6 {F:SF}{t:Nat}{b kn:Bool}{K1 K2:SF->Prop}(hl:qa unB F.tm t=.v (false,[.fz (.bool kn b)]))(h:qgn qk F t b K1 K2) :
 LE F.er (F.know t b).er/\qa unB (F.know t b).tm t=.v (false,[.fz (.bool true b)])/\((b=true/\K1 (F.know t b))\/(b=false/\K2 (F.know t b))):=by
 refine ⟨qls ⟨kn,hl⟩,by simp [SF.know,SF.put,qa],?_⟩
 obtain ⟨h1,h2⟩:(b=true->K1 (F.know t true))/\((!b)=true->K2 (F.know t false)):=h
 cases b with
 | true=>exact .inl ⟨rfl,h1 rfl⟩
 | false=>exact .inr ⟨rfl,h2 rfl⟩
theorem YO {F:SF}{all:List Oper}{g t:Nat}(h:qnv all g=some t):QI F.er ⟨all⟩ g=(qhw (qa unB F.tm t)).er:=by
 unfold qnv at h
 unfold QI
 dsimp only
 split at h
 . rename_i t' _ _ _ _ _ hn
   split at h
   . rename_i hph
     simp only [Option.some.injEq] at h
     subst h
     rw [hn]
     dsimp only
     rw [hph]
     dsimp only
     rw [qbl,<-show qa unT F.er.tm t'=(qa unB F.tm t').er B.erL from Qc _ _]
   . cases h
 . cases h
theorem ZE {F:SF}{all:List Oper}{o:Oper}{doK skipK:SF->Prop}(h:KI qk all F o doK skipK) :
 ∃ F':SF,LE F.er F'.er/\((zV F'.er ⟨all⟩ o true/\doK F')\/(zV F'.er ⟨all⟩ o false/\skipK F')):=by
 unfold KI at h
 split at h
 . rename_i hg
   exact ⟨F,LE.refl _,.inl ⟨by unfold zV;rw [hg],h⟩⟩
 . rename_i g want hg
   split at h
   . rename_i t ht
     have key:∀ (F':SF) (b kn:Bool),qa unB F'.tm t=.v (false,[.fz (.bool kn b)])->zV F'.er ⟨all⟩ o (b == want):=by
      intro F' b kn hl
      unfold zV
      rw [hg]
      refine .inl ?_
      rw [YO ht,hl]
      cases b<;>cases want<;>rfl
     split at h
     . rename_i kn b hl
       split at h
       . split at h
         . split at h
           . exact ⟨F,LE.refl _,.inl ⟨key F _ _ hl,h⟩⟩
           . exact ⟨F,LE.refl _,.inr ⟨key F _ _ hl,h⟩⟩
         . split at h
           . exact ⟨F,LE.refl _,.inr ⟨key F _ _ hl,h⟩⟩
           . exact ⟨F,LE.refl _,.inl ⟨key F _ _ hl,h⟩⟩
       . split at h
         . obtain ⟨h1,h2,h3⟩:=Z6 hl h
           refine ⟨_,h1,?_⟩
           have:=key _ _ _ h2
           rcases h3 with ⟨rfl,h3⟩ | ⟨rfl,h3⟩
           . exact .inl ⟨this,h3⟩
           . exact .inr ⟨this,h3⟩
         . obtain ⟨h1,h2,h3⟩:=Z6 hl h
           refine ⟨_,h1,?_⟩
           have:=key _ _ _ h2
           rcases h3 with ⟨rfl,h3⟩ | ⟨rfl,h3⟩
           . exact .inr ⟨this,h3⟩
           . exact .inl ⟨this,h3⟩
     . rename_i hl
       refine ⟨F,LE.refl _,.inr ⟨?_,h⟩⟩
       unfold zV
       rw [hg]
       refine .inr ⟨rfl,?_⟩
       rw [YO ht,hl]
       rfl
     . exact h.elim
   . exact h.elim
theorem Kd {F:SF}{o:Oper}{K:SF->Prop}(h:Jw qk F o K):∃ F':SF,LE F.er F'.er/\K F':=by
 unfold Jw at h
 split at h
 . split at h
   . rename_i kn b hl
     split at h
     . exact ⟨F,LE.refl _,h⟩
     . obtain ⟨h1,_,h3⟩:=Z6 hl h
       exact ⟨_,h1,h3.elim (fun x=>x.2) (fun x=>x.2)⟩
   . exact ⟨F,LE.refl _,h⟩
 . exact ⟨F,LE.refl _,h⟩
theorem zV.le {F G:Fr}{all:Array Oper}{o:Oper}{b:Bool}(h:LE F G)(hw:zV F all o b):zV G all o b:=by
 refine Z3 hw ⟨fun t _=>h.tm t,fun t _ id _=>h.tb id⟩
abbrev ItB:=Nat×List (Nat×W)×TV B
def Wj (it:ItB):It:=(it.1,zr it.2.1,it.2.2.er B.erL)
def SF.apB (F:SF)(it:ItB):SF:=(F.addsB it.2.1).put it.1 it.2.2
theorem qkN (F:SF)(it:ItB):(F.apB it).er=F.er.ap (Wj it):=by unfold SF.apB Fr.ap;rw [SF.put_er,VP];rfl
def qnu:TV B->Bool
 | .v (false,[.fz .nilsl])=>false
 | .v (false,[.fz _])=>true
 | _=>false
theorem qlY {x:TV B}(h:qnu x=true):qni (x.er B.erL)=true:=by
 unfold qnu at h
 split at h
 . cases h
 . rename_i d hd
   cases d<;>first | rfl | exact (hd rfl).elim
 . cases h
def qlF (M:MB)(X:SX)(ora:jS)(F:SF)(o:Oper):R ItB :=
 match o.dst with
 | none=>none
 | some d=>(match zt F.n d with
   | true=>(match o.op with
     | .call ⟨.value f,⟨args⟩,_⟩=>(Wo M F f).bd fun g=>(qb9 M F args).bd fun as=>(ora g.1 (Qv as (jr g.2))).bd fun r=>(match JS r with
       | true=>(match Js F (f::args) with
         | true=>R.ok (d,KB d r,VB M d r)
         | false=>(match JL r with
           | true=>R.ok (d,KB d r,VB M d r)
           | false=>none))
       | false=>none)
     | .alloc e=>(match X.T e with
       | some ty=>(match zWL ty.zero with
         | some zs=>R.ok (d,[(rid d 0 0,.obx zs)],ppB (rid d 0 0))
         | none=>none)
       | none=>none)
     | .assign x=>(match qnu (evB F x) with
       | true=>R.ok (d,[],evB F x)
       | false=>none)
     | op=>(qmi M X.T F op).bd fun v=>R.ok (d,[],v))
   | false=>none)
theorem qmW {M:Ops}{T:Nat->Option Ty}{kn:Bool}{ora:Ora}{F:Fr}{o:Oper}{d:Nat}(hd:o.dst=some d)(hlt:zt F.n d=true)(h1:∀ f args ts,o.op=.call ⟨.value f,⟨args⟩,ts⟩->False)(h2:∀ e,o.op=.alloc e->False)(h3:∀ e,o.op=.assign e->False) :
 wC M T kn ora F o=(match qop M T F o.op with | some (.val x)=>some (d,[],x) | _=>none):=by
 unfold wC
 rw [hd]
 dsimp only
 rw [hlt]
 dsimp only
 split
 . rename_i he;exact (h1 _ _ _ he).elim
 . rename_i he;exact (h2 _ he).elim
 . rename_i he;exact (h3 _ he).elim
 . rfl
theorem qkW {P:Program}(X:SX){ora:jS}(hO:qm P ora)(F:SF)(o:Oper):(qlF qk X ora F o).Sim fun it=>o.dst=some it.1/\∃ ora':Ora,(∀ g as r,ora' g as=some r->kM P g as r)/\wC std X.T false ora' F.er o=some (Wj it):=by
 unfold qlF
 split
 . exact R.Sim.none'
 . rename_i d hd
   split
   . rename_i hlt
     have hlt:zt F.er.n d=true:=hlt
     split
     . rename_i f args ts hop
       refine R.Sim.bd (v8 F f) fun g hg=>R.Sim.bd (wu F args) fun as has=>R.Sim.bd (hO g.1 _) fun r hr=>?_
       split
       . rename_i hf
         have h1:yH g.1 (qw D.erL (Qv as (jr g.2))) (r.er W.erL) g.1 (qw D.erL as++QE (D.erL g.2))=some (r.er W.erL):=by
          unfold yH
          rw [if_pos ⟨rfl,by rw [jB,Zm,qbw]⟩]
         have key:(Js F (f::args)=true\/JL r=true)->∃ ora':Ora,(∀ g as r,ora' g as=some r->kM P g as r)/\wC std X.T false ora' F.er o=some (Wj (d,KB d r,VB qk d r)):=by
          intro hc
          refine ⟨yH g.1 (qw D.erL (Qv as (jr g.2))) (r.er W.erL),?_,?_⟩
          . intro g' as' r' h'
            unfold yH at h'
            split at h'
            . rename_i hh
              simp only [Option.some.injEq] at h'
              subst h'
              rw [hh.1,hh.2]
              exact hr
            . cases h'
          . unfold wC qk6
            simp only [hd,hlt,hop,hg,has,h1,qcF hf,Vw]
            rcases hc with hc | hc
            . simp only [hc,Wj,ZC,wc]
            . cases hl:Js F (f::args) with
              | true=>simp only [Wj,ZC,wc]
              | false=>simp only [VO hc,Wj,ZC,wc]
         split
         . rename_i hl;exact R.Sim.ok ⟨hd,key (.inl hl)⟩
         . split
           . rename_i hc;exact R.Sim.ok ⟨hd,key (.inr hc)⟩
           . exact R.Sim.none'
       . exact R.Sim.none'
     . rename_i e hop
       split
       . rename_i ty ht
         split
         . rename_i zs hz
           obtain ⟨h1,h2⟩:=qbq _ hz
           refine R.Sim.ok ⟨hd,fun _ _=>none,(fun _ _ _ h=>by cases h),?_⟩
           unfold wC
           simp only [hd,hlt,hop,ht,h2,Wj,zr,W.er,<-h1]
           rfl
         . exact R.Sim.none'
       . exact R.Sim.none'
     . rename_i x hop
       split
       . rename_i hs
         refine R.Sim.ok ⟨hd,fun _ _=>none,(fun _ _ _ h=>by cases h),?_⟩
         have hs:=qlY hs
         rw [kz] at hs
         unfold wC
         simp only [hd,hlt,hop,hs,Wj,zr,kz]
       . exact R.Sim.none'
     . rename_i h1 h2 h3
       refine R.Sim.bd (qbY X.T F o.op) fun v hv=>R.Sim.ok ⟨hd,fun _ _=>none,(fun _ _ _ h=>by cases h),?_⟩
       rw [qmW hd hlt h1 h2 h3,hv]
       rfl
   . exact R.Sim.none'
def qod (X:SX)(d t len:Nat):R ItB :=
 match X.T t with
 | some ⟨.sl e,_,_,_,_⟩=>(match X.T e with
   | some ty=>(match nq 0 len&&nle len 4096&&nlt 0 ty.size&&nle ty.size 4096 with
     | true=>R.ok (d,[(rid d 0 0,.onil)],rfB (rid d 0 0) len)
     | false=>none)
   | none=>none)
 | _=>none
def qen (M:MB)(F:SF):B->R Bool
 | .fz .nilsl=>R.ok true
 | .rf (r,[]) _ off len=>(F.atR M (r,[])).bd fun o=>(match o with
   | .onil=>some ([M.pEqN off 0,M.pEqN len 0],true)
   | _=>none)
 | _=>none
def qfi:B->Option (Option LL)
 | .fz .nilsl=>some none
 | .fz (.sl zs)=>some (some zs.thaw)
 | _=>none
def qnT (M:MB)(X:SX)(F:SF)(d:Nat)(x y:Operand)(t t':Nat):R ItB :=
 match nq t t',X.T t with
 | true,some ⟨.sl e,_,_,_,_⟩=>(match X.T e with
   | some ty=>(qen M F (zJ F x)).bd fun _=>(match qfi (zJ F y) with
     | some z=>(match nle ty.bytes 4096&&nlt 0 ty.size&&nq (cnt ty.zero) ty.size&&qml ty.size z with
       | true=>some ([M.pLeLim (WW M z)],(d,[(rid d 0 0,qm3 z)],rfB (rid d 0 0) (WW M z)))
       | false=>none)
     | none=>none)
   | none=>none)
 | _,_=>none
def qn0 (X:SX)(d t len i:Nat)(x:Operand):R ItB :=
 match X.T t with
 | some ⟨.sl e,_,_,_,_⟩=>(match X.T e,x with
   | some ty,.const (.int .i64 n)=>(match nq 1 len&&nle len 4096&&nlt 0 ty.size&&nle ty.size 4096&&(nq i 0&&nq 1 ty.size) with
     | true=>R.ok (d,[(rid d 0 0,.osl (.i [n]))],rfB (rid d 0 0) len)
     | false=>none)
   | _,_=>none)
 | _=>none
def qn1 (M:MB)(X:SX)(d t:Nat)(l c:Operand):R ItB :=
 match X.T t with
 | some ⟨.sl e,_,_,_,_⟩=>(match X.T e,l,c with
   | some ty,.const (.int _ n),.const (.int _ m)=>(match nle ty.bytes 4096&&nlt 0 ty.size&&nq (cnt ty.zero) ty.size with
     | true=>(match ty.zero with
       | [.int .i64 0]=>some ([M.pEqI n m,M.pRep n],(d,[(rid d 0 0,.osl (.i (M.rep (M.toN n) 0)))],rfB (rid d 0 0) (M.len (M.rep (M.toN n) (0:Int)))))
       | _=>none)
     | false=>none)
   | _,_,_=>none)
 | _=>none
def isK:Op->Bool
 | .buildSlice _ _ ⟨[]⟩=>true
 | .buildSlice _ _ ⟨[(_,.const _)]⟩=>true
 | .makeSlice _ (.const _) (.const _)=>true
 | .call ⟨.builtin .append,⟨[_,_]⟩,⟨[_,_]⟩⟩=>true
 | _=>false
def qks (M:MB)(X:SX)(F:SF)(o:Oper):R ItB :=
 match o.dst with
 | none=>none
 | some d=>(match zt F.n d with
   | true=>(match o.op with
     | .buildSlice t len ⟨[]⟩=>qod X d t len
     | .buildSlice t len ⟨[(i,x)]⟩=>qn0 X d t len i x
     | .makeSlice t l c=>qn1 M X d t l c
     | .call ⟨.builtin .append,⟨[x,y]⟩,⟨[t,t']⟩⟩=>qnT M X F d x y t t'
     | _=>none)
   | false=>none)
def qlm (F:SF)(o:Oper):Option ItB:=match o.op with
 | .nilCheck x=>(match o.dst with
   | some d=>(match zt F.n d with
     | true=>(match zJ F x with
       | .fz (.ptr cs)=>some (d,[],.v (false,[.fz (.ptr cs)]))
       | _=>none)
     | false=>none)
   | none=>none)
 | _=>none
def qlf (M:MB)(X:SX)(ora:jS)(F:SF)(o:Oper):R ItB:=match isK o.op with
 | true=>qks M X F o
 | false=>(match qlm F o with
   | some it=>R.ok it
   | none=>qlF M X ora F o)
theorem qez (F:SF)(x:B):(qen qk F x).Sim fun _=>vQ std F.er x.er=true:=by
 unfold qen
 split
 . exact R.Sim.ok rfl
 . rename_i r w off len
   refine R.Sim.bd (F.atR_sim _) fun o ho=>?_
   split
   . refine R.Sim.mk fun hp=>?_
     obtain ⟨h1,h2⟩:=hp.two
     have h1:off=0:=h1
     have h2:len=0:=h2
     subst h1 h2
     have ho':F.er.at std (r,[])=.osl []:=ho
     show (match F.er.at std (r,[]) with | .osl []=>std.nEq 0 0&&std.nEq 0 0 | _=>false)=true
     rw [ho']
     rfl
   . exact R.Sim.none'
 . exact R.Sim.none'
theorem qhd {x:B}{z:Option LL}(h:qfi x=some z):Yl std x.er=some (oro z):=by
 unfold qfi at h
 split at h
 . injection h with h;subst h;rfl
 . rename_i zs
   injection h with h
   subst h
   simp only [B.er,D.er,Yl,oro,LL.thaw_ro]
   rfl
 . cases h
theorem qhf (X:SX)(F:SF)(o:Oper):(qks qk X F o).Sim fun it=>o.dst=some it.1/\VE std X.T F.er o=some (Wj it):=by
 unfold qks
 split
 . exact R.Sim.none'
 . rename_i d hd
   split
   . rename_i hlt
     have hlt:zt F.er.n d=true:=hlt
     split
     . rename_i t len hop
       unfold qod
       split
       . rename_i e g1 g2 g3 g4 ht
         split
         . rename_i ty hte
           split
           . rename_i hok
             refine R.Sim.ok ⟨hd,?_⟩
             unfold VE bsK
             simp only [hd,hlt,hop,ht,hte,hok]
             rfl
           . exact R.Sim.none'
         . exact R.Sim.none'
       . exact R.Sim.none'
     . rename_i t len i x hop
       unfold qn0
       split
       . rename_i e g1 g2 g3 g4 ht
         split
         . rename_i ty n hte
           split
           . rename_i hok
             refine R.Sim.ok ⟨hd,?_⟩
             unfold VE bsC
             simp only [hd,hlt,hop,ht,hte,hok]
             rfl
           . exact R.Sim.none'
         . exact R.Sim.none'
       . exact R.Sim.none'
     . rename_i t l c hop
       unfold qn1
       split
       . rename_i e g1 g2 g3 g4 ht
         split
         . rename_i ty k1 n k2 m hte
           split
           . rename_i hc
             split
             . rename_i hz
               refine R.Sim.mk fun hp=>⟨hd,?_⟩
               obtain ⟨h3,h4,h5⟩:=hp.two
               have h3:n=m:=h3
               subst h3
               have hr:std.oRep n (zN false ty.zero)=some (roI (List.replicate n.toNat 0)):=by
                show (if 0<=n/\n<=(lim:Int) then some (List.replicate n.toNat (zN false ty.zero)) else none)=_
                rw [if_pos ⟨h4,h5⟩,hz]
                simp [zN,roI]
               have hb:std.bEq n n=true:=by show (n == n)=true;simp
               have hlen:std.oLen (roI (List.replicate n.toNat 0))=(List.replicate n.toNat (0:Int)).length:=by show (roI _).length=_;simp [roI]
               have hnu:Q6 ty.zero=true:=by rw [hz];rfl
               unfold VE mkC
               simp only [hd,hlt,hop,ht,hte,hb,hc,hnu,hr,hlen,Bool.and_self,Bool.true_and,Bool.and_true]
               rfl
             . exact R.Sim.none'
           . exact R.Sim.none'
         . exact R.Sim.none'
       . exact R.Sim.none'
     . rename_i x y t t' hop
       unfold qnT
       split
       . rename_i e g1 g2 g3 g4 htt ht
         split
         . rename_i ty hte
           refine R.Sim.bd (qez F _) fun _ hb=>?_
           split
           . rename_i z hz
             split
             . rename_i hok
               refine R.Sim.mk fun hp=>⟨hd,?_⟩
               have h6:std.nLe (std.oLen (oro z)) lim=true:=by
                have:WW qk z<=lim:=hp.one
                show decide ((oro z).length<=lim)=true
                rw [JK]
                simpa using this
               have hz:=qhd hz
               rw [qE] at hb hz
               simp only [Bool.and_eq_true] at hok
               obtain ⟨⟨⟨h1,h2⟩,h3⟩,h4⟩:=hok
               unfold VE apK
               simp only [hd,hlt,hop,htt,ht,hte,hb,hz,h6,h1,h2,h3,qan h4,Bool.and_self]
               have h8:std.oLen (oro z)=WW qk z:=JK z
               rw [h8]
               simp only [Wj,zr,qgx]
               rfl
             . exact R.Sim.none'
           . exact R.Sim.none'
         . exact R.Sim.none'
       . exact R.Sim.none'
     . exact R.Sim.none'
   . exact R.Sim.none'
theorem qk1 {P:Program}{X:SX}(hT:ka P X.T){ora:jS}(hO:qm P ora){all:Array Oper}(F:SF)(o:Oper)(hw:zV F.er all o true):(qlf qk X ora F o).Sim fun it=>o.dst=some it.1/\z7 P all F.er o (Wj it):=by
 unfold qlf
 split
 . exact (qhf X F o).mono fun it h=>⟨h.1,z7.of_aopK hT hw h.2⟩
 . split
   . rename_i it hn
     unfold qlm at hn
     split at hn
     . rename_i x hop
       split at hn
       . rename_i d hd
         split at hn
         . rename_i hlt
           have hlt:zt F.er.n d=true:=hlt
           split at hn
           . rename_i cs hx
             injection hn with hn
             subst hn
             exact R.Sim.ok ⟨hd,z7.of_nil hw hd hlt hop (by rw [<-qE,hx];rfl)⟩
           . cases hn
         . cases hn
       . cases hn
     . cases hn
   exact (qkW X hO F o).mono fun it h=>by
    obtain ⟨h1,ora',hO',hag⟩:=h
    exact ⟨h1,z7.of_aop hT hO' hw hag⟩
def qhs:List Nat->Nat->Bool
 | [],_=>false
 | a::r,n=>match nq a n with | true=>true | false=>qhs r n
theorem qcG {l:List Nat}{n:Nat}:qhs l n=true↔n∈l:=by
 induction l with
 | nil=>simp [qhs]
 | cons a r ih =>
   simp only [qhs,List.mem_cons]
   cases h:nq a n with
   | true=>obtain rfl:=Nat.eq_of_beq_eq_true h;simp
   | false =>
     have:¬n=a:=fun e=>by subst e;simp at h
     simp [ih,this]
def vc (all:List Oper)(DS:List Nat)(t:Nat):List Nat->Bool
 | []=>true
 | id::r=>match nq (Nat.div id 4096) t with
   | true=>vc all DS t r
   | false=>(match qhs DS (Nat.div id 4096) with
     | true=>(match qhs (mvL all t) (Nat.div id 4096) with | true=>vc all DS t r | false=>false)
     | false=>vc all DS t r)
def qbQ (all:List Oper)(F:SF)(DS:List Nat):List Nat->Bool
 | []=>true
 | t::r=>match vc all DS t (qjD (qa unB F.tm t)) with | true=>qbQ all F DS r | false=>false
def qgS (F0:SF)(d:Nat):List (Nat×W)->Bool
 | []=>true
 | (id,_)::r=>match has F0.tb id with
   | true=>false
   | false=>(match nq (Nat.div id 4096) d with | true=>qgS F0 d r | false=>false)
theorem qfH {all:List Oper}{DS:List Nat}{t:Nat}{l:List Nat}(h:vc all DS t l=true):∀ id∈l,id / 4096=t\/id / 4096∉DS\/id / 4096∈mvL all t:=by
 induction l with
 | nil=>intro id hid;cases hid
 | cons a r ih =>
   simp only [vc] at h
   intro id hid
   split at h
   . rename_i he
     rcases List.mem_cons.1 hid with rfl | hid
     . exact .inl (Nat.eq_of_beq_eq_true he)
     . exact ih h id hid
   . split at h
     . split at h
       . rename_i hm
         rcases List.mem_cons.1 hid with rfl | hid
         . exact .inr (.inr (qcG.1 hm))
         . exact ih h id hid
       . cases h
     . rename_i hm
       rcases List.mem_cons.1 hid with rfl | hid
       . exact .inr (.inl (fun hh=>by have:=qcG.2 hh;rw [show id / 4096=Nat.div id 4096 from rfl,hm] at this;cases this))
       . exact ih h id hid
theorem Yg {all:List Oper}{F:SF}{DS:List Nat}{l:List Nat}(h:qbQ all F DS l=true):∀ t∈l,∀ id∈(qa unT F.er.tm t).ids,id / 4096=t\/id / 4096∉DS\/id / 4096∈mvL all t:=by
 induction l with
 | nil=>intro t ht;cases ht
 | cons a r ih =>
   simp only [qbQ] at h
   split at h
   . rename_i hc
     intro t ht
     rcases List.mem_cons.1 ht with rfl | ht
     . rw [show qa unT F.er.tm t=(qa unB F.tm t).er B.erL from Qc _ _,qcN]
       exact qfH hc
     . exact ih h t ht
   . cases h
theorem qiL {F0:SF}{d:Nat}{l:List (Nat×W)}(h:qgS F0 d l=true):qdM F0.er (zr l)/\∀ id o,(id,o)∈zr l->id / 4096=d:=by
 induction l with
 | nil=>exact ⟨(fun id o hm=>by cases hm),(fun id o hm=>by cases hm)⟩
 | cons a r ih =>
   obtain ⟨i,w⟩:=a
   simp only [qgS] at h
   split at h
   . cases h
   . rename_i hh
     split at h
     . rename_i he
       obtain ⟨h1,h2⟩:=ih h
       refine ⟨fun id o hm=>?_,fun id o hm=>?_⟩
       . rcases List.mem_cons.1 hm with e | hm
         . injection e with e _;subst e;rw [show F0.er.tb=zr F0.tb from rfl,qe0];exact hh
         . exact h1 id o hm
       . rcases List.mem_cons.1 hm with e | hm
         . injection e with e _;subst e;exact Nat.eq_of_beq_eq_true he
         . exact h2 id o hm
     . cases h
def wpD (M:MB)(X:SX)(ora:jS)(all:List Oper)(F0:SF)(DS:List Nat):List Oper->SF->(SF->Prop)->Prop
 | [],F,K=>K F
 | o::l,F,K=>KI M all F o
   (fun F1=>Jw M F1 o fun F2=>(match qlf M X ora F2 o with
     | some (ps,it)=>(match qbQ all F2 DS (Qv (opL o.op) (gdT ⟨all⟩ o)) with
       | true=>(match qgS F0 it.1 it.2.1 with
         | true=>Wl M ps (wpD M X ora all F0 DS l (F2.apB it) K)
         | false=>M.pNo 3)
       | false=>M.pNo 4)
     | none=>M.pNo 5))
   (fun F1=>(match o.dst with
     | some d=>(match nlt d PH with
       | true=>(match qbQ all F1 DS (Qv (opL o.op) (gdT ⟨all⟩ o)) with
         | true=>wpD M X ora all F0 DS l (F1.apB (d,[],.v (false,[.ud]))) K
         | false=>M.pNo 6)
       | false=>M.pNo 8)
     | none=>M.pNo 7))
def qek:Op->Bool
 | .extract _ _=>true
 | .move _=>true
 | .load _ _=>true
 | .fieldAddr _ _ _=>true
 | _=>false
theorem qlC {M:MB}{X:SX}{ora:jS}{F:SF}{o:Oper}{ps:List Prop}{it:ItB}(h:qlf M X ora F o=some (ps,it))(hn:qek o.op=true):it.2.1=[]:=by
 unfold qlf at h
 cases ho:o.op<;>rw [ho] at hn h<;>first | cases hn | skip
 all_goals (
  simp only [isK] at h
  have hnx:qlm F o=none:=by unfold qlm;rw [ho]
  rw [hnx] at h
  dsimp only at h
  unfold qlF at h
  rw [ho] at h
  split at h
  . cases h
  . split at h
    . dsimp only at h
      unfold R.bd at h
      split at h
      . cases h
      . split at h
        . cases h
        . rename_i hb
          unfold R.ok at hb
          simp only [Option.some.injEq,Prod.mk.injEq] at hb h
          obtain ⟨_,hb⟩:=hb
          obtain ⟨_,h⟩:=h
          rw [<-h,<-hb]
    . cases h)
def frs (F:Fr)(its:List It)(i:Nat):Fr:=(its.take i).foldl Fr.ap F
theorem LE.ap {F G:Fr}(h:LE F G)(it:It):LE (F.ap it) (G.ap it):=by
 have htb:∀ H:Fr,(H.ap it).tb=it.2.1.reverse++H.tb:=fun H=>qgJ _ _
 have htm:∀ H:Fr,(H.ap it).tm=(it.1,it.2.2)::H.tm:=by intro H;show (it.1,it.2.2)::(H.adds it.2.1).tm=_;rw [(@KH qG it.2.1 H).1]
 refine ⟨?_,fun t=>?_,fun id=>?_,fun id=>?_⟩
 . show (G.adds it.2.1).n=(F.adds it.2.1).n;rw [(@KH qG it.2.1 G).2,(@KH qG it.2.1 F).2,h.n]
 . rw [htm,htm,@qp qG,@qp qG,h.tm]
 . rw [htb,htb,@ko qG,@ko qG,h.tb]
 . rw [htb,htb,@Qt qG,@Qt qG,h.has]
structure qde (P:Program)(all:List Oper)(F0:SF)(DS:List Nat)(F:Fr)(o:Oper)(x:It):Prop where
 item:z7 P ⟨all⟩ F o x
 dst:o.dst=some x.1
 fr:qdM F0.er x.2.1
 blk:∀ id o',(id,o')∈x.2.1->id / 4096=x.1
 ids:∀ t∈lkT ⟨all⟩ o,∀ id∈(qa unT F.tm t).ids,id / 4096∈lkM all o\/id / 4096∉DS
 nr:qek o.op=true->x.2.1=[]
theorem qku {all:List Oper}{o:Oper}{t n:Nat}{Q:Prop}(ht:t∈lkT ⟨all⟩ o)(h:n=t\/Q\/n∈mvL all t):n∈lkM all o\/Q:=by
 rcases h with rfl | h | h
 . exact .inl (List.mem_append_left _ ht)
 . exact .inr h
 . exact .inl (List.mem_append_right _ (List.mem_flatMap.2 ⟨t,ht,h⟩))
theorem wW {P:Program}{X:SX}(hT:ka P X.T){ora:jS}(hO:qm P ora){all:List Oper}{F0:SF}{DS:List Nat}{K:SF->Prop}:∀ (l:List Oper) (F:SF) (Fc:Fr),LE Fc F.er->wpD qk X ora all F0 DS l F K →
 ∃ (its:List It) (G:SF),its.length=l.length/\K G/\LE (frs Fc its l.length) G.er/\∀ (i:Nat) (o:Oper) (x:It),l[i]?=some o->its[i]?=some x->qde P all F0 DS (frs Fc its i) o x:=by
 intro l
 induction l with
 | nil=>intro F Fc hl h;exact ⟨[],F,rfl,h,hl,fun i o x ho=>by simp at ho⟩
 | cons o l ih =>
   intro F Fc hl h
   simp only [wpD] at h
   obtain ⟨F1,h1,h2⟩:=ZE h
   have go:∀ (F2:SF) (it:It) (F3:SF),LE Fc F2.er->F3.er=F2.er.ap it->wpD qk X ora all F0 DS l F3 K->qde P all F0 DS Fc o it →
    ∃ (its:List It) (G:SF),its.length=(o::l).length/\K G/\LE (frs Fc its (o::l).length) G.er/\∀ (i:Nat) (o':Oper) (x:It),(o::l)[i]?=some o'->its[i]?=some x->qde P all F0 DS (frs Fc its i) o' x:=by
    intro F2 it F3 hle he hw hit
    obtain ⟨its,G,k1,k2,k3,k4⟩:=ih F3 (Fc.ap it) (by rw [he];exact hle.ap it) hw
    refine ⟨it::its,G,by simp [k1],k2,k3,fun i o' x ho hx=>?_⟩
    cases i with
    | zero =>
      simp only [List.getElem?_cons_zero,Option.some.injEq] at ho hx
      subst ho hx
      exact hit
    | succ i=>exact k4 i o' x (by simpa using ho) (by simpa using hx)
   have hlk:∀ t∈lkT ⟨all⟩ o,t∈Qv (opL o.op) (gdT ⟨all⟩ o):=by intro t ht;rw [jB];exact ht
   rcases h2 with ⟨hw,h2⟩ | ⟨hw,h2⟩
   . obtain ⟨F2,h3,h4⟩:=Kd h2
     split at h4
     . rename_i ps it hit
       split at h4
       . rename_i hc1
         split at h4
         . rename_i hc2
           obtain ⟨hps,h5⟩:=kE ps _ h4
           obtain ⟨hdst,hag⟩:=qk1 hT hO F2 o (hw.le h3) ps it hit hps
           have hle:LE Fc F2.er:=(hl.trans h1).trans h3
           obtain ⟨hf1,hf2⟩:=qiL hc2
           refine go F2 (Wj it) _ hle (qkN F2 it) h5 ⟨?_,hdst,hf1,hf2,?_,fun hnr=>?_⟩
           . exact z7.le hle hag
           . intro t ht id hid
             rw [<-hle.tm t] at hid
             exact qku ht (Yg hc1 t (hlk t ht) id hid)
           . show zr it.2.1=[]
             rw [qlC hit hnr]
             rfl
         . exact h4.elim
       . exact h4.elim
     . exact h4.elim
   . split at h2
     . rename_i d hd
       split at h2
       . rename_i hph
         split at h2
         . rename_i hc1
           have hle:LE Fc F1.er:=hl.trans h1
           refine go F1 (d,[],.v (false,[.ud])) _ hle (qkN F1 _) h2 ⟨?_,hd,fun id o hm=>by (cases hm),fun id o hm=>by (cases hm),?_,fun _=>rfl⟩
           . exact z7.le hle (z7.of_skip hd hph hw)
           . intro t ht id hid
             rw [<-hle.tm t] at hid
             exact qku ht (Yg hc1 t (hlk t ht) id hid)
         . exact h2.elim
       . exact h2.elim
     . exact h2.elim
end Go.Proofs.YtececadpjelanaaGreat.Ai
namespace Go.Proofs.YtececadpjelanaaGreat.Ai
open Go
variable [qh]
def zG (P:Program)(g:FuncId)(args:List (V1 B))(tb:List (Nat×W))(ph:List B)(r:TV B)(tb':List (Nat×W))(ph':List B):Prop :=
 vM P g (qw B.erL args) (zr tb) (B.erL ph) (r.er B.erL) (zr tb') (B.erL ph')
def qoe:LK->SP->B
 | .sl n,p=>.rf p true 0 n
 | .bx,p=>.pp p (true,0) 0
theorem qmj (k:LK)(p:SP):(qoe k p).er=jp k p.er:=by cases k<;>rfl
def qiy:Nat->List (LK×W)->List (Nat×W)
 | _,[]=>[]
 | i,x::r=>(lrt i,x.2)::qiy (i+1) r
def qht:Nat->List (LK×W)->List B
 | _,[]=>[]
 | i,x::r=>qoe x.1 (lrt i,[])::qht (i+1) r
def zR (P:Program)(X:SX):Prop:=∀ g as ls,R.Sim (X.OW g as ls) fun res=>zG P g as (qiy 0 ls) (qht 0 ls) res.1 res.2.1 res.2.2
def JO (F:SF)(f:Operand):R (FuncId×List B):=match zJ F f with
 | .fz (.fn g caps)=>R.ok (g,fzB caps)
 | .clo g caps=>R.ok (g,caps)
 | _=>none
theorem qbj (F:SF)(f:Operand):(JO F f).Sim fun r=>Kq F.er f=some (r.1,B.erL r.2):=by
 unfold JO
 split
 . rename_i g caps h
   refine R.Sim.ok ?_
   have:ev1 F.er f=.fz (.fn g (D.erL caps)):=by rw [<-qE,h];rfl
   unfold Kq
   rw [this]
   simp only [qdU]
 . rename_i g caps h
   refine R.Sim.ok ?_
   have:ev1 F.er f=.clo g (B.erL caps):=by rw [<-qE,h];rfl
   unfold Kq
   rw [this]
 . exact R.Sim.none'
def qbi (F:SF):List Operand->R (List (V1 B))
 | []=>R.ok []
 | x::r=>match evB F x with
   | .v y=>(qbi F r).bd fun l=>R.ok (y::l)
   | .tup _=>none
theorem Ve (F:SF):∀ xs:List Operand,(qbi F xs).Sim fun l=>WY F.er xs=some (qw B.erL l)
 | []=>R.Sim.ok rfl
 | x::r=>by
   simp only [qbi]
   split
   . rename_i y hy
     refine R.Sim.bd (Ve F r) fun l hl=>R.Sim.ok ?_
     have:ev F.er x=.v (zZ B.erL y):=by rw [<-kz,hy];rfl
     simp only [WY,this,hl]
     rfl
   . exact R.Sim.none'
def ws:List B->List (V1 B)
 | []=>[]
 | c::r=>(false,[c])::ws r
theorem qii (l:List B):qw B.erL (ws l)=ZH (B.erL l):=by induction l with | nil=>rfl | cons a l ih=>simp only [ws,qw,B.erL,ZH,ih];rfl
def qgW (M:MB)(F:SF):B->R (SP×LK×W)
 | .rf q true off n=>(F.atR M q).bd fun o=>(match o with
   | .osl x=>some ([M.pEqN off 0,M.pEqN n (x.len M)],(q,.sl n,.osl x))
   | .onil=>some ([M.pEqN off 0,M.pEqN n 0],(q,.sl n,.onil))
   | _=>none)
 | .pp q i j=>(match i,j with
   | (true,0),0=>(F.atR M q).bd fun o=>(match o with
     | .obx cs=>R.ok (q,.bx,.obx cs)
     | _=>none)
   | _,_=>none)
 | _=>none
def qbd:LK->O->Prop
 | .sl n,.osl xs=>xs.length=n
 | .bx,.obx _=>True
 | _,_=>False
theorem Yz (F:SF)(b:B):(qgW qk F b).Sim fun r=>b.er=jp r.2.1 r.1.er/\F.er.at std r.1.er=r.2.2.er/\qbd r.2.1 r.2.2.er:=by
 unfold qgW
 split
 . rename_i q off n
   refine R.Sim.bd (F.atR_sim q) fun o ho=>?_
   split
   . rename_i x
     refine R.Sim.mk fun hp=>?_
     obtain ⟨h1,h2⟩:=hp.two
     have h1:off=0:=h1
     have h2:n=x.len qk:=h2
     subst h1 h2
     exact ⟨rfl,ho,LL.len_ro x⟩
   . refine R.Sim.mk fun hp=>?_
     obtain ⟨h1,h2⟩:=hp.two
     have h1:off=0:=h1
     have h2:n=0:=h2
     subst h1 h2
     exact ⟨rfl,ho,rfl⟩
   . exact R.Sim.none'
 . split
   . refine R.Sim.bd (F.atR_sim _) fun o ho=>?_
     split
     . exact R.Sim.ok ⟨rfl,ho,trivial⟩
     . exact R.Sim.none'
   . exact R.Sim.none'
 . exact R.Sim.none'
def qmH (all:List (V1 B))(k j:Nat):Option B:=match nth all k with
 | some x=>nth x.2 j
 | none=>none
def YV (M:MB)(F:SF)(all:List (V1 B)):List (Nat×Nat)->R (List (SP×LK×W))
 | []=>R.ok []
 | (k,j)::r=>(match qmH all k j with
   | some b=>(qgW M F b).bd fun x=>(YV M F all r).bd fun l=>R.ok (x::l)
   | none=>none)
theorem VZ (F:SF)(all:List (V1 B)):∀ ps:List (Nat×Nat),(YV qk F all ps).Sim fun l=>∀ x∈l,F.er.at std x.1.er=x.2.2.er/\qbd x.2.1 x.2.2.er/\∃ (k:Nat) (y:V1 A) (j:Nat),(qw B.erL all)[k]?=some y/\y.2[j]?=some (jp x.2.1 x.1.er)
 | []=>R.Sim.ok (fun x h=>by cases h)
 | (k,j)::r=>by
   simp only [YV]
   split
   . rename_i b hb
     refine R.Sim.bd (Yz F b) fun x hx=>R.Sim.bd (VZ F all r) fun l hl=>R.Sim.ok ?_
     intro z hz
     rcases List.mem_cons.1 hz with rfl | hz
     . refine ⟨hx.2.1,hx.2.2,?_⟩
       unfold qmH at hb
       rw [qq] at hb
       cases hk:all[k]? with
       | none=>rw [hk] at hb;cases hb
       | some y =>
         rw [hk] at hb
         dsimp only at hb
         rw [qq] at hb
         refine ⟨k,zZ B.erL y,j,by rw [Yx,hk];rfl,?_⟩
         show (B.erL y.2)[j]?=_
         rw [B.erL_eq,List.getElem?_map,hb]
         simp [hx.1]
     . exact hl z hz
   . exact R.Sim.none'
def qiA:List SP->Nat->SP->Option (Option SP)
 | [],_,_=>some none
 | q::L,i,x=>match nq x.1 q.1 with
   | true=>(match JH q.2 x.2 with
     | some (some s)=>some (some (lrt i,s))
     | some none=>qiA L (i+1) x
     | none=>none)
   | false=>qiA L (i+1) x
theorem qeR:∀ (L:List qZ) (qs:List SP) (i:Nat),L.map (·.q)=qs.map SP.er->∀ (x:SP) (r:Option SP),qiA qs i x=some r->ren (inL i L) x.er=r.map SP.er:=by
 intro L
 induction L with
 | nil =>
   intro qs i hq x r h
   have:qs=[]:=by simpa using hq.symm
   subst this
   simp only [qiA,Option.some.injEq] at h
   subst h
   rfl
 | cons l L ih =>
   intro qs i hq x r h
   cases qs with
   | nil=>simp at hq
   | cons q qs =>
     simp only [List.map_cons,List.cons.injEq] at hq
     obtain ⟨h1,h2⟩:=hq
     simp only [qiA] at h
     simp only [inL,ren]
     rw [h1]
     show (match nq x.1 q.1 with | true=>(match pre std (ixs q.2) (ixs x.2) with | some s=>some ((lrt i,([]:List (Nat×Nat))).1,(lrt i,([]:List (Nat×Nat))).2++s) | none=>ren (inL (i+1) L) x.er) | false=>ren (inL (i+1) L) x.er)=_
     split at h
     . split at h
       . rename_i s hs
         rw [zc _ _ hs]
         simp only [Option.some.injEq] at h
         subst h
         simp [SP.er]
       . rename_i hs
         rw [zc _ _ hs]
         exact ih qs (i+1) h2 x r h
       . cases h
     . exact ih qs (i+1) h2 x r h
def wE:List SP->SP->Option (Option SP)
 | [],x=>some (some x)
 | q::L,x=>match nq x.1 q.1 with
   | true=>(match JH q.2 x.2 with
     | some (some [])=>some (some x)
     | some (some (_::_))=>some none
     | some none=>wE L x
     | none=>none)
   | false=>wE L x
theorem qaV:∀ (L:List qZ) (qs:List SP),L.map (·.q)=qs.map SP.er->∀ (x:SP) (r:Option SP),wE qs x=some r->jV L x.er=r.map SP.er:=by
 intro L
 induction L with
 | nil =>
   intro qs hq x r h
   have:qs=[]:=by simpa using hq.symm
   subst this
   simp only [wE,Option.some.injEq] at h
   subst h
   rfl
 | cons l L ih =>
   intro qs hq x r h
   cases qs with
   | nil=>simp at hq
   | cons q qs =>
     simp only [List.map_cons,List.cons.injEq] at hq
     obtain ⟨h1,h2⟩:=hq
     simp only [wE] at h
     simp only [jV]
     rw [h1]
     show (match nq x.1 q.1 with | true=>(match pre std (ixs q.2) (ixs x.2) with | some []=>some x.er | some (_::_)=>none | none=>jV L x.er) | false=>jV L x.er)=_
     split at h
     . split at h
       . rename_i hs
         rw [zc _ _ hs]
         simp only [Option.some.injEq] at h
         subst h
         rfl
       . rename_i a s hs
         rw [zc _ _ hs]
         simp only [Option.some.injEq] at h
         subst h
         obtain ⟨⟨k,i⟩,j⟩:=a
         rfl
       . rename_i hs
         rw [zc _ _ hs]
         exact ih qs h2 x r h
       . cases h
     . exact ih qs h2 x r h
def qmn (p q:SP):Bool:=match nq p.1 q.1 with
 | false=>true
 | true=>(match JH p.2 q.2,JH q.2 p.2 with
   | some none,some none=>true
   | _,_=>false)
theorem Vq {p q:SP}(h:qmn p q=true):¬Und p.er q.er/\¬Und q.er p.er:=by
 unfold qmn at h
 split at h
 . rename_i he
   refine ⟨fun hu=>?_,fun hu=>?_⟩
   . have:q.1=p.1:=hu.1
     rw [this,jh] at he
     cases he
   . have:p.1=q.1:=hu.1
     rw [this,jh] at he
     cases he
 . split at h
   . rename_i h1 h2
     have h1:=zc _ _ h1
     have h2:=zc _ _ h2
     refine ⟨fun ⟨_,s,hs⟩=>?_,fun ⟨_,s,hs⟩=>?_⟩
     . have hs:ixs q.2=ixs p.2++s:=hs
       rw [hs,jt] at h1
       cases h1
     . have hs:ixs p.2=ixs q.2++s:=hs
       rw [hs,jt] at h2
       cases h2
   . cases h
def qaf (p:SP):List SP->Bool
 | []=>true
 | q::r=>match qmn p q with | true=>qaf p r | false=>false
def yi:List SP->Bool
 | []=>true
 | p::r=>match qaf p r with | true=>yi r | false=>false
theorem qfd {p:SP}:∀ {l:List SP},qaf p l=true->∀ q∈l,qmn p q=true:=by
 intro l
 induction l with
 | nil=>intro _ q h;cases h
 | cons a l ih =>
   intro h q hq
   simp only [qaf] at h
   split at h
   . rename_i h1
     rcases List.mem_cons.1 hq with rfl | hq
     . exact h1
     . exact ih h q hq
   . cases h
theorem Jr:∀ {l:List SP},yi l=true->kF (l.map SP.er):=by
 intro l
 induction l with
 | nil=>intro _ i j p p' hi;simp at hi
 | cons a l ih =>
   intro h i j p p' hi hj hu
   simp only [yi] at h
   split at h
   . rename_i h1
     have hc:=qfd h1
     cases i with
     | zero =>
       cases j with
       | zero=>rfl
       | succ j =>
         exfalso
         simp only [List.map_cons,List.getElem?_cons_zero,Option.some.injEq] at hi
         simp only [List.map_cons,List.getElem?_cons_succ,List.getElem?_map] at hj
         cases hb:l[j]? with
         | none=>rw [hb] at hj;simp at hj
         | some b =>
           rw [hb] at hj
           simp at hj
           subst hi hj
           exact (Vq (hc b (List.mem_of_getElem? hb))).1 hu
     | succ i =>
       cases j with
       | zero =>
         exfalso
         simp only [List.map_cons,List.getElem?_cons_zero,Option.some.injEq] at hj
         simp only [List.map_cons,List.getElem?_cons_succ,List.getElem?_map] at hi
         cases hb:l[i]? with
         | none=>rw [hb] at hi;simp at hi
         | some b =>
           rw [hb] at hi
           simp at hi
           subst hi hj
           exact (Vq (hc b (List.mem_of_getElem? hb))).2 hu
       | succ j=>exact congrArg (·+1) (ih h i j p p' (by simpa using hi) (by simpa using hj) hu)
   . cases h
structure zd where
 q:SP
 k:LK
 o:W
 r:SP
 z:W
def zd.er (l:zd):qZ:=⟨l.q.er,l.k,l.o.er,l.r.er,l.z.er⟩
def qoz:W->W->Bool
 | .osl x,.osl y=>nq x.sz y.sz
 | .onil,_=>true
 | _,.onil=>true
 | .obx _,.obx _=>true
 | _,_=>false
def qkr (M:MB)(tb:List (Nat×W))(x:SP×LK×W)(b:B):R zd :=
 (qgW M ⟨0,[],tb⟩ b).bd fun y=>(match x.2.1,y.2.1 with
   | .sl n,.sl m=>(match qoz x.2.2 y.2.2 with
     | true=>some ([M.pEqN m n],⟨x.1,.sl n,x.2.2,y.1,y.2.2⟩)
     | false=>none)
   | .bx,.bx=>R.ok ⟨x.1,.bx,x.2.2,y.1,y.2.2⟩
   | _,_=>none)
def qf7 (M:MB)(tb:List (Nat×W)):List (SP×LK×W)->List B->R (List zd)
 | [],[]=>R.ok []
 | x::l,b::bs=>(qkr M tb x b).bd fun y=>(qf7 M tb l bs).bd fun r=>R.ok (y::r)
 | _,_=>none
theorem qhI (tb:List (Nat×W))(x:SP×LK×W)(b:B)(hk:qbd x.2.1 x.2.2.er) :
 (qkr qk tb x b).Sim fun l=>l.q=x.1/\l.k=x.2.1/\l.o=x.2.2/\b.er=jp l.k l.r.er/\(Fr.mk 0 [] (zr tb)).at std l.r.er=l.z.er/\l.k.ok l.o.er l.z.er:=by
 unfold qkr
 refine R.Sim.bd (Yz _ b) fun y ⟨h1,h2,h3⟩=>?_
 obtain ⟨q,k,o⟩:=x
 obtain ⟨r,k',z⟩:=y
 dsimp only at *
 cases k with
 | sl n =>
   cases k' with
   | bx=>exact R.Sim.none'
   | sl m =>
     dsimp only
     split
     . rename_i hs
       refine R.Sim.mk fun hp=>?_
       have e:m=n:=hp.one
       subst e
       refine ⟨rfl,rfl,rfl,h1,h2,?_⟩
       dsimp only
       cases o with
       | osl x =>
         cases z with
         | osl y =>
           refine ⟨hk,h3,fun a ha c hc=>?_⟩
           have:=Qr.1 hs
           rw [x.ro_sz a ha,y.ro_sz c hc,this]
         | onil=>exact ⟨hk,h3,fun a ha c hc=>by cases hc⟩
         | _=>exact h3.elim
       | onil =>
         cases z with
         | osl y=>exact ⟨hk,h3,fun a ha=>by cases ha⟩
         | onil=>exact ⟨hk,h3,fun a ha=>by cases ha⟩
         | _=>exact h3.elim
       | _=>exact hk.elim
     . exact R.Sim.none'
 | bx =>
   cases k' with
   | sl m=>exact R.Sim.none'
   | bx =>
     refine R.Sim.ok ⟨rfl,rfl,rfl,h1,h2,?_⟩
     dsimp only
     cases o<;>first | exact hk.elim | skip
     cases z<;>first | exact h3.elim | trivial
theorem YL (tb:List (Nat×W)):∀ (l:List (SP×LK×W)) (bs:List B),(∀ x∈l,qbd x.2.1 x.2.2.er) →
 (qf7 qk tb l bs).Sim fun r=>r.map (·.q)=l.map (·.1)/\r.map (fun y=>(y.k,y.o))=l.map (·.2)/\B.erL bs=phR (r.map zd.er)/\∀ y∈r,(Fr.mk 0 [] (zr tb)).at std y.r.er=y.z.er/\y.k.ok y.o.er y.z.er
 | [],[],_=>R.Sim.ok ⟨rfl,rfl,rfl,fun y h=>by cases h⟩
 | x::l,b::bs,hk=>by
   simp only [qf7]
   refine R.Sim.bd (qhI tb x b (hk x List.mem_cons_self)) fun y ⟨h1,h2,h3,h4,h5,h6⟩=>R.Sim.bd (YL tb l bs (fun z hz=>hk z (List.mem_cons_of_mem _ hz))) fun r ⟨k1,k2,k3,k4⟩=>R.Sim.ok ⟨?_,?_,?_,?_⟩
   . simp [h1,k1]
   . simp [h2,h3,k2]
   . simp only [B.erL,List.map_cons,phR,k3,h4];rfl
   . intro z hz
     rcases List.mem_cons.1 hz with rfl | hz
     . exact ⟨h5,h6⟩
     . exact k4 z hz
 | [],_::_,_=>R.Sim.none'
 | _::_,[],_=>R.Sim.none'
def WF (M:MB)(F:SF):List zd->R SF
 | []=>R.ok F
 | l::L=>(WF M F L).bd fun G=>G.setR M l.q l.z
theorem vm (F:SF):∀ L:List zd,(WF qk F L).Sim fun G=>kd std F.er (L.map zd.er)=G.er
 | []=>R.Sim.ok rfl
 | l::L=>by
   simp only [WF]
   refine R.Sim.bd (vm F L) fun G hG=>(G.setR_sim l.q l.z).mono fun H hH=>?_
   simp only [List.map_cons,kd,hG]
   exact hH
def qsW:List zd->List SP
 | []=>[]
 | l::L=>l.q::qsW L
def rsW:List zd->List SP
 | []=>[]
 | l::L=>l.r::rsW L
theorem qfe (L:List zd):(L.map zd.er).map (·.q)=(qsW L).map SP.er:=by induction L with | nil=>rfl | cons l L ih=>simp only [List.map_cons,qsW,ih];rfl
theorem qnm (L:List zd):(L.map zd.er).map (·.r)=(rsW L).map SP.er:=by induction L with | nil=>rfl | cons l L ih=>simp only [List.map_cons,rsW,ih];rfl
def sps:List (SP×LK×W)->List SP
 | []=>[]
 | x::r=>x.1::sps r
def kos:List (SP×LK×W)->List (LK×W)
 | []=>[]
 | x::r=>x.2::kos r
theorem qnk (l:List (SP×LK×W)):sps l=l.map (·.1):=by induction l with | nil=>rfl | cons x r ih=>simp [sps,ih]
theorem qm7 (l:List (SP×LK×W)):kos l=l.map (·.2):=by induction l with | nil=>rfl | cons x r ih=>simp [kos,ih]
theorem qmr (L:List zd):qsW L=L.map (·.q):=by induction L with | nil=>rfl | cons l L ih=>simp [qsW,ih]
def qbD (M:MB):List zd->B->R B
 | _,.fz d=>R.ok (.fz d)
 | l::L,.rf p g off n=>(match nq p.1 l.r.1 with
   | true=>(match JH l.r.2 p.2,l.k with
     | some (some []),.sl m=>some ([M.pLeN (M.nAdd off n) m],.rf l.q g off n)
     | some none,_=>qbD M L (.rf p g off n)
     | _,_=>none)
   | false=>qbD M L (.rf p g off n))
 | _,_=>none
theorem yh {l:qZ}{L:List qZ}{a b:A}(h:wo L a b):wo (l::L) a b:=by
 cases h with
 | fz _ h=>exact .fz _ h
 | rf i l m off len hl hk hle=>exact .rf (i+1) l m off len (by simpa using hl) hk hle
theorem vj:∀ (L:List zd) (x:B),(qbD qk L x).Sim fun y=>wo (L.map zd.er) x.er y.er
 | [],.fz d=>R.Sim.ok (.fz _ rfl)
 | _::_,.fz d=>R.Sim.ok (.fz _ rfl)
 | l::L,.rf p g off n=>by
   simp only [qbD]
   split
   . rename_i hn
     split
     . rename_i m h1 hk
       refine R.Sim.mk fun hp=>?_
       have hp:off+n<=m:=hp.one
       have e:=Jy (zc _ _ h1)
       have hq:p.er=(l.er).r:=Prod.ext (Qr.1 hn) (by rw [show p.er.2=ixs p.2 from rfl,e];simp [zd.er,SP.er,ixs])
       show wo _ (.rf p.er off n) (.rf l.q.er off n)
       rw [hq]
       exact .rf 0 l.er m off n rfl hk hp
     . exact (vj L _).mono fun y hy=>yh hy
     . exact R.Sim.none'
   . exact (vj L _).mono fun y hy=>yh hy
 | [],.un=>R.Sim.none'
 | [],.ud=>R.Sim.none'
 | [],.rf ..=>R.Sim.none'
 | [],.pp ..=>R.Sim.none'
 | [],.clo ..=>R.Sim.none'
 | _::_,.un=>R.Sim.none'
 | _::_,.ud=>R.Sim.none'
 | _::_,.pp ..=>R.Sim.none'
 | _::_,.clo ..=>R.Sim.none'
def WZ (M:MB)(L:List zd):List B->R (List B)
 | []=>R.ok []
 | x::r=>(qbD M L x).bd fun y=>(WZ M L r).bd fun ys=>R.ok (y::ys)
theorem Jc (L:List zd):∀ l:List B,(WZ qk L l).Sim fun l'=>(B.erL l).length=(B.erL l').length/\∀ (j:Nat) (a b:A),(B.erL l)[j]?=some a->(B.erL l')[j]?=some b->wo (L.map zd.er) a b
 | []=>R.Sim.ok ⟨rfl,fun j a b h=>by simp [B.erL] at h⟩
 | x::r=>by
   simp only [WZ]
   refine R.Sim.bd (vj L x) fun y hy=>R.Sim.bd (Jc L r) fun ys ⟨h1,h2⟩=>R.Sim.ok ⟨by simp [B.erL,h1],fun j a b ha hb=>?_⟩
   cases j with
   | zero=>simp [B.erL] at ha hb;subst ha hb;exact hy
   | succ j=>exact h2 j a b (by simpa [B.erL] using ha) (by simpa [B.erL] using hb)
def Wu (M:MB)(L:List zd):List (V1 B)->R (List (V1 B))
 | []=>R.ok []
 | x::r=>(WZ M L x.2).bd fun y=>(Wu M L r).bd fun ys=>R.ok ((x.1,y)::ys)
theorem vT (L:List zd):∀ l:List (V1 B),(Wu qk L l).Sim fun l'=>(qw B.erL l).length=(qw B.erL l').length/\∀ (k:Nat) (x y:V1 A),(qw B.erL l)[k]?=some x->(qw B.erL l')[k]?=some y->qg2 (L.map zd.er) x y
 | []=>R.Sim.ok ⟨rfl,fun j a b h=>by simp [qw] at h⟩
 | x::r=>by
   simp only [Wu]
   refine R.Sim.bd (Jc L x.2) fun y ⟨k1,k2⟩=>R.Sim.bd (vT L r) fun ys ⟨h1,h2⟩=>R.Sim.ok ⟨by simp [qw,h1],fun j a b ha hb=>?_⟩
   cases j with
   | zero=>simp [qw] at ha hb;subst ha hb;exact ⟨rfl,k1,k2⟩
   | succ j=>exact h2 j a b (by simpa [qw] using ha) (by simpa [qw] using hb)
def qjK (M:MB)(L:List zd):TV B->R (TV B)
 | .v x=>(WZ M L x.2).bd fun y=>R.ok (.v (x.1,y))
 | .tup xs=>(Wu M L xs).bd fun ys=>R.ok (.tup ys)
theorem qdY (L:List zd)(r:TV B):(qjK qk L r).Sim fun r'=>qjZ (L.map zd.er) (r.er B.erL) (r'.er B.erL):=by
 cases r with
 | v x=>exact R.Sim.bd (Jc L x.2) fun y ⟨h1,h2⟩=>R.Sim.ok ⟨rfl,h1,h2⟩
 | tup xs=>exact R.Sim.bd (vT L xs) fun ys ⟨h1,h2⟩=>R.Sim.ok ⟨h1,h2⟩
def qfm (M:MB)(X:SX)(F:SF)(d:Nat)(f:Operand)(args:List Operand):R SF :=
 (JO F f).bd fun g=>(qbi F args).bd fun as=>(match X.S g.1 with
   | some ps=>(YV M F (Qv as (ws g.2)) ps).bd fun ls=>(match qi7 (qiA (sps ls) 0) (Qv as (ws g.2)) with
     | some as'=>(X.OW g.1 as' (kos ls)).bd fun res=>(qf7 M res.2.1 ls res.2.2).bd fun L=>(qjK M L res.1).bd fun rr=>(match yi (qsW L) with
      | true=>(match yi (rsW L) with
        | true=>(WF M F L).bd fun G=>(G.trR (wE (qsW L))).bd fun H=>R.ok (H.put d rr)
        | false=>none)
      | false=>none)
     | none=>none)
   | none=>none)
theorem qgo:∀ (L:List zd) (i:Nat),zr (qiy i (L.map fun y=>(y.k,y.o)))=tbL i (L.map zd.er)
 | [],_=>rfl
 | l::L,i=>by simp only [List.map_cons,qiy,zr,tbL,qgo L (i+1)];rfl
theorem qf0:∀ (L:List zd) (i:Nat),B.erL (qht i (L.map fun y=>(y.k,y.o)))=phL i (L.map zd.er)
 | [],_=>rfl
 | l::L,i=>by simp only [List.map_cons,qht,B.erL,phL,qf0 L (i+1),qmj];rfl
theorem qfv {P:Program}{X:SX}(hW:zR P X)(F:SF){o:Oper}{d:Nat}(hdst:o.dst=some d)(hok:zt F.n d=true){f:Operand}{args:List Operand}{ts:Array TypeId}(ho:o.op=.call ⟨.value f,⟨args⟩,ts⟩) :
 (qfm qk X F d f args).Sim fun G=>qY P F.er o G.er:=by
 unfold qfm
 refine R.Sim.bd (qbj F f) fun g hg=>R.Sim.bd (Ve F args) fun as has=>?_
 split
 . rename_i ps hps
   refine R.Sim.bd (VZ F _ ps) fun ls hls=>?_
   split
   . rename_i as' htr
     refine R.Sim.bd (hW g.1 as' (kos ls)) fun res hres=>?_
     . refine R.Sim.bd (YL res.2.1 ls res.2.2 (fun x hx=>(hls x hx).2.1)) fun L ⟨l1,l2,l3,l4⟩=>R.Sim.bd (qdY L res.1) fun rr hrr=>?_
       split
       . rename_i ha
         split
         . rename_i hr
           refine R.Sim.bd (vm F L) fun G hG=>R.Sim.bd (G.trR_sim (qaV (L.map zd.er) (qsW L) (qfe L))) fun H hH=>R.Sim.ok ?_
           rw [SF.put_er,<-hH,<-hG]
           have hqs:qsW L=sps ls:=by rw [qmr,qnk,l1]
           have hall:qw B.erL (Qv as (ws g.2))=qw B.erL as++ZH (B.erL g.2):=by rw [jB,Zm,qii]
           refine qY.of_callW hdst hok ho hg has hrr (tb':=zr res.2.1) ⟨by rw [qfe];exact Jr ha,by rw [qnm];exact Jr hr,?_,?_,?_⟩ ?_
           . intro l hl
             obtain ⟨y,hy,rfl⟩:=List.mem_map.1 hl
             refine ⟨?_,(l4 y hy).2⟩
             have h1:y.q∈L.map (·.q):=List.mem_map.2 ⟨y,hy,rfl⟩
             obtain ⟨i,hi⟩:=List.getElem?_of_mem hy
             have e1:(L.map (·.q))[i]?=some y.q:=by rw [List.getElem?_map,hi];rfl
             have e2:(L.map fun y=>(y.k,y.o))[i]?=some (y.k,y.o):=by rw [List.getElem?_map,hi];rfl
             rw [l1,List.getElem?_map] at e1
             rw [l2,List.getElem?_map] at e2
             cases hx:ls[i]? with
             | none=>rw [hx] at e1;simp at e1
             | some x =>
               rw [hx] at e1 e2
               simp only [Option.map_some,Option.some.injEq] at e1 e2
               have:=(hls x (List.mem_of_getElem? hx)).1
               rw [e1,e2] at this
               exact this
           . intro l hl
             obtain ⟨y,hy,rfl⟩:=List.mem_map.1 hl
             exact (l4 y hy).1
           . intro l hl
             obtain ⟨y,hy,rfl⟩:=List.mem_map.1 hl
             obtain ⟨i,hi⟩:=List.getElem?_of_mem hy
             have e1:(L.map (·.q))[i]?=some y.q:=by rw [List.getElem?_map,hi];rfl
             have e2:(L.map fun y=>(y.k,y.o))[i]?=some (y.k,y.o):=by rw [List.getElem?_map,hi];rfl
             rw [l1,List.getElem?_map] at e1
             rw [l2,List.getElem?_map] at e2
             cases hx:ls[i]? with
             | none=>rw [hx] at e1;simp at e1
             | some x =>
               rw [hx] at e1 e2
               simp only [Option.map_some,Option.some.injEq] at e1 e2
               have:=(hls x (List.mem_of_getElem? hx)).2.2
               rw [e1,e2,hall] at this
               exact this
           . unfold zG at hres
             rw [qm7,<-l2,qgo,qf0,l3] at hres
             have:=K3 (τ':=ren (inL 0 (L.map zd.er))) (qeR (L.map zd.er) (sps ls) 0 (by rw [qfe,hqs])) _ htr
             rw [hall,@jc qG] at this
             rw [this]
             exact hres
         . exact R.Sim.none'
       . exact R.Sim.none'
   . exact R.Sim.none'
 . exact R.Sim.none'
end Go.Proofs.YtececadpjelanaaGreat.Ai
namespace Go.Proofs.YtececadpjelanaaGreat.Ai
open Go
variable [qh]
def VW {α:Type}:List α->Nat->List α
 | _,0=>[]
 | [],_+1=>[]
 | a::r,n+1=>a::VW r n
theorem qdL {α:Type}(l:List α)(n:Nat):VW l n=l.take n:=by
 induction l generalizing n with
 | nil=>cases n<;>rfl
 | cons a r ih=>cases n<;>simp [VW,ih]
def KO:List Oper->List Nat
 | []=>[]
 | o::r=>match o.dst with | some d=>d::KO r | none=>KO r
def drS (n:Nat):Nat:=Nat.mod n 65536
def qnU:Nat->Nat->List Nat
 | 0,_=>[]
 | f+1,n=>match nq n 0 with
   | true=>[]
   | false=>Nat.pred (Nat.mod n 256)::qnU f (Nat.div n 256)
def qj4 (n:Nat):List Nat:=qnU 6 (Nat.div n 65536)
def kA (dr:Nat->Nat):Code->Bool
 | .region id ⟨ops⟩ true=>match nlt (dr id) 65536 with
   | true=>YC ops (dr id)||(nq (dr id) ops.length&&VV ops)
   | false=>yj ops (drS (dr id)) (qj4 (dr id))
 | .seq a b=>kA dr a&&kA dr b
 | .cond _ a b=>kA dr a&&kA dr b
 | .block _ b=>kA dr b
 | .loop b=>kA dr b
 | _=>true
def kOK (dr:Nat->Nat):K->Bool
 | .c x=>kA dr x
 | .lp b=>kA dr b
 | _=>true
def qdZ (M:MB)(X:SX)(F:SF)(t:TypeId)(x:Operand):R SF :=
 match X.T t with
 | some ⟨.sl e,_,_,_,_⟩=>(match X.T e with
   | some ⟨_,_,1,_,[.int .i64 0]⟩=>(match zJ F x with
     | .rf (r,[]) _ off len=>(F.atR M (r,[])).bd fun o=>(match o with
       | .osl (.i l)=>some ([M.pLeN (M.nAdd off len) (M.len l)],{ F with tb:=(r,.osl (.i (M.zap l off len 0)))::del F.tb r })
       | _=>none)
     | _=>none)
   | _=>none)
 | _=>none
theorem qeY (X:SX)(F:SF)(t:TypeId)(x:Operand):(qdZ qk X F t x).Sim fun G=>qaJ std X.T F.er t x=some G.er:=by
 unfold qdZ
 split
 . rename_i e g1 g2 g3 g4 ht
   split
   . rename_i k0 ag by0 hte
     split
     . rename_i r w off len hx
       refine R.Sim.bd (F.atR_sim (r,[])) fun o ho=>?_
       split
       . rename_i l
         refine R.Sim.mk fun hp=>?_
         have h1:off+len<=l.length:=hp.one
         have hv:ev1 F.er x=.rf (r,[]) off len:=by rw [<-qE,hx];rfl
         have ho:F.er.at std (r,[])=.osl (roI l):=ho
         have h2:(std.nLe (std.nAdd off len) (std.oLen (roI l))&&std.oSz 1 (roI l)&&std.oFlat (roI l))=true:=by
          simp [std,roI,h1,O.isFz]
         have h3:(roI (ky l off len 0))=ky (roI l) off len [.fz (.int .i64 0)]:=by unfold roI;rw [W7]
         unfold qaJ
         simp only [ht,hte,hv,qe4,ho,h2]
         show some (F.er.re r (.osl (ky (roI l) off len [.fz (.int .i64 0)])))=some ⟨F.n,jF F.tm,zr ((r,.osl (.i (ky l off len 0)))::del F.tb r)⟩
         rw [<-h3]
         simp only [zr,<-qao]
         rfl
       . exact R.Sim.none'
     . exact R.Sim.none'
   . exact R.Sim.none'
 . exact R.Sim.none'
def ql9:List B->R (List D)
 | []=>R.ok []
 | .fz d::r=>(match d with
   | .un=>none
   | _=>(ql9 r).bd fun l=>R.ok (d::l))
 | _=>none
theorem qcx:∀ l:List B,(ql9 l).Sim fun ds=>B.erL l=fzL (D.erL ds)/\okL (B.erL l)=true
 | []=>R.Sim.ok ⟨rfl,rfl⟩
 | .fz d::r=>by
   simp only [ql9]
   split
   . exact R.Sim.none'
   . rename_i hd
     refine R.Sim.bd (qcx r) fun ds ⟨h1,h2⟩=>R.Sim.ok ⟨by simp only [B.erL,B.er,D.erL,fzL,h1],?_⟩
     simp only [B.erL,B.er,okL,h2]
     cases d<;>first | rfl | exact (hd rfl).elim
 | .un::_=>R.Sim.none'
 | .ud::_=>R.Sim.none'
 | .rf ..::_=>R.Sim.none'
 | .pp ..::_=>R.Sim.none'
 | .clo ..::_=>R.Sim.none'
def qkq (F:SF)(d:Nat)(x:Operand):R SF:=match evB F x with
 | .v (_,as)=>(ql9 as).bd fun ds=>R.ok (F.put d (.v (false,[.fz (.ptr ds)])))
 | .tup _=>none
theorem qiI {P:Program}(F:SF){o:Oper}{d:Nat}(hd:o.dst=some d)(hlt:zt F.er.n d=true){e:TypeId}{x:Operand}(ho:o.op=.box e x):(qkq F d x).Sim fun G=>qY P F.er o G.er:=by
 unfold qkq
 split
 . rename_i g as hx
   refine R.Sim.bd (qcx as) fun ds ⟨h1,h2⟩=>R.Sim.ok ?_
   rw [SF.put_er]
   refine qY.of_boxF hd hlt ho (as:=D.erL ds) ?_ (by rw [<-h1];exact h2)
   rw [<-kz,hx,<-h1]
   rfl
 . exact R.Sim.none'
noncomputable def qjq:Zz:=match qh.fut with | some g=>g | none=>fun _=>false
theorem qhX (h:qh.fut.isSome=true):qh.fut=some qjq:=by
 unfold qjq
 cases hh:qh.fut with
 | none=>rw [hh] at h;cases h
 | some g=>rfl
def YY (X:SX)(t:Nat):Bool:=match X.T t with
 | some ⟨.str,_,_,_,_⟩=>true
 | _=>false
theorem VS {X:SX}{t:Nat}(h:YY X t=true):∃ ty,X.T t=some ty/\ty.kind=.str:=by
 unfold YY at h
 split at h
 . rename_i he;exact ⟨_,he,rfl⟩
 . cases h
def qnx (X:SX)(F:SF)(t:Nat)(m k x:Operand):R SF :=
 match X.T t with
 | some ⟨.mp kt _,_,_,_,_⟩=>(match YY X kt with
   | true=>(match zJ F m,zJ F k,zJ F x with
     | .fz (.mp g),.fz (.str s),.fz (.bool _ b)=>some ([b=g s],F)
     | _,_,_=>none)
   | false=>none)
 | _=>none
theorem qkV {P:Program}{X:SX}(hT:ka P X.T)(F:SF){o:Oper}(hd:o.dst=none){t:Nat}{m k x:Operand}(hop:o.op=.mapUpdate t m k x):(qnx X F t m k x).Sim fun G=>qY P F.er o G.er:=by
 unfold qnx
 split
 . rename_i kt et a1 a2 a3 a4 ht
   split
   . rename_i hk
     obtain ⟨tk,h1,h2⟩:=VS hk
     split
     . rename_i g s kn b hm hs hx
       refine R.Sim.mk fun hp=>?_
       have hb:b=g s:=hp.one
       refine qY.of_mapUpdate hT ht rfl h1 h2 hd hop (g:=g) (s:=s) ?_ ?_ ?_
       . rw [<-qE,hm];rfl
       . rw [<-qE,hs];rfl
       . rw [<-qE,hx,<-hb];rfl
     . exact R.Sim.none'
   . exact R.Sim.none'
 . exact R.Sim.none'
def qm2 (F:SF)(d:Nat)(x:Operand):R SF:=match zJ F x with
 | .fz (.ptr cs)=>R.ok (F.put d (.v (false,[.fz (.ptr cs)])))
 | _=>none
theorem qjE {P:Program}(F:SF){o:Oper}{d:Nat}(hd:o.dst=some d)(hlt:zt F.er.n d=true){x:Operand}(hop:o.op=.nilCheck x):(qm2 F d x).Sim fun G=>qY P F.er o G.er:=by
 unfold qm2
 split
 . rename_i cs hx
   refine R.Sim.ok ?_
   rw [SF.put_er]
   exact qY.of_nilCheck hd hlt hop (by rw [<-qE,hx];rfl)
 . exact R.Sim.none'
noncomputable def qkM (F:SF)(d:Nat):R SF:=some ([qh.fut.isSome=true],F.put d (.v (false,[.fz (.mp qjq)])))
theorem qeI {P:Program}(F:SF){o:Oper}{d:Nat}(hd:o.dst=some d)(hlt:zt F.er.n d=true){t:Nat}(hop:o.op=.makeMap t none):(qkM F d).Sim fun G=>qY P F.er o G.er:=by
 refine R.Sim.mk fun hp=>?_
 rw [SF.put_er]
 exact qY.of_makeMap hd hlt hop (qhX hp.one)
noncomputable def opB (M:MB)(X:SX)(ora:jS)(F:SF)(o:Oper):R SF :=
 match o.dst with
 | none=>(match o.op with
   | .store t a x=>(match X.T t with
     | some ty=>qe5 M F ty.size a x
     | none=>none)
   | .call ⟨.builtin .clear,⟨[x]⟩,⟨[t]⟩⟩=>qdZ M X F t x
   | .mapUpdate t m k x=>qnx X F t m k x
   | _=>none)
 | some d=>(match zt F.n d with
   | true=>(match o.op with
     | .call ⟨.value f,⟨args⟩,_⟩=>(match (match JO F f with | some (_,g)=>X.S g.1 | none=>none) with
       | some _=>qfm M X F d f args
       | none=>qjs M ora F d f args)
     | .box e x=>(match X.FB d with
       | true=>qkq F d x
       | false=>qlh M X F d (.box e x))
     | .assign x=>(match X.FB d with
       | true=>R.ok (F.put d (evB F x))
       | false=>qlh M X F d (.assign x))
     | .makeMap _ none=>qkM F d
     | .nilCheck x=>qm2 F d x
     | op=>qlh M X F d op)
   | false=>none)
theorem YS {P:Program}{X:SX}(hT:ka P X.T)(hW:zR P X){ora:jS}(hO:qm P ora)(F:SF)(o:Oper):(opB qk X ora F o).Sim fun G=>qY P F.er o G.er:=by
 have none':∀ g as r,(fun _ _=>none:Ora) g as=some r->kM P g as r:=fun _ _ _ h=>by cases h
 unfold opB
 split
 . rename_i hd
   split
   . rename_i t a x hop
     split
     . rename_i ty ht
       refine (qel F ty.size a x).mono fun G hG=>?_
       refine qY.of_opS (kn:=false) hT none' ?_
       unfold opS
       simp only [hd,hop,ht]
       exact hG
     . exact R.Sim.none'
   . rename_i x t hop
     exact (qeY X F t x).mono fun G hG=>qY.of_clear hT hd hop hG
   . rename_i t m k x hop
     exact qkV hT F hd hop
   . exact R.Sim.none'
 . rename_i d hd
   split
   . rename_i hlt
     have hlt:zt F.er.n d=true:=hlt
     split
     . rename_i f args ts hop
       split
       . exact qfv hW F hd hlt hop
       . refine (qi2 hO F d f args).mono fun G ⟨g,as,r,h1,h2⟩=>?_
         refine qY.of_opS (kn:=false) (ora:=yH g as r) hT ?_ ?_
         . intro g' as' r' h'
           unfold yH at h'
           split at h'
           . rename_i hh
             simp only [Option.some.injEq] at h'
             subst h'
             rw [hh.1,hh.2]
             exact h1
           . cases h'
         . unfold opS
           simp only [hd,hlt,hop]
           exact h2
     . rename_i e x hop
       split
       . exact qiI F hd hlt hop
       . refine (W3 X F d (.box e x)).mono fun G hG=>qY.of_opS (kn:=false) hT none' ?_
         unfold opS
         rw [hd]
         dsimp only
         rw [hlt]
         dsimp only
         rw [hop]
         exact hG
     . rename_i x hop
       split
       . refine R.Sim.ok ?_
         rw [SF.put_er,kz]
         exact qY.of_asgP hd hlt hop
       . refine (W3 X F d (.assign x)).mono fun G hG=>qY.of_opS (kn:=false) hT none' ?_
         unfold opS
         rw [hd]
         dsimp only
         rw [hlt]
         dsimp only
         rw [hop]
         exact hG
     . rename_i hop
       exact qeI F hd hlt hop
     . rename_i x hop
       exact qjE F hd hlt hop
     . rename_i h1 _ _ _ _
       refine (W3 X F d o.op).mono fun G hG=>qY.of_opS (kn:=false) hT none' ?_
       unfold opS
       rw [hd]
       dsimp only
       rw [hlt]
       dsimp only
       split
       . rename_i he;exact (h1 _ _ _ he).elim
       . exact hG
   . exact R.Sim.none'
def qmG:B->Option LL
 | .fz (.sl y)=>some y
 | _=>none
def qd1 (X:SX)(F:SF)(o:Oper):Option (Nat×LL) :=
 match o.op with
 | .binOp .eql t x (.const (.slice none 0 0)) _=>(match qmG (zJ F x),X.T t,o.dst with
   | some y,some ⟨.sl _,_,_,_,_⟩,some d=>(match zt F.n d with | true=>some (d,y) | false=>none)
   | _,_,_=>none)
 | _=>none
theorem qfo {X:SX}{F:SF}{o:Oper}{d:Nat}{y:LL}(h:qd1 X F o=some (d,y)):∃ t e g1 g2 g3 g4 x tn,X.T t=some ⟨.sl e,g1,g2,g3,g4⟩/\o.dst=some d/\zt F.er.n d=true/\o.op=.binOp .eql t x (.const (.slice none 0 0)) tn/\qg4 (ev1 F.er x)=true/\ev1 F.er x=.fz (.sl y.rc):=by
 unfold qd1 at h
 split at h
 . rename_i t x tn hop
   split at h
   . rename_i y' e g1 g2 g3 g4 d' hx ht hd
     split at h
     . rename_i hlt
       simp only [Option.some.injEq,Prod.mk.injEq] at h
       obtain ⟨rfl,rfl⟩:=h
       have hv:ev1 F.er x=.fz (.sl y'.rc):=by
        rw [<-qE]
        unfold qmG at hx
        split at hx
        . rename_i hv
          rw [hv]
          simp only [Option.some.injEq] at hx
          subst hx
          rfl
        . cases hx
       refine ⟨t,e,g1,g2,g3,g4,x,tn,ht,hd,hlt,hop,?_,hv⟩
       rw [hv]
       rfl
     . cases h
   . cases h
 . cases h
def qja (X:SX)(F:SF)(o:Oper):Option (Nat×Zz×ByteArray) :=
 match o.op with
 | .lookup t x ix true=>(match X.T t,o.dst with
   | some ⟨.mp kt et,_,_,_,_⟩,some d=>(match YY X kt,X.T et,zt F.n d,zJ F x,zJ F ix with
     | true,some _,true,.fz (.mp g),.fz (.str s)=>some (d,g,s)
     | _,_,_,_,_=>none)
   | _,_=>none)
 | _=>none
theorem qb5 {P:Program}{X:SX} [za] (hT:ka P X.T){F:SF}{o:Oper}{d:Nat}{g:Zz}{s:ByteArray}(h:qja X F o=some (d,g,s)){ks:List K}{Post:Fr->Prop}{all:Array Oper}{l:List Oper}(hw:zV F.er all o true)
 (hy:Ex P (.r all l::ks) (F.put d (.tup [(false,[.fz (.bool false (g s))]),(false,[.fz (.bool true true)])])).er Post) (hno:Ex P (.r all l::ks) (F.put d (.tup [(false,[.un]),(false,[.fz (.bool true false)])])).er Post):Ex P (.r all (o::l)::ks) F.er Post:=by
 unfold qja at h
 split at h
 . rename_i t x ix hop
   split at h
   . rename_i kt et a1 a2 a3 a4 d' ht hd
     split at h
     . rename_i te g' s' hk he hlt hx hi
       simp only [Option.some.injEq,Prod.mk.injEq] at h
       obtain ⟨rfl,rfl,rfl⟩:=h
       obtain ⟨tk,h1,h2⟩:=VS hk
       have hlt:zt F.er.n d'=true:=hlt
       refine Ex.op_look hT ht rfl h1 h2 he hw hd hlt hop (g:=g') (s:=s') (by rw [<-qE,hx];rfl) (by rw [<-qE,hi];rfl) ?_ ?_
       . rw [SF.put_er] at hy;exact hy
       . rw [SF.put_er] at hno;exact hno
     . cases h
   . cases h
 . cases h
def qnK {α:Type}:Option α->Bool
 | none=>true
 | some _=>false
theorem qgL {α:Type}{x:Option α}(h:qnK x=true):x=none:=by cases x with | none=>rfl | some _=>cases h
theorem Km:∀ (l:List Oper) (n:Nat),Kg l n=l[n]?
 | [],n=>rfl
 | o::r,0=>rfl
 | o::r,n+1=>by simp only [Kg,Km r n,List.getElem?_cons_succ]
theorem qY.le {P:Program}{F G H:Fr}{o:Oper}(h:LE F G)(ho:qY P G o H):qY P F o H:=by
 intro J a w σ hfut hF hd hn
 obtain ⟨h1,h2⟩:=h.fr hF hd
 have:=ho J a w σ hfut h1 h2 (by rw [h.n];exact hn)
 intro b k cs ops i rest hoi hw
 obtain ⟨a',w',σ',k1,k2,k3,k4,k5,k6,k7⟩:=this b k cs ops i rest hoi hw
 exact ⟨a',w',σ',k1,k2,k3,k4,k5.trans h.n,k6,k7⟩
theorem LE.put {F G:Fr}(h:LE F G)(d:Nat)(x:TV A):LE (F.put d x) (G.put d x):=by
 refine ⟨h.n,fun t=>?_,h.tb,h.has⟩
 show qa unT ((d,x)::G.tm) t=qa unT ((d,x)::F.tm) t
 rw [@qp qG,@qp qG,h.tm]
def qj2 {α:Type}(M:MB)(p:α->Prop):List α->Prop
 | []=>True
 | x::r=>M.pAnd (p x) (qj2 M p r)
theorem Vc {α:Type}{p:α->Prop}:∀ {l:List α},qj2 qk p l->∀ x∈l,p x
 | _::_,h,_,hx=>by
   obtain ⟨h1,h2⟩:p _/\qj2 qk p _:=h
   rcases List.mem_cons.1 hx with rfl | hx
   . exact h1
   . exact Vc h2 _ hx
noncomputable def qkj (M:MB)(X:SX)(ora:jS)(ops:List Oper)(K:Nat->SF->Prop):Nat->List Nat->Nat->SF->Prop
 | _,[],j,F=>K j F
 | 0,_::_,_,_=>M.pNo 20
 | n+1,l::r,j,F=>qj2 M (fun m=>match Kg ops m with
   | some o=>(match ZV o (l::r) with
     | true=>(match qnK o.guard with
       | true=>(match opB M X ora F o with
         | some (ps,G)=>Wl M ps (qkj M X ora ops K n ((l::r).filter fun x=>!nq x m) (match nq m j with | true=>j+1 | false=>j) G)
         | none=>M.pNo 20)
       | false=>M.pNo 21)
     | false=>True)
   | none=>True) (j::l::r)
def KJ (ops:List Oper):List Nat->SF->Option SF
 | [],F=>some F
 | l::r,F=>match Kg ops l with
   | some o=>(match qek o.op,o.dst with
     | true,some d=>KJ ops r (F.put d unB)
     | _,_=>none)
   | none=>none
noncomputable def qfh (M:MB)(X:SX)(ora:jS)(ops:List Oper)(os:Oper)(s:Nat)(ls:List Nat)(F:SF)(K:Nat->SF->Prop):Prop :=
 match KJ ops ls F with
 | some G=>(match opB M X ora G os with
   | some (ps,H)=>Wl M ps (qkj M X ora ops K 12 ls (s+1) H)
   | none=>M.pNo 25)
 | none=>M.pNo 26
noncomputable def qeK (M:MB)(X:SX)(ora:jS)(ops:List Oper)(os:Oper)(s:Nat)(ls:List Nat)(F:SF)(K:Nat->SF->Prop):Prop :=
 match KJ ops ls F with
 | some _=>qj2 M (fun suf=>match wq ops ls suf&&ZV os suf with
   | true=>qfh M X ora ops os s suf F K
   | false=>True) (yW ls)
 | none=>M.pNo 26
theorem vu {P:Program}{X:SX}(hT:ka P X.T)(hW:zR P X){ora:jS}(hO:qm P ora){ops:List Oper}{K:Nat->SF->Prop}{Q:Nat->Fr->Prop}(hK:∀ j G,K j G->Q j G.er):∀ (n:Nat) (ls:List Nat) (j:Nat) (F:SF),qkj qk X ora ops K n ls j F->qh1 P ops Q n ls j F.er
 | 0,[],j,F,h=>hK j F h
 | _+1,[],j,F,h=>hK j F h
 | 0,_::_,_,_,h=>h.elim
 | n+1,l::r,j,F,h=>by
   intro m o hm ho hfr
   have h1:=Vc h m (by rcases hm with h | h;exact List.mem_cons_of_mem _ h;rw [h];exact List.mem_cons_self)
   rw [Km,ho] at h1
   dsimp only at h1
   rw [hfr] at h1
   dsimp only at h1
   split at h1
   . rename_i hg
     split at h1
     . rename_i ps G hG
       obtain ⟨hps,h1⟩:=kE ps _ h1
       exact ⟨G.er,qgL hg,YS hT hW hO F o ps G hG hps,vu hT hW hO hK n _ _ G h1⟩
     . exact h1.elim
   . exact h1.elim
theorem QN {P:Program}{ops:List Oper}{its:List It}{F0:SF}{DS:List Nat}{Gs:Nat->Fr}{k:Nat}(hit:∀ (i:Nat) (o:Oper),i<k->ops[i]?=some o->∃ x,its[i]?=some x/\qde P ops F0 DS (Gs i) o x):∀ (ls:List Nat) (F G:SF) (Fc:Fr),(∀ l∈ls,l<k)->LE Fc F.er->KJ ops ls F=some G->LE (kJ its ls Fc) G.er/\∀ l∈ls,∀ x,its[l]?=some x->x.2.1=[]
 | [],F,G,Fc,_,hle,h=>by simp only [KJ,Option.some.injEq] at h;subst h;exact ⟨hle,fun _ hl=>by cases hl⟩
 | l::r,F,G,Fc,hk,hle,h=>by
   simp only [KJ] at h
   split at h
   . rename_i o ho
     rw [Km] at ho
     split at h
     . rename_i d hnr hd
       obtain ⟨x,hx,hok⟩:=hit l o (hk l List.mem_cons_self) ho
       have hdx:dOf its l=d:=by
        unfold dOf
        rw [hx]
        have:=hok.dst
        rw [hd] at this
        injection this with this
        exact this.symm
       obtain ⟨h1,h2⟩:=QN hit r (F.put d unB) G (Fc.put (dOf its l) unT) (fun m hm=>hk m (List.mem_cons_of_mem _ hm)) (by rw [hdx];exact hle.put d unT) h
       refine ⟨h1,fun m hm y hy=>?_⟩
       rcases List.mem_cons.1 hm with rfl | hm
       . rw [hx] at hy
         injection hy with hy
         subst hy
         exact hok.nr hnr
       . exact h2 m hm y hy
     . cases h
   . cases h
theorem qbb {P:Program}{X:SX}(hT:ka P X.T)(hW:zR P X){ora:jS}(hO:qm P ora){ops:List Oper}{os:Oper}{its:List It}{F0:SF}{DS:List Nat}{Gs:Nat->Fr}{k s:Nat}(hit:∀ (i:Nat) (o:Oper),i<k->ops[i]?=some o->∃ x,its[i]?=some x/\qde P ops F0 DS (Gs i) o x)
 {K:Nat->SF->Prop} {Q:Nat->Fr->Prop} (hK:∀ j G,K j G->Q j G.er) {F:SF} {Fc:Fr} (hle:LE Fc F.er) (ls:List Nat) (hl:∀ l∈ls,l<k) (h:qeK qk X ora ops os s ls F K):(∀ suf∈yW ls,wq ops ls suf=true->ZV os suf=true->∃ FB,qY P (kJ its suf Fc) os FB/\qh1 P ops Q 12 suf (s+1) FB)/\∀ l∈ls,∀ x,its[l]?=some x->x.2.1=[]:=by
 unfold qeK at h
 split at h
 . rename_i G0 hG0
   refine ⟨fun suf hs hc hf=>?_,(QN hit ls F G0 Fc hl hle hG0).2⟩
   have h:=Vc h suf hs
   rw [hc,hf] at h
   have h:qfh qk X ora ops os s suf F K:=h
   have hsl:∀ l∈suf,l<k:=fun l hm=>hl l (W0 hs l hm)
   unfold qfh at h
   split at h
   . rename_i G hG
     obtain ⟨h1,h2⟩:=QN hit suf F G Fc hsl hle hG
     split at h
     . rename_i ps H hH
       obtain ⟨hps,h⟩:=kE ps _ h
       exact ⟨H.er,qY.le h1 (YS hT hW hO G os ps H hH hps),vu hT hW hO hK 12 suf (s+1) H h⟩
     . exact h.elim
   . exact h.elim
 . exact h.elim
def SX.withS (X:SX)(l:List (Nat×List Nat)):SX:={ X with ST:=fun n=>qa none (l.map fun x=>(x.1,some x.2)) n }
noncomputable def wp (M:MB)(X:SX)(dr:Nat->Nat)(lv:Nat->List Nat)(ora:jS)(fin:SF->Prop)(L N:List K->SF->Prop):Nat->List K->SF->Prop
 | 0,ks,F=>N ks F
 | n+1,ks,F=>(match ks with
   | []=>fin F
   | .bl _::ks=>wp M X dr lv ora fin L N n ks F
   | .lp b::ks=>wp M X dr lv ora fin L N n (.c (.loop b)::ks) F
   | .c x::ks=>(match x with
     | .skip=>wp M X dr lv ora fin L N n ks F
     | .region id ⟨ops⟩ d=>(match X.ST id with
      | some l=>L (.c (.region id ⟨ops⟩ d)::ks) (F.keepB l)
      | none=>(match d with
       | false=>wp M X dr lv ora fin L N n (.r ⟨ops⟩ ops::ks) F
       | true=>(match nlt (dr id) 65536 with
         | true=>wpD M X ora ops F (KO (VW ops (dr id))) (VW ops (dr id)) F fun G=>wp M X dr lv ora fin L N n (.r ⟨ops⟩ (jX ops (dr id))::ks) G
         | false=>wpD M X ora ops F (KO (VW ops (drS (dr id)))) (VW ops (drS (dr id))) F fun G=>(match Kg ops (drS (dr id)) with
           | some os=>(match qnK os.guard with
             | true=>qeK M X ora ops os (drS (dr id)) (qj4 (dr id)) G fun j GA=>wp M X dr lv ora fin L N n (.r ⟨ops⟩ (jX ops j)::ks) GA
             | false=>M.pNo 23)
           | none=>M.pNo 24))))
     | .seq a b=>wp M X dr lv ora fin L N n (.c a::.c b::ks) F
     | .cond y a b=>(match zJ F y with
       | .fz (.bool kn t)=>(match kn with
         | true=>(match t with
           | true=>wp M X dr lv ora fin L N n (.c a::ks) F
           | false=>wp M X dr lv ora fin L N n (.c b::ks) F)
         | false=>M.pAnd (M.pImp t (wp M X dr lv ora fin L N n (.c a::ks) F)) (M.pImp (M.bNot t) (wp M X dr lv ora fin L N n (.c b::ks) F)))
       | _=>M.pNo 10)
     | .block id b=>wp M X dr lv ora fin L N n (.c b::.bl id::ks) F
     | .loop b=>L (.c b::.lp b::ks) (F.keepB (lv (wy b)))
     | .exit id=>(match KX id ks with
       | some ks'=>wp M X dr lv ora fin L N n ks' F
       | none=>M.pNo 11)
     | .ret=>fin F
     | _=>M.pNo 12)
   | .r all l::ks=>(match l with
     | []=>wp M X dr lv ora fin L N n ks F
     | o::l=>(match all with
       | ⟨al⟩=>KI M al F o
         (fun F1=>Jw M F1 o fun F2=>(match qd1 X F2 o with
           | some (d,y)=>M.pAnd (M.pImp (M.bEq (M.nI (y.len M)) 0) (wp M X dr lv ora fin L N n (.r ⟨al⟩ l::ks) (F2.put d (.v (false,[.fz (.bool true true)]))))) (wp M X dr lv ora fin L N n (.r ⟨al⟩ l::ks) (F2.put d (.v (false,[.fz (.bool true false)]))))
           | none=>(match qja X F2 o with
             | some (d,g,s)=>M.pAnd (wp M X dr lv ora fin L N n (.r ⟨al⟩ l::ks) (F2.put d (.tup [(false,[.fz (.bool false (g s))]),(false,[.fz (.bool true true)])]))) (wp M X dr lv ora fin L N n (.r ⟨al⟩ l::ks) (F2.put d (.tup [(false,[.un]),(false,[.fz (.bool true false)])])))
             | none=>(match opB M X ora F2 o with
               | some (ps,G)=>Wl M ps (wp M X dr lv ora fin L N n (.r ⟨al⟩ l::ks) G)
               | none=>M.pNo 13))))
         (fun F1=>(match o.dst with
           | some d=>(match nlt d PH with | true=>wp M X dr lv ora fin L N n (.r ⟨al⟩ l::ks) (F1.put d (.v (false,[.ud]))) | false=>M.pNo 16)
           | none=>wp M X dr lv ora fin L N n (.r ⟨al⟩ l::ks) F1)))))
theorem QM {α:Type}{l:List α}{k i:Nat}(h:i<k):(l.take k)[i]?=l[i]?:=by simp [List.getElem?_take,h]
theorem qeC {P:Program}{ops:List Oper}{k:Nat}{a:List Nat}{F:SF}{its:List It}(hle:k<=ops.length)(hall:∀ (i:Nat) (o:Oper),ops[i]?=some o->i<k->QV ops a k i o=true)
 (k1:its.length=(ops.take k).length) (k4:∀ (i:Nat) (o:Oper) (x:It),(ops.take k)[i]?=some o->its[i]?=some x->qde P ops F (KO (ops.take k)) (frs F.er its i) o x) :
 Dyn ops k (yO a) F.er its (frs F.er its)/\(∀ (i:Nat) (o:Oper) (x:It),ops[i]?=some o->its[i]?=some x->z7 P ⟨ops⟩ (frs F.er its i) o x)/\(ops.take k).length=k:=by
 have hlen:its.length=k:=by rw [k1,List.length_take];omega
 have get:∀ (i:Nat) (x:It),its[i]?=some x->∃ o,i<k/\ops[i]?=some o/\qde P ops F (KO (ops.take k)) (frs F.er its i) o x:=by
  intro i x hx
  have hi:i<k:=by rw [<-hlen];exact (List.getElem?_eq_some_iff.1 hx).1
  have ho:ops[i]?=some ops[i]:=List.getElem?_eq_getElem (by omega)
  exact ⟨ops[i],hi,ho,k4 i _ x (by rw [QM hi];exact ho) hx⟩
 have hmem:∀ (j:Nat) (y:It),its[j]?=some y->y.1∈KO (ops.take k):=by
  intro j y hy
  obtain ⟨o,hj,ho,hio⟩:=get j y hy
  have hin:o∈ops.take k:=List.mem_of_getElem? (i:=j) (by rw [QM hj];exact ho)
  have key:∀ l:List Oper,o∈l->y.1∈KO l:=by
   intro l
   induction l with
   | nil=>intro h;cases h
   | cons a l ihl =>
     intro hm
     simp only [KO]
     rcases List.mem_cons.1 hm with rfl | hm
     . rw [hio.dst];exact List.mem_cons_self
     . split
       . exact List.mem_cons_of_mem _ (ihl hm)
       . exact ihl hm
  exact key _ hin
 have hpair:∀ (i j:Nat) (o o':Oper) (d d':Nat),i<k->j<k->ops[i]?=some o->ops[j]?=some o'->o.dst=some d->o'.dst=some d' →
  (d=d'->i=j)/\(d'∈lkM ops o->yO a i j/\j<i):=by
  intro i j o o' d d' hi hj ho ho' hd hd'
  have:=hall i o ho hi
  unfold QV at this
  rw [hd] at this
  dsimp only at this
  have:=List.all_eq_true.1 this j (List.mem_range.2 hj)
  rw [ho'] at this
  dsimp only at this
  rw [hd'] at this
  simp only [Bool.and_eq_true,Bool.or_eq_true,Bool.not_eq_true'] at this
  obtain ⟨h1,h2⟩:=this
  refine ⟨fun e=>?_,fun hm=>?_⟩
  . subst e
    rcases h1 with h1 | h1
    . simp at h1
    . exact Nat.eq_of_beq_eq_true h1
  . rcases h2 with h2 | h2
    . rw [List.contains_iff_mem.2 hm] at h2;cases h2
    . exact ⟨h2.1,Nat.lt_of_succ_le (qv h2.2)⟩
 refine ⟨⟨hlen,?_,?_,?_,?_,?_,rfl,?_⟩,?_,by rw [List.length_take];omega⟩
 . intro i j x y hx hy he
   obtain ⟨o,hi,ho,hio⟩:=get i x hx
   obtain ⟨o',hj,ho',hjo⟩:=get j y hy
   exact (hpair i j o o' _ _ hi hj ho ho' hio.dst hjo.dst).1 he
 . intro i j o y hi ho hy hm
   obtain ⟨o',hj,ho',hjo⟩:=get j y hy
   obtain ⟨x,hx⟩:∃ x,its[i]?=some x:=⟨its[i]'(by omega),List.getElem?_eq_getElem _⟩
   obtain ⟨o2,_,ho2,hio⟩:=get i x hx
   rw [ho] at ho2
   injection ho2 with ho2
   subst ho2
   exact (hpair i j o o' _ _ hi hj ho ho' hio.dst hjo.dst).2 hm
 . intro j y hy
   obtain ⟨o,_,_,hjo⟩:=get j y hy
   exact hjo.fr
 . intro j y hy
   obtain ⟨o,_,_,hjo⟩:=get j y hy
   exact hjo.blk
 . intro i o hi ho t ht id' hid j y hy he
   obtain ⟨x,hx⟩:∃ x,its[i]?=some x:=⟨its[i]'(by omega),List.getElem?_eq_getElem _⟩
   obtain ⟨o2,_,ho2,hio⟩:=get i x hx
   rw [ho] at ho2
   injection ho2 with ho2
   subst ho2
   rcases hio.ids t ht id' hid with h | h
   . exact h
   . rw [he] at h
     exact (h (hmem j y hy)).elim
 . intro i x hx
   unfold frs
   rw [List.take_add_one,hx]
   simp
 . intro i o x ho hx
   obtain ⟨o2,_,ho2,hio⟩:=get i x hx
   rw [ho] at ho2
   injection ho2 with ho2
   subst ho2
   exact hio.item
theorem Vk [za] {P:Program}{X:SX}(hT:ka P X.T)(hW:zR P X){dr:Nat->Nat}{lv:Nat->List Nat}{ora:jS}(hO:qm P ora){fin:SF->Prop}{L N:List K->SF->Prop}{Post:Fr->Prop}(hfin:∀ F,fin F->Post F.er)
 (hL:∀ ks F,(∀ k∈ks,kOK dr k=true)->L ks F->Ex P ks F.er Post) (hN:∀ ks F,(∀ k∈ks,kOK dr k=true)->N ks F->Ex P ks F.er Post):∀ (n:Nat) (ks:List K) (F:SF),(∀ k∈ks,kOK dr k=true)->wp qk X dr lv ora fin L N n ks F->Ex P ks F.er Post:=by
 intro n
 induction n with
 | zero=>intro ks F hk h;exact hN ks F hk h
 | succ n ih =>
   intro ks F hk h
   cases ks with
   | nil=>exact Ex.nil (hfin F h)
   | cons k ks =>
     have hks:∀ k∈ks,kOK dr k=true:=fun x hx=>hk x (List.mem_cons_of_mem _ hx)
     have hk0:=hk k List.mem_cons_self
     have cons1:∀ k',kOK dr k'=true->∀ x∈k'::ks,kOK dr x=true:=fun k' h' x hx=>(List.mem_cons.1 hx).elim (fun e=>e▸h') (hks x)
     have cons2:∀ k' k'',kOK dr k'=true->kOK dr k''=true->∀ x∈k'::k''::ks,kOK dr x=true:=fun k' k'' h' h'' x hx=>(List.mem_cons.1 hx).elim (fun e=>e▸h') (cons1 k'' h'' x)
     cases k with
     | bl id=>exact Ex.bl (ih ks F hks h)
     | lp b=>exact Ex.lp (ih _ F (cons1 _ hk0) h)
     | r all l =>
       obtain ⟨al⟩:=all
       cases l with
       | nil=>exact Ex.reg_end (ih ks F hks h)
       | cons o l =>
         simp only [wp] at h
         obtain ⟨F1,h1,h2⟩:=ZE h
         refine Ex.le h1 ?_
         rcases h2 with ⟨hw,h2⟩ | ⟨hw,h2⟩
         . obtain ⟨F2,h3,h4⟩:=Kd h2
           refine Ex.le h3 ?_
           split at h4
           . rename_i d y hd
             obtain ⟨k1,k2⟩:_/\_:=h4
             obtain ⟨t,e,g1,g2,g3,g4,x,tn,q1,q2,q3,q4,q5,q6⟩:=qfo hd
             refine Ex.op_nil hT q1 (hw.le h3) q2 q3 q4 q5 fun b hb=>?_
             cases b with
             | true =>
               refine ih _ _ (cons1 _ rfl) (k1 ?_)
               have h7:=hb rfl _ q6
               have h8:y.len qk=0:=by rw [<-LL.len_rc,h7];rfl
               show (((y.len qk:Nat):Int) == 0)=true
               rw [h8]
               rfl
             | false=>exact ih _ _ (cons1 _ rfl) k2
           . split at h4
             . rename_i d g s hlk
               obtain ⟨k1,k2⟩:_/\_:=h4
               exact qb5 hT hlk (hw.le h3) (ih _ _ (cons1 _ rfl) k1) (ih _ _ (cons1 _ rfl) k2)
             . split at h4
               . rename_i ps G hG
                 obtain ⟨hps,h5⟩:=kE ps _ h4
                 exact Ex.op (hw.le h3) (YS hT hW hO F2 o ps G hG hps) (ih _ G (cons1 _ rfl) h5)
               . exact h4.elim
         . refine Ex.op_not hw ?_
           unfold ZY
           split at h2
           . rename_i d hd
             split at h2
             . rename_i hph
               rw [hd]
               dsimp only
               rw [hph]
               exact ih _ _ (cons1 _ rfl) h2
             . exact h2.elim
           . rename_i hd
             rw [hd]
             exact ih _ _ (cons1 _ rfl) h2
     | c x =>
       simp only [wp] at h
       cases x with
       | skip=>exact Ex.skip (ih ks F hks h)
       | region id ops d =>
         obtain ⟨ops⟩:=ops
         cases hl:X.ST id with
         | some l =>
           dsimp only at h
           rw [hl] at h
           refine @Ex.weak _ _ _ _ _ _ (F.er.keep l) rfl (fun J σ w vt hF hd=>by letI:=J;exact Qj hF hd l) ?_
           rw [<-Qq]
           exact hL _ _ hk h
         | none =>
          dsimp only at h
          rw [hl] at h
          dsimp only at h
          cases d with
           | false=>exact Ex.reg (ih _ F (cons1 _ rfl) h)
           | true =>
             dsimp only at h
             have hk0':(match nlt (dr id) 65536 with
              | true=>YC ops (dr id)||(nq (dr id) ops.length&&VV ops)
              | false=>yj ops (drS (dr id)) (qj4 (dr id)))=true:=hk0
             split at h
             . rename_i hlt
               rw [hlt] at hk0'
               have hst:(YC ops (dr id)||(nq (dr id) ops.length&&VV ops))=true:=hk0'
               rw [qdL] at h
               rw [Bool.or_eq_true] at hst
               rcases hst with hst | hst
               . obtain ⟨hle,hall⟩:=Yo hst
                 obtain ⟨its,G,k1,k2,k3,k4⟩:=wW hT hO (ops.take (dr id)) F F.er (LE.refl _) h
                 obtain ⟨hD,hit,hlt⟩:=qeC hle (fun i o ho hi=>(hall i o ho).2.1 hi) k1 k4
                 rw [hlt] at k3
                 refine Ex.draw (qfr hst) hD hit (Ex.le k3 ?_)
                 rw [kV] at k2
                 exact ih _ G (cons1 _ rfl) k2
               . simp only [Bool.and_eq_true] at hst
                 obtain ⟨hk,hst⟩:=hst
                 have hk:=Nat.eq_of_beq_eq_true hk
                 obtain ⟨hst2,hall⟩:=qeu hst
                 obtain ⟨its,G,k1,k2,k3,k4⟩:=wW hT hO (ops.take (dr id)) F F.er (LE.refl _) h
                 obtain ⟨hD,hit,hlt⟩:=qeC (Nat.le_of_eq hk) (fun i o ho hi=>by rw [hk];exact hall i o ho) k1 k4
                 rw [hlt] at k3
                 rw [hk] at hD k3 k2
                 refine Ex.draw2 hst2 hD hit (Ex.le k3 ?_)
                 rw [kV,List.drop_length] at k2
                 exact ih _ G (cons1 _ rfl) k2
             . rename_i hlt
               rw [hlt] at hk0'
               have hst:yj ops (drS (dr id)) (qj4 (dr id))=true:=hk0'
               obtain ⟨hst4,hall⟩:=qd7 hst
               rw [qdL] at h
               obtain ⟨its,G,k1,k2,k3,k4⟩:=wW hT hO (ops.take (drS (dr id))) F F.er (LE.refl _) h
               obtain ⟨hD,hit,hlt2⟩:=qeC (Nat.le_of_lt hst4.sl) (fun i o ho hi=>hall i o ho hi) k1 k4
               rw [hlt2] at k3
               split at k2
               . rename_i os hos
                 rw [Km] at hos
                 split at k2
                 . rename_i hgs
                   have hgs:=qgL hgs
                   have hits:∀ (i:Nat) (o:Oper),i<drS (dr id)->ops[i]?=some o->∃ x,its[i]?=some x/\qde P ops F (KO (ops.take (drS (dr id)))) (frs F.er its i) o x:=by
                    intro i o hi ho
                    obtain ⟨x,hx⟩:∃ x,its[i]?=some x:=⟨its[i]'(by rw [hD.len];exact hi),List.getElem?_eq_getElem _⟩
                    exact ⟨x,hx,k4 i o x (by rw [QM hi];exact ho) hx⟩
                   obtain ⟨hV,hxr⟩:=qbb hT hW hO hits (Q:=fun j G=>Ex P (.r ⟨ops⟩ (ops.drop j)::ks) G Post) (fun j GA hGA=>ih _ GA (cons1 _ rfl) (by rw [kV] at hGA;exact hGA)) k3 (qj4 (dr id)) hst4.ll k2
                   exact Ex.draw4 hst4 hD hit hos hgs hxr hV
                 . exact k2.elim
               . exact k2.elim
       | seq a b =>
         have hab:kA dr a=true/\kA dr b=true:=by simpa [kOK,kA] using hk0
         exact Ex.seq (ih _ F (cons2 _ _ hab.1 hab.2) h)
       | cond y a b =>
         have hab:kA dr a=true/\kA dr b=true:=by simpa [kOK,kA] using hk0
         dsimp only at h
         split at h
         . rename_i kn t hy
           have hy':ev1 F.er y=.fz (.bool t):=by rw [<-qE,hy];rfl
           have h':(t=true->wp qk X dr lv ora fin L N n (.c a::ks) F)/\(t=false->wp qk X dr lv ora fin L N n (.c b::ks) F):=by
            cases kn with
            | true=>cases t with
              | true=>exact ⟨fun _=>h,fun e=>by cases e⟩
              | false=>exact ⟨(fun e=>by cases e),fun _=>h⟩
            | false =>
              obtain ⟨h1,h2⟩:(t=true->_)/\((!t)=true->_):=h
              exact ⟨h1,fun e=>h2 (by rw [e];rfl)⟩
           clear h
           refine Ex.cond hy' ?_
           cases t with
           | true=>exact ih _ F (cons1 _ hab.1) (h'.1 rfl)
           | false=>exact ih _ F (cons1 _ hab.2) (h'.2 rfl)
         . exact h.elim
       | block id b=>exact Ex.block (ih _ F (cons2 _ _ hk0 rfl) h)
       | loop b =>
         refine Ex.loop (lv (wy b)) ?_
         rw [<-Qq]
         exact hL _ _ (cons2 _ _ hk0 hk0) h
       | exit id =>
         dsimp only at h
         split at h
         . rename_i ks' hp
           exact Ex.exit hp (ih ks' F (fun k hk'=>hks k ((@Jo qG _ _ _ hp).2 k hk')) h)
         . exact h.elim
       | ret=>exact Ex.ret (hfin F h)
       | _=>exact h.elim
def qaT:Nat->List (V1 D)->List (Nat×TV B)
 | _,[]=>[]
 | i,x::r=>(i,.v (x.1,fzB x.2))::qaT (i+1) r
def qnc (n:Nat)(args:List (V1 D)):SF:=⟨n,qaT 0 args,[]⟩
theorem qli (n:Nat)(args:List (V1 D)):(qnc n args).er=enter n (qw D.erL args):=by
 have key:∀ (l:List (V1 D)) (i:Nat),jF (qaT i l)=Qy i (qw D.erL l):=by
  intro l
  induction l with
  | nil=>intro i;rfl
  | cons x l ih=>intro i;simp only [qaT,jF,qw,Qy,ih,TV.er,zZ,qdU]
 unfold qnc enter SF.er
 simp only [key]
 rfl
def qnw (M:MB)(F:SF):Array ResultVar->R SF
 | ⟨[.tmp t]⟩=>(match qa unB F.tm t with
   | .v (false,[.rf (r,[]) false off n])=>(F.atR M (r,[])).bd fun o=>(match o with
     | .osl x=>(match x.cut M 0 n with
       | some y=>(match qh0 (qfW (r,[])) F.tm with
         | some tm=>some ([M.pEqN off 0,M.pLtN 0 n,M.pLeN n (x.len M)],⟨F.n,(t,.v (false,[.rf (r,[]) true 0 n]))::tm,(r,.osl y)::del F.tb r⟩)
         | none=>none)
       | none=>none)
     | _=>none)
   | _=>none)
 | _=>none
theorem qjI (F:SF)(rs:Array ResultVar):(qnw qk F rs).Sim fun G=>∃ t r n xs,qgG F.er t r n xs/\F.er.shr std t r n xs=G.er:=by
 unfold qnw
 split
 . rename_i t
   split
   . rename_i r off n hx
     refine R.Sim.bd (F.atR_sim (r,[])) fun o ho=>?_
     split
     . rename_i x
       split
       . rename_i y hy
         split
         . rename_i tm htm
           refine R.Sim.mk fun hp=>?_
           obtain ⟨h1,h2,h3⟩:=hp.three
           have h1:off=0:=h1
           have h2:0<n:=h2
           have h3:n<=x.len qk:=h3
           subst h1
           have ho:F.er.at std (r,[])=.osl x.ro:=ho
           refine ⟨t,r,n,x.ro,⟨?_,ho,h2,by rw [LL.len_ro];exact h3⟩,?_⟩
           . show qa unT (jF F.tm) t=_
             rw [Qc,hx]
             rfl
           . have e1:=Jj (τ':=qV std (r,[])) (fun x r' h=>vH (p:=(r,[])) h) F.tm htm
             have e2:std.oCut x.ro 0 n=y.ro:=(LL.cut_ro hy).symm
             unfold Fr.shr
             rw [e2]
             show Fr.mk F.n ((t,TV.v (false,[A.rf (r,[]) 0 n]))::QS (qV std (r,[])) (jF F.tm)) ((r,O.osl y.ro)::del (zr F.tb) r)=_
             rw [e1,qao]
             rfl
         . exact R.Sim.none'
       . exact R.Sim.none'
     . exact R.Sim.none'
   . exact R.Sim.none'
 . exact R.Sim.none'
def qdh (M:MB)(T:Nat->Option Ty)(rs:Array ResultVar)(R:TV W->Prop)(F:SF):Prop:=match qnw M F rs with
 | some (ps,G)=>Wl M ps (match WL M T G rs with
   | some (ps,r)=>Wl M ps (R r)
   | none=>M.pNo 22)
 | none=>(match WL M T F rs with
   | some (ps,r)=>Wl M ps (R r)
   | none=>(match rs with
     | ⟨l⟩=>(match qgR M T F l with
       | some (ps,xs)=>Wl M ps (R (qmU xs))
       | none=>M.pNo 14)))
def qnt (T:Nat->Option Ty)(rs:Array ResultVar)(r:TV W)(F:Fr):Prop:=Qb std T false F rs=some (r.er W.erL)\/(∃ xs,J8 std T F rs.toList=some xs/\qf8 xs=r.er W.erL)\/∃ t r0 n xs,qgG F t r0 n xs/\Qb std T false (F.shr std t r0 n xs) rs=some (r.er W.erL)
theorem qdi {T:Nat->Option Ty}{rs:Array ResultVar}{r:TV W}{F:SF}(h:qdh qk T rs (fun r'=>r'.er W.erL=r.er W.erL) F):qnt T rs r F.er:=by
 unfold qdh at h
 split at h
 . rename_i ps G he
   obtain ⟨h1,h2⟩:=kE ps _ h
   split at h2
   . rename_i ps2 r' he2
     obtain ⟨h3,h4⟩:=kE ps2 _ h2
     obtain ⟨t,r0,n,xs,h5,h6⟩:=qjI F rs ps G he h1
     right;right
     refine ⟨t,r0,n,xs,h5,?_⟩
     rw [h6,vG T G rs ps2 r' he2 h3,h4]
   . exact h2.elim
 . split at h
   . rename_i ps r' he
     obtain ⟨h1,h2⟩:=kE ps _ h
     left
     rw [vG T F rs ps r' he h1,h2]
   . obtain ⟨l⟩:=rs
     dsimp only at h
     split at h
     . rename_i ps xs he
       obtain ⟨h1,h2⟩:=kE ps _ h
       right;left
       exact ⟨_,Yv T F l ps xs he h1,by rw [qjo,h2]⟩
     . exact h.elim
def SEx (P:Program)(T:Nat->Option Ty)(dr:Nat->Nat)(rs:Array ResultVar)(ks:List K)(F:SF)(r:TV W):Prop:=(∀ k∈ks,kOK dr k=true)->@Ex _ qcP P ks F.er (qnt T rs r)
theorem SEx.walk {P:Program}{X:SX}(hT:ka P X.T){dr:Nat->Nat}(lv:Nat->List Nat){ora:jS}(hO:qm P ora){rs:Array ResultVar}{ks:List K}{F:SF}{r:TV W}(n:Nat)
 (h:∀ (M:MB) (R:TV W->Prop) (L N:List K->SF->Prop),M=qk->(∀ r',r'.er W.erL=r.er W.erL->R r')->(∀ ks F,SEx P X.T dr rs ks F r->L ks F)->(∀ ks F,SEx P X.T dr rs ks F r->N ks F)->wp M X dr lv ora (qdh M X.T rs R) L N n ks F) (hW:zR P X:=by exact fun _ _ _=>ya):SEx P X.T dr rs ks F r:=by
 intro hk
 letI:za:=qcP
 refine Vk hT hW hO (fin:=qdh qk X.T rs fun r'=>r'.er W.erL=r.er W.erL) (L:=fun ks F=>SEx P X.T dr rs ks F r) (N:=fun ks F=>SEx P X.T dr rs ks F r) ?_ (fun ks F hk h=>h hk) (fun ks F hk h=>h hk) n ks F hk (h qk _ _ _ rfl (fun _ h=>h) (fun _ _ h=>h) (fun _ _ h=>h))
 exact fun F hF=>qdi hF
def qe (P:Program)(g:FuncId)(args:List (V1 D))(r:TV W):Prop:=kM P g (qw D.erL args) (r.er W.erL)
theorem qe.of {P : Program} {T : Nat → Option Ty} (hT : ka P T) {g : FuncId} {fn : Func} {c : Code} {args : List (V1 D)} {r : TV W} {dr : Nat → Nat} (hf : P.funcs[g]? = some fn) (hb : fn.body = some c) (hnm : (fn.name == "runtime.NumGoroutine") = false) (h1 : (nle (cnt args) fn.ntmps && nle (cnt args) 1000) = true) (hc : kA dr c = true)
 (h:SEx P T dr fn.results [.c c] (qnc fn.ntmps args) r):qe P g args r:=by
 rw [Bool.and_eq_true] at h1
 have hl:∀ l:List (V1 D),(qw D.erL l).length=cnt l:=by intro l;induction l with | nil=>rfl | cons x l ih=>simp [qw,cnt,ih]
 refine @kM.of_Ex _ qcP _ _ hT _ _ _ _ _ false hf hb hnm ?_ ?_ ?_
 . rw [hl]
   exact qv h1.1
 . rw [hl]
   exact Nat.le_trans (qv h1.2) (by decide)
 . have:=h (fun k hk=>by simp at hk;subst hk;exact hc)
   rwa [qli] at this
theorem SEx.ind {P:Program}{T:Nat->Option Ty}{dr:Nat->Nat}{rs:Array ResultVar}{ks:List K}{α:Type}(f:α->SF)(R:α->TV W)(Inv:α->Prop)(μ:α->Nat)(x0:α)(hI:Inv x0)
 (step:∀ x,Inv x->(∀ y,Inv y->μ y<μ x->SEx P T dr rs ks (f y) (R y))->SEx P T dr rs ks (f x) (R x)):SEx P T dr rs ks (f x0) (R x0):=by
 have key:∀ n x,μ x=n->Inv x->SEx P T dr rs ks (f x) (R x):=by
  intro n
  induction n using Nat.strongRecOn with
  | _ n ih =>
    intro x hx hI
    exact step x hI (fun y hy hlt=>ih (μ y) (by omega) y rfl hy)
 exact key _ x0 rfl hI
theorem SEx.keep {P:Program}{T:Nat->Option Ty}{dr:Nat->Nat}{rs:Array ResultVar}{ks:List K}{F:SF}{r:TV W}(l:List Nat)(h:SEx P T dr rs ks (F.keepB l) r):SEx P T dr rs ks F r:=by
 intro hk
 have:=h hk
 rw [Qq] at this
 exact @Ex.weak _ qcP _ _ _ _ (F.er.keep l) rfl (fun J σ w vt hF hd=>by letI:=J;exact Qj hF hd l) this
def qmg:List K->Nat
 | .r _ (o::_)::_=>(match o.dst with | some d=>d+1 | none=>0)
 | _=>0
def SF.trimB (F:SF)(lv:Nat->Option (List Nat))(n:Nat):SF:=match lv n with | some l=>F.keepB l | none=>F
theorem SEx.trim {P:Program}{T:Nat->Option Ty}{dr:Nat->Nat}{rs:Array ResultVar}{ks:List K}{F:SF}{r:TV W}(lv:Nat->Option (List Nat))(h:SEx P T dr rs ks (F.trimB lv (qmg ks)) r):SEx P T dr rs ks F r:=by
 unfold SF.trimB at h
 split at h
 . exact SEx.keep _ h
 . exact h
theorem SEx.go {P:Program}{X:SX}(hT:ka P X.T){dr:Nat->Nat}(lv:Nat->List Nat)(lt:Nat->Option (List Nat)){ora:jS}(hO:qm P ora){rs:Array ResultVar}{ks:List K}{F:SF}{r:TV W}(n:Nat)
 (h:∀ (M:MB) (R:TV W->Prop) (L N:List K->SF->Prop),M=qk->(∀ p q:Prop,p->q->M.pAnd p q)->(∀ (b:Bool) (p:Prop),(b=true->p)->M.pImp b p)->(∀ r',r'.er W.erL=r.er W.erL->R r')->(∀ ks F,SEx P X.T dr rs ks F r->L ks F) →
   (∀ ks F,wp M X dr lv ora (qdh M X.T rs R) L N n ks (F.trimB lt (qmg ks))->N ks F)->wp M X dr lv ora (qdh M X.T rs R) L N n ks F) (hW:zR P X:=by exact fun _ _ _=>ya):SEx P X.T dr rs ks F r:=by
 have key:∀ ks F,wp qk X dr lv ora (qdh qk X.T rs fun r'=>r'.er W.erL=r.er W.erL) (fun ks F=>SEx P X.T dr rs ks F r) (fun ks F=>SEx P X.T dr rs ks F r) n ks F->SEx P X.T dr rs ks F r:=by
  intro ks F hw hk
  letI:za:=qcP
  refine Vk hT hW hO (fin:=qdh qk X.T rs fun r'=>r'.er W.erL=r.er W.erL) (L:=fun ks F=>SEx P X.T dr rs ks F r) (N:=fun ks F=>SEx P X.T dr rs ks F r) ?_ (fun ks F hk h=>h hk) (fun ks F hk h=>h hk) n ks F hk hw
  exact fun F hF=>qdi hF
 exact key ks F (h qk _ _ _ rfl (fun _ _ h1 h2=>⟨h1,h2⟩) (fun _ _ h=>h) (fun _ h=>h) (fun _ _ h=>h) (fun ks F hw=>SEx.trim lt (key ks _ hw)))
theorem SEx.same {P:Program}{T:Nat->Option Ty}{dr:Nat->Nat}{rs:Array ResultVar}{ks:List K}{F G:SF}{r r':TV W}(h:SEx P T dr rs ks G r')(he:G.er=F.er)(hr:r'.er W.erL=r.er W.erL):SEx P T dr rs ks F r:=by
 intro hk
 have:=h hk
 unfold qnt at this ⊢
 rw [he,hr] at this
 exact this
end Go.Proofs.YtececadpjelanaaGreat.Ai
namespace Go.Proofs.YtececadpjelanaaGreat.Ai
open Go
variable [qh]
end Go.Proofs.YtececadpjelanaaGreat.Ai
namespace Go.Proofs.YtececadpjelanaaGreat.Ai
open Go
variable [qh]
abbrev RW:=TV B×List (Nat×W)×List B
def RW.eqv (x y:RW):Prop:=x.1.er B.erL=y.1.er B.erL/\zr x.2.1=zr y.2.1/\B.erL x.2.2=B.erL y.2.2
def Y2 (M:MB)(T:Nat->Option Ty)(F:SF):List ResultVar->R (List (V1 B))
 | []=>R.ok []
 | rv::r=>(Yr M T F rv).bd fun v=>(match v with
   | .v x=>(Y2 M T F r).bd fun l=>R.ok (x::l)
   | .tup _=>none)
theorem Vo (T:Nat->Option Ty)(F:SF):∀ rs:List ResultVar,(Y2 qk T F rs).Sim fun xs=>vw T F.er rs=some (qw B.erL xs)
 | []=>R.Sim.ok rfl
 | rv::r=>by
   simp only [Y2]
   refine R.Sim.bd (wY T F rv) fun v hv=>?_
   split
   . refine R.Sim.bd (Vo T F r) fun l hl=>R.Sim.ok ?_
     simp only [vw,hv,hl,TV.er,qw]
   . exact R.Sim.none'
def qmD:List (V1 B)->TV B
 | [x]=>.v x
 | xs=>.tup xs
theorem qjO (xs:List (V1 B)):qke (qw B.erL xs)=(qmD xs).er B.erL:=by
 match xs with
 | []=>rfl
 | [x]=>rfl
 | x::y::r=>rfl
def qhy (F:SF):Nat->Nat->List B
 | _,0=>[]
 | i,m+1=>qhw (qa unB F.tm (PH+i))::qhy F (i+1) m
def qgQ (F:SF):Nat->Nat->Bool
 | _,0=>true
 | i,m+1=>match qa unB F.tm (PH+i) with
   | .v (false,[_])=>qgQ F (i+1) m
   | _=>false
theorem qlJ (F:SF):∀ (m i:Nat),qgQ F i m=true->∀ (k:Nat) (x:A),(B.erL (qhy F i m))[k]?=some x->qa unT F.er.tm (PH+(i+k))=.v (false,[x]):=by
 intro m
 induction m with
 | zero=>intro i _ k x h;simp [qhy,B.erL] at h
 | succ m ih =>
   intro i h k x hk
   simp only [qgQ] at h
   split at h
   . rename_i b hb
     cases k with
     | zero =>
       simp only [qhy,B.erL,hb,qhw,List.getElem?_cons_zero,Option.some.injEq] at hk
       show qa unT (jF F.tm) (PH+(i+0))=_
       rw [Qc,Nat.add_zero,hb,<-hk]
       rfl
     | succ k =>
       simp only [qhy,B.erL,List.getElem?_cons_succ] at hk
       rw [show i+(k+1)=i+1+k by omega]
       exact ih (i+1) h k x hk
   . cases h
def Y0:List ResultVar->List Nat
 | []=>[]
 | .tmp t::r=>t::Y0 r
 | .cell a _::r=>a::Y0 r
def qj7:Nat->Nat->List Nat
 | _,0=>[]
 | i,m+1=>(PH+i)::qj7 (i+1) m
def Yu (M:MB)(T:Nat->Option Ty)(rs:Array ResultVar)(m:Nat)(R:RW->Prop)(F:SF):Prop:=match rs with
 | ⟨rs⟩=>(match F.keepB (Qv (Y0 rs) (qj7 0 m)) with
   | G=>(match qgQ G 0 m with
     | true=>(match Y2 M T G rs with
       | some (ps,xs)=>Wl M ps (R (qmD xs,G.tb,qhy G 0 m))
       | none=>M.pNo 17)
     | false=>M.pNo 18))
def qkC (T:Nat->Option Ty)(rs:Array ResultVar)(x:RW):Fr->Prop:=fun F'=>∃ l,(∃ xs,vw T (F'.keep l) rs.toList=some xs/\qke xs=x.1.er B.erL) ∧
 (∀ (i:Nat) (y:A),(B.erL x.2.2)[i]?=some y->qa unT (F'.keep l).tm (PH+i)=.v (false,[y]))/\(F'.keep l).tb=zr x.2.1
theorem qbS {T:Nat->Option Ty}{rs:Array ResultVar}{m:Nat}{x:RW}{F:SF}(h:Yu qk T rs m (fun y=>RW.eqv y x) F):qkC T rs x F.er:=by
 obtain ⟨rs⟩:=rs
 unfold Yu at h
 dsimp only at h
 split at h
 . rename_i hph
   split at h
   . rename_i ps xs he
     obtain ⟨h1,h2,h3,h4⟩:=kE ps _ h
     refine ⟨Qv (Y0 rs) (qj7 0 m),⟨qw B.erL xs,?_,?_⟩,?_,?_⟩
     . rw [<-Qq]
       exact Vo T _ rs ps xs he h1
     . rw [qjO];exact h2
     . intro i y hy
       rw [<-Qq]
       rw [<-h4] at hy
       have:=qlJ _ m 0 hph i y hy
       rwa [Nat.zero_add] at this
     . rw [<-Qq]
       exact h3
   . exact h.elim
 . exact h.elim
def zu (P:Program)(T:Nat->Option Ty)(dr:Nat->Nat)(rs:Array ResultVar)(ks:List K)(F:SF)(x:RW):Prop:=(∀ k∈ks,kOK dr k=true)->@Ex _ qmk P ks F.er (qkC T rs x)
theorem zu.keep {P:Program}{T:Nat->Option Ty}{dr:Nat->Nat}{rs:Array ResultVar}{ks:List K}{F:SF}{r:RW}(l:List Nat)(h:zu P T dr rs ks (F.keepB l) r):zu P T dr rs ks F r:=by
 intro hk
 have:=h hk
 rw [Qq] at this
 exact @Ex.weak _ qmk _ _ _ _ (F.er.keep l) rfl (fun J σ w vt hF hd=>by letI:=J;exact Qj hF hd l) this
theorem zu.trim {P:Program}{T:Nat->Option Ty}{dr:Nat->Nat}{rs:Array ResultVar}{ks:List K}{F:SF}{r:RW}(lv:Nat->Option (List Nat))(h:zu P T dr rs ks (F.trimB lv (qmg ks)) r):zu P T dr rs ks F r:=by
 unfold SF.trimB at h
 split at h
 . exact zu.keep _ h
 . exact h
theorem zu.go {P:Program}{X:SX}(hT:ka P X.T){dr:Nat->Nat}(lv:Nat->List Nat)(lt:Nat->Option (List Nat)){ora:jS}(hO:qm P ora){rs:Array ResultVar}{ks:List K}{F:SF}{r:RW}(n m:Nat)
 (h:∀ (M:MB) (R:RW->Prop) (L N:List K->SF->Prop),M=qk->(∀ p q:Prop,p->q->M.pAnd p q)->(∀ (b:Bool) (p:Prop),(b=true->p)->M.pImp b p)->(∀ r',RW.eqv r' r->R r')->(∀ ks F,zu P X.T dr rs ks F r->L ks F) →
   (∀ ks F,wp M X dr lv ora (Yu M X.T rs m R) L N n ks (F.trimB lt (qmg ks))->N ks F)->wp M X dr lv ora (Yu M X.T rs m R) L N n ks F) (hW:zR P X:=by exact fun _ _ _=>ya):zu P X.T dr rs ks F r:=by
 have key:∀ ks F,wp qk X dr lv ora (Yu qk X.T rs m fun r'=>RW.eqv r' r) (fun ks F=>zu P X.T dr rs ks F r) (fun ks F=>zu P X.T dr rs ks F r) n ks F->zu P X.T dr rs ks F r:=by
  intro ks F hw hk
  letI:za:=qmk
  exact Vk hT hW hO (fin:=Yu qk X.T rs m fun r'=>RW.eqv r' r) (L:=fun ks F=>zu P X.T dr rs ks F r) (N:=fun ks F=>zu P X.T dr rs ks F r) (fun F hF=>qbS hF) (fun ks F hk h=>h hk) (fun ks F hk h=>h hk) n ks F hk hw
 exact key ks F (h qk _ _ _ rfl (fun _ _ h1 h2=>⟨h1,h2⟩) (fun _ _ h=>h) (fun _ h=>h) (fun _ _ h=>h) (fun ks F hw=>zu.trim lt (key ks _ hw)))
theorem zu.same {P:Program}{T:Nat->Option Ty}{dr:Nat->Nat}{rs:Array ResultVar}{ks:List K}{F G:SF}{r r':RW}(h:zu P T dr rs ks G r')(he:G.er=F.er)(hr:RW.eqv r' r):zu P T dr rs ks F r:=by
 intro hk
 have:=h hk
 rw [he] at this
 unfold qkC at this ⊢
 obtain ⟨h1,h2,h3⟩:=hr
 rw [h1,h2,h3] at this
 exact this
theorem zu.ind {P:Program}{T:Nat->Option Ty}{dr:Nat->Nat}{rs:Array ResultVar}{ks:List K}{α:Type}(f:α->SF)(R:α->RW)(Inv:α->Prop)(μ:α->Nat)(x0:α)(hI:Inv x0)
 (step:∀ x,Inv x->(∀ y,Inv y->μ y<μ x->zu P T dr rs ks (f y) (R y))->zu P T dr rs ks (f x) (R x)):zu P T dr rs ks (f x0) (R x0):=by
 have key:∀ n x,μ x=n->Inv x->zu P T dr rs ks (f x) (R x):=by
  intro n
  induction n using Nat.strongRecOn with
  | _ n ih =>
    intro x hx hI
    exact step x hI (fun y hy hlt=>ih (μ y) (by omega) y rfl hy)
 exact key _ x0 rfl hI
theorem zu.idx {P:Program}{T:Nat->Option Ty}{dr:Nat->Nat}{rs:Array ResultVar}{ks:List K}(n:Nat)(f:Nat->SF)(R:Nat->RW)
 (step:∀ i,i<=n->(i<n->zu P T dr rs ks (f (i+1)) (R (i+1)))->zu P T dr rs ks (f i) (R i)):zu P T dr rs ks (f 0) (R 0) :=
 zu.ind f R (fun i=>i<=n) (fun i=>n-i) 0 (Nat.zero_le _) fun i hi ih=>step i hi fun h=>ih (i+1) (by omega) (by omega)
def WC:Nat->List (V1 B)->List (Nat×TV B)
 | _,[]=>[]
 | i,x::r=>(i,.v x)::WC (i+1) r
def qgd:Nat->List B->List (Nat×TV B)
 | _,[]=>[]
 | i,x::r=>(PH+i,.v (false,[x]))::qgd (i+1) r
def qm1 (n:Nat)(args:List (V1 B))(ph:List B)(tb:List (Nat×W)):SF:=⟨n,Qv (WC 0 args) (qgd 0 ph),tb⟩
theorem qlA (n:Nat)(args:List (V1 B))(ph:List B)(tb:List (Nat×W)):(qm1 n args ph tb).er=Jk n (qw B.erL args) (B.erL ph) (zr tb):=by
 have h1:∀ (l:List (V1 B)) (i:Nat),jF (WC i l)=Qp i (qw B.erL l):=by
  intro l
  induction l with
  | nil=>intro i;rfl
  | cons x l ih=>intro i;simp only [WC,jF,qw,Qp,ih,TV.er]
 have h2:∀ (l:List B) (i:Nat),jF (qgd i l)=qbH i (B.erL l):=by
  intro l
  induction l with
  | nil=>intro i;rfl
  | cons x l ih=>intro i;simp only [qgd,jF,B.erL,qbH,ih,TV.er,zZ]
 have h3:∀ l r:List (Nat×TV B),jF (l++r)=jF l++jF r:=by
  intro l r
  induction l with
  | nil=>rfl
  | cons x l ih=>obtain ⟨t,x⟩:=x;simp only [List.cons_append,jF,ih]
 unfold qm1 Jk SF.er
 simp only [jB,h3,h1,h2]
theorem zG.of {P : Program} {T : Nat → Option Ty} (hT : ka P T) {g : FuncId} {fn : Func} {c : Code} {args : List (V1 B)} {tb : List (Nat × W)} {ph : List B} {r : RW} {dr : Nat → Nat} (hf : P.funcs[g]? = some fn) (hb : fn.body = some c) (hnm : (fn.name == "runtime.NumGoroutine") = false)
 (h1:(nle (cnt args) fn.ntmps&&nle (cnt args) 1000)=true) (hc:kA dr c=true) (h:zu P T dr fn.results [.c c] (qm1 fn.ntmps args ph tb) r):zG P g args tb ph r.1 r.2.1 r.2.2:=by
 rw [Bool.and_eq_true] at h1
 have hl:∀ l:List (V1 B),(qw B.erL l).length=cnt l:=by intro l;induction l with | nil=>rfl | cons x l ih=>simp [qw,cnt,ih]
 refine vM.of_Ex hT hf hb hnm ?_ ?_ ?_
 . rw [hl]
   exact qv h1.1
 . rw [hl]
   exact Nat.le_trans (qv h1.2) (by decide)
 . have:=h (fun k hk=>by simp at hk;subst hk;exact hc)
   rwa [qlA] at this
def qob:List Nat->Nat->Bool
 | [],_=>false
 | x::r,d=>match nq x d with | true=>true | false=>qob r d
abbrev WrW:=List (V1 B)->List (LK×W)->R RW
def kw:List (Nat×WrW)->FuncId->WrW
 | [],_,_,_=>none
 | (k,f)::r,g,xs,ls=>match nq k g with | true=>f xs ls | false=>kw r g xs ls
def JE (P:Program)(g:FuncId)(f:WrW):Prop:=∀ xs ls,R.Sim (f xs ls) fun res=>zG P g xs (qiy 0 ls) (qht 0 ls) res.1 res.2.1 res.2.2
def qaE (P:Program)(ow:FuncId->WrW):Prop:=∀ g xs ls,R.Sim (ow g xs ls) fun res=>zG P g xs (qiy 0 ls) (qht 0 ls) res.1 res.2.1 res.2.2
theorem jA {P:Program}:qaE P (kw []):=fun _ _ _=>R.Sim.none'
theorem zM {P:Program}{k:Nat}{f:WrW}{r:List (Nat×WrW)}(h:JE P k f)(hr:qaE P (kw r)):qaE P (kw ((k,f)::r)):=by
 intro g xs ls
 simp only [kw]
 split
 . rename_i e
   obtain rfl:=Qr.1 e
   exact h xs ls
 . exact hr g xs ls
def SX.withF (X:SX)(l:List Nat):SX:={ X with FB:=fun d=>qob l d }
def SX.withW (X:SX)(S:List (Nat×List (Nat×Nat)))(ow:FuncId->WrW):SX:={ X with S:=fun g=>qa none (S.map fun x=>(x.1,some x.2)) g,OW:=ow }
theorem SX.withW_ok {P:Program}{X:SX}{S:List (Nat×List (Nat×Nat))}{ow:FuncId->WrW}(h:qaE P ow):zR P (X.withW S ow):=h
end Go.Proofs.YtececadpjelanaaGreat.Ai
namespace Go.Proofs.YtececadpjelanaaGreat.Ai
open Go
variable [qh]
theorem qif {P:Program}{l:List (Nat×Option Ty)}(h:∀ p∈l,p.2=none\/kx P p.1=p.2):ka P (qa none l):=by
 intro t y ht
 induction l with
 | nil=>simp [qa] at ht
 | cons a r ih =>
   obtain ⟨k,v⟩:=a
   simp only [qa] at ht
   cases hb:nq k t with
   | true =>
     rw [hb] at ht
     obtain rfl:=Nat.eq_of_beq_eq_true hb
     have ht:v=some y:=ht
     subst ht
     rcases h _ List.mem_cons_self with h | h
     . cases h
     . exact h
   | false =>
     rw [hb] at ht
     exact ih (fun p hp=>h p (List.mem_cons_of_mem _ hp)) ht
def aI (n:Int):V1 D:=(false,[.int .i64 n])
def aS (s:ByteArray):V1 D:=(false,[.str s])
def aIs (l:List Int):V1 D:=(false,[.sl (.i l)])
def qjJ (l:List (List Int)):V1 D:=(false,[.sl (.ii false none l)])
def qdf (q:Tie):V1 D:=(true,q.d)
def J7 (q:qf):V1 D:=(true,q.d)
def VD (l:List Tie):V1 D:=(false,[.sl (.tie l)])
def wD (l:List qf):V1 D:=(false,[.sl (.node false none l)])
def aF (f:FuncId)(caps:List D):V1 D:=(false,[.fn f caps])
structure qx where
 nodes:List qf
 ties:List Tie
 hor:Int
structure qn where
 now:Int
 times:List Int
 vals:List Int
def qx.d (t:qx):List D:=[.sl (.node false none t.nodes),.sl (.tie t.ties),.int .i64 t.hor]
def qn.d (t:qn):List D:=[.int .i64 t.now,.sl (.i t.times),.sl (.i t.vals)]
def zk (t:qx):V1 D:=(true,t.d)
def zB (t:qn):V1 D:=(true,t.d)
structure Dc (α:Type) where
 enc:α->V1 D
 dec:V1 D->Option α
 ok:∀ x a,dec x=some a->zZ D.erL x=zZ D.erL (enc a)
def dcI:Dc Int:=⟨aI,fun | (false,[.int .i64 n])=>some n | _=>none,by intro x a h;split at h<;>first | (simp only [Option.some.injEq] at h;subst h;rfl) | cases h⟩
def dcS:Dc ByteArray:=⟨aS,fun | (false,[.str n])=>some n | _=>none,by intro x a h;split at h<;>first | (simp only [Option.some.injEq] at h;subst h;rfl) | cases h⟩
def kB:Dc (List Int):=⟨aIs,fun | (false,[.sl (.i l)])=>some l | _=>none,by intro x a h;split at h<;>first | (simp only [Option.some.injEq] at h;subst h;rfl) | cases h⟩
def qkv:Dc (List (List Int)):=⟨qjJ,fun | (false,[.sl (.ii _ _ l)])=>some l | (false,[.sl (.i [])])=>some [] | _=>none,by intro x a h;split at h<;>first | (simp only [Option.some.injEq] at h;subst h;rfl) | cases h⟩
def KY:Dc (List Tie):=⟨VD,fun | (false,[.sl (.tie l)])=>some l | (false,[.sl (.i [])])=>some [] | _=>none,by intro x a h;split at h<;>first | (simp only [Option.some.injEq] at h;subst h;rfl) | cases h⟩
def J5:Dc (List qf):=⟨wD,fun | (false,[.sl (.node _ _ l)])=>some l | (false,[.sl (.i [])])=>some [] | _=>none,by intro x a h;split at h<;>first | (simp only [Option.some.injEq] at h;subst h;rfl) | cases h⟩
def qdj:Dc Tie:=⟨qdf,fun
 | (true,[.int .i64 x1,.int .i64 x2,.int .i64 x3,.int .i64 x4,.bool _ x5])=>some ⟨x1,x2,x3,x4,x5⟩
 | _=>none,by intro x a h;split at h<;>first | (simp only [Option.some.injEq] at h;subst h;rfl) | cases h⟩
def K9:Dc qf:=⟨J7,fun
 | (true,[.str x1,.sl (.i x2),.int .i64 x3])=>some ⟨x1,x2,x3⟩
 | _=>none,by intro x a h;split at h<;>first | (simp only [Option.some.injEq] at h;subst h;rfl) | cases h⟩
def qem:D->Option (List Tie)
 | .sl (.tie l)=>some l
 | .sl (.i [])=>some []
 | _=>none
def qbh:D->Option (List qf)
 | .sl (.node _ _ l)=>some l
 | .sl (.i [])=>some []
 | _=>none
theorem qh8 {d:D}{l:List Tie}(h:qem d=some l):d.er=.sl (l.map Tie.rc):=by
 unfold qem at h;split at h<;>first | (simp only [Option.some.injEq] at h;subst h;rfl) | cases h
theorem qfy {d:D}{l:List qf}(h:qbh d=some l):d.er=.sl (l.map qf.rc):=by
 unfold qbh at h;split at h<;>first | (simp only [Option.some.injEq] at h;subst h;rfl) | cases h
def q7:Dc qx:=⟨zk,fun
 | (true,[d,e,.int .i64 x3])=>(match qbh d,qem e with | some x1,some x2=>some ⟨x1,x2,x3⟩ | _,_=>none)
 | _=>none,by
   intro x a h
   split at h
   . split at h
     . rename_i hd he
       simp only [Option.some.injEq] at h;subst h;simp only [zZ,D.erL,qfy hd,qh8 he,zk,qx.d];rfl
     . cases h
   . cases h⟩
def zj:Dc qn:=⟨zB,fun
 | (true,[.int .i64 x1,.sl (.i x2),.sl (.i x3)])=>some ⟨x1,x2,x3⟩
 | _=>none,by intro x a h;split at h<;>first | (simp only [Option.some.injEq] at h;subst h;rfl) | cases h⟩
def rB (b:Bool):TV W:=.v (false,[.fz (.bool false b)])
def rI (n:Int):TV W:=.v (false,[.fz (.int .i64 n)])
def rS (s:ByteArray):TV W:=.v (false,[.fz (.str s)])
def rIs (l:List Int):TV W:=.v (false,[.osl (.i l)])
def qay (l:List (List Int)):TV W:=.v (false,[.osl (.ii true none l)])
def qjG (l:List Tie):TV W:=.v (false,[.osl (.tie l)])
def qdN (l:List qf):TV W:=.v (false,[.osl (.node true none l)])
def qx.w (t:qx):List W:=[.osl (.node true none t.nodes),.osl (.tie t.ties),.fz (.int .i64 t.hor)]
def qn.w (t:qn):List W:=[.fz (.int .i64 t.now),.osl (.i t.times),.osl (.i t.vals)]
def qnZ (q:Tie):TV W:=.v (true,fzW q.d)
def qmF (q:qf):TV W:=.v (true,q.w true)
def qmB (t:qx):TV W:=.v (true,t.w)
def wz (t:qn):TV W:=.v (true,t.w)
abbrev eR (r:TV W):TV O:=r.er W.erL
@[simp] theorem kR (k b b'):eR (.v (false,[.fz (.bool k b)]))=eR (rB b')↔b=b':=by simp [eR,TV.er,zZ,W.erL,W.er,D.er,rB]
@[simp] theorem Zn (n n'):eR (.v (false,[.fz (.int .i64 n)]))=eR (rI n')↔n=n':=by simp [eR,TV.er,zZ,W.erL,W.er,D.er,rI]
theorem qe.er {P:Program}{g:FuncId}{as as':List (V1 D)}{r r':TV W}(h:qe P g as r)(ha:qw D.erL as'=qw D.erL as)(hr:eR r'=eR r):qe P g as' r':=by
 unfold qe at h ⊢
 rw [ha,show r'.er W.erL=r.er W.erL from hr]
 exact h
abbrev Wr:=List (V1 D)->R (TV W)
def qL:List (Nat×Wr)->jS
 | [],_,_=>none
 | (k,f)::r,g,xs=>match nq k g with | true=>f xs | false=>qL r g xs
def qH (P:Program)(g:FuncId)(f:Wr):Prop:=∀ xs,R.Sim (f xs) fun r=>qe P g xs r
theorem qd {P:Program}:qm P (qL []):=fun _ _=>R.Sim.none'
theorem qb {P:Program}{k:Nat}{f:Wr}{r:List (Nat×Wr)}(h:qH P k f)(hr:qm P (qL r)):qm P (qL ((k,f)::r)):=by
 intro g xs
 simp only [qL]
 split
 . rename_i e
   obtain rfl:=Nat.eq_of_beq_eq_true e
   exact h xs
 . exact hr g xs
def w1 {α:Type}(a:Dc α)(f:α->TV W)(p:α->List Prop):Wr
 | [x]=>match a.dec x with | some x=>some (p x,f x) | none=>none
 | _=>none
def w2 {α β:Type}(a:Dc α)(b:Dc β)(f:α->β->TV W)(p:α->β->List Prop):Wr
 | [x,y]=>match a.dec x,b.dec y with | some x,some y=>some (p x y,f x y) | _,_=>none
 | _=>none
def w3 {α β γ:Type}(a:Dc α)(b:Dc β)(c:Dc γ)(f:α->β->γ->TV W)(p:α->β->γ->List Prop):Wr
 | [x,y,z]=>match a.dec x,b.dec y,c.dec z with | some x,some y,some z=>some (p x y z,f x y z) | _,_,_=>none
 | _=>none
theorem zK {P:Program}{g:FuncId}{α:Type}{a:Dc α}{f:α->TV W}{p:α->List Prop}(h:∀ x,Holds (p x)->qe P g [a.enc x] (f x)):qH P g (w1 a f p):=by
 intro xs
 unfold w1
 split
 . split
   . rename_i hx
     exact R.Sim.mk fun hp=>(h _ hp).er (by simp only [qw,a.ok _ _ hx]) rfl
   . exact R.Sim.none'
 . exact R.Sim.none'
theorem qI {P:Program}{g:FuncId}{α β:Type}{a:Dc α}{b:Dc β}{f:α->β->TV W}{p:α->β->List Prop}(h:∀ x y,Holds (p x y)->qe P g [a.enc x,b.enc y] (f x y)):qH P g (w2 a b f p):=by
 intro xs
 unfold w2
 split
 . split
   . rename_i hx hy
     exact R.Sim.mk fun hp=>(h _ _ hp).er (by simp only [qw,a.ok _ _ hx,b.ok _ _ hy]) rfl
   . exact R.Sim.none'
 . exact R.Sim.none'
theorem vq {P:Program}{g:FuncId}{α β γ:Type}{a:Dc α}{b:Dc β}{c:Dc γ}{f:α->β->γ->TV W}{p:α->β->γ->List Prop}(h:∀ x y z,Holds (p x y z)->qe P g [a.enc x,b.enc y,c.enc z] (f x y z)):qH P g (w3 a b c f p):=by
 intro xs
 unfold w3
 split
 . split
   . rename_i hx hy hz
     exact R.Sim.mk fun hp=>(h _ _ _ hp).er (by simp only [qw,a.ok _ _ hx,b.ok _ _ hy,c.ok _ _ hz]) rfl
   . exact R.Sim.none'
 . exact R.Sim.none'
end Go.Proofs.YtececadpjelanaaGreat.Ai
namespace Go.Proofs.YtececadpjelanaaGreat.Ai
open Go Go.RowKit
instance fenceFree:qi:=qG
inductive Sh where
 | bool
 | int (k:IntKind)
 | str
 | sl (e:Sh)
 | st (fs:List Sh)
mutual
def Sh.n:Sh->Nat
 | .st fs=>Sh.nL fs
 | _=>1
def Sh.nL:List Sh->Nat
 | []=>0
 | s::r=>s.n+Sh.nL r
end
mutual
def Wt:Sh->List C->Prop
 | .bool,xs=>∃ b,xs=[.bool b]
 | .int k,xs=>∃ n,xs=[.int k n]/\k.min<=n/\n<=k.max
 | .str,xs=>∃ s,xs=[.str s]/\s.size<=maxLen
 | .sl e,xs=>∃ ys,xs=[.sl ys]/\ys.length<=maxLen/\∀ y,y∈ys->Wt e y
 | .st fs,xs=>WtL fs xs
def WtL:List Sh->List C->Prop
 | [],xs=>xs=[]
 | s::r,xs=>∃ a b,xs=a++b/\Wt s a/\WtL r b
end
mutual
theorem Wt.len:(s:Sh)->{xs:List C}->Wt s xs->xs.length=s.n
 | .bool,_,⟨_,h⟩=>by subst h;rfl
 | .int _,_,⟨_,h,_⟩=>by subst h;rfl
 | .str,_,⟨_,h,_⟩=>by subst h;rfl
 | .sl _,_,⟨_,h,_⟩=>by subst h;rfl
 | .st fs,_,h=>WtL.len fs h
theorem WtL.len:(l:List Sh)->{xs:List C}->WtL l xs->xs.length=Sh.nL l
 | [],_,h=>by have h:_=[]:=h;subst h;rfl
 | s::r,_,⟨a,b,h,h1,h2⟩=>by subst h;simp [Sh.nL,Wt.len s h1,WtL.len r h2]
end
def shL (f:TypeId->Option Sh)(P:Program):Nat->List Field->Option (List Sh×Nat)
 | off,[]=>some ([],off)
 | off,x::r=>match f x.type with
   | some s=>if x.offset=off/\P.cellsOf x.type=s.n then (match shL f P (off+s.n) r with | some (l,m)=>some (s::l,m) | none=>none) else none
   | none=>none
def Vv (P:Program):Nat->TypeId->Option Sh
 | 0,_=>none
 | n+1,t=>match P.underlying t with
   | some .bool=>some .bool
   | some (.int k)=>some (.int k)
   | some .string=>some .str
   | some (.slice e)=>match Vv P n e with
     | some s=>if P.cellsOf e=s.n/\0<s.n then some (.sl s) else none
     | none=>none
   | some (.struct fs)=>match shL (Vv P n) P 0 fs.toList with
     | some (l,m)=>if P.cellsOf t=m then some (.st l) else none
     | none=>none
   | _=>none
def Kj (w:World)(xs:List C)(cs:List Value):Prop:=xs.length=cs.length/\∀ (j:Nat) (c:C),xs[j]?=some c->∃ u,cs[j]?=some u/\zz w c u
theorem Kj.one {w:World}{c:C}{u:Value}(h:zz w c u):Kj w [c] [u]:=⟨rfl,fun j c' hj=>by
 cases j with
 | zero=>simp at hj;subst hj;exact ⟨u,rfl,h⟩
 | succ j=>simp at hj⟩
theorem Kj.append {w:World}{xs xs':List C}{cs cs':List Value}(h:Kj w xs cs)(h':Kj w xs' cs'):Kj w (xs++xs') (cs++cs'):=by
 refine ⟨by simp [h.1,h'.1],fun j c hj=>?_⟩
 by_cases hlt:j<xs.length
 . rw [List.getElem?_append_left hlt] at hj
   obtain ⟨u,h1,h2⟩:=h.2 j c hj
   exact ⟨u,by rw [List.getElem?_append_left (by rw [<-h.1];exact hlt)];exact h1,h2⟩
 . rw [List.getElem?_append_right (by omega)] at hj
   obtain ⟨u,h1,h2⟩:=h'.2 _ c hj
   exact ⟨u,by rw [List.getElem?_append_right (by rw [<-h.1];omega),<-h.1];exact h1,h2⟩
theorem qbV {α:Type}(p:Nat->α->Prop):∀ n:Nat,(∀ i,i<n->∃ y,p i y)->∃ ys:List α,ys.length=n/\∀ (i:Nat) (y:α),ys[i]?=some y->p i y:=by
 intro n
 induction n with
 | zero=>intro _;exact ⟨[],rfl,fun i y h=>by simp at h⟩
 | succ n ih =>
   intro h
   obtain ⟨ys,h1,h2⟩:=ih (fun i hi=>h i (by omega))
   obtain ⟨y,hy⟩:=h n (by omega)
   refine ⟨ys++[y],by simp [h1],fun i z hz=>?_⟩
   by_cases hlt:i<ys.length
   . rw [List.getElem?_append_left hlt] at hz;exact h2 i z hz
   . rw [List.getElem?_append_right (by omega)] at hz
     have hi:i-ys.length=0:=by
      rcases Nat.eq_zero_or_pos (i-ys.length) with e | e
      . exact e
      . rw [List.getElem?_eq_none (by simp;omega)] at hz;cases hz
     rw [hi] at hz
     simp at hz
     subst hz
     rw [show i=n by omega]
     exact hy
theorem w8 {α β:Type}{f:α->Option β}:∀ {l:List α} {r:List β},l.mapM f=some r->r.length=l.length/\∀ (i:Nat) (x:α),l[i]?=some x->∃ y,r[i]?=some y/\f x=some y:=by
 intro l
 induction l with
 | nil=>intro r h;simp at h;subst h;exact ⟨rfl,fun i x h=>by simp at h⟩
 | cons a l ih =>
   intro r h
   simp only [List.mapM_cons] at h
   cases hf:f a with
   | none=>rw [hf] at h;simp at h
   | some b =>
     rw [hf] at h
     cases hr:l.mapM f with
     | none=>rw [hr] at h;simp at h
     | some r' =>
       rw [hr] at h
       simp at h
       subst h
       obtain ⟨h1,h2⟩:=ih hr
       refine ⟨by simp [h1],fun i x hx=>?_⟩
       cases i with
       | zero=>simp at hx;subst hx;exact ⟨b,rfl,hf⟩
       | succ i=>obtain ⟨y,h3,h4⟩:=h2 i x (by simpa using hx);exact ⟨y,by simpa using h3,h4⟩
theorem cells?_inv {w:World}{base:Nat}{a:Addr}{n:Nat}{cs:List Value}(h:w.cells? base a n=some cs):cs.length=n/\∀ j,j<n->∃ u,cs[j]?=some u/\w.cell? (a.add j)=some u:=by
 unfold World.cells? at h
 split at h
 . obtain ⟨h1,h2⟩:=w8 h
   refine ⟨by simpa using h1,fun j hj=>?_⟩
   obtain ⟨y,h3,h4⟩:=h2 j j (by simp [hj])
   exact ⟨y,h3,h4⟩
 . cases h
theorem qcb {w:World}{P:Program}{f:TypeId->Option Sh}{g:TypeId->List Value->Prop}(hf:∀ t s cs,f t=some s->g t cs->∃ xs,Wt s xs/\Kj w xs cs):∀ (fs:List Field) (off:Nat) (l:List Sh) (m:Nat) (cs:List Value),shL f P off fs=some (l,m) →
 cs.length=m->(∀ x∈fs,g x.type ((cs.drop x.offset).take (P.cellsOf x.type)))->off<=m/\∃ xs,WtL l xs/\Kj w xs (cs.drop off):=by
 intro fs
 induction fs with
 | nil =>
   intro off l m cs h hl _
   simp [shL] at h
   obtain ⟨rfl,rfl⟩:=h
   exact ⟨Nat.le_refl _,[],rfl,by rw [List.drop_eq_nil_of_le (by omega)];exact ⟨rfl,fun j c h=>by simp at h⟩⟩
 | cons x fs ih =>
   intro off l m cs h hl hg
   simp only [shL] at h
   split at h
   . rename_i s hs
     split at h
     . rename_i hx
       obtain ⟨hx1,hx2⟩:=hx
       split at h
       . rename_i l' m' hrec
         simp at h
         obtain ⟨rfl,rfl⟩:=h
         obtain ⟨h1,xs,h2,h3⟩:=ih _ _ _ cs hrec hl (fun y hy=>hg y (List.mem_cons_of_mem _ hy))
         obtain ⟨ys,h4,h5⟩:=hf _ _ _ hs (hg x List.mem_cons_self)
         refine ⟨by omega,ys++xs,⟨ys,xs,rfl,h4,h2⟩,?_⟩
         have hcat:cs.drop off=(cs.drop off).take s.n++cs.drop (off+s.n):=by
          rw [<-List.drop_drop,List.take_append_drop]
         rw [hcat]
         rw [hx1,hx2] at h5
         exact h5.append h3
       . cases h
     . cases h
   . cases h
theorem qdO {H:Type}{enc:TypeId×Value->H}{P:Program}{w:World}{base:Nat}{sp:Nat->Bool}:∀ (n:Nat) (t:TypeId) (s:Sh),Vv P n t=some s->∀ (fuel:Nat) (cs:List Value) (x:DataW H×List MemPlace),DataW.trod enc P w base sp true fuel t cs=some x →
 ∃ xs,Wt s xs/\Kj w xs cs:=by
 intro n
 induction n with
 | zero=>intro t s h;simp [Vv] at h
 | succ n ih =>
   intro t s h fuel cs x hx
   cases fuel with
   | zero=>simp [DataW.trod] at hx
   | succ fuel =>
     simp only [Vv] at h
     unfold DataW.trod at hx
     split at h
     . rename_i hu
       rw [hu] at hx
       simp at h
       subst h
       dsimp only at hx
       clear ih
       split at hx<;>simp_all
       rename_i b
       exact ⟨[.bool b],⟨b,rfl⟩,.one (zz.bool b)⟩
     . rename_i k hu
       rw [hu] at hx
       simp at h
       subst h
       dsimp only at hx
       clear ih
       split at hx<;>simp_all
       obtain ⟨⟨rfl,h1⟩,_⟩:=hx
       simp [Lit.wf] at h1
       exact ⟨[.int _ _],⟨_,rfl,h1.1,h1.2⟩,.one (zz.int _ _)⟩
     . rename_i hu
       rw [hu] at hx
       simp at h
       subst h
       dsimp only at hx
       clear ih
       split at hx<;>simp_all
       rename_i b
       exact ⟨[.str b],⟨b,rfl,hx.1⟩,.one (zz.str b)⟩
     . rename_i e hu
       rw [hu] at hx
       split at h
       . rename_i s' he
         split at h
         . rename_i hsz
           simp at h
           subst h
           have ih':∀ (cs:List Value) (x:DataW H×List MemPlace),DataW.trod enc P w base sp true fuel e cs=some x->∃ xs,Wt s' xs/\Kj w xs cs:=fun cs x hx=>ih e s' he fuel cs x hx
           clear ih
           dsimp only at hx
           split at hx
           all_goals first
            | (rename_i h1;cases h1;done)
            | skip
           . exact ⟨[.sl []],⟨[],rfl,Nat.zero_le _,fun y hy=>by cases hy⟩,.one (zz.sl [] s'.n none 0 (fun _ _=>undef) (Nat.le_refl _) (fun y hy=>by cases hy) (fun h=>(h rfl).elim) (fun ad h=>by cases h) (fun i j y c h=>by simp at h))⟩
           . rename_i e' a len cap heq
             injection heq with heq
             injection heq with heq
             subst heq
             split at hx
             . rename_i hc
               obtain ⟨_,hlc,hcm⟩:=hc
               cases hel:(List.range len).mapM (fun i=>(w.cells? base (a.add (i * P.cellsOf e)) (P.cellsOf e)).bind (DataW.trod enc P w base sp true fuel e)) with
               | none=>rw [hel] at hx;simp at hx
               | some elems =>
                 obtain ⟨_,hm⟩:=w8 hel
                 obtain ⟨ys,hyl,hys⟩:=qbV (fun i (y:List C)=>Wt s' y/\y.length=s'.n/\∀ (j:Nat) (c:C),y[j]?=some c->∃ u,w.cell? ((a.add (i * s'.n)).add j)=some u/\zz w c u) len (by
                  intro i hi
                  obtain ⟨z,_,hz⟩:=hm i i (by simp [hi])
                  cases hcs:w.cells? base (a.add (i * P.cellsOf e)) (P.cellsOf e) with
                  | none=>rw [hcs] at hz;simp at hz
                  | some csi =>
                    rw [hcs] at hz
                    obtain ⟨xs,h1,h2⟩:=ih' csi z hz
                    obtain ⟨h3,h4⟩:=cells?_inv hcs
                    refine ⟨xs,h1,Wt.len s' h1,fun j c hj=>?_⟩
                    obtain ⟨u,h5,h6⟩:=h2.2 j c hj
                    have hjl:j<P.cellsOf e:=by rw [<-h3];exact (List.getElem?_eq_some_iff.1 h5).1
                    obtain ⟨u',h7,h8⟩:=h4 j hjl
                    rw [h5] at h7
                    injection h7 with h7
                    subst h7
                    rw [hsz.1] at h8
                    exact ⟨u,h8,h6⟩)
                 refine ⟨[.sl ys],⟨ys,rfl,by omega,fun y hy=>?_⟩,?_⟩
                 . obtain ⟨i,hi⟩:=List.mem_iff_getElem?.1 hy
                   exact (hys i y hi).1
                 . have hspot:ys≠[]->a.spot=none/\a.block<w.heap.size:=by
                    intro hne
                    obtain ⟨y,hy⟩:=ki (l:=ys) (i:=0) (by cases ys with | nil=>exact absurd rfl hne | cons _ _=>simp)
                    obtain ⟨_,h2,h3⟩:=hys 0 y hy
                    obtain ⟨c,hc⟩:=ki (l:=y) (i:=0) (by omega)
                    obtain ⟨u,h4,_⟩:=h3 0 c hc
                    have h4':w.cell? a=some u:=by simpa [Addr.add] using h4
                    refine ⟨?_,qeb h4'⟩
                    unfold World.cell? at h4'
                    split at h4'
                    . split at h4'
                      . cases h4'
                      . rename_i hs;simpa using hs
                    . cases h4'
                   rw [<-hyl]
                   refine Kj.one (zz.sl ys s'.n (some a) cap (fun i j=>(w.cell? ((a.add (i * s'.n)).add j)).getD undef) (by omega) (fun y hy=>?_) (fun hne=>⟨a,rfl,(hspot hne).1,(hspot hne).2,js _⟩) ?_ ?_)
                   . obtain ⟨i,hi⟩:=List.mem_iff_getElem?.1 hy
                     exact (hys i y hi).2.1
                   . intro ad hab i j y c hi hj
                     injection hab with hab
                     subst hab
                     obtain ⟨u,h1,_⟩:=(hys i y hi).2.2 j c hj
                     have hne:ys≠[]:=by intro e;subst e;simp at hi
                     rw [h1,<-KC (hspot hne).1,h1]
                     rfl
                   . intro i j y c hi hj
                     obtain ⟨u,h1,h2⟩:=(hys i y hi).2.2 j c hj
                     simp only [h1,Option.getD_some]
                     exact h2
             . cases hx
           . cases hx
         . cases h
       . cases h
     . rename_i fs hu
       rw [hu] at hx
       split at h
       . rename_i l m hsl
         split at h
         . rename_i hcl
           simp at h
           subst h
           dsimp only at hx
           split at hx
           . rename_i hlen
             cases hm:fs.toList.mapM (fun f=>DataW.trod enc P w base sp true fuel f.type ((cs.drop f.offset).take (P.cellsOf f.type))) with
             | none=>rw [hm] at hx;simp at hx
             | some r =>
               obtain ⟨_,h2⟩:=w8 hm
               obtain ⟨_,xs,h3,h4⟩:=qcb (w:=w) (P:=P) (f:=Vv P n) (g:=fun t cs=>∃ x,DataW.trod enc P w base sp true fuel t cs=some x) (fun t s cs hs ⟨x,hx⟩=>ih t s hs fuel cs x hx) fs.toList 0 l m cs hsl (by rw [hlen,hcl]) (by
                intro f hf
                obtain ⟨i,hi⟩:=List.mem_iff_getElem?.1 hf
                obtain ⟨y,_,hy⟩:=h2 i f hi
                exact ⟨y,hy⟩)
               exact ⟨xs,h3,by simpa using h4⟩
           . cases hx
         . cases h
       . cases h
     . cases h
end Go.Proofs.YtececadpjelanaaGreat.Ai
namespace Go.Proofs.YtececadpjelanaaGreat.Ai
open Go Go.RowKit Go.ChangeShapes
instance fenceFree':qi:=qG
def Sh.isSt:Sh->Bool
 | .st _=>true
 | _=>false
def yl:List Sh->List (V1 C)->Prop
 | [],xs=>xs=[]
 | s::r,xs=>∃ y ys,xs=(s.isSt,y)::ys/\Wt s y/\yl r ys
theorem qia {H:Type}{enc:TypeId×Value->H}{P:Program}{W:World}{sp:Nat->Bool}{n:Nat}{t:TypeId}{s:Sh}(hs:Vv P n t=some s){r:Reach}{base b0:Nat}{v:Value}{d:DataW H}{ps:List MemPlace}(hok:Value.okWide P W r b0 t v)
 (h:DataW.Trod enc P W base sp true t v d ps):∃ xs,Wt s xs/\qQ (fun _=>@qr qG W (fun _=>none)) (s.isSt,xs) v:=by
 obtain ⟨fuel,h⟩:=h
 obtain ⟨xs,h1,h2⟩:=qdO n t s hs fuel _ _ h
 refine ⟨xs,h1,?_⟩
 cases n with
 | zero=>simp [Vv] at hs
 | succ n =>
   have one:∀ c:C,xs=[c]->v.cells=#[v]->s.isSt=false->qQ (fun _=>@qr qG W (fun _=>none)) (s.isSt,xs) v:=by
    intro c hc hv hst
    subst hc
    rw [hst]
    obtain ⟨u,h3,h4⟩:=h2.2 0 c rfl
    rw [hv] at h3
    simp at h3
    subst h3
    exact h4
   have hv1:∀ u:TypeDesc,P.underlying t=some u->(∀ fs,u≠.struct fs)->(∀ m e,u≠.array m e)->Cell.okWide P W r b0 t v:=by
    intro u hu h3 h4
    unfold Value.okWide at hok
    rw [hu] at hok
    cases u<;>first | exact hok | exact absurd rfl (h3 _) | exact absurd rfl (h4 _ _)
   simp only [Vv] at hs
   split at hs
   . rename_i hu
     simp at hs
     subst hs
     have hc:=hv1 _ hu (by simp) (by simp)
     obtain ⟨b,hb⟩:=h1
     refine one _ hb ?_ rfl
     unfold Cell.okWide Cell.ok at hc
     simp only [hu] at hc
     cases v<;>first | rfl | exact hc.elim
   . rename_i k hu
     simp at hs
     subst hs
     have hc:=hv1 _ hu (by simp) (by simp)
     obtain ⟨b,hb,_⟩:=h1
     refine one _ hb ?_ rfl
     unfold Cell.okWide Cell.ok at hc
     simp only [hu] at hc
     cases v<;>first | rfl | exact hc.elim
   . rename_i hu
     simp at hs
     subst hs
     have hc:=hv1 _ hu (by simp) (by simp)
     obtain ⟨b,hb,_⟩:=h1
     refine one _ hb ?_ rfl
     unfold Cell.okWide Cell.ok at hc
     simp only [hu] at hc
     cases v<;>first | rfl | exact hc.elim
   . rename_i e hu
     have hc:=hv1 _ hu (by simp) (by simp)
     have hcells:v.cells=#[v]:=by
      unfold Cell.okWide Cell.ok at hc
      simp only [hu] at hc
      cases v<;>first | rfl | exact hc.elim
     split at hs
     . split at hs
       . simp at hs
         subst hs
         obtain ⟨ys,hb,_⟩:=h1
         exact one _ hb hcells rfl
       . cases hs
     . cases hs
   . rename_i fs hu
     split at hs
     . split at hs
       . simp at hs
         subst hs
         unfold Value.okWide at hok
         rw [hu] at hok
         obtain ⟨cs,rfl,_⟩:=hok
         refine ⟨cs,rfl,?_,?_⟩
         . have:=h2.1
           simpa [Value.cells] using this.symm
         . intro j c hj
           obtain ⟨u,h3,h4⟩:=h2.2 j c hj
           exact ⟨u,by simpa [Value.cells] using h3,h4⟩
       . cases hs
     . cases hs
   . cases hs
theorem qiw {H:Type}{enc:TypeId×Value->H}{P:Program}{W:World}{sp:Nat->Bool}{n:Nat}{r:Reach}{base b0:Nat}:∀ (ts:List TypeId) (shs:List Sh) (vs:List Value) (ds:List (DataW H)) (ps:List MemPlace),ts.map (Vv P n)=shs.map some →
 (∀ (j:Nat) t v,ts[j]?=some t->vs[j]?=some v->Value.okWide P W r b0 t v)->DataW.TrodAll enc P W base sp true ts vs ds ps →
 vs.length=ts.length/\∃ xs,yl shs xs/\xs.length=vs.length/\∀ (k:Nat) (x:V1 C),xs[k]?=some x->∃ u,vs[k]?=some u/\qQ (fun _=>@qr qG W (fun _=>none)) x u:=by
 intro ts
 induction ts with
 | nil =>
   intro shs vs ds ps hsh hok h
   obtain ⟨rfl,rfl,rfl⟩:=trodAll_nil h
   have:shs=[]:=by cases shs<;>simp_all
   subst this
   exact ⟨rfl,[],rfl,rfl,fun k x hk=>by simp at hk⟩
 | cons t ts ih =>
   intro shs vs ds ps hsh hok h
   obtain ⟨v,vs',d,ds',p,q,rfl,rfl,rfl,h0,hr⟩:=trodAll_cons h
   cases shs with
   | nil=>simp at hsh
   | cons s shs =>
     simp only [List.map_cons,List.cons.injEq] at hsh
     obtain ⟨h1,xs,h2,h3,h4⟩:=ih shs vs' ds' q hsh.2 (fun j t v ht hv=>hok (j+1) t v (by simpa using ht) (by simpa using hv)) hr
     obtain ⟨y,h5,h6⟩:=qia hsh.1 (hok 0 t v rfl rfl) h0
     refine ⟨by simp [h1],(s.isSt,y)::xs,⟨y,xs,rfl,h5,h2⟩,by simp [h3],fun k x hk=>?_⟩
     cases k with
     | zero=>simp at hk;subst hk;exact ⟨v,rfl,h6⟩
     | succ k=>obtain ⟨u,h7,h8⟩:=h4 k x (by simpa using hk);exact ⟨u,by simpa using h7,h8⟩
theorem qhk {H:Type}{enc:TypeId×Value->H}{P:Program}(hl:laidOutB P=true){W W':World}(hb:Below W.heap.size W W'):∀ (ts:List TypeId) (vs:List Value) (ds:List (DataW H)) (ps:List MemPlace),(ts.all fun t=>P.readableRec t&&decide (t<P.types.size))=true →
 DataW.TrodAll enc P W 0 (fun _=>true) true ts vs ds ps->(∀ x∈ps,x.block<W.heap.size)->DataW.TrodAll enc P W' 0 (fun b=>decide (b<W.heap.size)) true ts vs ds ps:=by
 intro ts
 induction ts with
 | nil=>intro vs ds ps _ h _;obtain ⟨rfl,rfl,rfl⟩:=trodAll_nil h;exact rfl
 | cons t ts ih =>
   intro vs ds ps ht h hlt
   obtain ⟨v,vs',d,ds',p,q,rfl,rfl,rfl,h0,hr⟩:=trodAll_cons h
   simp only [List.all_cons,Bool.and_eq_true,decide_eq_true_eq] at ht
   exact ⟨p,q,Below.trod hl ht.1.1 ht.1.2 h0 hb (fun x hx=>hlt x (List.mem_append.2 (.inl hx))),ih vs' ds' q ht.2 hr (fun x hx=>hlt x (List.mem_append.2 (.inr hx))),rfl⟩
def qn3:TV O:=.v (false,[.fz (.bool true)])
@[reducible] def WS [qh] (n:Nat):qi:=⟨fun _=>False,fun _=>.bool false,n,fun _=>none,qh.fut⟩
end Go.Proofs.YtececadpjelanaaGreat.Ai
