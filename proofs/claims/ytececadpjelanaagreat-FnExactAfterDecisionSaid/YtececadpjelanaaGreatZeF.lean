/- The law's proof, part 6 of 10: what of its author's texts it needs; no condition. -/
import Derived.Test.YtececadpjelanaaGreatProg
import Derived.KernelRfl
import Derived.Test.YtececadpjelanaaGreatZeE
set_option linter.unusedSectionVars false
set_option linter.unusedSimpArgs false
set_option linter.unusedVariables false
namespace Go.Proofs.YtececadpjelanaaGreat.Ai
open Go
set_option maxRecDepth 100000
variable [qh]
def tr3:Ty:={ kind:=TK.int IntKind.i64,agg:=false,size:=1,bytes:=8,zero:=[C.int IntKind.i64 (Int.ofNat 0)] }
theorem ty3:kx Tryz.prog 3=some tr3:=by kernel_rfl
def tr4:Ty:={ kind:=TK.bool,agg:=false,size:=1,bytes:=1,zero:=[C.bool false] }
theorem ty4:kx Tryz.prog 4=some tr4:=by kernel_rfl
def tr5:Ty:={ kind:=TK.int IntKind.u8,agg:=false,size:=1,bytes:=1,zero:=[C.int IntKind.u8 (Int.ofNat 0)] }
theorem ty5:kx Tryz.prog 5=some tr5:=by kernel_rfl
def tr9:Ty:={ kind:=TK.str,agg:=false,size:=1,bytes:=16,zero:=[C.str { data:={ toList:=[] } }] }
theorem ty9:kx Tryz.prog 9=some tr9:=by kernel_rfl
def tr22:Ty:={ kind:=TK.sl 85,agg:=false,size:=1,bytes:=24,zero:=[C.nilsl] }
theorem ty22:kx Tryz.prog 22=some tr22:=by kernel_rfl
def tr23:Ty:={ kind:=TK.sl 94,agg:=false,size:=1,bytes:=24,zero:=[C.nilsl] }
theorem ty23:kx Tryz.prog 23=some tr23:=by kernel_rfl
def tr25:Ty:={ kind:=TK.st [(0,1,false),(1,1,false),(2,1,false)],agg:=true,size:=3,bytes:=56,zero:=[C.nilsl,C.nilsl,C.int IntKind.i64 (Int.ofNat 0)] }
theorem ty25:kx Tryz.prog 25=some tr25:=by kernel_rfl
def tr26:Ty:={ kind:=TK.sl 3,agg:=false,size:=1,bytes:=24,zero:=[C.nilsl] }
theorem ty26:kx Tryz.prog 26=some tr26:=by kernel_rfl
def tr28:Ty:={ kind:=TK.st [(0,1,false),(1,1,false),(2,1,false)],agg:=true,size:=3,bytes:=56,zero:=[C.int IntKind.i64 (Int.ofNat 0),C.nilsl,C.nilsl] }
theorem ty28:kx Tryz.prog 28=some tr28:=by kernel_rfl
def tr31:Ty:={ kind:=TK.sl 26,agg:=false,size:=1,bytes:=24,zero:=[C.nilsl] }
theorem ty31:kx Tryz.prog 31=some tr31:=by kernel_rfl
def tr33:Ty:={ kind:=TK.sl 91,agg:=false,size:=1,bytes:=24,zero:=[C.nilsl] }
theorem ty33:kx Tryz.prog 33=some tr33:=by kernel_rfl
def tr34:Ty:={ kind:=TK.sl 90,agg:=false,size:=1,bytes:=24,zero:=[C.nilsl] }
theorem ty34:kx Tryz.prog 34=some tr34:=by kernel_rfl
def tr36:Ty:={ kind:=TK.st [(0,1,false),(1,1,false),(2,1,false)],agg:=true,size:=3,bytes:=56,zero:=[C.nilsl,C.nilsl,C.int IntKind.i64 (Int.ofNat 0)] }
theorem ty36:kx Tryz.prog 36=some tr36:=by kernel_rfl
def tr38:Ty:={ kind:=TK.st [(0,1,false),(1,1,false),(2,1,false)],agg:=true,size:=3,bytes:=56,zero:=[C.int IntKind.i64 (Int.ofNat 0),C.nilsl,C.nilsl] }
theorem ty38:kx Tryz.prog 38=some tr38:=by kernel_rfl
def tr64:Ty:={ kind:=TK.int IntKind.u64,agg:=false,size:=1,bytes:=8,zero:=[C.int IntKind.u64 (Int.ofNat 0)] }
theorem ty64:kx Tryz.prog 64=some tr64:=by kernel_rfl
def tr85:Ty:={ kind:=TK.st [(0,1,false),(1,1,false),(2,1,false)],agg:=true,size:=3,bytes:=48,zero:=[C.str { data:={ toList:=[] } },C.nilsl,C.int IntKind.i64 (Int.ofNat 0)] }
theorem ty85:kx Tryz.prog 85=some tr85:=by kernel_rfl
def tr90:Ty:={ kind:=TK.st [(0,1,false),(1,1,false),(2,1,false),(3,1,false),(4,1,false)],agg:=true,size:=5,bytes:=40,zero:=[C.int IntKind.i64 (Int.ofNat 0),C.int IntKind.i64 (Int.ofNat 0),C.int IntKind.i64 (Int.ofNat 0),C.int IntKind.i64 (Int.ofNat 0),C.bool false] }
theorem ty90:kx Tryz.prog 90=some tr90:=by kernel_rfl
def tr91:Ty:={ kind:=TK.st [(0,1,false),(1,1,false),(2,1,false)],agg:=true,size:=3,bytes:=48,zero:=[C.str { data:={ toList:=[] } },C.nilsl,C.int IntKind.i64 (Int.ofNat 0)] }
theorem ty91:kx Tryz.prog 91=some tr91:=by kernel_rfl
def tr94:Ty:={ kind:=TK.st [(0,1,false),(1,1,false),(2,1,false),(3,1,false),(4,1,false)],agg:=true,size:=5,bytes:=40,zero:=[C.int IntKind.i64 (Int.ofNat 0),C.int IntKind.i64 (Int.ofNat 0),C.int IntKind.i64 (Int.ofNat 0),C.int IntKind.i64 (Int.ofNat 0),C.bool false] }
theorem ty94:kx Tryz.prog 94=some tr94:=by kernel_rfl
def tr103:Ty:={ kind:=TK.mp 9 4,agg:=false,size:=1,bytes:=8,zero:=[C.un] }
theorem ty103:kx Tryz.prog 103=some tr103:=by kernel_rfl
def tr105:Ty:={ kind:=TK.st [(0,3,true),(3,1,false)],agg:=true,size:=4,bytes:=64,zero:=[C.nilsl,C.nilsl,C.int IntKind.i64 (Int.ofNat 0),C.un] }
theorem ty105:kx Tryz.prog 105=some tr105:=by kernel_rfl
def tr118:Ty:={ kind:=TK.sl 5,agg:=false,size:=1,bytes:=24,zero:=[C.nilsl] }
theorem ty118:kx Tryz.prog 118=some tr118:=by kernel_rfl
def tr122:Ty:={ kind:=TK.sl 4,agg:=false,size:=1,bytes:=24,zero:=[C.nilsl] }
theorem ty122:kx Tryz.prog 122=some tr122:=by kernel_rfl
def tr136:Ty:={ kind:=TK.int IntKind.i64,agg:=false,size:=1,bytes:=8,zero:=[C.int IntKind.i64 (Int.ofNat 0)] }
theorem ty136:kx Tryz.prog 136=some tr136:=by kernel_rfl
def tr144:Ty:={ kind:=TK.int IntKind.u32,agg:=false,size:=1,bytes:=4,zero:=[C.int IntKind.u32 (Int.ofNat 0)] }
theorem ty144:kx Tryz.prog 144=some tr144:=by kernel_rfl
def tr146:Ty:={ kind:=TK.int IntKind.u64,agg:=false,size:=1,bytes:=8,zero:=[C.int IntKind.u64 (Int.ofNat 0)] }
theorem ty146:kx Tryz.prog 146=some tr146:=by kernel_rfl
def tr155:Ty:={ kind:=TK.int IntKind.u64,agg:=false,size:=1,bytes:=8,zero:=[C.int IntKind.u64 (Int.ofNat 0)] }
theorem ty155:kx Tryz.prog 155=some tr155:=by kernel_rfl
def TT:List (Nat×Option Ty):=[(3,some tr3),(26,some tr26),(36,some tr36),(38,some tr38),(91,some tr91),(33,some tr33),(90,some tr90),(4,some tr4),(34,some tr34),(31,some tr31),(9,some tr9),(64,some tr64),(25,some tr25),(28,some tr28),(85,some tr85),(5,some tr5),(94,some tr94),(22,some tr22),(23,some tr23),(105,some tr105),(144,some tr144),(146,some tr146),(103,some tr103),(118,some tr118),(122,some tr122),(155,some tr155),(136,some tr136)]
def XX:SX:={ T:=qa none TT,K:=fun t=>qa none [(3,some .i),(26,some .ii),(91,some .node),(90,some .tie),(4,some .b),(9,some .s),(85,some .node),(5,some .u),(94,some .tie),(136,some .i)] t }
theorem qc:ka Tryz.prog XX.T:=qif (by simp only [TT,List.mem_cons,List.not_mem_nil,or_false,forall_eq_or_imp,forall_eq,ty3,ty26,ty36,ty38,ty91,ty33,ty90,ty4,ty34,ty31,ty9,ty64,ty25,ty28,ty85,ty5,ty94,ty22,ty23,ty105,ty144,ty146,ty103,ty118,ty122,ty155,ty136];simp)
def qos:List (Nat×Option (List Nat)):=[(2,some [0]),(3,some [1]),(4,some [1,2]),(5,some [1,2,3]),(6,some [1,2,3,4]),(7,some [1,2,3,5]),(8,some [1,2,3,6]),(9,some [1,2,3]),(10,some [1,2,3,8]),(11,some [1,2,3,9]),(12,some [1,2,3,10]),(13,some [1,2,3]),(14,some [2,3,12]),(15,some [2,3,13]),(16,some [2,3])]
def qoy:List (Nat×Option (List Nat)):=[(2,some [0]),(3,some [1]),(4,some [1,2]),(5,some [1,2,3]),(6,some [1,2,3,4]),(7,some [1,2,3,5]),(8,some [1,2,3]),(9,some [1,2,3,7]),(10,some [1,2,3,8]),(11,some [1,2,3,9]),(12,some [1,2,3]),(13,some [2,3,11]),(14,some [2,3,12]),(15,some [2,3,13]),(16,some [2,3])]
end Go.Proofs.YtececadpjelanaaGreat.Ai
namespace Go.Proofs.YtececadpjelanaaGreat.Ai
open Go
set_option maxRecDepth 100000
variable [qh]
def bI (n:Int):TV B:=.v (false,[.fz (.int .i64 n)])
def bS (s:ByteArray):TV B:=.v (false,[.fz (.str s)])
def bL (x:LL):TV B:=.v (false,[.fz (.sl x)])
def bR (r len:Nat):TV B:=.v (false,[.rf (r,[]) true 0 len])
def bP (r:Nat):TV B:=.v (false,[.pp (r,[]) (true,0) 0])
theorem sm:type_of% (Bool.not_eq_true')/\type_of% (Bool.not_eq_false')/\type_of% (@decide_eq_true_eq)/\type_of% (@decide_eq_false_iff_not)/\type_of% (@Int.not_le)/\type_of% (@Int.not_lt)/\type_of% (@beq_iff_eq.{0})/\type_of% (@beq_eq_false_iff_ne.{0})/\type_of% (@ne_eq.{1})/\type_of% (@Int.ofNat_eq_natCast)/\type_of% (@Int.toNat_natCast)/\type_of% (@List.length_replicate.{0})/\type_of% (@qch)/\type_of% (@Nat.sub_zero)/\type_of% (@List.drop_zero.{0})/\type_of% (@Cue.eta)/\type_of% (@Tie.eta)/\type_of% (@Edge.eta)/\type_of% (@jT.eta)/\type_of% (@qf.eta):=⟨Bool.not_eq_true',Bool.not_eq_false',@decide_eq_true_eq,@decide_eq_false_iff_not,@Int.not_le,@Int.not_lt,@beq_iff_eq.{0},@beq_eq_false_iff_ne.{0},@ne_eq.{1},@Int.ofNat_eq_natCast,@Int.toNat_natCast,@List.length_replicate.{0},@qch,@Nat.sub_zero,@List.drop_zero.{0},@Cue.eta,@Tie.eta,@Edge.eta,@jT.eta,@qf.eta⟩
theorem SEx.idx {P:Program}{T:Nat->Option Ty}{dr:Nat->Nat}{rs:Array ResultVar}{ks:List K}(n:Nat)(f:Nat->SF)(R:Nat->TV W)
 (step:∀ i,i<=n->(i<n->SEx P T dr rs ks (f (i+1)) (R (i+1)))->SEx P T dr rs ks (f i) (R i)):SEx P T dr rs ks (f 0) (R 0) :=
 SEx.ind f R (fun i=>i<=n) (fun i=>n-i) 0 (Nat.zero_le _) fun i hi ih=>step i hi fun h=>ih (i+1) (by omega) (by omega)
theorem SEx.idxS {P:Program}{T:Nat->Option Ty}{dr:Nat->Nat}{rs:Array ResultVar}{ks:List K}{α:Type}(n:Nat)(f:Nat->α->SF)(R:Nat->α->TV W)(Inv:Nat->α->Prop)(s0:α)(h0:Inv 0 s0)
 (step:∀ i s,i<=n->Inv i s->(∀ s',i<n->Inv (i+1) s'->SEx P T dr rs ks (f (i+1) s') (R (i+1) s'))->SEx P T dr rs ks (f i s) (R i s)):SEx P T dr rs ks (f 0 s0) (R 0 s0) :=
 SEx.ind (fun x:Nat×α=>f x.1 x.2) (fun x=>R x.1 x.2) (fun x=>x.1<=n/\Inv x.1 x.2) (fun x=>n-x.1) (0,s0) ⟨Nat.zero_le _,h0⟩ fun x hx ih=>step x.1 x.2 hx.1 hx.2 fun s' h hI=>ih (x.1+1,s') ⟨by show x.1+1<=n;omega,hI⟩ (by show n-(x.1+1)<n-x.1;omega)
structure JZ {α:Type}(a b:α):Prop where out:a=b
structure LLe {α:Type}(l:List α)(n:Nat):Prop where out:l.length<=n
theorem qy {n:Int}(h1:-9223372036854775808<=n)(h2:n<=9223372036854775807):IntKind.i64.wrap n=n:=IntWalk.i64_in n ⟨h1,h2⟩
theorem ql {i:Nat}(h:i<9223372036854775807):IntKind.i64.wrap ((i:Int)+1)=((i+1:Nat):Int):=by
 rw [qy (by omega) (by omega)];rfl
structure qoF (s:ByteArray):Prop where out:s.size<=maxLen
structure qfF (n:Int):Prop where out:0<=n/\n<=9223372036854775807
structure Hd (p:Prop):Prop where out:p
theorem kT:(1048576:Int)<=lim:=by decide
theorem km {α:Type}{l:List α}{i:Nat}{z:α}(h:i<l.length):l.getD i z=l[i]:=by rw [List.getD_eq_getElem?_getD,List.getElem?_eq_getElem h,Option.getD_some]
def eqS (a b:ByteArray):Bool:=a.toList == b.toList
def zq {α:Type}(p:α->Bool):List α->Nat->Int
 | [],_=>-1
 | a::r,n=>if p a=true then n else zq p r (n+1)
theorem qfR {α:Type}{p:α->Bool}{l:List α}{i n:Nat}(z:α)(h:i<l.length):zq p (l.drop i) n=if p (l.getD i z)=true then (n:Int) else zq p (l.drop (i+1)) (n+1):=by
 rw [List.drop_eq_getElem_cons h,List.getD_eq_getElem?_getD,List.getElem?_eq_getElem h,Option.getD_some];rfl
theorem kX {α:Type}{p:α->Bool}{l:List α}{i n:Nat}(z:α)(h:i<l.length)(hp:p (l.getD i z)=true):zq p (l.drop i) n=n:=by rw [qfR z h,if_pos hp]
theorem Qa {α:Type}{p:α->Bool}{l:List α}{i n:Nat}(z:α)(h:i<l.length)(hp:p (l.getD i z)=false):zq p (l.drop i) n=zq p (l.drop (i+1)) (n+1):=by rw [qfR z h,hp];rfl
theorem kZ {α:Type}{p:α->Bool}{l:List α}{i n:Nat}(h:l.length<=i):zq p (l.drop i) n=-1:=by rw [List.drop_eq_nil_of_le h];rfl
def qoJ (k:Nat):Dc ByteArray:=⟨fun s=>aF k [.ptr [.str s]],fun | (false,[.fn f [.ptr [.str s]]])=>(match nq f k with | true=>some s | false=>none) | _=>none,by
 intro x a h
 split at h
 . split at h
   . rename_i hk
     obtain rfl:=Qr.1 hk
     simp only [Option.some.injEq] at h;subst h;rfl
   . cases h
 . cases h⟩
structure qka (g' g:FuncId)(r:List (V1 D))(caps:List D):Prop where
 fn:g'=g
 caps:r=jr caps
structure Mem {α:Type}(x:α)(l:List α):Prop where out:x∈l
theorem qu {α:Type}{l:List α}{i:Nat}{z:α}(h:i<l.length):Mem (l.getD i z) l:=⟨by rw [List.getD_eq_getElem?_getD,List.getElem?_eq_getElem h,Option.getD_some];exact List.getElem_mem _⟩
def qi1 {α:Type}(d:Dc α)(g:FuncId)(caps:List D)(l:List α)(p:α->Bool):jS:=fun g' as'=>match as' with
 | x::r=>(match d.dec x with
   | some q=>some ([qka g' g r caps,Mem q l],rB (p q))
   | none=>none)
 | []=>none
theorem WN {P:Program}{α:Type}{d:Dc α}{g:FuncId}{caps:List D}{l:List α}{p:α->Bool}(hp:∀ q∈l,qe P g (d.enc q::jr caps) (rB (p q))):qm P (qi1 d g caps l p):=by
 intro g' as'
 unfold qi1
 split
 . split
   . rename_i hx
     refine R.Sim.mk fun hq=>?_
     obtain ⟨rfl,rfl⟩:=hq _ (.head _)
     exact (hp _ (hq _ (.tail _ (.head _))).out).er (by simp only [qw,d.ok _ _ hx]) rfl
   . exact R.Sim.none'
 . exact R.Sim.none'
theorem Z9 {α:Type}(p:α->Bool):∀ (l:List α) (n:Nat),decide (0<=zq p l n)=l.any p
 | [],n=>rfl
 | a::r,n=>by
   unfold zq
   rw [List.any_cons]
   cases h:p a with
   | true=>rw [if_pos rfl];simp
   | false=>rw [if_neg (by simp)];exact Z9 p r (n+1)
def qD {α:Type}(p:Nat->α->Bool):List α->Nat->Bool
 | [],_=>true
 | a::r,n=>p n a&&qD p r (n+1)
theorem Wz {α:Type}{p:Nat->α->Bool}{l:List α}{i n:Nat}(z:α)(h:i<l.length):qD p (l.drop i) n=(p n (l.getD i z)&&qD p (l.drop (i+1)) (n+1)):=by
 rw [List.drop_eq_getElem_cons h,List.getD_eq_getElem?_getD,List.getElem?_eq_getElem h,Option.getD_some];rfl
theorem wl {α:Type}{p:Nat->α->Bool}{l:List α}{i n:Nat}(z:α)(h:i<l.length)(hp:p n (l.getD i z)=true):qD p (l.drop i) n=qD p (l.drop (i+1)) (n+1):=by rw [Wz z h,hp];rfl
theorem JX {α:Type}{p:Nat->α->Bool}{l:List α}{i n:Nat}(z:α)(h:i<l.length)(hp:p n (l.getD i z)=false):qD p (l.drop i) n=false:=by rw [Wz z h,hp];rfl
theorem qko {α:Type}{p:Nat->α->Bool}{l:List α}{i n:Nat}(h:l.length<=i):qD p (l.drop i) n=true:=by rw [List.drop_eq_nil_of_le h];rfl
theorem Jd {α:Type}{p q:Nat->α->Bool}:∀ (l:List α) (n:Nat),(∀ i a,l[i]?=some a->p (n+i) a=q (n+i) a)->qD p l n=qD q l n
 | [],_,_=>rfl
 | a::r,n,h=>by
   have h1:qD p r (n+1)=qD q r (n+1):=Jd r (n+1) fun i b hi=>by
    have:=h (i+1) b (by simpa using hi)
    rwa [show n+(i+1)=n+1+i by omega] at this
   show (p n a&&qD p r (n+1))=(q n a&&qD q r (n+1))
   rw [h1,show p n a=q n a from h 0 a rfl]
def wCl {α:Type}(d:Dc α)(g:FuncId)(caps:List D)(f:α->TV W)(p:α->List Prop):Wr
 | [x,(false,[.fn g' caps'])]=>(match d.dec x with | some l=>some (JZ g' g::JZ caps' caps::p l,f l) | none=>none)
 | _=>none
theorem Va {P:Program}{k:FuncId}{α:Type}{d:Dc α}{g:FuncId}{caps:List D}{f:α->TV W}{p:α->List Prop}(h:∀ l,Holds (p l)->qe P k [d.enc l,aF g caps] (f l)):qH P k (wCl d g caps f p):=by
 intro xs
 unfold wCl
 split
 . split
   . rename_i hx
     refine R.Sim.mk fun hq=>?_
     obtain ⟨rfl⟩:=hq _ (.head _)
     obtain ⟨rfl⟩:=hq _ (.tail _ (.head _))
     exact (h _ fun r hr=>hq r (.tail _ (.tail _ hr))).er (by simp only [qw,d.ok _ _ hx];rfl) rfl
   . exact R.Sim.none'
 . exact R.Sim.none'
theorem wn {α:Type}{p:Nat->α->Bool}{l:List α}{i:Nat}{c:Bool}(z:α)(h:i<l.length)(hp:p i (l.getD i z)=true):(qD p (l.drop i) i&&c)=(qD p (l.drop (i+1)) (i+1)&&c):=by rw [wl z h hp]
theorem vS {α:Type}{p:Nat->α->Bool}{l:List α}{i:Nat}{c:Bool}(z:α)(h:i<l.length)(hp:p i (l.getD i z)=false):(qD p (l.drop i) i&&c)=false:=by rw [JX z h hp];rfl
theorem qO {α:Type}{p:Nat->α->Bool}{l:List α}{i:Nat}{c:Bool}(h:l.length<=i):(qD p (l.drop i) i&&c)=c:=by rw [qko h];rfl
theorem qal {α:Type}(p:α->Bool):∀ (l:List α) (n:Nat),zq p l n<n+l.length/\(zq p l n=-1\/(n:Int)<=zq p l n)
 | [],n=>by simp [zq];omega
 | a::r,n=>by
   have:=qal p r (n+1)
   unfold zq
   simp only [List.length_cons]
   split<;>omega
theorem qK {a b:Bool}(h:b=a)(k:Bool):eR (.v (false,[.fz (.bool k a)]))=eR (rB b):=by rw [kR];exact h.symm
structure zE (p A B:Bool):Prop where
 yes:p=true->A=B
 no:p=false->A=false
theorem zE.of {α:Type}(p:Nat->α->Bool)(l:List α)(i:Nat)(c:Bool)(z:α)(h:i<l.length):zE (p i (l.getD i z)) (qD p (l.drop i) i&&c) (qD p (l.drop (i+1)) (i+1)&&c):=⟨wn z h,vS z h⟩
theorem zE.stop {p A B:Bool}(h:zE p A B)(k:Bool)(hp:p=false):eR (.v (false,[.fz (.bool k false)]))=eR (rB A):=qK (h.no hp) k
theorem zE.go {p A B:Bool}(h:zE p A B)(hp:p=true):eR (rB B)=eR (rB A):=by rw [h.yes hp]
end Go.Proofs.YtececadpjelanaaGreat.Ai
namespace Go.Proofs.YtececadpjelanaaGreat.Ai
open Go
set_option maxRecDepth 100000
variable [qh]
theorem vK (l:List Int)(g:FuncId)(caps:List D)(p:Int->Bool)(hp:∀ q∈l,qe Tryz.prog g (aI q::jr caps) (rB (p q)))(h1:l.length<=maxLen):qe Tryz.prog 141 [aIs l,aF g caps] (rI (zq p l 0)):=by
 refine qe.of qc (fn:=Tryz.f141) (c:=Tryz.f141.body.getD .skip) (dr:=fun n=>qa 0 [] n) Tryz.func141 rfl (by kernel_rfl) (by kernel_rfl) (by kernel_rfl) ?_
 unfold maxLen at h1
 have hO:qm Tryz.prog (qi1 dcI g caps l p):=WN hp
 refine SEx.go (X:=XX) qc (fun n=>qa [] [(2,[0,1,7,8])] n) (fun _=>none) hO 60 ?_
 intro M R L N m0 m1 m2 m3 m4 m5
 cases M
 cbv
 repeat' first | refine m1 _ _ ?_ ?_ | refine m2 _ _ fun h=>?_ | refine m3 _ ?_ | (refine m4 _ _ (Hd.out ?_);generalize hks:(List.cons _ _:List K)=ks) | (refine m5 _ _ ?_;cbv)
 all_goals (clear m1 m2 m3 m4 m5;cases m0;try dsimp only)
 all_goals try simp only [sm] at *
 obtain ⟨n,hn⟩:∃ n,n=l.length:=⟨_,rfl⟩
 refine ⟨SEx.same (SEx.idx n (fun i=>⟨19,[(0,bL (.i l)),(1,.v (false,[.fz (.fn g caps)])),(7,bI n),(8,bI i)],[]⟩) (fun i=>rI (zq p (l.drop i) i)) ?_) (by rw [hn];rfl) rfl⟩
 intro i hi ih
 rw [<-hks]
 refine SEx.go (X:=XX) qc (fun n=>qa [] [(2,[0,1,7,8])] n) (fun _=>none) hO 60 ?_
 intro M R L N m0 m1 m2 m3 m4 m5
 cases M
 cbv
 repeat' first | refine m1 _ _ ?_ ?_ | refine m2 _ _ fun h=>?_ | refine m3 _ ?_ | (refine m4 _ _ (Hd.out ?_);try first | rw [hks] | rw [hk2] | rw [hk3]) | (refine m5 _ _ ?_;cbv)
 all_goals (clear m1 m2 m3 m4 m5;cases m0;(try clear hks;try clear hk2;try clear hk3);try dsimp only)
 all_goals try simp only [sm] at *
 all_goals first
  | omega
  | exact ⟨rfl,by cases caps<;>rfl⟩
  | exact ⟨rfl,rfl⟩
  | exact qu (z:=(0:Int)) (by omega)
  | (rw [kX (p:=p) (l:=l) (i:=i) (0:Int) (by omega) (by first | assumption | exact beq_iff_eq.2 (by assumption))];rfl)
  | (rw [kZ (by omega)];rfl)
  | (simp only [ql (show i<9223372036854775807 by omega)];exact ⟨(ih (by omega)).same rfl (by rw [Qa (p:=p) (l:=l) (i:=i) (0:Int) (by omega) (by first | assumption | exact beq_eq_false_iff_ne.2 (by assumption) | (simp_all;done))])⟩)
theorem Zo (l:List Int)(g:FuncId)(caps:List D)(p:Int->Bool)(hp:∀ q∈l,qe Tryz.prog g (aI q::jr caps) (rB (p q)))(h1:l.length<=maxLen):qe Tryz.prog 111 [aIs l,aF g caps] (rB (l.any p)):=by
 refine qe.of qc (fn:=Tryz.f111) (c:=Tryz.f111.body.getD .skip) (dr:=fun n=>qa 0 [] n) Tryz.func111 rfl (by kernel_rfl) (by kernel_rfl) (by kernel_rfl) ?_
 obtain ⟨f,hf⟩:∃ f:List Int->Int,f=fun l=>zq p l 0:=⟨_,rfl⟩
 have hO:qm Tryz.prog (qL [(141,wCl kB g caps (fun l=>rI (f l)) (fun m=>[JZ m l]))]):=by subst hf;exact qb (Va fun m h=>by obtain rfl:=(h _ (.head _)).out;exact vK m g caps p hp h1) qd
 refine SEx.go (X:=XX) qc (fun n=>qa [] [] n) (fun _=>none) hO 60 ?_
 intro M R L N m0 m1 m2 m3 m4 m5
 cases M
 cbv
 repeat' first | refine m1 _ _ ?_ ?_ | refine m2 _ _ fun h=>?_ | refine m3 _ ?_ | (refine m4 _ _ (Hd.out ?_);try first | rw [hks] | rw [hk2] | rw [hk3]) | (refine m5 _ _ ?_;cbv)
 all_goals (clear m1 m2 m3 m4 m5;cases m0;(try clear hks;try clear hk2;try clear hk3);try dsimp only)
 all_goals try simp only [sm] at *
 all_goals first
  | exact ⟨rfl⟩
  | (rw [<-Z9 p l 0,hf];rfl)
theorem KT (l:List Tie)(g:FuncId)(caps:List D)(p:Tie->Bool)(hp:∀ q∈l,qe Tryz.prog g (qdf q::jr caps) (rB (p q)))(h1:l.length<=maxLen):qe Tryz.prog 162 [VD l,aF g caps] (rI (zq p l 0)):=by
 refine qe.of qc (fn:=Tryz.f162) (c:=Tryz.f162.body.getD .skip) (dr:=fun n=>qa 0 [] n) Tryz.func162 rfl (by kernel_rfl) (by kernel_rfl) (by kernel_rfl) ?_
 unfold maxLen at h1
 have hO:qm Tryz.prog (qi1 qdj g caps l p):=WN hp
 refine SEx.go (X:=XX) qc (fun n=>qa [] [(2,[0,1,7,8])] n) (fun _=>none) hO 60 ?_
 intro M R L N m0 m1 m2 m3 m4 m5
 cases M
 cbv
 repeat' first | refine m1 _ _ ?_ ?_ | refine m2 _ _ fun h=>?_ | refine m3 _ ?_ | (refine m4 _ _ (Hd.out ?_);generalize hks:(List.cons _ _:List K)=ks) | (refine m5 _ _ ?_;cbv)
 all_goals (clear m1 m2 m3 m4 m5;cases m0;try dsimp only)
 all_goals try simp only [sm] at *
 obtain ⟨n,hn⟩:∃ n,n=l.length:=⟨_,rfl⟩
 refine ⟨SEx.same (SEx.idx n (fun i=>⟨19,[(0,bL (.tie l)),(1,.v (false,[.fz (.fn g caps)])),(7,bI n),(8,bI i)],[]⟩) (fun i=>rI (zq p (l.drop i) i)) ?_) (by rw [hn];rfl) rfl⟩
 intro i hi ih
 rw [<-hks]
 refine SEx.go (X:=XX) qc (fun n=>qa [] [(2,[0,1,7,8])] n) (fun _=>none) hO 60 ?_
 intro M R L N m0 m1 m2 m3 m4 m5
 cases M
 cbv
 repeat' first | refine m1 _ _ ?_ ?_ | refine m2 _ _ fun h=>?_ | refine m3 _ ?_ | (refine m4 _ _ (Hd.out ?_);try first | rw [hks] | rw [hk2] | rw [hk3]) | (refine m5 _ _ ?_;cbv)
 all_goals (clear m1 m2 m3 m4 m5;cases m0;(try clear hks;try clear hk2;try clear hk3);try dsimp only)
 all_goals try simp only [sm] at *
 all_goals first
  | omega
  | exact ⟨rfl,by cases caps<;>rfl⟩
  | exact ⟨rfl,rfl⟩
  | exact qu (z:=Tie.z) (by omega)
  | (rw [kX (p:=p) (l:=l) (i:=i) Tie.z (by omega) (by first | assumption | exact beq_iff_eq.2 (by assumption))];rfl)
  | (rw [kZ (by omega)];rfl)
  | (simp only [ql (show i<9223372036854775807 by omega)];exact ⟨(ih (by omega)).same rfl (by rw [Qa (p:=p) (l:=l) (i:=i) Tie.z (by omega) (by first | assumption | exact beq_eq_false_iff_ne.2 (by assumption) | (simp_all;done))])⟩)
theorem V8 (l:List Tie)(g:FuncId)(caps:List D)(p:Tie->Bool)(hp:∀ q∈l,qe Tryz.prog g (qdf q::jr caps) (rB (p q)))(h1:l.length<=maxLen):qe Tryz.prog 126 [VD l,aF g caps] (rB (l.any p)):=by
 refine qe.of qc (fn:=Tryz.f126) (c:=Tryz.f126.body.getD .skip) (dr:=fun n=>qa 0 [] n) Tryz.func126 rfl (by kernel_rfl) (by kernel_rfl) (by kernel_rfl) ?_
 obtain ⟨f,hf⟩:∃ f:List Tie->Int,f=fun l=>zq p l 0:=⟨_,rfl⟩
 have hO:qm Tryz.prog (qL [(162,wCl KY g caps (fun l=>rI (f l)) (fun m=>[JZ m l]))]):=by subst hf;exact qb (Va fun m h=>by obtain rfl:=(h _ (.head _)).out;exact KT m g caps p hp h1) qd
 refine SEx.go (X:=XX) qc (fun n=>qa [] [] n) (fun _=>none) hO 60 ?_
 intro M R L N m0 m1 m2 m3 m4 m5
 cases M
 cbv
 repeat' first | refine m1 _ _ ?_ ?_ | refine m2 _ _ fun h=>?_ | refine m3 _ ?_ | (refine m4 _ _ (Hd.out ?_);try first | rw [hks] | rw [hk2] | rw [hk3]) | (refine m5 _ _ ?_;cbv)
 all_goals (clear m1 m2 m3 m4 m5;cases m0;(try clear hks;try clear hk2;try clear hk3);try dsimp only)
 all_goals try simp only [sm] at *
 all_goals first
  | exact ⟨rfl⟩
  | (rw [<-Z9 p l 0,hf];rfl)
theorem Vz (l:List qf)(g:FuncId)(caps:List D)(p:qf->Bool)(hp:∀ q∈l,qe Tryz.prog g (J7 q::jr caps) (rB (p q)))(h1:l.length<=maxLen):qe Tryz.prog 146 [wD l,aF g caps] (rI (zq p l 0)):=by
 refine qe.of qc (fn:=Tryz.f146) (c:=Tryz.f146.body.getD .skip) (dr:=fun n=>qa 0 [] n) Tryz.func146 rfl (by kernel_rfl) (by kernel_rfl) (by kernel_rfl) ?_
 unfold maxLen at h1
 have hO:qm Tryz.prog (qi1 K9 g caps l p):=WN hp
 refine SEx.go (X:=XX) qc (fun n=>qa [] [(2,[0,1,7,8])] n) (fun _=>none) hO 60 ?_
 intro M R L N m0 m1 m2 m3 m4 m5
 cases M
 cbv
 repeat' first | refine m1 _ _ ?_ ?_ | refine m2 _ _ fun h=>?_ | refine m3 _ ?_ | (refine m4 _ _ (Hd.out ?_);generalize hks:(List.cons _ _:List K)=ks) | (refine m5 _ _ ?_;cbv)
 all_goals (clear m1 m2 m3 m4 m5;cases m0;try dsimp only)
 all_goals try simp only [sm] at *
 obtain ⟨n,hn⟩:∃ n,n=l.length:=⟨_,rfl⟩
 refine ⟨SEx.same (SEx.idx n (fun i=>⟨19,[(0,bL (.node false none l)),(1,.v (false,[.fz (.fn g caps)])),(7,bI n),(8,bI i)],[]⟩) (fun i=>rI (zq p (l.drop i) i)) ?_) (by rw [hn];rfl) rfl⟩
 intro i hi ih
 rw [<-hks]
 refine SEx.go (X:=XX) qc (fun n=>qa [] [(2,[0,1,7,8])] n) (fun _=>none) hO 60 ?_
 intro M R L N m0 m1 m2 m3 m4 m5
 cases M
 cbv
 repeat' first | refine m1 _ _ ?_ ?_ | refine m2 _ _ fun h=>?_ | refine m3 _ ?_ | (refine m4 _ _ (Hd.out ?_);try first | rw [hks] | rw [hk2] | rw [hk3]) | (refine m5 _ _ ?_;cbv)
 all_goals (clear m1 m2 m3 m4 m5;cases m0;(try clear hks;try clear hk2;try clear hk3);try dsimp only)
 all_goals try simp only [sm] at *
 all_goals first
  | omega
  | exact ⟨rfl,by cases caps<;>rfl⟩
  | exact ⟨rfl,rfl⟩
  | exact qu (z:=qf.z) (by omega)
  | (rw [kX (p:=p) (l:=l) (i:=i) qf.z (by omega) (by first | assumption | exact beq_iff_eq.2 (by assumption))];rfl)
  | (rw [kZ (by omega)];rfl)
  | (simp only [ql (show i<9223372036854775807 by omega)];exact ⟨(ih (by omega)).same rfl (by rw [Qa (p:=p) (l:=l) (i:=i) qf.z (by omega) (by first | assumption | exact beq_eq_false_iff_ne.2 (by assumption) | (simp_all;done))])⟩)
theorem Y7 (l:List (List Int))(g:FuncId)(caps:List D)(p:(List Int)->Bool)(hp:∀ q∈l,qe Tryz.prog g (aIs q::jr caps) (rB (p q)))(h1:l.length<=maxLen):qe Tryz.prog 119 [qjJ l,aF g caps] (rI (zq p l 0)):=by
 refine qe.of qc (fn:=Tryz.f119) (c:=Tryz.f119.body.getD .skip) (dr:=fun n=>qa 0 [] n) Tryz.func119 rfl (by kernel_rfl) (by kernel_rfl) (by kernel_rfl) ?_
 unfold maxLen at h1
 have hO:qm Tryz.prog (qi1 kB g caps l p):=WN hp
 refine SEx.go (X:=XX) qc (fun n=>qa [] [(2,[0,1,7,8])] n) (fun _=>none) hO 60 ?_
 intro M R L N m0 m1 m2 m3 m4 m5
 cases M
 cbv
 repeat' first | refine m1 _ _ ?_ ?_ | refine m2 _ _ fun h=>?_ | refine m3 _ ?_ | (refine m4 _ _ (Hd.out ?_);generalize hks:(List.cons _ _:List K)=ks) | (refine m5 _ _ ?_;cbv)
 all_goals (clear m1 m2 m3 m4 m5;cases m0;try dsimp only)
 all_goals try simp only [sm] at *
 obtain ⟨n,hn⟩:∃ n,n=l.length:=⟨_,rfl⟩
 refine ⟨SEx.same (SEx.idx n (fun i=>⟨19,[(0,bL (.ii false none l)),(1,.v (false,[.fz (.fn g caps)])),(7,bI n),(8,bI i)],[]⟩) (fun i=>rI (zq p (l.drop i) i)) ?_) (by rw [hn];rfl) rfl⟩
 intro i hi ih
 rw [<-hks]
 refine SEx.go (X:=XX) qc (fun n=>qa [] [(2,[0,1,7,8])] n) (fun _=>none) hO 60 ?_
 intro M R L N m0 m1 m2 m3 m4 m5
 cases M
 cbv
 repeat' first | refine m1 _ _ ?_ ?_ | refine m2 _ _ fun h=>?_ | refine m3 _ ?_ | (refine m4 _ _ (Hd.out ?_);try first | rw [hks] | rw [hk2] | rw [hk3]) | (refine m5 _ _ ?_;cbv)
 all_goals (clear m1 m2 m3 m4 m5;cases m0;(try clear hks;try clear hk2;try clear hk3);try dsimp only)
 all_goals try simp only [sm] at *
 all_goals first
  | omega
  | exact ⟨rfl,by cases caps<;>rfl⟩
  | exact ⟨rfl,rfl⟩
  | exact qu (z:=([]:List Int)) (by omega)
  | (rw [kX (p:=p) (l:=l) (i:=i) ([]:List Int) (by omega) (by first | assumption | exact beq_iff_eq.2 (by assumption))];rfl)
  | (rw [kZ (by omega)];rfl)
  | (simp only [ql (show i<9223372036854775807 by omega)];exact ⟨(ih (by omega)).same rfl (by rw [Qa (p:=p) (l:=l) (i:=i) ([]:List Int) (by omega) (by first | assumption | exact beq_eq_false_iff_ne.2 (by assumption) | (simp_all;done))])⟩)
theorem yC (l:List (List Int))(g:FuncId)(caps:List D)(p:(List Int)->Bool)(hp:∀ q∈l,qe Tryz.prog g (aIs q::jr caps) (rB (p q)))(h1:l.length<=maxLen):qe Tryz.prog 87 [qjJ l,aF g caps] (rB (l.any p)):=by
 refine qe.of qc (fn:=Tryz.f87) (c:=Tryz.f87.body.getD .skip) (dr:=fun n=>qa 0 [] n) Tryz.func87 rfl (by kernel_rfl) (by kernel_rfl) (by kernel_rfl) ?_
 obtain ⟨f,hf⟩:∃ f:List (List Int)->Int,f=fun l=>zq p l 0:=⟨_,rfl⟩
 have hO:qm Tryz.prog (qL [(119,wCl qkv g caps (fun l=>rI (f l)) (fun m=>[JZ m l]))]):=by subst hf;exact qb (Va fun m h=>by obtain rfl:=(h _ (.head _)).out;exact Y7 m g caps p hp h1) qd
 refine SEx.go (X:=XX) qc (fun n=>qa [] [] n) (fun _=>none) hO 60 ?_
 intro M R L N m0 m1 m2 m3 m4 m5
 cases M
 cbv
 repeat' first | refine m1 _ _ ?_ ?_ | refine m2 _ _ fun h=>?_ | refine m3 _ ?_ | (refine m4 _ _ (Hd.out ?_);try first | rw [hks] | rw [hk2] | rw [hk3]) | (refine m5 _ _ ?_;cbv)
 all_goals (clear m1 m2 m3 m4 m5;cases m0;(try clear hks;try clear hk2;try clear hk3);try dsimp only)
 all_goals try simp only [sm] at *
 all_goals first
  | exact ⟨rfl⟩
  | (rw [<-Z9 p l 0,hf];rfl)
theorem qhC (l:List Int)(v:Int)(h1:l.length<=maxLen):qe Tryz.prog 170 [aIs l,aI v] (rI (zq (fun x=>v == x) l 0)):=by
 refine qe.of qc (fn:=Tryz.f170) (c:=Tryz.f170.body.getD .skip) (dr:=fun n=>qa 0 [] n) Tryz.func170 rfl (by kernel_rfl) (by kernel_rfl) (by kernel_rfl) ?_
 unfold maxLen at h1
 refine SEx.go (X:=XX) qc (fun n=>qa [] [(2,[0,1,7,8])] n) (fun _=>none) qd 60 ?_
 intro M R L N m0 m1 m2 m3 m4 m5
 cases M
 cbv
 repeat' first | refine m1 _ _ ?_ ?_ | refine m2 _ _ fun h=>?_ | refine m3 _ ?_ | (refine m4 _ _ (Hd.out ?_);generalize hks:(List.cons _ _:List K)=ks) | (refine m5 _ _ ?_;cbv)
 all_goals (clear m1 m2 m3 m4 m5;cases m0;try dsimp only)
 all_goals try simp only [sm] at *
 obtain ⟨n,hn⟩:∃ n,n=l.length:=⟨_,rfl⟩
 refine ⟨SEx.same (SEx.idx n (fun i=>⟨19,[(0,bL (.i l)),(1,bI v),(7,bI n),(8,bI i)],[]⟩) (fun i=>rI (zq (fun x=>v == x) (l.drop i) i)) ?_) (by rw [hn];rfl) rfl⟩
 intro i hi ih
 rw [<-hks]
 refine SEx.go (X:=XX) qc (fun n=>qa [] [(2,[0,1,7,8])] n) (fun _=>none) qd 60 ?_
 intro M R L N m0 m1 m2 m3 m4 m5
 cases M
 cbv
 repeat' first | refine m1 _ _ ?_ ?_ | refine m2 _ _ fun h=>?_ | refine m3 _ ?_ | (refine m4 _ _ (Hd.out ?_);try first | rw [hks] | rw [hk2] | rw [hk3]) | (refine m5 _ _ ?_;cbv)
 all_goals (clear m1 m2 m3 m4 m5;cases m0;(try clear hks;try clear hk2;try clear hk3);try dsimp only)
 all_goals try simp only [sm] at *
 all_goals first
  | omega
  | exact ⟨rfl,by cases caps<;>rfl⟩
  | exact ⟨rfl,rfl⟩
  | exact qu (z:=(0:Int)) (by omega)
  | (rw [kX (p:=fun x=>v == x) (l:=l) (i:=i) (0:Int) (by omega) (by first | assumption | exact beq_iff_eq.2 (by assumption))];rfl)
  | (rw [kZ (by omega)];rfl)
  | (simp only [ql (show i<9223372036854775807 by omega)];exact ⟨(ih (by omega)).same rfl (by rw [Qa (p:=fun x=>v == x) (l:=l) (i:=i) (0:Int) (by omega) (by first | assumption | exact beq_eq_false_iff_ne.2 (by assumption) | (simp_all;done))])⟩)
def qgl (f:List Int->Int->Int):Wr:=w2 kB dcI (fun l v=>rI (f l v)) (fun l _=>[LLe l maxLen])
theorem qfE:qH Tryz.prog 170 (qgl fun l v=>zq (fun x=>v == x) l 0):=qI fun l v h=>qhC l v (h _ (.head _)).out
end Go.Proofs.YtececadpjelanaaGreat.Ai
namespace Go.Proofs.YtececadpjelanaaGreat.Ai
open Go
set_option maxRecDepth 100000
variable [qh]
def inB (n lo hi:Int):Bool:=decide (lo<=n/\n<=hi)
def bt (s:ByteArray)(i:Nat):Int:=(s[i]?.getD 0).toNat
def qgX (s:ByteArray)(i:Nat):Bool:=decide (97<=bt s i/\bt s i<=122\/i≠0/\48<=bt s i/\bt s i<=57)
def jK (s:ByteArray)(i:Nat):Bool:=(List.range' i (s.size-i)).all (qgX s)&&decide (1<=s.size/\s.size<=8)
theorem qcj {s:ByteArray}{i:Nat}(h:i<s.size):jK s i=(qgX s i&&jK s (i+1)):=by
 unfold jK
 rw [show s.size-i=(s.size-(i+1))+1 by omega,List.range'_succ,List.all_cons,Bool.and_assoc]
theorem qdg {s:ByteArray}{i:Nat}(h:i<s.size)(hc:¬(97<=bt s i/\bt s i<=122\/i≠0/\48<=bt s i/\bt s i<=57)):jK s i=false:=by
 rw [qcj h,qgX,decide_eq_false hc,Bool.false_and]
theorem yX {s:ByteArray}{i:Nat}(h:i<s.size)(hc:97<=bt s i/\bt s i<=122\/i≠0/\48<=bt s i/\bt s i<=57):jK s i=jK s (i+1):=by
 rw [qcj h,qgX,decide_eq_true hc,Bool.true_and]
theorem qdG {s:ByteArray}{i:Nat}(h:s.size<=i):jK s i=decide (1<=s.size/\s.size<=8):=by
 unfold jK
 rw [show s.size-i=0 by omega]
 simp
theorem qkz (a b c:Int):qe Tryz.prog 70 [aI a,aI b,aI c] (rB (inB a b c)):=by
 refine qe.of qc (fn:=Tryz.f70) (c:=Tryz.f70.body.getD .skip) (dr:=fun n=>qa 0 [] n) Tryz.func70 rfl (by kernel_rfl) (by kernel_rfl) (by kernel_rfl) ?_
 refine SEx.walk (X:=XX) qc (fun n=>qa [] [] n) qd 100 ?_
 intro M R L N hM hR hL hN
 cases M
 cbv
 cases hM
 try dsimp only
 repeat' first | apply And.intro | (intro h;try simp only [Bool.not_eq_true',Bool.not_eq_false',decide_eq_true_eq,decide_eq_false_iff_not,Int.not_le,Int.not_lt,beq_iff_eq,beq_eq_false_iff_ne,ne_eq,Int.ofNat_eq_natCast,Int.toNat_natCast,List.length_replicate,qch,Nat.sub_zero,List.drop_zero,Cue.eta,Tie.eta,Edge.eta,jT.eta,qf.eta] at h) | (refine hR _ ?_) | (refine hL _ _ (Hd.out ?_)) | (refine hN _ _ (Hd.out ?_))
 all_goals simp only [kR,inB]
 all_goals (rw [Bool.eq_iff_iff];simp;try omega)
def qn8 (f:Int->Int->Int->Bool):Wr:=w3 dcI dcI dcI (fun x y z=>rB (f x y z)) (fun _ _ _=>[])
theorem qlx:qH Tryz.prog 70 (qn8 inB):=vq fun x y z _=>qkz x y z
theorem yV (s:ByteArray)(hs:s.size<=maxLen):qe Tryz.prog 164 [aS s] (rB (jK s 0)):=by
 refine qe.of qc (fn:=Tryz.f164) (c:=Tryz.f164.body.getD .skip) (dr:=fun n=>qa 0 [] n) Tryz.func164 rfl (by kernel_rfl) (by kernel_rfl) (by kernel_rfl) ?_
 obtain ⟨f,hf⟩:∃ f,f=inB:=⟨_,rfl⟩
 have hO:qm Tryz.prog (qL [(70,qn8 f)]):=by subst hf;exact qb qlx qd
 unfold maxLen at hs
 refine SEx.walk (X:=XX) qc (fun n=>qa [] [(2,[0,3])] n) hO 100 ?_
 intro M R L N hM hR hL hN
 cases M
 cbv
 cases hM
 try dsimp only
 refine hL _ _ ?_
 clear hR hL hN R L N
 generalize hks:(List.cons _ _:List K)=ks
 refine SEx.same (SEx.ind (fun i:Nat=>⟨42,[(0,.v (false,[.fz (.str s)])),(3,.v (false,[.fz (.int .i64 i)]))],[]⟩) (fun i=>rB (jK s i)) (fun i=>i<=s.size) (fun i=>s.size-i) 0 (Nat.zero_le _) ?_) rfl rfl
 intro i hi ih
 rw [<-hks]
 refine SEx.walk (X:=XX) qc (fun n=>qa [] [(2,[0,3])] n) hO 100 ?_
 intro M R L N hM hR hL hN
 cases M
 cbv
 cases hM
 try dsimp only
 repeat' first | apply And.intro | (intro h;try simp only [Bool.not_eq_true',Bool.not_eq_false',decide_eq_true_eq,decide_eq_false_iff_not,Int.not_le,Int.not_lt,beq_iff_eq,beq_eq_false_iff_ne,ne_eq,Int.ofNat_eq_natCast,Int.toNat_natCast,List.length_replicate,qch,Nat.sub_zero,List.drop_zero,Cue.eta,Tie.eta,Edge.eta,jT.eta,qf.eta] at h) | (refine hR _ ?_) | (refine hL _ _ (Hd.out ?_)) | (refine hN _ _ (Hd.out ?_))
 all_goals simp only [Int.ofNat_eq_natCast,hks,kR]
 all_goals (try simp only [ql (show i<9223372036854775807 by omega)])
 all_goals first
  | omega
  | (rw [qdg]<;>(try unfold bt)<;>omega)
  | (rw [yX (by omega) (by unfold bt;omega)];exact ⟨ih (i+1) (by omega) (by omega)⟩)
  | (rw [hf,qdG (by omega)];unfold inB;rw [Bool.eq_iff_iff];simp only [decide_eq_true_eq];omega)
theorem yR (s:ByteArray)(hs:s.size<=maxLen):qe Tryz.prog 168 [aS s] (rB (jK s 0)):=by
 refine qe.of qc (fn:=Tryz.f168) (c:=Tryz.f168.body.getD .skip) (dr:=fun n=>qa 0 [(4,22)] n) Tryz.func168 rfl (by kernel_rfl) (by kernel_rfl) (by kernel_rfl) ?_
 unfold maxLen at hs
 refine SEx.walk (X:=XX) qc (fun n=>qa [] [(2,[0,3])] n) qd 100 ?_
 intro M R L N hM hR hL hN
 cases M
 cbv
 cases hM
 try dsimp only
 refine hL _ _ ?_
 clear hR hL hN R L N
 generalize hks:(List.cons _ _:List K)=ks
 refine SEx.same (SEx.ind (fun i:Nat=>⟨50,[(0,.v (false,[.fz (.str s)])),(3,.v (false,[.fz (.int .i64 i)]))],[]⟩) (fun i=>rB (jK s i)) (fun i=>i<=s.size) (fun i=>s.size-i) 0 (Nat.zero_le _) ?_) rfl rfl
 intro i hi ih
 rw [<-hks]
 refine SEx.walk (X:=XX) qc (fun n=>qa [] [(2,[0,3])] n) qd 100 ?_
 intro M R L N hM hR hL hN
 cases M
 cbv
 cases hM
 try dsimp only
 repeat' first | apply And.intro | (intro h;try simp only [Bool.not_eq_true',Bool.not_eq_false',decide_eq_true_eq,decide_eq_false_iff_not,Int.not_le,Int.not_lt,beq_iff_eq,beq_eq_false_iff_ne,ne_eq,Int.ofNat_eq_natCast,Int.toNat_natCast,List.length_replicate,qch,Nat.sub_zero,List.drop_zero,Cue.eta,Tie.eta,Edge.eta,jT.eta,qf.eta] at h) | (refine hR _ ?_) | (refine hL _ _ (Hd.out ?_)) | (refine hN _ _ (Hd.out ?_))
 all_goals simp only [Int.ofNat_eq_natCast,hks,kR]
 all_goals (try simp only [ql (show i<9223372036854775807 by omega)])
 all_goals first
  | omega
  | (rw [qdg]<;>(try unfold bt)<;>omega)
  | (rw [yX (by omega) (by unfold bt;omega)];exact ⟨ih (i+1) (by omega) (by omega)⟩)
  | (rw [qdG (by omega),Bool.eq_iff_iff];simp only [decide_eq_true_eq,Bool.false_eq_true,false_iff];omega)
def qaG (f:ByteArray->Bool):Wr:=w1 dcS (fun x=>rB (f x)) (fun x=>[qoF x])
theorem qhL:qH Tryz.prog 164 (qaG (jK · 0)):=zK fun x h=>yV x (h _ List.mem_cons_self).out
theorem qid:qH Tryz.prog 168 (qaG (jK · 0)):=zK fun x h=>yR x (h _ List.mem_cons_self).out
end Go.Proofs.YtececadpjelanaaGreat.Ai
namespace Go.Proofs.YtececadpjelanaaGreat.Ai
open Go
set_option maxRecDepth 100000
variable [qh]
def szL {α:Type}(l:List α)(n:Int):Int:=if n<l.length then -1 else n-l.length
theorem qhS (l:List Int)(n:Int)(hs:l.length<=maxLen)(hn:0<=n/\n<=9223372036854775807):qe Tryz.prog 39 [aIs l,aI n] (rI (szL l n)):=by
 refine qe.of qc (fn:=Tryz.f39) (c:=Tryz.f39.body.getD .skip) (dr:=fun n=>qa 0 [] n) Tryz.func39 rfl (by kernel_rfl) (by kernel_rfl) (by kernel_rfl) ?_
 unfold maxLen at hs
 refine SEx.go (X:=XX) qc (fun n=>qa [] [] n) (fun _=>none) qd 60 ?_
 intro M R L N m0 m1 m2 m3 m4 m5
 cases M
 cbv
 repeat' first | refine m1 _ _ ?_ ?_ | refine m2 _ _ fun h=>?_ | refine m3 _ ?_ | (refine m4 _ _ (Hd.out ?_);try first | rw [hks] | rw [hk2] | rw [hk3]) | (refine m5 _ _ ?_;cbv)
 all_goals (clear m1 m2 m3 m4 m5;cases m0;(try clear hks;try clear hk2;try clear hk3);try dsimp only)
 all_goals try simp only [sm] at *
 all_goals rw [qy (by omega) (by omega)] at *
 all_goals simp only [Zn,szL]
 all_goals split<;>omega
def QY {α:Type}(z:α)(l:List α)(n i:Nat):List α:=l.take i++List.replicate (n-i) z
theorem wv {α:Type}{z:α}{l:List α}{n i:Nat}(h:l.length=n)(hi:i<=n):(QY z l n i).length=n:=by simp [QY];omega
theorem Ja {α:Type}{z d:α}{l:List α}{n i:Nat}(h:l.length=n)(hi:i<n):(QY z l n i).set i (l.getD i d)=QY z l n (i+1):=by
 have hl:i<l.length:=by omega
 unfold QY
 rw [show n-i=(n-(i+1))+1 by omega,List.replicate_succ,List.set_append_right _ _ (by simp;omega)]
 rw [show i-(l.take i).length=0 by simp;omega,List.set_cons_zero,List.take_add_one,List.getElem?_eq_getElem hl]
 simp only [Option.toList_some,List.append_assoc,List.singleton_append,List.getD_eq_getElem?_getD,List.getElem?_eq_getElem hl,Option.getD_some]
theorem w5 {α:Type}{z:α}{l:List α}{n:Nat}(h:l.length=n):QY z l n n=l:=by simp [QY,<-h]
theorem qhj (l:List Int)(hs:l.length<=1048576):qe Tryz.prog 23 [aIs l] (rIs l):=by
 refine qe.of qc (fn:=Tryz.f23) (c:=Tryz.f23.body.getD .skip) (dr:=fun n=>qa 0 [] n) Tryz.func23 rfl (by kernel_rfl) (by kernel_rfl) (by kernel_rfl) ?_
 refine SEx.go (X:=XX) qc (fun n=>qa [] [(3,[0,3,4])] n) (fun _=>none) qd 60 ?_
 intro M R L N m0 m1 m2 m3 m4 m5
 cases M
 cbv
 repeat' first | refine m1 _ _ ?_ ?_ | refine m2 _ _ fun h=>?_ | refine m3 _ ?_ | (refine m4 _ _ (Hd.out ?_);generalize hks:(List.cons _ _:List K)=ks) | (refine m5 _ _ ?_;cbv)
 all_goals (clear m1 m2 m3 m4 m5;cases m0;try dsimp only)
 all_goals try simp only [sm] at *
 . have:=kT;omega
 generalize hn:l.length=n at *
 refine ⟨SEx.same (SEx.ind (fun i:Nat=>⟨22,[(0,.v (false,[.fz (.sl (.i l))])),(3,.v (false,[.rf (12288,[]) true 0 n])),(4,.v (false,[.fz (.int .i64 i)]))],[(12288,.osl (.i (QY 0 l n i)))]⟩) (fun _=>rIs l) (fun i=>i<=n) (fun i=>n-i) 0 (Nat.zero_le _) ?_) rfl rfl⟩
 intro i hi ih
 rw [<-hks]
 obtain ⟨fl,hfl⟩:∃ x,x=QY 0 l n i:=⟨_,rfl⟩
 have hf:=wv (z:=(0:Int)) hn hi
 rw [<-hfl] at hf ⊢
 refine SEx.go (X:=XX) qc (fun n=>qa [] [(3,[0,3,4])] n) (fun _=>none) qd 60 ?_
 intro M R L N m0 m1 m2 m3 m4 m5
 cases M
 cbv
 repeat' first | refine m1 _ _ ?_ ?_ | refine m2 _ _ fun h=>?_ | refine m3 _ ?_ | (refine m4 _ _ (Hd.out ?_);try first | rw [hks] | rw [hk2] | rw [hk3]) | (refine m5 _ _ ?_;cbv)
 all_goals (clear m1 m2 m3 m4 m5;cases m0;(try clear hks;try clear hk2;try clear hk3);try dsimp only)
 all_goals try simp only [sm] at *
 all_goals first
  | omega
  | (simp only [ql (show i<9223372036854775807 by omega),hfl,Ja hn (show i<n by omega)];exact ⟨ih (i+1) (by omega) (by omega)⟩)
  | (obtain rfl:i=n:=by omega
     rw [hfl,w5 hn];rfl)
def Wv:Wr:=w1 kB rIs (fun l=>[LLe l 1048576])
theorem K6:qH Tryz.prog 23 Wv:=zK fun l h=>qhj l (h _ (.head _)).out
def qlo:Wr:=w2 kB dcI (fun l n=>rI (szL l n)) (fun l n=>[LLe l maxLen,qfF n])
theorem qew:qH Tryz.prog 39 qlo:=qI fun l n h=>qhS l n (h _ (.head _)).out (h _ (.tail _ (.head _))).out
theorem qha (l:List Int)(hs:l.length<=maxLen):qe Tryz.prog 25 [aIs l,aIs l] (rB true):=by
 refine qe.of qc (fn:=Tryz.f25) (c:=Tryz.f25.body.getD .skip) (dr:=fun n=>qa 0 [(6,8)] n) Tryz.func25 rfl (by kernel_rfl) (by kernel_rfl) (by kernel_rfl) ?_
 unfold maxLen at hs
 refine SEx.go (X:=XX) qc (fun n=>qa [] [(4,[0,1,5])] n) (fun _=>none) qd 60 ?_
 intro M R L N m0 m1 m2 m3 m4 m5
 cases M
 cbv
 repeat' first | refine m1 _ _ ?_ ?_ | refine m2 _ _ fun h=>?_ | refine m3 _ ?_ | (refine m4 _ _ (Hd.out ?_);generalize hks:(List.cons _ _:List K)=ks) | (refine m5 _ _ ?_;cbv)
 all_goals (clear m1 m2 m3 m4 m5;cases m0;try dsimp only)
 all_goals try simp only [sm] at *
 . exact absurd trivial (by assumption)
 generalize hn:l.length=n at *
 refine ⟨SEx.same (SEx.ind (fun i:Nat=>⟨26,[(0,.v (false,[.fz (.sl (.i l))])),(1,.v (false,[.fz (.sl (.i l))])),(5,.v (false,[.fz (.int .i64 i)]))],[]⟩) (fun _=>rB true) (fun i=>i<=n) (fun i=>n-i) 0 (Nat.zero_le _) ?_) rfl rfl⟩
 intro i hi ih
 rw [<-hks]
 refine SEx.go (X:=XX) qc (fun n=>qa [] [(4,[0,1,5])] n) (fun _=>none) qd 60 ?_
 intro M R L N m0 m1 m2 m3 m4 m5
 cases M
 cbv
 repeat' first | refine m1 _ _ ?_ ?_ | refine m2 _ _ fun h=>?_ | refine m3 _ ?_ | (refine m4 _ _ (Hd.out ?_);try first | rw [hks] | rw [hk2] | rw [hk3]) | (refine m5 _ _ ?_;cbv)
 all_goals (clear m1 m2 m3 m4 m5;cases m0;(try clear hks;try clear hk2;try clear hk3);try dsimp only)
 all_goals try simp only [sm] at *
 all_goals first
  | omega
  | exact absurd trivial (by assumption)
  | rfl
  | (simp only [ql (show i<9223372036854775807 by omega)];exact ⟨ih (i+1) (by omega) (by omega)⟩)
def WD:Wr:=w2 kB kB (fun _ _=>rB true) (fun l m=>[JZ l m,LLe l maxLen])
theorem K4:qH Tryz.prog 25 WD:=qI fun l m h=>by
 obtain rfl:=(h _ (.head _)).out
 exact qha l (h _ (.tail _ (.head _))).out
end Go.Proofs.YtececadpjelanaaGreat.Ai
namespace Go.Proofs.YtececadpjelanaaGreat.Ai
open Go
set_option maxRecDepth 100000
variable [qh]
def wR (n:Nat):V1 B:=(false,[.rf (lrt 0,[]) true 0 n])
def bI1 (n:Int):V1 B:=(false,[.fz (.int .i64 n)])
def zC (k:Int)(n:Nat):List Int:=(List.range n).map fun j=>k+(j:Nat)
theorem qT (k:Int)(n:Nat):(zC k n).length=n:=by simp [zC]
theorem qeH (k:Int)(n:Nat):zC k (n+1)=zC k n++[k+n]:=by simp [zC,List.range_succ]
theorem qbx {q:Int}(h0:-9223372036854775808<=q)(h:q<9223372036854775807):IntKind.i64.wrap (q+1)=q+1:=by
 simp [IntKind.wrap,IntKind.bits,IntKind.signed];omega
theorem qhi {k:Int}{i:Nat}{l:List Int}(hi:i<l.length):(zC k i++l.drop i).set i (k+i)=zC k (i+1)++l.drop (i+1):=by
 rw [List.set_append_right _ _ (by rw [qT];omega),qT,Nat.sub_self,qeH,List.append_assoc,List.drop_eq_getElem_cons hi];rfl
theorem v7 (l:List Int)(k:Int)(hl:l.length<=maxLen)(hk:0<=k/\k+l.length<=4611686018427387904) :
 zG Tryz.prog 26 [wR l.length,bI1 k] [(lrt 0,.osl (.i l))] [.rf (lrt 0,[]) true 0 l.length] (.v (bI1 (k+l.length))) [(lrt 0,.osl (.i (zC k l.length)))] [.rf (lrt 0,[]) true 0 l.length]:=by
 refine zG.of qc (fn:=Tryz.f26) (c:=Tryz.f26.body.getD .skip) (dr:=fun n=>qa 0 [] n) (r:=(_,_,_)) Tryz.func26 rfl (by kernel_rfl) (by kernel_rfl) (by kernel_rfl) ?_
 generalize hn:l.length=n at *
 refine zu.go (X:=XX) qc (fun n=>qa [] [(2,[0,1,5,4294967296])] n) (fun _=>none) qd 60 1 ?_
 intro M R L N m0 m1 m2 m3 m4 m5
 cases M
 cbv
 repeat' first | refine m1 _ _ ?_ ?_ | refine m2 _ _ fun h=>?_ | refine m3 _ ?_ | (refine m4 _ _ (Hd.out ?_);generalize hks:(List.cons _ _:List K)=ks) | (refine m5 _ _ ?_;cbv)
 all_goals (clear m1 m2 m3 m4 m5;cases m0;try dsimp only)
 all_goals try simp only [sm] at *
 refine ⟨zu.same (zu.idx n (fun i=>⟨19,[(0,bR 41000000 n),(1,bI (k+i)),(5,bI i),(4294967296,bR 41000000 n)],[(41000000,.osl (.i (zC k i++l.drop i)))]⟩) (fun _=>(.v (bI1 (k+n)),[(lrt 0,.osl (.i (zC k n)))],[.rf (lrt 0,[]) true 0 n])) ?_) ?_ ⟨rfl,rfl,rfl⟩⟩
 rotate_left
 . rw [show k+((0:Nat):Int)=k by omega];rfl
 intro i hi ih
 rw [<-hks]
 obtain ⟨c,hc⟩:∃ c,c=zC k i++l.drop i:=⟨_,rfl⟩
 have hcl:c.length=n:=by rw [hc,List.length_append,qT,List.length_drop];omega
 rw [<-hc]
 obtain ⟨q,hq⟩:∃ q,q=k+(i:Int):=⟨_,rfl⟩
 rw [<-hq]
 unfold maxLen at hl
 refine zu.go (X:=XX) qc (fun n=>qa [] [(2,[0,1,5,4294967296])] n) (fun _=>none) qd 60 1 ?_
 intro M R L N m0 m1 m2 m3 m4 m5
 cases M
 cbv
 repeat' first | refine m1 _ _ ?_ ?_ | refine m2 _ _ fun h=>?_ | refine m3 _ ?_ | (refine m4 _ _ (Hd.out ?_);try rw [hks]) | (refine m5 _ _ ?_;cbv)
 all_goals (clear m1 m2 m3 m4 m5;cases m0;(try clear hks);try dsimp only)
 all_goals try simp only [sm] at *
 all_goals first
  | omega
  | (have hin:i=n:=by omega
     subst hin
     rw [List.drop_eq_nil_of_le (by omega),List.append_nil] at hc
     subst hc;subst hq
     refine ⟨?_,?_,?_⟩<;>rfl)
  | (simp only [ql (show i<9223372036854775807 by omega),qbx (q:=q) (by omega) (by omega)]
     refine ⟨(ih (by omega)).same ?_ ⟨rfl,rfl,rfl⟩⟩
     rw [hc,hq,qhi (k:=k) (i:=i) (l:=l) (by omega)]
     rw [show k+((i+1:Nat):Int)=k+i+1 by omega,show ((i+1:Nat):Int)=i+1 by omega]
     rfl)
def dch (k:Int):ByteArray:=⟨(List.map (fun n=>UInt8.ofNat n.toNat) [IntKind.u8.wrap (IntKind.i64.wrap (48+k.tmod 10))]).toArray⟩
theorem qcm (k:Int):(dch k).size=1:=rfl
def VM:Nat->Int->ByteArray->ByteArray
 | 0,_,out=>out
 | n+1,k,out=>if 0<k then VM n (k.tdiv 10) (dch k++out) else out
theorem Y1 {k:Int}(h:0<k):0<=k.tdiv 10/\k.tdiv 10<k:=by
 rw [Int.tdiv_eq_ediv_of_nonneg (by omega)];omega
theorem YB:∀ (n m:Nat) (k:Int) (out:ByteArray),k.toNat<=n->k.toNat<=m->VM n k out=VM m k out
 | 0,0,_,_,_,_=>rfl
 | 0,m+1,k,out,h,_=>by simp only [VM];rw [if_neg (by omega)]
 | n+1,0,k,out,_,h=>by simp only [VM];rw [if_neg (by omega)]
 | n+1,m+1,k,out,h1,h2=>by
   simp only [VM]
   split
   . rename_i h
     have:=Y1 h
     exact YB n m _ _ (by omega) (by omega)
   . rfl
theorem qhV {k:Int}(out:ByteArray)(h:0<k):VM k.toNat k out=VM (k.tdiv 10).toNat (k.tdiv 10) (dch k++out):=by
 have:=Y1 h
 obtain ⟨n,hn⟩:∃ n,k.toNat=n+1:=⟨k.toNat-1,by omega⟩
 rw [hn]
 simp only [VM]
 rw [if_pos h]
 exact YB _ _ _ _ (by omega) (by omega)
def mS:ByteArray:=⟨⟨[109]⟩⟩
def mT (k:Int):ByteArray:=mS++VM k.toNat k ⟨⟨[]⟩⟩
theorem qc6 (k:Int)(hk:0<k/\k<=4611686018427387904):qe Tryz.prog 84 [aI k] (rS (mT k)):=by
 refine qe.of qc (fn:=Tryz.f84) (c:=Tryz.f84.body.getD .skip) (dr:=fun n=>qa 0 [] n) Tryz.func84 rfl (by kernel_rfl) (by kernel_rfl) (by kernel_rfl) ?_
 refine SEx.go (X:=XX) qc (fun n=>qa [] [(4,[0,3])] n) (fun _=>none) qd 60 ?_
 intro M R L N m0 m1 m2 m3 m4 m5
 cases M
 cbv
 repeat' first | refine m1 _ _ ?_ ?_ | refine m2 _ _ fun h=>?_ | refine m3 _ ?_ | (refine m4 _ _ (Hd.out ?_);generalize hks:(List.cons _ _:List K)=ks) | (refine m5 _ _ ?_;cbv)
 all_goals (clear m1 m2 m3 m4 m5;cases m0;try dsimp only)
 all_goals try simp only [sm] at *
 . exfalso;omega
 refine ⟨SEx.same (SEx.ind (α:=Int×ByteArray) (fun x=>⟨20,[(0,bI x.1),(3,bS x.2)],[]⟩) (fun x=>rS (mS++VM x.1.toNat x.1 x.2)) (fun x=>0<=x.1/\x.2.size+x.1<=4611686018427387904) (fun x=>x.1.toNat) (k,⟨⟨[]⟩⟩) ⟨by omega,by show (0:Int)+k<=_;omega⟩ ?_) rfl rfl⟩
 rintro ⟨q,out⟩ ⟨hq0,hq1⟩ ih
 simp only at hq0 hq1 ih ⊢
 rw [<-hks]
 refine SEx.go (X:=XX) qc (fun n=>qa [] [(4,[0,3])] n) (fun _=>none) qd 60 ?_
 intro M R L N m0 m1 m2 m3 m4 m5
 cases M
 cbv
 repeat' first | refine m1 _ _ ?_ ?_ | refine m2 _ _ fun h=>?_ | refine m3 _ ?_ | (refine m4 _ _ (Hd.out ?_);try first | rw [hks] | rw [hk2] | rw [hk3]) | (refine m5 _ _ ?_;cbv)
 all_goals (clear m1 m2 m3 m4 m5;cases m0;(try clear hks;try clear hk2;try clear hk3);try dsimp only)
 all_goals try simp only [sm] at *
 all_goals first
  | exact ⟨⟩
  | (intro h;cases h;done)
  | rfl
  | (show (dch q).size+out.size<=_;rw [qcm];omega)
  | (have h2:=Y1 (k:=q) (by assumption)
     rw [qy (by omega) (by omega)]
     exact ⟨(ih (q.tdiv 10,dch q++out) ⟨h2.1,by show ((dch q++out).size:Int)+_<=_;rw [ByteArray.size_append,qcm];show ((1+out.size:Nat):Int)+q.tdiv 10<=_;omega⟩ (by show (q.tdiv 10).toNat<_;omega)).same rfl (by rw [qhV out (by assumption)])⟩)
  | (have hq:q=0:=by omega
     subst hq;rfl)
  | trace_state
structure qow (k:Int):Prop where out:0<k/\k<=4611686018427387904
def qnn (f:Int->ByteArray):Wr:=w1 dcI (fun k=>rS (f k)) (fun k=>[qow k])
structure MkI {α:Type}(p:SP)(n m:Nat)(l:List α)(k:Int):Prop where out:p=(lrt 0,[])/\m=n/\l.length=n/\n<=maxLen/\0<=k/\k+n<=4611686018427387904
structure qnb (k:Int)(n:Nat):Prop where out:0<=k/\k+n<=4611686018427387904
def jO (k:Int)(n:Nat):Int:=k+n
def QO (f:Int->Nat->List Int)(g:Int->Nat->Int):WrW
 | [(false,[.rf p true 0 n]),(false,[.fz (.int .i64 k)])],[(.sl m,.osl (.i l))]=>some ([MkI p n m l k],(.v (bI1 (g k n)),[(lrt 0,.osl (.i (f k n)))],[.rf (lrt 0,[]) true 0 n]))
 | [(false,[.rf p true 0 n]),(false,[.fz (.int .i64 k)])],[(.sl m,.onil)]=>some ([MkI p n m ([]:List Int) k],(.v (bI1 k),[(lrt 0,.onil)],[.rf (lrt 0,[]) true 0 n]))
 | _,_=>none
theorem wO:JE Tryz.prog 26 (QO zC jO):=by
 intro xs ls
 unfold QO
 split
 . refine R.Sim.mk fun hp=>?_
   obtain ⟨rfl,rfl,rfl,h1,h2,h3⟩:=(hp _ (.head _)).out
   exact v7 _ _ h1 ⟨h2,h3⟩
 . refine R.Sim.mk fun hp=>?_
   obtain ⟨rfl,rfl,h0,h1,h2,h3⟩:=(hp _ (.head _)).out
   cases h0
   rename_i k
   have:=v7 [] k h1 ⟨h2,h3⟩
   rw [show k+(([]:List Int).length:Int)=k by simp] at this
   exact this
 . exact R.Sim.none'
theorem qe3 {k:Int}{n i:Nat}(h:i<n):(zC k n).getD i 0=k+i:=by
 rw [km (by rw [qT];exact h)];simp [zC]
theorem qdl (k:Int)(n:Nat)(h1:n<=maxLen)(hk:0<=k/\k+n<=4611686018427387904):qe Tryz.prog 30 [aIs (zC k n),aI k] (rI (jO k n)):=by
 refine qe.of qc (fn:=Tryz.f30) (c:=Tryz.f30.body.getD .skip) (dr:=fun n=>qa 0 [] n) Tryz.func30 rfl (by kernel_rfl) (by kernel_rfl) (by kernel_rfl) ?_
 obtain ⟨c,hc⟩:∃ c,c=zC k n:=⟨_,rfl⟩
 have hcl:c.length=n:=by rw [hc,qT]
 rw [<-hc]
 refine SEx.go (X:=XX) qc (fun n=>qa [] [(2,[0,1,5])] n) (fun _=>none) qd 60 ?_
 intro M R L N m0 m1 m2 m3 m4 m5
 cases M
 cbv
 repeat' first | refine m1 _ _ ?_ ?_ | refine m2 _ _ fun h=>?_ | refine m3 _ ?_ | (refine m4 _ _ (Hd.out ?_);generalize hks:(List.cons _ _:List K)=ks) | (refine m5 _ _ ?_;cbv)
 all_goals (clear m1 m2 m3 m4 m5;cases m0;try dsimp only)
 all_goals try simp only [sm] at *
 refine ⟨SEx.same (SEx.idx n (fun i=>⟨21,[(0,bL (.i c)),(1,bI (k+i)),(5,bI i)],[]⟩) (fun _=>rI (jO k n)) ?_) (by rw [show k+((0:Nat):Int)=k by omega];rfl) rfl⟩
 intro i hi ih
 rw [<-hks]
 obtain ⟨q,hq⟩:∃ q,q=k+(i:Int):=⟨_,rfl⟩
 have hg:i<n->c.getD i 0=q:=fun h=>by rw [hc,hq,qe3 h]
 rw [<-hq]
 unfold maxLen at h1
 refine SEx.go (X:=XX) qc (fun n=>qa [] [(2,[0,1,5])] n) (fun _=>none) qd 60 ?_
 intro M R L N m0 m1 m2 m3 m4 m5
 cases M
 cbv
 repeat' first | refine m1 _ _ ?_ ?_ | refine m2 _ _ fun h=>?_ | refine m3 _ ?_ | (refine m4 _ _ (Hd.out ?_);try first | rw [hks] | rw [hk2] | rw [hk3]) | (refine m5 _ _ ?_;cbv)
 all_goals (clear m1 m2 m3 m4 m5;cases m0;(try clear hks;try clear hk2;try clear hk3);try dsimp only)
 all_goals try simp only [sm] at *
 all_goals first
  | omega
  | (exfalso;have:=hg (by omega);first | contradiction | (simp_all;done))
  | (simp only [ql (show i<9223372036854775807 by omega),qbx (q:=q) (by omega) (by omega)]
     refine ⟨(ih (by omega)).same ?_ rfl⟩
     rw [hq,show k+((i+1:Nat):Int)=k+i+1 by omega,show ((i+1:Nat):Int)=i+1 by omega]
     rfl)
  | (obtain rfl:i=n:=by omega
     subst hq;rfl)
  | trace_state
def qfO (g:Int->Nat->Int)(f:Int->Nat->List Int)(ln:List Int->Nat):Wr:=w2 kB dcI (fun l k=>rI (g k (ln l))) (fun l k=>[JZ l (f k (ln l)),LLe l maxLen,qnb k (ln l)])
theorem y8:qH Tryz.prog 30 (qfO jO zC List.length):=qI fun l k h=>by
 have e:=(h _ (.head _)).out
 have h1:=(h _ (.tail _ (.head _))).out
 have h2:=(h _ (.tail _ (.tail _ (.head _)))).out
 have:=qdl k l.length h1 h2
 rwa [<-e] at this
end Go.Proofs.YtececadpjelanaaGreat.Ai
namespace Go.Proofs.YtececadpjelanaaGreat.Ai
open Go
set_option maxRecDepth 100000
variable [qh]
def kj (a b c:Int):Bool:=decide (b<=a)&&decide (a<=c)
theorem qmd (a b c:Int):qe Tryz.prog 70 [aI a,aI b,aI c] (rB (kj a b c)):=by
 refine qe.of qc (fn:=Tryz.f70) (c:=Tryz.f70.body.getD .skip) (dr:=fun n=>qa 0 [] n) Tryz.func70 rfl (by kernel_rfl) (by kernel_rfl) (by kernel_rfl) ?_
 refine SEx.go (X:=XX) qc (fun n=>qa [] [] n) (fun _=>none) qd 60 ?_
 intro M R L N m0 m1 m2 m3 m4 m5
 cases M
 cbv
 repeat' first | refine m1 _ _ ?_ ?_ | refine m2 _ _ fun h=>?_ | refine m3 _ ?_ | (refine m4 _ _ (Hd.out ?_);try first | rw [hks] | rw [hk2] | rw [hk3]) | (refine m5 _ _ ?_;cbv)
 all_goals (clear m1 m2 m3 m4 m5;cases m0;(try clear hks;try clear hk2;try clear hk3);try dsimp only)
 all_goals try simp only [sm] at *
 . simp only [kR,kj]
   rw [decide_eq_true (show b<=a by assumption),Bool.true_and]
 . simp only [kR,kj]
   rw [decide_eq_false (show ¬b<=a by omega),Bool.false_and]
theorem Vj {n:Nat}(h:n<18446744073709551616):IntKind.u64.wrap (n:Int)=(n:Int):=by
 simp [IntKind.wrap,IntKind.bits,IntKind.signed];omega
def qaB (f:Int->Int->Int->Bool):Wr:=w3 dcI dcI dcI (fun a b c=>rB (f a b c)) (fun _ _ _=>[])
theorem Qz:qH Tryz.prog 70 (qaB kj):=vq fun a b c _=>qmd a b c
end Go.Proofs.YtececadpjelanaaGreat.Ai
namespace Go.Proofs.YtececadpjelanaaGreat.Ai
open Go
set_option maxRecDepth 100000
variable [qh]
def rUs (l:List Int):TV W:=.v (false,[.osl (.i l)])
end Go.Proofs.YtececadpjelanaaGreat.Ai
namespace Go.Proofs.YtececadpjelanaaGreat.Ai
open Go
set_option maxRecDepth 100000
variable [qh]
structure InX {α:Type}(c:Int)(l:List α):Prop where out:0<=c/\c<l.length
def Jq (n x:Int):Bool:=decide (0<=x/\x<n)
theorem qhB (n m:Int):qe Tryz.prog 138 [aI n,aI m] (rB (Jq n m)):=by
 refine qe.of qc (fn:=Tryz.f138) (c:=Tryz.f138.body.getD .skip) (dr:=fun n=>qa 0 [] n) Tryz.func138 rfl (by kernel_rfl) (by kernel_rfl) (by kernel_rfl) ?_
 refine SEx.go (X:=XX) qc (fun n=>qa [] [] n) (fun _=>none) qd 60 ?_
 intro M R L N m0 m1 m2 m3 m4 m5
 cases M
 cbv
 repeat' first | refine m1 _ _ ?_ ?_ | refine m2 _ _ fun h=>?_ | refine m3 _ ?_ | (refine m4 _ _ (Hd.out ?_);try first | rw [hks] | rw [hk2] | rw [hk3]) | (refine m5 _ _ ?_;cbv)
 all_goals (clear m1 m2 m3 m4 m5;cases m0;(try clear hks;try clear hk2;try clear hk3);try dsimp only)
 all_goals try simp only [sm] at *
 all_goals simp only [kR,Jq]
 all_goals (first | (rw [decide_eq_false (by omega)];done) | (symm;apply decide_eq_decide.2;omega) | (rw [Bool.eq_iff_iff];simp;omega))
def qgO (f:Int->Int->Bool):Wr:=w2 dcI dcI (fun x y=>rB (f x y)) (fun _ _=>[])
theorem qdS:qH Tryz.prog 138 (qgO Jq):=qI fun x y _=>qhB x y
end Go.Proofs.YtececadpjelanaaGreat.Ai
namespace Go.Proofs.YtececadpjelanaaGreat.Ai
open Go
set_option maxRecDepth 100000
variable [qh]
theorem qiB (l:List Tie)(n:Int)(hs:l.length<=maxLen)(hn:0<=n/\n<=9223372036854775807):qe Tryz.prog 38 [VD l,aI n] (rI (szL l n)):=by
 refine qe.of qc (fn:=Tryz.f38) (c:=Tryz.f38.body.getD .skip) (dr:=fun n=>qa 0 [] n) Tryz.func38 rfl (by kernel_rfl) (by kernel_rfl) (by kernel_rfl) ?_
 unfold maxLen at hs
 refine SEx.go (X:=XX) qc (fun n=>qa [] [] n) (fun _=>none) qd 60 ?_
 intro M R L N m0 m1 m2 m3 m4 m5
 cases M
 cbv
 repeat' first | refine m1 _ _ ?_ ?_ | refine m2 _ _ fun h=>?_ | refine m3 _ ?_ | (refine m4 _ _ (Hd.out ?_);try first | rw [hks] | rw [hk2] | rw [hk3]) | (refine m5 _ _ ?_;cbv)
 all_goals (clear m1 m2 m3 m4 m5;cases m0;(try clear hks;try clear hk2;try clear hk3);try dsimp only)
 all_goals try simp only [sm] at *
 all_goals rw [qy (by omega) (by omega)] at *
 all_goals simp only [Zn,szL]
 all_goals split<;>omega
def qgP (f:List Tie->Int->Int):Wr:=w2 KY dcI (fun l n=>rI (f l n)) (fun l n=>[LLe l maxLen,qfF n])
theorem qd6:qH Tryz.prog 38 (qgP szL):=qI fun l n h=>qiB l n (h _ (.head _)).out (h _ (.tail _ (.head _))).out
theorem qk3 (q:Tie):qe Tryz.prog 75 [qdf q] (qnZ q):=by
 refine qe.of qc (fn:=Tryz.f75) (c:=Tryz.f75.body.getD .skip) (dr:=fun n=>qa 0 [] n) Tryz.func75 rfl (by kernel_rfl) (by kernel_rfl) (by kernel_rfl) ?_
 obtain ⟨x1,x2,x3,x4,x5⟩:=q
 refine SEx.go (X:=XX) qc (fun n=>qa [] [] n) (fun _=>none) qd 60 ?_
 intro M R L N m0 m1 m2 m3 m4 m5
 cases M
 cbv
 repeat' first | refine m1 _ _ ?_ ?_ | refine m2 _ _ fun h=>?_ | refine m3 _ ?_ | (refine m4 _ _ (Hd.out ?_);try first | rw [hks] | rw [hk2] | rw [hk3]) | (refine m5 _ _ ?_;cbv)
 all_goals (clear m1 m2 m3 m4 m5;cases m0;(try clear hks;try clear hk2;try clear hk3);try dsimp only)
 all_goals try simp only [sm] at *
 all_goals rfl
def qkh:Wr:=w1 qdj qnZ (fun _=>[])
theorem qie:qH Tryz.prog 75 qkh:=zK fun q _=>qk3 q
theorem qho (l:List Tie)(hs:l.length<=1048576):qe Tryz.prog 45 [VD l] (qjG l):=by
 refine qe.of qc (fn:=Tryz.f45) (c:=Tryz.f45.body.getD .skip) (dr:=fun n=>qa 0 [] n) Tryz.func45 rfl (by kernel_rfl) (by kernel_rfl) (by kernel_rfl) ?_
 have hO:qm Tryz.prog (qL [(75,qkh)]):=qb qie qd
 refine SEx.go (X:=XX) qc (fun n=>qa [] [(3,[0,3,4])] n) (fun _=>none) hO 60 ?_
 intro M R L N m0 m1 m2 m3 m4 m5
 cases M
 cbv
 repeat' first | refine m1 _ _ ?_ ?_ | refine m2 _ _ fun h=>?_ | refine m3 _ ?_ | (refine m4 _ _ (Hd.out ?_);generalize hks:(List.cons _ _:List K)=ks) | (refine m5 _ _ ?_;cbv)
 all_goals (clear m1 m2 m3 m4 m5;cases m0;try dsimp only)
 all_goals try simp only [sm] at *
 . have:=kT;omega
 generalize hn:l.length=n at *
 refine ⟨SEx.same (SEx.idx n (fun i:Nat=>⟨23,[(0,bL (.tie l)),(3,bR 12288 n),(4,bI i)],[(12288,.osl (.tie (QY ⟨0,0,0,0,false⟩ l n i)))]⟩) (fun _=>qjG l) ?_) rfl rfl⟩
 intro i hi ih
 rw [<-hks]
 obtain ⟨fl,hfl⟩:∃ x,x=QY (⟨0,0,0,0,false⟩:Tie) l n i:=⟨_,rfl⟩
 have hf:=wv (z:=(⟨0,0,0,0,false⟩:Tie)) hn hi
 rw [<-hfl] at hf ⊢
 refine SEx.go (X:=XX) qc (fun n=>qa [] [(3,[0,3,4])] n) (fun _=>none) hO 60 ?_
 intro M R L N m0 m1 m2 m3 m4 m5
 cases M
 cbv
 repeat' first | refine m1 _ _ ?_ ?_ | refine m2 _ _ fun h=>?_ | refine m3 _ ?_ | (refine m4 _ _ (Hd.out ?_);try first | rw [hks] | rw [hk2] | rw [hk3]) | (refine m5 _ _ ?_;cbv)
 all_goals (clear m1 m2 m3 m4 m5;cases m0;(try clear hks;try clear hk2;try clear hk3);try dsimp only)
 all_goals try simp only [sm] at *
 all_goals (try simp only [QA] at *)
 all_goals (try omega)
 . simp only [ql (show i<9223372036854775807 by omega),wH,qeo,hfl]
   have e:=Ja (z:=(⟨0,0,0,0,false⟩:Tie)) (d:=Tie.z) hn (show i<n by omega)
   have ih':=ih (by omega)
   rw [<-e] at ih'
   exact ⟨ih'⟩
 . obtain rfl:i=n:=by omega
   rw [hfl,w5 hn];rfl
def qgu:Wr:=w1 KY qjG (fun l=>[LLe l 1048576])
theorem qei:qH Tryz.prog 45 qgu:=zK fun l h=>qho l (h _ (.head _)).out
theorem qjQ (q:Tie):qe Tryz.prog 83 [qdf q,qdf q] (rB true):=by
 refine qe.of qc (fn:=Tryz.f83) (c:=Tryz.f83.body.getD .skip) (dr:=fun n=>qa 0 [] n) Tryz.func83 rfl (by kernel_rfl) (by kernel_rfl) (by kernel_rfl) ?_
 obtain ⟨x1,x2,x3,x4,x5⟩:=q
 refine SEx.go (X:=XX) qc (fun n=>qa [] [] n) (fun _=>none) qd 60 ?_
 intro M R L N m0 m1 m2 m3 m4 m5
 cases M
 cbv
 repeat' first | refine m1 _ _ ?_ ?_ | refine m2 _ _ fun h=>?_ | refine m3 _ ?_ | (refine m4 _ _ (Hd.out ?_);try first | rw [hks] | rw [hk2] | rw [hk3]) | (refine m5 _ _ ?_;cbv)
 all_goals (clear m1 m2 m3 m4 m5;cases m0;(try clear hks;try clear hk2;try clear hk3);try dsimp only)
 all_goals try simp only [sm] at *
 all_goals first
  | exact absurd trivial (by assumption)
  | rfl
  | (exfalso;simp_all;done)
def qkc:Wr:=w2 qdj qdj (fun _ _=>rB true) (fun q r=>[JZ q r])
theorem qib:qH Tryz.prog 83 qkc:=qI fun q r h=>by
 obtain rfl:=(h _ (.head _)).out
 exact qjQ q
theorem qiF (l:List Tie)(hs:l.length<=maxLen):qe Tryz.prog 49 [VD l,VD l] (rB true):=by
 refine qe.of qc (fn:=Tryz.f49) (c:=Tryz.f49.body.getD .skip) (dr:=fun n=>qa 0 [(6,8)] n) Tryz.func49 rfl (by kernel_rfl) (by kernel_rfl) (by kernel_rfl) ?_
 unfold maxLen at hs
 have hO:qm Tryz.prog (qL [(83,qkc)]):=qb qib qd
 refine SEx.go (X:=XX) qc (fun n=>qa [] [(4,[0,1,5])] n) (fun _=>none) hO 60 ?_
 intro M R L N m0 m1 m2 m3 m4 m5
 cases M
 cbv
 repeat' first | refine m1 _ _ ?_ ?_ | refine m2 _ _ fun h=>?_ | refine m3 _ ?_ | (refine m4 _ _ (Hd.out ?_);generalize hks:(List.cons _ _:List K)=ks) | (refine m5 _ _ ?_;cbv)
 all_goals (clear m1 m2 m3 m4 m5;cases m0;try dsimp only)
 all_goals try simp only [sm] at *
 . exact absurd trivial (by assumption)
 generalize hn:l.length=n at *
 refine ⟨SEx.same (SEx.idx n (fun i:Nat=>⟨27,[(0,bL (.tie l)),(1,bL (.tie l)),(5,bI i)],[]⟩) (fun _=>rB true) ?_) rfl rfl⟩
 intro i hi ih
 rw [<-hks]
 refine SEx.go (X:=XX) qc (fun n=>qa [] [(4,[0,1,5])] n) (fun _=>none) hO 60 ?_
 intro M R L N m0 m1 m2 m3 m4 m5
 cases M
 cbv
 repeat' first | refine m1 _ _ ?_ ?_ | refine m2 _ _ fun h=>?_ | refine m3 _ ?_ | (refine m4 _ _ (Hd.out ?_);try first | rw [hks] | rw [hk2] | rw [hk3]) | (refine m5 _ _ ?_;cbv)
 all_goals (clear m1 m2 m3 m4 m5;cases m0;(try clear hks;try clear hk2;try clear hk3);try dsimp only)
 all_goals try simp only [sm] at *
 all_goals first
  | omega
  | exact absurd trivial (by assumption)
  | rfl
  | exact ⟨rfl⟩
  | contradiction
  | (simp only [ql (show i<9223372036854775807 by omega)];exact ⟨ih (by omega)⟩)
def qf1:Wr:=w2 KY KY (fun _ _=>rB true) (fun l m=>[JZ l m,LLe l maxLen])
theorem qfa:qH Tryz.prog 49 qf1:=qI fun l m h=>by
 obtain rfl:=(h _ (.head _)).out
 exact qiF l (h _ (.tail _ (.head _))).out
end Go.Proofs.YtececadpjelanaaGreat.Ai
namespace Go.Proofs.YtececadpjelanaaGreat.Ai
open Go
set_option maxRecDepth 100000
variable [qh]
def zh (q:qf)(n:Int):Int:=if n<q.name.size then -1 else szL q.label (n-q.name.size)
def Vx (g:List Int->Int->Int):Wr:=w2 kB dcI (fun l n=>rI (g l n)) (fun l n=>[LLe l maxLen,qfF n])
theorem vr:qH Tryz.prog 39 (Vx szL):=qew
theorem qfq {α:Type}(l:List α){n:Int}(h:0<=n):szL l n<=n:=by unfold szL;split<;>omega
theorem qh9 (q:qf)(n:Int)(hs:q.name.size<=maxLen)(hl:q.label.length<=maxLen)(hn:0<=n/\n<=9223372036854775807):qe Tryz.prog 69 [J7 q,aI n] (rI (zh q n)):=by
 refine qe.of qc (fn:=Tryz.f69) (c:=Tryz.f69.body.getD .skip) (dr:=fun n=>qa 0 [] n) Tryz.func69 rfl (by kernel_rfl) (by kernel_rfl) (by kernel_rfl) ?_
 unfold maxLen at hs
 obtain ⟨g,hg⟩:∃ g:List Int->Int->Int,g=szL:=⟨_,rfl⟩
 have hO:qm Tryz.prog (qL [(39,Vx g)]):=by subst hg;exact qb vr qd
 obtain ⟨x1,x2,x3⟩:=q
 have hs:x1.size<=2 ^ 63-1:=hs
 have hl:x2.length<=maxLen:=hl
 refine SEx.go (X:=XX) qc (fun n=>qa [] [] n) (fun _=>none) hO 60 ?_
 intro M R L N m0 m1 m2 m3 m4 m5
 cases M
 cbv
 repeat' first | refine m1 _ _ ?_ ?_ | refine m2 _ _ fun h=>?_ | refine m3 _ ?_ | (refine m4 _ _ (Hd.out ?_);try first | rw [hks] | rw [hk2] | rw [hk3]) | (refine m5 _ _ ?_;cbv)
 all_goals (clear m1 m2 m3 m4 m5;cases m0;(try clear hks;try clear hk2;try clear hk3);try dsimp only)
 all_goals try simp only [sm] at *
 all_goals (try rw [qy (by omega) (by omega)] at *)
 all_goals first
  | exact ⟨hl⟩
  | exact ⟨⟨by omega,by omega⟩⟩
  | (simp only [Zn,zh];rw [if_pos (by omega)];done)
  | (subst hg;simp only [Zn,zh];rw [if_neg (by omega)];done)
  | (subst hg;simp only [Zn,zh];rw [if_neg (by omega)];unfold szL at *;split<;>omega)
theorem V2 (q:qf){n:Int}(h:0<=n):zh q n<=n:=by
 unfold zh
 split
 . omega
 . have:=qfq q.label (n:=n-q.name.size) (by omega)
   omega
structure wL (q:qf)(n:Nat):Prop where
 name:q.name.size<=n
 label:q.label.length<=n
theorem qdX {q:qf}{n:Int}(h:0<=zh q n):(q.name.size:Int)<=n/\(q.label.length:Int)<=n:=by
 unfold zh szL at h
 split at h
 . omega
 . split at h<;>omega
def qgy (f:qf->Int->Int):Wr:=w2 K9 dcI (fun q n=>rI (f q n)) (fun q n=>[wL q maxLen,qfF n])
theorem qeG:qH Tryz.prog 69 (qgy zh):=qI fun q n h=>qh9 q n (h _ (.head _)).name (h _ (.head _)).label (h _ (.tail _ (.head _))).out
def szF {α:Type}(f:α->Int->Int):List α->Int->Int
 | [],n=>n
 | q::r,n=>if f q n<0 then -1 else szF f r (f q n)
theorem qcK {α:Type}{f:α->Int->Int}{l:List α}{i:Nat}{m:Int}(z:α)(h:i<l.length):szF f (l.drop i) m=if f (l.getD i z) m<0 then -1 else szF f (l.drop (i+1)) (f (l.getD i z) m):=by
 rw [List.drop_eq_getElem_cons h,km h]
 rfl
def zU (l:List qf)(n:Int):Int:=if n<l.length then -1 else szF zh l (n-l.length)
theorem qd2 (l:List qf)(n:Int)(hs:l.length<=maxLen)(hq:∀ q∈l,wL q maxLen)(hn:0<=n/\n<=9223372036854775807):qe Tryz.prog 37 [wD l,aI n] (rI (zU l n)):=by
 refine qe.of qc (fn:=Tryz.f37) (c:=Tryz.f37.body.getD .skip) (dr:=fun n=>qa 0 [] n) Tryz.func37 rfl (by kernel_rfl) (by kernel_rfl) (by kernel_rfl) ?_
 unfold maxLen at hs
 obtain ⟨g,hg⟩:∃ g,g=zh:=⟨_,rfl⟩
 have hO:qm Tryz.prog (qL [(69,qgy g)]):=by subst hg;exact qb qeG qd
 refine SEx.go (X:=XX) qc (fun n=>qa [] [(5,[0,1,5])] n) (fun _=>none) hO 60 ?_
 intro M R L N m0 m1 m2 m3 m4 m5
 cases M
 cbv
 repeat' first | refine m1 _ _ ?_ ?_ | refine m2 _ _ fun h=>?_ | refine m3 _ ?_ | (refine m4 _ _ (Hd.out ?_);generalize hks:(List.cons _ _:List K)=ks) | (refine m5 _ _ ?_;cbv)
 all_goals (clear m1 m2 m3 m4 m5;cases m0;try dsimp only)
 all_goals try simp only [sm] at *
 . rw [qy (by omega) (by omega)] at *
   simp only [Zn,zU]
   split<;>omega
 rw [qy (by omega) (by omega)] at *
 have h0:0<=n-l.length:=by assumption
 rw [show zU l n=szF zh (l.drop 0) (n-l.length) by unfold zU;rw [if_neg (by omega)];rfl]
 refine ⟨SEx.same (SEx.ind (fun x:Nat×Int=>⟨27,[(0,bL (.node false none l)),(1,.v (false,[.fz (.int .i64 x.2)])),(5,bI x.1)],[]⟩) (fun x=>rI (szF zh (l.drop x.1) x.2)) (fun x=>x.1<=l.length/\0<=x.2/\x.2<=n) (fun x=>l.length-x.1) (0,n-l.length) ⟨by omega,h0,by omega⟩ ?_) rfl rfl⟩
 rintro ⟨i,m⟩ ⟨hi,hm1,hm2⟩ ih
 dsimp only at hi hm1 hm2 ih ⊢
 rw [<-hks]
 refine SEx.go (X:=XX) qc (fun n=>qa [] [(5,[0,1,5])] n) (fun _=>none) hO 60 ?_
 intro M R L N m0 m1 m2 m3 m4 m5
 cases M
 cbv
 repeat' first | refine m1 _ _ ?_ ?_ | refine m2 _ _ fun h=>?_ | refine m3 _ ?_ | (refine m4 _ _ (Hd.out ?_);try first | rw [hks] | rw [hk2] | rw [hk3]) | (refine m5 _ _ ?_;cbv)
 all_goals (clear m1 m2 m3 m4 m5;cases m0;(try clear hks;try clear hk2;try clear hk3);try dsimp only)
 all_goals try simp only [sm] at *
 all_goals first
  | omega
  | exact hq _ (qu (z:=qf.z) (by omega)).out
  | exact ⟨⟨hm1,by omega⟩⟩
  | (subst hg
     have hi':i<l.length:=by omega
     rw [qcK qf.z hi',if_pos (by assumption)]
     rfl)
  | (subst hg
     have hi':i<l.length:=by omega
     have h2:0<=zh (l.getD i qf.z) m:=by assumption
     have h3:=V2 (l.getD i qf.z) hm1
     simp only [ql (show i<9223372036854775807 by omega)]
     exact ⟨(ih (i+1,zh (l.getD i qf.z) m) ⟨by show i+1<=l.length;omega,h2,by show zh _ m<=n;omega⟩ (by show l.length-(i+1)<_;omega)).same rfl (by rw [qcK qf.z hi',if_neg (by omega)])⟩)
  | (obtain rfl:i=l.length:=by omega
     rw [List.drop_length]
     rfl)
  | trace_state
theorem qit (q:qf)(hl:q.label.length<=1048576):qe Tryz.prog 74 [J7 q] (qmF q):=by
 refine qe.of qc (fn:=Tryz.f74) (c:=Tryz.f74.body.getD .skip) (dr:=fun n=>qa 0 [] n) Tryz.func74 rfl (by kernel_rfl) (by kernel_rfl) (by kernel_rfl) ?_
 have hO:qm Tryz.prog (qL [(23,Wv)]):=qb K6 qd
 obtain ⟨x1,x2,x3⟩:=q
 have hl:x2.length<=1048576:=hl
 refine SEx.go (X:=XX) qc (fun n=>qa [] [] n) (fun _=>none) hO 60 ?_
 intro M R L N m0 m1 m2 m3 m4 m5
 cases M
 cbv
 repeat' first | refine m1 _ _ ?_ ?_ | refine m2 _ _ fun h=>?_ | refine m3 _ ?_ | (refine m4 _ _ (Hd.out ?_);try first | rw [hks] | rw [hk2] | rw [hk3]) | (refine m5 _ _ ?_;cbv)
 all_goals (clear m1 m2 m3 m4 m5;cases m0;(try clear hks;try clear hk2;try clear hk3);try dsimp only)
 all_goals try simp only [sm] at *
 all_goals first
  | rfl
  | exact ⟨hl⟩
theorem qhz (q:qf)(hl:q.label.length<=maxLen):qe Tryz.prog 82 [J7 q,J7 q] (rB true):=by
 refine qe.of qc (fn:=Tryz.f82) (c:=Tryz.f82.body.getD .skip) (dr:=fun n=>qa 0 [] n) Tryz.func82 rfl (by kernel_rfl) (by kernel_rfl) (by kernel_rfl) ?_
 have hO:qm Tryz.prog (qL [(25,WD)]):=qb K4 qd
 obtain ⟨x1,x2,x3⟩:=q
 have hl:x2.length<=maxLen:=hl
 refine SEx.go (X:=XX) qc (fun n=>qa [] [] n) (fun _=>none) hO 60 ?_
 intro M R L N m0 m1 m2 m3 m4 m5
 cases M
 cbv
 repeat' first | refine m1 _ _ ?_ ?_ | refine m2 _ _ fun h=>?_ | refine m3 _ ?_ | (refine m4 _ _ (Hd.out ?_);try first | rw [hks] | rw [hk2] | rw [hk3]) | (refine m5 _ _ ?_;cbv)
 all_goals (clear m1 m2 m3 m4 m5;cases m0;(try clear hks;try clear hk2;try clear hk3);try dsimp only)
 all_goals try simp only [sm] at *
 all_goals first
  | exact absurd trivial (by assumption)
  | rfl
  | exact ⟨rfl⟩
  | exact ⟨hl⟩
  | (exfalso;simp_all;done)
structure qmI (q:qf)(n:Nat):Prop where out:q.label.length<=n
def qgM:Wr:=w1 K9 qmF (fun q=>[qmI q 1048576])
theorem qeB:qH Tryz.prog 74 qgM:=zK fun q h=>qit q (h _ (.head _)).out
def qgb:Wr:=w2 K9 K9 (fun _ _=>rB true) (fun q r=>[JZ q r,qmI q maxLen])
theorem qeO:qH Tryz.prog 82 qgb:=qI fun q r h=>by
 obtain rfl:=(h _ (.head _)).out
 exact qhz q (h _ (.tail _ (.head _))).out
theorem qh7 {fl:List qf}{i:Nat}(h:i<fl.length)(s:ByteArray)(lab:List Int)(w:Int) :
 Jf qf.z ((fl.set i ⟨s,(fl.getD i qf.z).2,(fl.getD i qf.z).3⟩).set i ⟨((fl.set i ⟨s,(fl.getD i qf.z).2,(fl.getD i qf.z).3⟩).getD i qf.z).1,lab,((fl.set i ⟨s,(fl.getD i qf.z).2,(fl.getD i qf.z).3⟩).getD i qf.z).3⟩) i (fun q=>⟨q.name,q.label,w⟩)=fl.set i ⟨s,lab,w⟩:=by
 simp [Jf,List.getD_eq_getElem?_getD,h]
theorem qeF (l:List qf)(hs:l.length<=1048576)(hl:∀ q∈l,q.label.length<=1048576):qe Tryz.prog 44 [wD l] (qdN l):=by
 refine qe.of qc (fn:=Tryz.f44) (c:=Tryz.f44.body.getD .skip) (dr:=fun n=>qa 0 [] n) Tryz.func44 rfl (by kernel_rfl) (by kernel_rfl) (by kernel_rfl) ?_
 have hO:qm Tryz.prog (qL [(74,qgM)]):=qb qeB qd
 refine SEx.go (X:=XX) qc (fun n=>qa [] [(3,[0,3,4])] n) (fun _=>none) hO 60 ?_
 intro M R L N m0 m1 m2 m3 m4 m5
 cases M
 cbv
 repeat' first | refine m1 _ _ ?_ ?_ | refine m2 _ _ fun h=>?_ | refine m3 _ ?_ | (refine m4 _ _ (Hd.out ?_);generalize hks:(List.cons _ _:List K)=ks) | (refine m5 _ _ ?_;cbv)
 all_goals (clear m1 m2 m3 m4 m5;cases m0;try dsimp only)
 all_goals try simp only [sm] at *
 . have:=kT;omega
 generalize hn:l.length=n at *
 refine ⟨SEx.same (SEx.idx n (fun i:Nat=>⟨23,[(0,bL (.node false none l)),(3,bR 12288 n),(4,bI i)],[(12288,.osl (.node true none (QY ⟨⟨#[]⟩,[],0⟩ l n i)))]⟩) (fun _=>qdN l) ?_) rfl rfl⟩
 intro i hi ih
 rw [<-hks]
 obtain ⟨fl,hfl⟩:∃ x,x=QY (⟨⟨#[]⟩,[],0⟩:qf) l n i:=⟨_,rfl⟩
 have hf:=wv (z:=(⟨⟨#[]⟩,[],0⟩:qf)) hn hi
 rw [<-hfl] at hf ⊢
 refine SEx.go (X:=XX) qc (fun n=>qa [] [(3,[0,3,4])] n) (fun _=>none) hO 60 ?_
 intro M R L N m0 m1 m2 m3 m4 m5
 cases M
 cbv
 repeat' first | refine m1 _ _ ?_ ?_ | refine m2 _ _ fun h=>?_ | refine m3 _ ?_ | (refine m4 _ _ (Hd.out ?_);try first | rw [hks] | rw [hk2] | rw [hk3]) | (refine m5 _ _ ?_;cbv)
 all_goals (clear m1 m2 m3 m4 m5;cases m0;(try clear hks;try clear hk2;try clear hk3);try dsimp only)
 all_goals try simp only [sm] at *
 all_goals (try simp only [List.length_set,QA])
 all_goals (try omega)
 . exact ⟨hl _ (qu (z:=qf.z) (by omega)).out⟩
 . simp only [ql (show i<9223372036854775807 by omega)]
   have e:=Ja (z:=(⟨⟨#[]⟩,[],0⟩:qf)) (d:=qf.z) hn (show i<n by omega)
   have ih':=ih (by omega)
   rw [<-e,<-hfl] at ih'
   refine ⟨ih'.same ?_ rfl⟩
   rw [qh7 (by omega)]
   rfl
 . obtain rfl:i=n:=by omega
   rw [hfl,w5 hn];rfl
theorem qfb (l:List qf)(hs:l.length<=maxLen)(hl:∀ q∈l,q.label.length<=maxLen):qe Tryz.prog 48 [wD l,wD l] (rB true):=by
 refine qe.of qc (fn:=Tryz.f48) (c:=Tryz.f48.body.getD .skip) (dr:=fun n=>qa 0 [(6,8)] n) Tryz.func48 rfl (by kernel_rfl) (by kernel_rfl) (by kernel_rfl) ?_
 unfold maxLen at hs
 have hO:qm Tryz.prog (qL [(82,qgb)]):=qb qeO qd
 refine SEx.go (X:=XX) qc (fun n=>qa [] [(4,[0,1,5])] n) (fun _=>none) hO 60 ?_
 intro M R L N m0 m1 m2 m3 m4 m5
 cases M
 cbv
 repeat' first | refine m1 _ _ ?_ ?_ | refine m2 _ _ fun h=>?_ | refine m3 _ ?_ | (refine m4 _ _ (Hd.out ?_);generalize hks:(List.cons _ _:List K)=ks) | (refine m5 _ _ ?_;cbv)
 all_goals (clear m1 m2 m3 m4 m5;cases m0;try dsimp only)
 all_goals try simp only [sm] at *
 . exact absurd trivial (by assumption)
 generalize hn:l.length=n at *
 refine ⟨SEx.same (SEx.idx n (fun i:Nat=>⟨27,[(0,bL (.node false none l)),(1,bL (.node false none l)),(5,bI i)],[]⟩) (fun _=>rB true) ?_) rfl rfl⟩
 intro i hi ih
 rw [<-hks]
 refine SEx.go (X:=XX) qc (fun n=>qa [] [(4,[0,1,5])] n) (fun _=>none) hO 60 ?_
 intro M R L N m0 m1 m2 m3 m4 m5
 cases M
 cbv
 repeat' first | refine m1 _ _ ?_ ?_ | refine m2 _ _ fun h=>?_ | refine m3 _ ?_ | (refine m4 _ _ (Hd.out ?_);try first | rw [hks] | rw [hk2] | rw [hk3]) | (refine m5 _ _ ?_;cbv)
 all_goals (clear m1 m2 m3 m4 m5;cases m0;(try clear hks;try clear hk2;try clear hk3);try dsimp only)
 all_goals try simp only [sm] at *
 all_goals first
  | omega
  | exact absurd trivial (by assumption)
  | rfl
  | exact ⟨rfl⟩
  | contradiction
  | exact ⟨hl _ (qu (z:=qf.z) (by omega)).out⟩
  | (simp only [ql (show i<9223372036854775807 by omega)];exact ⟨ih (by omega)⟩)
structure wU (l:List qf)(n:Nat):Prop where out:∀ q∈l,q.label.length<=n
structure qfY (l:List qf)(n:Nat):Prop where out:∀ q∈l,wL q n
def qbA (f:List qf->Int->Int):Wr:=w2 J5 dcI (fun l n=>rI (f l n)) (fun l n=>[LLe l maxLen,qfY l maxLen,qfF n])
theorem qcq:qH Tryz.prog 37 (qbA zU):=qI fun l n h=>qd2 l n (h _ (.head _)).out (h _ (.tail _ (.head _))).out (h _ (.tail _ (.tail _ (.head _)))).out
def qb6:Wr:=w1 J5 qdN (fun l=>[LLe l 1048576,wU l 1048576])
theorem qco:qH Tryz.prog 44 qb6:=zK fun l h=>qeF l (h _ (.head _)).out (h _ (.tail _ (.head _))).out
def qbX:Wr:=w2 J5 J5 (fun _ _=>rB true) (fun l m=>[JZ l m,LLe l maxLen,wU l maxLen])
theorem qdK:qH Tryz.prog 48 qbX:=qI fun l m h=>by
 obtain rfl:=(h _ (.head _)).out
 exact qfb l (h _ (.tail _ (.head _))).out (h _ (.tail _ (.tail _ (.head _)))).out
end Go.Proofs.YtececadpjelanaaGreat.Ai
namespace Go.Proofs.YtececadpjelanaaGreat.Ai
open Go
set_option maxRecDepth 100000
variable [qh]
def jk (t:qx)(n:Int):Int:=if zU t.nodes n<0 then -1 else if szL t.ties (zU t.nodes n)<0 then -1 else szL t.ties (zU t.nodes n)
def kS (t:qn)(n:Int):Int:=if szL t.times n<0 then -1 else if szL t.vals (szL t.times n)<0 then -1 else szL t.vals (szL t.times n)
theorem qkF:∀ (l:List qf) (n:Int),0<=n->szF zh l n<=n/\(0<=szF zh l n->∀ q∈l,(q.name.size:Int)<=n/\(q.label.length:Int)<=n)
 | [],n,h=>⟨Int.le_refl _,fun _ q hq=>by cases hq⟩
 | q::r,n,h=>by
   have h0:=V2 q h
   unfold szF
   by_cases hn:zh q n<0
   . rw [if_pos hn];exact ⟨by omega,fun h=>by omega⟩
   . rw [if_neg hn]
     have ih:=qkF r (zh q n) (by omega)
     refine ⟨by omega,fun h1 x hx=>?_⟩
     rcases List.mem_cons.1 hx with rfl | hx
     . exact qdX (by omega)
     . have:=ih.2 h1 x hx;omega
theorem v6 {l:List qf}{n:Int}(h:0<=n):zU l n<=n/\(0<=zU l n->(l.length:Int)<=n/\∀ q∈l,(q.name.size:Int)<=n/\(q.label.length:Int)<=n):=by
 unfold zU
 split
 . exact ⟨by omega,fun h=>by omega⟩
 . have:=qkF l (n-l.length) (by omega)
   refine ⟨by omega,fun h1=>⟨by omega,fun q hq=>?_⟩⟩
   have:=this.2 h1 q hq
   omega
theorem qhW (t:qx)(n:Int)(h1:t.nodes.length<=maxLen)(h2:t.ties.length<=maxLen)(h3:∀ q∈t.nodes,wL q maxLen)(hn:0<=n/\n<=9223372036854775807):qe Tryz.prog 9 [zk t,aI n] (rI (jk t n)):=by
 refine qe.of qc (fn:=Tryz.f9) (c:=Tryz.f9.body.getD .skip) (dr:=fun n=>qa 0 [] n) Tryz.func9 rfl (by kernel_rfl) (by kernel_rfl) (by kernel_rfl) ?_
 obtain ⟨f,hf⟩:∃ f,f=zU:=⟨_,rfl⟩
 obtain ⟨g,hg⟩:∃ g:List Tie->Int->Int,g=szL:=⟨_,rfl⟩
 have hO:qm Tryz.prog (qL [(37,qbA f),(38,qgP g)]):=by subst hf hg;exact qb qcq (qb qd6 qd)
 obtain ⟨cs,ps,hr⟩:=t
 have h1:cs.length<=maxLen:=h1
 have h2:ps.length<=maxLen:=h2
 have h3:∀ q∈cs,wL q maxLen:=h3
 have h4:f cs n<=n:=by rw [hf];exact (v6 hn.1).1
 refine SEx.go (X:=XX) qc (fun n=>qa [] [] n) (fun _=>none) hO 60 ?_
 intro M R L N m0 m1 m2 m3 m4 m5
 cases M
 cbv
 repeat' first | refine m1 _ _ ?_ ?_ | refine m2 _ _ fun h=>?_ | refine m3 _ ?_ | (refine m4 _ _ (Hd.out ?_);try first | rw [hks] | rw [hk2] | rw [hk3]) | (refine m5 _ _ ?_;cbv)
 all_goals (clear m1 m2 m3 m4 m5;cases m0;(try clear hks;try clear hk2;try clear hk3);try dsimp only)
 all_goals try simp only [sm] at *
 all_goals first
  | exact ⟨h1⟩
  | exact ⟨h2⟩
  | exact ⟨h3⟩
  | exact ⟨hn⟩
  | exact ⟨⟨by omega,by omega⟩⟩
  | (subst hf hg;simp only [Zn,jk];rw [if_pos (by assumption)];done)
  | (subst hf hg;simp only [Zn,jk];rw [if_neg (by omega),if_pos (by assumption)];done)
  | (subst hf hg;simp only [Zn,jk];rw [if_neg (by omega),if_neg (by omega)];done)
  | trace_state
theorem qe9 (t:qn)(n:Int)(h1:t.times.length<=maxLen)(h2:t.vals.length<=maxLen)(hn:0<=n/\n<=9223372036854775807):qe Tryz.prog 10 [zB t,aI n] (rI (kS t n)):=by
 refine qe.of qc (fn:=Tryz.f10) (c:=Tryz.f10.body.getD .skip) (dr:=fun n=>qa 0 [] n) Tryz.func10 rfl (by kernel_rfl) (by kernel_rfl) (by kernel_rfl) ?_
 obtain ⟨g,hg⟩:∃ g:List Int->Int->Int,g=szL:=⟨_,rfl⟩
 have hO:qm Tryz.prog (qL [(39,Vx g)]):=by subst hg;exact qb vr qd
 obtain ⟨nw,cs,ps⟩:=t
 have h1:cs.length<=maxLen:=h1
 have h2:ps.length<=maxLen:=h2
 have h4:g cs n<=n:=by rw [hg];exact qfq _ hn.1
 refine SEx.go (X:=XX) qc (fun n=>qa [] [] n) (fun _=>none) hO 60 ?_
 intro M R L N m0 m1 m2 m3 m4 m5
 cases M
 cbv
 repeat' first | refine m1 _ _ ?_ ?_ | refine m2 _ _ fun h=>?_ | refine m3 _ ?_ | (refine m4 _ _ (Hd.out ?_);try first | rw [hks] | rw [hk2] | rw [hk3]) | (refine m5 _ _ ?_;cbv)
 all_goals (clear m1 m2 m3 m4 m5;cases m0;(try clear hks;try clear hk2;try clear hk3);try dsimp only)
 all_goals try simp only [sm] at *
 all_goals first
  | exact ⟨h1⟩
  | exact ⟨h2⟩
  | exact ⟨hn⟩
  | exact ⟨⟨by omega,by omega⟩⟩
  | (subst hg;simp only [Zn,kS];rw [if_pos (by assumption)];done)
  | (subst hg;simp only [Zn,kS];rw [if_neg (by omega),if_pos (by assumption)];done)
  | (subst hg;simp only [Zn,kS];rw [if_neg (by omega),if_neg (by omega)];done)
  | trace_state
theorem qhE (t:qx)(h1:t.nodes.length<=1048576)(h2:t.ties.length<=1048576)(h3:∀ q∈t.nodes,q.label.length<=1048576):qe Tryz.prog 12 [zk t] (qmB t):=by
 refine qe.of qc (fn:=Tryz.f12) (c:=Tryz.f12.body.getD .skip) (dr:=fun n=>qa 0 [] n) Tryz.func12 rfl (by kernel_rfl) (by kernel_rfl) (by kernel_rfl) ?_
 have hO:qm Tryz.prog (qL [(44,qb6),(45,qgu)]):=qb qco (qb qei qd)
 obtain ⟨cs,ps,hr⟩:=t
 have h1:cs.length<=1048576:=h1
 have h2:ps.length<=1048576:=h2
 have h3:∀ q∈cs,q.label.length<=1048576:=h3
 refine SEx.go (X:=XX) qc (fun n=>qa [] [] n) (fun n=>qa none qos n) hO 8 ?_
 intro M R L N m0 m1 m2 m3 m4 m5
 cases M
 cbv
 repeat' first | refine m1 _ _ ?_ ?_ | refine m2 _ _ fun h=>?_ | refine m3 _ ?_ | (refine m4 _ _ (Hd.out ?_);try first | rw [hks] | rw [hk2] | rw [hk3]) | (refine m5 _ _ ?_;cbv)
 all_goals (clear m1 m2 m3 m4 m5;cases m0;(try clear hks;try clear hk2;try clear hk3);try dsimp only)
 all_goals try simp only [sm] at *
 all_goals first
  | exact ⟨h1⟩
  | exact ⟨h2⟩
  | exact ⟨h3⟩
  | rfl
  | trace_state
theorem qeV (t:qn)(h1:t.times.length<=1048576)(h2:t.vals.length<=1048576):qe Tryz.prog 13 [zB t] (wz t):=by
 refine qe.of qc (fn:=Tryz.f13) (c:=Tryz.f13.body.getD .skip) (dr:=fun n=>qa 0 [] n) Tryz.func13 rfl (by kernel_rfl) (by kernel_rfl) (by kernel_rfl) ?_
 have hO:qm Tryz.prog (qL [(23,Wv)]):=qb K6 qd
 obtain ⟨nw,cs,ps⟩:=t
 have h1:cs.length<=1048576:=h1
 have h2:ps.length<=1048576:=h2
 refine SEx.go (X:=XX) qc (fun n=>qa [] [] n) (fun n=>qa none qoy n) hO 8 ?_
 intro M R L N m0 m1 m2 m3 m4 m5
 cases M
 cbv
 repeat' first | refine m1 _ _ ?_ ?_ | refine m2 _ _ fun h=>?_ | refine m3 _ ?_ | (refine m4 _ _ (Hd.out ?_);try first | rw [hks] | rw [hk2] | rw [hk3]) | (refine m5 _ _ ?_;cbv)
 all_goals (clear m1 m2 m3 m4 m5;cases m0;(try clear hks;try clear hk2;try clear hk3);try dsimp only)
 all_goals try simp only [sm] at *
 all_goals first
  | exact ⟨h1⟩
  | exact ⟨h2⟩
  | rfl
  | trace_state
theorem qig (t:qx)(h1:t.nodes.length<=maxLen)(h2:t.ties.length<=maxLen)(h3:∀ q∈t.nodes,q.label.length<=maxLen):qe Tryz.prog 16 [zk t,zk t] (rB true):=by
 refine qe.of qc (fn:=Tryz.f16) (c:=Tryz.f16.body.getD .skip) (dr:=fun n=>qa 0 [] n) Tryz.func16 rfl (by kernel_rfl) (by kernel_rfl) (by kernel_rfl) ?_
 have hO:qm Tryz.prog (qL [(48,qbX),(49,qf1)]):=qb qdK (qb qfa qd)
 obtain ⟨cs,ps,hr⟩:=t
 have h1:cs.length<=maxLen:=h1
 have h2:ps.length<=maxLen:=h2
 have h3:∀ q∈cs,q.label.length<=maxLen:=h3
 refine SEx.go (X:=XX) qc (fun n=>qa [] [] n) (fun _=>none) hO 60 ?_
 intro M R L N m0 m1 m2 m3 m4 m5
 cases M
 cbv
 repeat' first | refine m1 _ _ ?_ ?_ | refine m2 _ _ fun h=>?_ | refine m3 _ ?_ | (refine m4 _ _ (Hd.out ?_);try first | rw [hks] | rw [hk2] | rw [hk3]) | (refine m5 _ _ ?_;cbv)
 all_goals (clear m1 m2 m3 m4 m5;cases m0;(try clear hks;try clear hk2;try clear hk3);try dsimp only)
 all_goals try simp only [sm] at *
 all_goals first
  | exact ⟨h1⟩
  | exact ⟨h2⟩
  | exact ⟨h3⟩
  | exact ⟨rfl⟩
  | rfl
  | contradiction
  | exact absurd trivial (by assumption)
  | trace_state
theorem qev (t:qn)(h1:t.times.length<=maxLen)(h2:t.vals.length<=maxLen):qe Tryz.prog 17 [zB t,zB t] (rB true):=by
 refine qe.of qc (fn:=Tryz.f17) (c:=Tryz.f17.body.getD .skip) (dr:=fun n=>qa 0 [] n) Tryz.func17 rfl (by kernel_rfl) (by kernel_rfl) (by kernel_rfl) ?_
 have hO:qm Tryz.prog (qL [(25,WD)]):=qb K4 qd
 obtain ⟨nw,cs,ps⟩:=t
 have h1:cs.length<=maxLen:=h1
 have h2:ps.length<=maxLen:=h2
 refine SEx.go (X:=XX) qc (fun n=>qa [] [] n) (fun _=>none) hO 60 ?_
 intro M R L N m0 m1 m2 m3 m4 m5
 cases M
 cbv
 repeat' first | refine m1 _ _ ?_ ?_ | refine m2 _ _ fun h=>?_ | refine m3 _ ?_ | (refine m4 _ _ (Hd.out ?_);try first | rw [hks] | rw [hk2] | rw [hk3]) | (refine m5 _ _ ?_;cbv)
 all_goals (clear m1 m2 m3 m4 m5;cases m0;(try clear hks;try clear hk2;try clear hk3);try dsimp only)
 all_goals try simp only [sm] at *
 all_goals first
  | exact ⟨h1⟩
  | exact ⟨h2⟩
  | exact ⟨rfl⟩
  | rfl
  | contradiction
  | exact absurd trivial (by assumption)
  | trace_state
def qfZ (f:qx->Int->Int):Wr:=w2 q7 dcI (fun t n=>rI (f t n)) (fun t n=>[LLe t.nodes maxLen,LLe t.ties maxLen,qfY t.nodes maxLen,qfF n])
theorem qeX:qH Tryz.prog 9 (qfZ jk):=qI fun t n h=>qhW t n (h _ (.head _)).out (h _ (.tail _ (.head _))).out (h _ (.tail _ (.tail _ (.head _)))).out (h _ (.tail _ (.tail _ (.tail _ (.head _))))).out
def qb2 (f:qn->Int->Int):Wr:=w2 zj dcI (fun t n=>rI (f t n)) (fun t n=>[LLe t.times maxLen,LLe t.vals maxLen,qfF n])
theorem qcS:qH Tryz.prog 10 (qb2 kS):=qI fun t n h=>qe9 t n (h _ (.head _)).out (h _ (.tail _ (.head _))).out (h _ (.tail _ (.tail _ (.head _)))).out
def qfV:Wr:=w1 q7 qmB (fun t=>[LLe t.nodes 1048576,LLe t.ties 1048576,wU t.nodes 1048576])
theorem qfD:qH Tryz.prog 12 qfV:=zK fun t h=>qhE t (h _ (.head _)).out (h _ (.tail _ (.head _))).out (h _ (.tail _ (.tail _ (.head _)))).out
def qdI:Wr:=w1 zj wz (fun t=>[LLe t.times 1048576,LLe t.vals 1048576])
theorem qbz:qH Tryz.prog 13 qdI:=zK fun t h=>qeV t (h _ (.head _)).out (h _ (.tail _ (.head _))).out
def qgz:Wr:=w2 q7 q7 (fun _ _=>rB true) (fun t u=>[JZ t u,LLe t.nodes maxLen,LLe t.ties maxLen,wU t.nodes maxLen])
theorem qdP:qH Tryz.prog 16 qgz:=qI fun t u h=>by
 obtain rfl:=(h _ (.head _)).out
 exact qig t (h _ (.tail _ (.head _))).out (h _ (.tail _ (.tail _ (.head _)))).out (h _ (.tail _ (.tail _ (.tail _ (.head _))))).out
def qcw:Wr:=w2 zj zj (fun _ _=>rB true) (fun t u=>[JZ t u,LLe t.times maxLen,LLe t.vals maxLen])
theorem qdw:qH Tryz.prog 17 qcw:=qI fun t u h=>by
 obtain rfl:=(h _ (.head _)).out
 exact qev t (h _ (.tail _ (.head _))).out (h _ (.tail _ (.tail _ (.head _)))).out
theorem qhc {t:qx}{n:Int}(h0:0<=n)(h:0<=jk t n):(t.nodes.length:Int)<=n/\(t.ties.length:Int)<=n/\(∀ q∈t.nodes,(q.name.size:Int)<=n/\(q.label.length:Int)<=n)/\jk t n<=n:=by
 unfold jk at h ⊢
 have h1:=v6 (l:=t.nodes) h0
 split at h
 . omega
 . rename_i ha
   rw [if_neg ha]
   split at h
   . omega
   . rename_i hb
     rw [if_neg hb]
     have h2:=h1.2 (by omega)
     have h3:=qfq t.ties (n:=zU t.nodes n) (by omega)
     refine ⟨h2.1,?_,h2.2,by omega⟩
     unfold szL at hb
     split at hb<;>omega
theorem qfK {t:qn}{n:Int}(h0:0<=n)(h:0<=kS t n):(t.times.length:Int)<=n/\(t.vals.length:Int)<=n:=by
 unfold kS at h
 split at h
 . omega
 . rename_i ha
   split at h
   . omega
   . rename_i hb
     unfold szL at ha hb
     constructor
     . split at ha<;>omega
     . split at hb
       . omega
       . split at ha<;>split at hb<;>omega
end Go.Proofs.YtececadpjelanaaGreat.Ai
namespace Go.Proofs.YtececadpjelanaaGreat.Ai
open Go
set_option maxRecDepth 100000
variable [qh]
def qeZ (p:Nat->Bool)(n:Nat):Bool:=(List.range n).all p
theorem qg0 {p:Nat->Bool}{n i:Nat}(hi:i<n)(h:p i=false):qeZ p n=false:=by
 unfold qeZ
 rw [List.all_eq_false]
 exact ⟨i,List.mem_range.2 hi,by rw [h];simp⟩
theorem qbF {p:Nat->Bool}{n:Nat}(h:∀ j,j<n->p j=true):qeZ p n=true:=by
 unfold qeZ
 rw [List.all_eq_true]
 exact fun j hj=>h j (List.mem_range.1 hj)
theorem qdd {p:Nat->Bool}{n:Nat}(h:qeZ p n=true):∀ j,j<n->p j=true:=by
 unfold qeZ at h
 rw [List.all_eq_true] at h
 exact fun j hj=>h j (List.mem_range.2 hj)
structure IIn (n:Int):Prop where out:inI n
def zy (n:Int):Int:=if n<0 then IntKind.i64.wrap (-n) else n
theorem qjz {n:Int}(h:inI n):IntKind.i64.wrap (-n)=if n=-9223372036854775808 then n else -n:=by
 rw [jC] at h
 split
 . rename_i e;subst e;decide
 . exact qy (by omega) (by omega)
theorem qbR (n:Int):qe Tryz.prog 132 [aI n] (rI (zy n)):=by
 refine qe.of qc (fn:=Tryz.f132) (c:=Tryz.f132.body.getD .skip) (dr:=fun n=>qa 0 [] n) Tryz.func132 rfl (by kernel_rfl) (by kernel_rfl) (by kernel_rfl) ?_
 refine SEx.go (X:=XX) qc (fun n=>qa [] [] n) (fun _=>none) qd 60 ?_
 intro M R L N m0 m1 m2 m3 m4 m5
 cases M
 cbv
 repeat' first | refine m1 _ _ ?_ ?_ | refine m2 _ _ fun h=>?_ | refine m3 _ ?_ | (refine m4 _ _ (Hd.out ?_);try first | rw [hks] | rw [hk2] | rw [hk3]) | (refine m5 _ _ ?_;cbv)
 all_goals (clear m1 m2 m3 m4 m5;cases m0;(try clear hks;try clear hk2;try clear hk3);try dsimp only)
 all_goals try simp only [sm] at *
 . simp only [Zn,zy];rw [if_pos (by assumption),Int.zero_sub]
 . simp only [Zn,zy];rw [if_neg (by omega)]
theorem qc4 (n:Int)(h:inI n):qe Tryz.prog 142 [aI n] (rI (zy n)):=by
 refine qe.of qc (fn:=Tryz.f142) (c:=Tryz.f142.body.getD .skip) (dr:=fun n=>qa 0 [] n) Tryz.func142 rfl (by kernel_rfl) (by kernel_rfl) (by kernel_rfl) ?_
 refine SEx.go (X:=XX) qc (fun n=>qa [] [] n) (fun _=>none) qd 60 ?_
 intro M R L N m0 m1 m2 m3 m4 m5
 cases M
 cbv
 repeat' first | refine m1 _ _ ?_ ?_ | refine m2 _ _ fun h=>?_ | refine m3 _ ?_ | (refine m4 _ _ (Hd.out ?_);try first | rw [hks] | rw [hk2] | rw [hk3]) | (refine m5 _ _ ?_;cbv)
 all_goals (clear m1 m2 m3 m4 m5;cases m0;(try clear hks;try clear hk2;try clear hk3);try dsimp only)
 all_goals try simp only [sm] at *
 all_goals simp only [Zn,zy,Int.zero_sub]
 all_goals rw [qjz h]
 all_goals rw [jC] at h
 all_goals (split<;>split<;>(try split at *)<;>omega)
def vY (f:Int->Int):Wr:=w1 dcI (fun n=>rI (f n)) (fun n=>[IIn n])
theorem wM:qH Tryz.prog 132 (vY zy):=zK fun n _=>qbR n
theorem vh:qH Tryz.prog 142 (vY zy):=zK fun n h=>qc4 n (h _ (.head _)).out
def lP (l:List Int)(i:Nat):Bool:=decide (¬l.getD i 0=0/\-3<=l.getD i 0/\l.getD i 0<=3/\(0<i->zy (l.getD (i-1) 0)<zy (l.getD i 0)))
def qX (l:List Int):Bool:=qeZ (lP l) l.length
theorem Vm (l:List Int)(h1:l.length<=maxLen)(hx:∀ n∈l,inI n):qe Tryz.prog 169 [aIs l] (rB (qX l)):=by
 refine qe.of qc (fn:=Tryz.f169) (c:=Tryz.f169.body.getD .skip) (dr:=fun n=>qa 0 [] n) Tryz.func169 rfl (by kernel_rfl) (by kernel_rfl) (by kernel_rfl) ?_
 obtain ⟨m,hm⟩:∃ m,m=l.length:=⟨_,rfl⟩
 obtain ⟨r,hr⟩:∃ r,r=qX l:=⟨_,rfl⟩
 obtain ⟨f,hf⟩:∃ f,f=zy:=⟨_,rfl⟩
 have hO:qm Tryz.prog (qL [(142,vY f)]):=by subst hf;exact qb vh qd
 unfold maxLen at h1
 rw [<-hr]
 refine SEx.go (X:=XX) qc (fun n=>qa [] [(2,[0,5,6,7])] n) (fun _=>none) hO 60 ?_
 intro M R L N m0 m1 m2 m3 m4 m5
 cases M
 cbv
 repeat' first | refine m1 _ _ ?_ ?_ | refine m2 _ _ fun h=>?_ | refine m3 _ ?_ | (refine m4 _ _ (Hd.out ?_);generalize hks:(List.cons _ _:List K)=ks) | (refine m5 _ _ ?_;cbv)
 all_goals (clear m1 m2 m3 m4 m5;cases m0;try dsimp only)
 all_goals try simp only [sm] at *
 refine ⟨SEx.same (SEx.ind (α:=Nat) (fun i=>⟨38,[(0,bL (.i l)),(5,bL (.i l)),(6,bI m),(7,bI i)],[]⟩) (fun _=>rB r) (fun i=>i<=m/\∀ j,j<i->lP l j=true) (fun i=>m-i) 0 ⟨by omega,fun j h=>by omega⟩ ?_) (by rw [hm];rfl) rfl⟩
 rintro i ⟨hi,hj⟩ ih
 rw [<-hks]
 have hw:0<(i:Int)->IntKind.i64.wrap ((i:Int)-1)=((i-1:Nat):Int):=fun h=>by rw [qy (by omega) (by omega)];omega
 have hbad:i<l.length->lP l i=false->r=false:=fun h h2=>by rw [hr,qX,qg0 h h2]
 have hgo:∀ (h:i<m) (h2:lP l i=true),i+1<=m/\∀ j,j<i+1->lP l j=true:=fun h h2=>⟨h,fun j hj'=>by
  by_cases e:j=i
  . rw [e];exact h2
  . exact hj j (by omega)⟩
 refine SEx.go (X:=XX) qc (fun n=>qa [] [(2,[0,5,6,7])] n) (fun _=>none) hO 60 ?_
 intro M R L N m0 m1 m2 m3 m4 m5
 cases M
 cbv
 repeat' first | refine m1 _ _ ?_ ?_ | refine m2 _ _ fun h=>?_ | refine m3 _ ?_ | (refine m4 _ _ (Hd.out ?_);try first | rw [hks] | rw [hk2] | rw [hk3]) | (refine m5 _ _ ?_;cbv)
 all_goals (clear m1 m2 m3 m4 m5;cases m0;(try clear hks;try clear hk2;try clear hk3);try dsimp only)
 all_goals try simp only [sm] at *
 all_goals (try rw [hw (by omega)] at *)
 all_goals (try simp only [Int.toNat_natCast] at *)
 all_goals (clear hO;subst hf)
 all_goals first
  | omega
  | exact ⟨hx _ (qu (z:=(0:Int)) (by omega)).out⟩
  | (have hb:=hbad (by omega) (decide_eq_false (by rintro ⟨h1,h2,h3,h4⟩;first | contradiction | omega | (have:=h4 (by omega);omega)))
     rw [hb];rfl)
  | (have hp:lP l i=true:=decide_eq_true ⟨by assumption,by assumption,by assumption,fun h=>by first | assumption | (exfalso;omega)⟩
     simp only [ql (show i<9223372036854775807 by omega)]
     exact ⟨(ih (i+1) (hgo (by omega) hp) (by omega)).same rfl rfl⟩)
  | (have hee:i=m:=by omega
     subst hee
     rw [hr,qX,qbF (by rw [<-hm];exact hj)];rfl)
theorem yt (l:List Int)(h1:l.length<=maxLen)(hx:∀ n∈l,inI n):qe Tryz.prog 165 [aIs l] (rB (qX l)):=by
 refine qe.of qc (fn:=Tryz.f165) (c:=Tryz.f165.body.getD .skip) (dr:=fun n=>qa 0 [] n) Tryz.func165 rfl (by kernel_rfl) (by kernel_rfl) (by kernel_rfl) ?_
 obtain ⟨m,hm⟩:∃ m,m=l.length:=⟨_,rfl⟩
 obtain ⟨r,hr⟩:∃ r,r=qX l:=⟨_,rfl⟩
 obtain ⟨f0,hf0⟩:∃ f,f=kj:=⟨_,rfl⟩
 obtain ⟨f,hf⟩:∃ f,f=zy:=⟨_,rfl⟩
 have hO:qm Tryz.prog (qL [(70,qaB f0),(132,vY f)]):=by subst hf hf0;exact qb Qz (qb wM qd)
 unfold maxLen at h1
 rw [<-hr]
 refine SEx.go (X:=XX) qc (fun n=>qa [] [(2,[0,5,6,7])] n) (fun _=>none) hO 60 ?_
 intro M R L N m0 m1 m2 m3 m4 m5
 cases M
 cbv
 repeat' first | refine m1 _ _ ?_ ?_ | refine m2 _ _ fun h=>?_ | refine m3 _ ?_ | (refine m4 _ _ (Hd.out ?_);generalize hks:(List.cons _ _:List K)=ks) | (refine m5 _ _ ?_;cbv)
 all_goals (clear m1 m2 m3 m4 m5;cases m0;try dsimp only)
 all_goals try simp only [sm] at *
 refine ⟨SEx.same (SEx.ind (α:=Nat) (fun i=>⟨35,[(0,bL (.i l)),(5,bL (.i l)),(6,bI m),(7,bI i)],[]⟩) (fun _=>rB r) (fun i=>i<=m/\∀ j,j<i->lP l j=true) (fun i=>m-i) 0 ⟨by omega,fun j h=>by omega⟩ ?_) (by rw [hm];rfl) rfl⟩
 rintro i ⟨hi,hj⟩ ih
 rw [<-hks]
 have hw:0<(i:Int)->IntKind.i64.wrap ((i:Int)-1)=((i-1:Nat):Int):=fun h=>by rw [qy (by omega) (by omega)];omega
 have hbad:i<l.length->lP l i=false->r=false:=fun h h2=>by rw [hr,qX,qg0 h h2]
 have hgo:∀ (h:i<m) (h2:lP l i=true),i+1<=m/\∀ j,j<i+1->lP l j=true:=fun h h2=>⟨h,fun j hj'=>by
  by_cases e:j=i
  . rw [e];exact h2
  . exact hj j (by omega)⟩
 have hft:f0 (l.getD i 0) (-3) 3=true->-3<=l.getD i 0/\l.getD i 0<=3:=by subst hf0;intro h;simpa [kj] using h
 have hff:f0 (l.getD i 0) (-3) 3=false->¬(-3<=l.getD i 0/\l.getD i 0<=3):=by subst hf0;intro h h2;simp only [kj,decide_eq_true h2.1,decide_eq_true h2.2] at h;cases h
 refine SEx.go (X:=XX) qc (fun n=>qa [] [(2,[0,5,6,7])] n) (fun _=>none) hO 60 ?_
 intro M R L N m0 m1 m2 m3 m4 m5
 cases M
 cbv
 repeat' first | refine m1 _ _ ?_ ?_ | refine m2 _ _ fun h=>?_ | refine m3 _ ?_ | (refine m4 _ _ (Hd.out ?_);try first | rw [hks] | rw [hk2] | rw [hk3]) | (refine m5 _ _ ?_;cbv)
 all_goals (clear m1 m2 m3 m4 m5;cases m0;(try clear hks;try clear hk2;try clear hk3);try dsimp only)
 all_goals try simp only [sm] at *
 all_goals (try (have hA:=hft (by assumption);have hA1:=hA.1;have hA2:=hA.2))
 all_goals (try have hB:=hff (by assumption))
 all_goals (try rw [hw (by omega)] at *)
 all_goals (try simp only [Int.toNat_natCast] at *)
 all_goals (clear hO;subst hf)
 all_goals first
  | omega
  | exact ⟨hx _ (qu (z:=(0:Int)) (by omega)).out⟩
  | (have hb:=hbad (by omega) (decide_eq_false (by rintro ⟨h1,h2,h3,h4⟩;first | contradiction | omega | (have:=h4 (by omega);omega)))
     rw [hb];rfl)
  | (have hp:lP l i=true:=decide_eq_true ⟨by assumption,by assumption,by assumption,fun h=>by first | assumption | (exfalso;omega)⟩
     simp only [ql (show i<9223372036854775807 by omega)]
     exact ⟨(ih (i+1) (hgo (by omega) hp) (by omega)).same rfl rfl⟩)
  | (have hee:i=m:=by omega
     subst hee
     rw [hr,qX,qbF (by rw [<-hm];exact hj)];rfl)
structure ZL (l:List Int):Prop where
 len:l.length<=maxLen
 all:∀ n∈l,inI n
def Qn (f:List Int->Bool):Wr:=w1 kB (fun l=>rB (f l)) (fun l=>[ZL l])
theorem JI:qH Tryz.prog 165 (Qn qX):=zK fun l h=>yt l (h _ (.head _)).len (h _ (.head _)).all
theorem ZD:qH Tryz.prog 169 (Qn qX):=zK fun l h=>Vm l (h _ (.head _)).len (h _ (.head _)).all
end Go.Proofs.YtececadpjelanaaGreat.Ai
namespace Go.Proofs.YtececadpjelanaaGreat.Ai
open Go
set_option maxRecDepth 100000
variable [qh]
def QZ (l:List Int)(v:Int):Bool:=decide (0<=zq (fun x=>v == x) l 0)
theorem qkf (l:List Int)(v:Int)(h1:l.length<=maxLen):qe Tryz.prog 143 [aIs l,aI v] (rB (QZ l v)):=by
 refine qe.of qc (fn:=Tryz.f143) (c:=Tryz.f143.body.getD .skip) (dr:=fun n=>qa 0 [] n) Tryz.func143 rfl (by kernel_rfl) (by kernel_rfl) (by kernel_rfl) ?_
 obtain ⟨f,hf⟩:∃ f:List Int->Int->Int,f=fun l v=>zq (fun x=>v == x) l 0:=⟨_,rfl⟩
 have hO:qm Tryz.prog (qL [(170,qgl f)]):=by subst hf;exact qb qfE qd
 refine SEx.go (X:=XX) qc (fun n=>qa [] [] n) (fun _=>none) hO 60 ?_
 intro M R L N m0 m1 m2 m3 m4 m5
 cases M
 cbv
 repeat' first | refine m1 _ _ ?_ ?_ | refine m2 _ _ fun h=>?_ | refine m3 _ ?_ | (refine m4 _ _ (Hd.out ?_);try first | rw [hks] | rw [hk2] | rw [hk3]) | (refine m5 _ _ ?_;cbv)
 all_goals (clear m1 m2 m3 m4 m5;cases m0;(try clear hks;try clear hk2;try clear hk3);try dsimp only)
 all_goals try simp only [sm] at *
 all_goals first
  | exact ⟨h1⟩
  | (subst hf;rfl)
theorem qnq (l:List Int)(v:Int)(h1:l.length<=maxLen):qe Tryz.prog 93 [aIs l,aI v] (rB (QZ l v)):=by
 refine qe.of qc (fn:=Tryz.f93) (c:=Tryz.f93.body.getD .skip) (dr:=fun n=>qa 0 [] n) Tryz.func93 rfl (by kernel_rfl) (by kernel_rfl) (by kernel_rfl) ?_
 unfold maxLen at h1
 obtain ⟨g,hg⟩:∃ g:Nat->Bool,g=fun i=>decide (0<=zq (fun x=>v == x) (l.drop i) i):=⟨_,rfl⟩
 rw [show QZ l v=g 0 by rw [hg];rfl]
 refine SEx.go (X:=XX) qc (fun n=>qa [] [(2,[1,7,8,9])] n) (fun _=>none) qd 60 ?_
 intro M R L N m0 m1 m2 m3 m4 m5
 cases M
 cbv
 repeat' first | refine m1 _ _ ?_ ?_ | refine m2 _ _ fun h=>?_ | refine m3 _ ?_ | (refine m4 _ _ (Hd.out ?_);generalize hks:(List.cons _ _:List K)=ks) | (refine m5 _ _ ?_;cbv)
 all_goals (clear m1 m2 m3 m4 m5;cases m0;try dsimp only)
 all_goals try simp only [sm] at *
 obtain ⟨m,hm⟩:∃ m,m=l.length:=⟨_,rfl⟩
 refine ⟨SEx.same (SEx.idx m (fun i=>⟨17,[(1,bI v),(7,bL (.i l)),(8,bI m),(9,bI i)],[]⟩) (fun i=>rB (g i)) ?_) (by rw [hm];rfl) rfl⟩
 intro i hi ih
 rw [<-hks]
 refine SEx.go (X:=XX) qc (fun n=>qa [] [(2,[1,7,8,9])] n) (fun _=>none) qd 60 ?_
 intro M R L N m0 m1 m2 m3 m4 m5
 cases M
 cbv
 repeat' first | refine m1 _ _ ?_ ?_ | refine m2 _ _ fun h=>?_ | refine m3 _ ?_ | (refine m4 _ _ (Hd.out ?_);try first | rw [hks] | rw [hk2] | rw [hk3]) | (refine m5 _ _ ?_;cbv)
 all_goals (clear m1 m2 m3 m4 m5;cases m0;(try clear hks;try clear hk2;try clear hk3);try dsimp only)
 all_goals try simp only [sm] at *
 all_goals first
  | omega
  | (have hh:l.getD i 0=v:=by assumption
     rw [hg];simp only [kR];rw [kX (z:=(0:Int)) (by omega) (by rw [hh];simp),decide_eq_true (by omega)])
  | (have hh:¬l.getD i 0=v:=by assumption
     simp only [ql (show i<9223372036854775807 by omega)]
     have e:g i=g (i+1):=by rw [hg];simp only;rw [Qa (z:=(0:Int)) (by omega) (beq_eq_false_iff_ne.2 (fun e=>hh e.symm))]
     exact ⟨(ih (by omega)).same rfl (by rw [e])⟩)
  | (rw [hg];simp only [kR];rw [kZ (by omega)];rfl)
  | trace_state
def qeL (f:List Int->Int->Bool):Wr:=w2 kB dcI (fun l v=>rB (f l v)) (fun l _=>[LLe l maxLen])
theorem Vf:qH Tryz.prog 93 (qeL QZ):=qI fun l v h=>qnq l v (h _ (.head _)).out
theorem qb8:qH Tryz.prog 143 (qeL QZ):=qI fun l v h=>qkf l v (h _ (.head _)).out
def Qg (q:qf):Bool:=jK q.name 0&&qX q.label&&(decide (0<=q.watch)&&decide (q.watch<=3))
theorem yD (q:qf)(hs:q.name.size<=maxLen)(hl:q.label.length<=maxLen)(hx:∀ n∈q.label,inI n):qe Tryz.prog 130 [J7 q] (rB (Qg q)):=by
 refine qe.of qc (fn:=Tryz.f130) (c:=Tryz.f130.body.getD .skip) (dr:=fun n=>qa 0 [] n) Tryz.func130 rfl (by kernel_rfl) (by kernel_rfl) (by kernel_rfl) ?_
 obtain ⟨f0,hf0⟩:∃ f,f=kj:=⟨_,rfl⟩
 obtain ⟨f1,hf1⟩:∃ f,f=(jK · 0):=⟨_,rfl⟩
 obtain ⟨f2,hf2⟩:∃ f,f=qX:=⟨_,rfl⟩
 have hO:qm Tryz.prog (qL [(164,qaG f1),(165,Qn f2),(70,qaB f0)]):=by subst hf0 hf1 hf2;exact qb qhL (qb JI (qb Qz qd))
 obtain ⟨x1,x2,x3⟩:=q
 refine SEx.go (X:=XX) qc (fun n=>qa [] [] n) (fun _=>none) hO 60 ?_
 intro M R L N m0 m1 m2 m3 m4 m5
 cases M
 cbv
 repeat' first | refine m1 _ _ ?_ ?_ | refine m2 _ _ fun h=>?_ | refine m3 _ ?_ | (refine m4 _ _ (Hd.out ?_);try first | rw [hks] | rw [hk2] | rw [hk3]) | (refine m5 _ _ ?_;cbv)
 all_goals (clear m1 m2 m3 m4 m5;cases m0;(try clear hks;try clear hk2;try clear hk3);try dsimp only)
 all_goals try simp only [sm] at *
 all_goals first
  | exact ⟨hs⟩
  | exact ⟨hl,hx⟩
  | (subst hf0 hf1 hf2;simp only [kR,Qg];simp_all [kj];done)
  | trace_state
theorem yA (q:qf)(hs:q.name.size<=maxLen)(hl:q.label.length<=maxLen)(hx:∀ n∈q.label,inI n):qe Tryz.prog 137 [J7 q] (rB (Qg q)):=by
 refine qe.of qc (fn:=Tryz.f137) (c:=Tryz.f137.body.getD .skip) (dr:=fun n=>qa 0 [] n) Tryz.func137 rfl (by kernel_rfl) (by kernel_rfl) (by kernel_rfl) ?_
 obtain ⟨f1,hf1⟩:∃ f,f=(jK · 0):=⟨_,rfl⟩
 obtain ⟨f2,hf2⟩:∃ f,f=qX:=⟨_,rfl⟩
 have hO:qm Tryz.prog (qL [(168,qaG f1),(169,Qn f2)]):=by subst hf1 hf2;exact qb qid (qb ZD qd)
 obtain ⟨x1,x2,x3⟩:=q
 refine SEx.go (X:=XX) qc (fun n=>qa [] [] n) (fun _=>none) hO 60 ?_
 intro M R L N m0 m1 m2 m3 m4 m5
 cases M
 cbv
 repeat' first | refine m1 _ _ ?_ ?_ | refine m2 _ _ fun h=>?_ | refine m3 _ ?_ | (refine m4 _ _ (Hd.out ?_);try first | rw [hks] | rw [hk2] | rw [hk3]) | (refine m5 _ _ ?_;cbv)
 all_goals (clear m1 m2 m3 m4 m5;cases m0;(try clear hks;try clear hk2;try clear hk3);try dsimp only)
 all_goals try simp only [sm] at *
 all_goals first
  | exact ⟨hs⟩
  | exact ⟨hl,hx⟩
  | (subst hf1 hf2;simp only [kR,Qg];simp_all;done)
  | (subst hf1 hf2;simp only [kR,Qg];rw [decide_eq_false (by omega)];simp;done)
  | trace_state
end Go.Proofs.YtececadpjelanaaGreat.Ai
namespace Go.Proofs.YtececadpjelanaaGreat.Ai
open Go
set_option maxRecDepth 100000
variable [qh]
def wX (x:Int):Bool:=decide (-1<=x)&&decide (x<=1)
def qW (l:List Int):Bool:=qD (fun _ x=>wX x) l 0&&decide (l.length=3)
theorem Wh (l:List Int)(h1:l.length<=maxLen):qe Tryz.prog 71 [aIs l] (rB (qW l)):=by
 refine qe.of qc (fn:=Tryz.f71) (c:=Tryz.f71.body.getD .skip) (dr:=fun n=>qa 0 [] n) Tryz.func71 rfl (by kernel_rfl) (by kernel_rfl) (by kernel_rfl) ?_
 unfold maxLen at h1
 obtain ⟨f0,hf0⟩:∃ f,f=kj:=⟨_,rfl⟩
 have hO:qm Tryz.prog (qL [(70,qaB f0)]):=by subst hf0;exact qb Qz qd
 have hv:∀ x,f0 x (-1) 1=wX x:=by intro x;rw [hf0];rfl
 obtain ⟨c,hc⟩:∃ c,c=decide (l.length=3):=⟨_,rfl⟩
 rw [show qW l=(qD (fun _ x=>wX x) (l.drop 0) 0&&c) by rw [hc];rfl]
 clear hf0
 refine SEx.go (X:=XX) qc (fun n=>qa [] [(2,[0,5,6,7])] n) (fun _=>none) hO 60 ?_
 intro M R L N m0 m1 m2 m3 m4 m5
 cases M
 cbv
 repeat' first | refine m1 _ _ ?_ ?_ | refine m2 _ _ fun h=>?_ | refine m3 _ ?_ | (refine m4 _ _ (Hd.out ?_);generalize hks:(List.cons _ _:List K)=ks) | (refine m5 _ _ ?_;cbv)
 all_goals (clear m1 m2 m3 m4 m5;cases m0;try dsimp only)
 all_goals try simp only [sm] at *
 obtain ⟨m,hm⟩:∃ m,m=l.length:=⟨_,rfl⟩
 refine ⟨SEx.same (SEx.idx m (fun i=>⟨18,[(0,bL (.i l)),(5,bL (.i l)),(6,bI m),(7,bI i)],[]⟩) (fun i=>rB (qD (fun _ x=>wX x) (l.drop i) i&&c)) ?_) (by rw [hm];rfl) rfl⟩
 intro i hi ih
 rw [<-hks]
 refine SEx.go (X:=XX) qc (fun n=>qa [] [(2,[0,5,6,7])] n) (fun _=>none) hO 60 ?_
 intro M R L N m0 m1 m2 m3 m4 m5
 cases M
 cbv
 repeat' first | refine m1 _ _ ?_ ?_ | refine m2 _ _ fun h=>?_ | refine m3 _ ?_ | (refine m4 _ _ (Hd.out ?_);try first | rw [hks] | rw [hk2] | rw [hk3]) | (refine m5 _ _ ?_;cbv)
 all_goals (clear m1 m2 m3 m4 m5;cases m0;(try clear hks;try clear hk2;try clear hk3);try dsimp only)
 all_goals try simp only [sm] at *
 all_goals first
  | omega
  | exact qu (z:=(0:Int)) (by omega)
  | exact ⟨rfl⟩
  | exact ⟨by omega⟩
  | (rw [vS (p:=fun _ x=>wX x) (l:=l) (i:=i) (0:Int) (by omega) (by rw [<-hv];assumption)];rfl)
  | (simp only [ql (show i<9223372036854775807 by omega)];exact ⟨(ih (by omega)).same rfl (by rw [wn (p:=fun _ x=>wX x) (l:=l) (i:=i) (0:Int) (by omega) (by rw [<-hv];assumption)])⟩)
  | skip
 all_goals first
  | (rw [qO (l:=l) (by omega),hc];simp only [kR,Bool.true_and];apply decide_eq_decide.2;omega)
theorem V3 (n:Int):qe Tryz.prog 145 [aI n] (rB (!wX n)):=by
 refine qe.of qc (fn:=Tryz.f145) (c:=Tryz.f145.body.getD .skip) (dr:=fun n=>qa 0 [] n) Tryz.func145 rfl (by kernel_rfl) (by kernel_rfl) (by kernel_rfl) ?_
 refine SEx.go (X:=XX) qc (fun n=>qa [] [] n) (fun _=>none) qd 60 ?_
 intro M R L N m0 m1 m2 m3 m4 m5
 cases M
 cbv
 repeat' first | refine m1 _ _ ?_ ?_ | refine m2 _ _ fun h=>?_ | refine m3 _ ?_ | (refine m4 _ _ (Hd.out ?_);try first | rw [hks] | rw [hk2] | rw [hk3]) | (refine m5 _ _ ?_;cbv)
 all_goals (clear m1 m2 m3 m4 m5;cases m0;(try clear hks;try clear hk2;try clear hk3);try dsimp only)
 all_goals try simp only [sm] at *
 all_goals simp only [kR,wX]
 all_goals first
  | (rw [decide_eq_false (show ¬-1<=n by omega)];rfl)
  | (rw [decide_eq_true (show -1<=n by omega)];rw [Bool.eq_iff_iff];simp;done)
theorem Wb (l:List Int)(h1:l.length<=maxLen):qe Tryz.prog 114 [aIs l] (rB (qW l)):=by
 refine qe.of qc (fn:=Tryz.f114) (c:=Tryz.f114.body.getD .skip) (dr:=fun n=>qa 0 [] n) Tryz.func114 rfl (by kernel_rfl) (by kernel_rfl) (by kernel_rfl) ?_
 obtain ⟨f,hf⟩:∃ f:List Int->Bool,f=fun l=>l.any (fun n=>!wX n):=⟨_,rfl⟩
 have hO:qm Tryz.prog (qL [(111,wCl kB 145 [] (fun l=>rB (f l)) (fun l=>[LLe l maxLen]))]):=by
  subst hf
  exact qb (Va fun l h=>Zo l _ _ _ (fun q _=>V3 q) (h _ (.head _)).out) qd
 have ha:qD (fun _ x=>wX x) l 0=!f l:=by
  rw [hf,show (!List.any l fun n=>!wX n)=l.all wX by rw [List.not_any_eq_all_not];simp]
  generalize 0=k
  induction l generalizing k with
  | nil=>rfl
  | cons x r ih=>simp only [qD,List.all_cons];rw [ih (by simp at h1;omega)]
 rw [show qW l=(!f l&&decide (l.length=3)) by unfold qW;rw [ha]]
 clear ha hf
 refine SEx.go (X:=XX) qc (fun n=>qa [] [] n) (fun _=>none) hO 60 ?_
 intro M R L N m0 m1 m2 m3 m4 m5
 cases M
 cbv
 repeat' first | refine m1 _ _ ?_ ?_ | refine m2 _ _ fun h=>?_ | refine m3 _ ?_ | (refine m4 _ _ (Hd.out ?_);try first | rw [hks] | rw [hk2] | rw [hk3]) | (refine m5 _ _ ?_;cbv)
 all_goals (clear m1 m2 m3 m4 m5;cases m0;(try clear hks;try clear hk2;try clear hk3);try dsimp only)
 all_goals try simp only [sm] at *
 all_goals first
  | exact ⟨rfl⟩
  | exact ⟨h1⟩
  | (simp only [kR];rw [decide_eq_true (by omega),Bool.and_true];done)
  | (simp only [kR];rw [decide_eq_false (by omega),Bool.and_false];done)
def QW (f:List Int->Bool):Wr:=w1 kB (fun l=>rB (f l)) (fun l=>[LLe l maxLen])
theorem yK:qH Tryz.prog 71 (QW qW):=zK fun l h=>Wh l (h _ (.head _)).out
theorem KU:qH Tryz.prog 114 (QW qW):=zK fun l h=>Wb l (h _ (.head _)).out
theorem qak (t:qx)(s:ByteArray)(h1:t.nodes.length<=maxLen):qe Tryz.prog 131 [zk t,aS s] (rI (zq (fun q=>eqS q.name s) t.nodes 0)):=by
 refine qe.of qc (fn:=Tryz.f131) (c:=Tryz.f131.body.getD .skip) (dr:=fun n=>qa 0 [] n) Tryz.func131 rfl (by kernel_rfl) (by kernel_rfl) (by kernel_rfl) ?_
 obtain ⟨cs,ps,hr⟩:=t
 have h1:cs.length<=maxLen:=h1
 unfold maxLen at h1
 show SEx _ _ _ _ _ _ (rI (zq _ cs 0))
 refine SEx.go (X:=XX) qc (fun n=>qa [] [(2,[1,8,9,10])] n) (fun _=>none) qd 60 ?_
 intro M R L N m0 m1 m2 m3 m4 m5
 cases M
 cbv
 repeat' first | refine m1 _ _ ?_ ?_ | refine m2 _ _ fun h=>?_ | refine m3 _ ?_ | (refine m4 _ _ (Hd.out ?_);generalize hks:(List.cons _ _:List K)=ks) | (refine m5 _ _ ?_;cbv)
 all_goals (clear m1 m2 m3 m4 m5;cases m0;try dsimp only)
 all_goals try simp only [sm] at *
 obtain ⟨n,hn⟩:∃ n,n=cs.length:=⟨_,rfl⟩
 refine ⟨SEx.same (SEx.idx n (fun i=>⟨21,[(1,bS s),(8,bL (.node false none cs)),(9,bI n),(10,bI i)],[]⟩) (fun i=>rI (zq (fun q=>eqS q.name s) (cs.drop i) i)) ?_) (by rw [hn];rfl) rfl⟩
 intro i hi ih
 rw [<-hks]
 refine SEx.go (X:=XX) qc (fun n=>qa [] [(2,[1,8,9,10])] n) (fun _=>none) qd 60 ?_
 intro M R L N m0 m1 m2 m3 m4 m5
 cases M
 cbv
 repeat' first | refine m1 _ _ ?_ ?_ | refine m2 _ _ fun h=>?_ | refine m3 _ ?_ | (refine m4 _ _ (Hd.out ?_);try first | rw [hks] | rw [hk2] | rw [hk3]) | (refine m5 _ _ ?_;cbv)
 all_goals (clear m1 m2 m3 m4 m5;cases m0;(try clear hks;try clear hk2;try clear hk3);try dsimp only)
 all_goals try simp only [sm] at *
 all_goals first
  | omega
  | exact ⟨rfl,by cases caps<;>rfl⟩
  | exact ⟨rfl,rfl⟩
  | exact qu (z:=qf.z) (by omega)
  | (rw [kX (p:=fun q=>eqS q.name s) (l:=cs) (i:=i) qf.z (by omega) (by first | assumption | exact beq_iff_eq.2 (by assumption))];rfl)
  | (rw [kZ (by omega)];rfl)
  | (simp only [ql (show i<9223372036854775807 by omega)];exact ⟨(ih (by omega)).same rfl (by rw [Qa (p:=fun q=>eqS q.name s) (l:=cs) (i:=i) qf.z (by omega) (by first | assumption | exact beq_eq_false_iff_ne.2 (by assumption) | (simp_all;done))])⟩)
def qoi (k:Nat):Dc (List Int):=⟨fun s=>aF k [.ptr [.sl (.i s)]],fun | (false,[.fn f [.ptr [.sl (.i s)]]])=>(match nq f k with | true=>some s | false=>none) | _=>none,by
 intro x a h
 split at h
 . split at h
   . rename_i hk
     obtain rfl:=Qr.1 hk
     simp only [Option.some.injEq] at h;subst h;rfl
   . cases h
 . cases h⟩
def KS (a b:List Int):Bool:=qX a&&qX b&&b.all (QZ a)
theorem J6 {α:Type}(p:α->Bool):∀ (l:List α) (k:Nat),qD (fun _ x=>p x) l k=l.all p
 | [],_=>rfl
 | a::r,k=>by simp only [qD,List.all_cons,J6 p r]
theorem Wm (x:Int)(a:List Int)(h1:a.length<=maxLen):qe Tryz.prog 171 [aI x,(false,[.ptr [.sl (.i a)]])] (rB (!QZ a x)):=by
 refine qe.of qc (fn:=Tryz.f171) (c:=Tryz.f171.body.getD .skip) (dr:=fun n=>qa 0 [] n) Tryz.func171 rfl (by kernel_rfl) (by kernel_rfl) (by kernel_rfl) ?_
 obtain ⟨f,hf⟩:∃ f,f=QZ:=⟨_,rfl⟩
 have hO:qm Tryz.prog (qL [(143,qeL f)]):=by subst hf;exact qb qb8 qd
 rw [<-hf]
 refine SEx.go (X:=XX) qc (fun n=>qa [] [] n) (fun _=>none) hO 60 ?_
 intro M R L N m0 m1 m2 m3 m4 m5
 cases M
 cbv
 repeat' first | refine m1 _ _ ?_ ?_ | refine m2 _ _ fun h=>?_ | refine m3 _ ?_ | (refine m4 _ _ (Hd.out ?_);try first | rw [hks] | rw [hk2] | rw [hk3]) | (refine m5 _ _ ?_;cbv)
 all_goals (clear m1 m2 m3 m4 m5;cases m0;(try clear hks;try clear hk2;try clear hk3);try dsimp only)
 all_goals try simp only [sm] at *
 all_goals first
  | exact ⟨h1⟩
  | rfl
theorem VL (a b:List Int)(ha:ZL a)(hb:ZL b):qe Tryz.prog 144 [aIs a,aIs b] (rB (KS a b)):=by
 refine qe.of qc (fn:=Tryz.f144) (c:=Tryz.f144.body.getD .skip) (dr:=fun n=>qa 0 [] n) Tryz.func144 rfl (by kernel_rfl) (by kernel_rfl) (by kernel_rfl) ?_
 obtain ⟨f,hf⟩:∃ f,f=qX:=⟨_,rfl⟩
 obtain ⟨g,hg⟩:∃ g:List Int->List Int->Bool,g=fun l a=>l.any (fun x=>!QZ a x):=⟨_,rfl⟩
 have hO:qm Tryz.prog (qL [(169,Qn f),(111,w2 kB (qoi 171) (fun l s=>rB (g l s)) (fun l s=>[LLe l maxLen,LLe s maxLen]))]):=by
  subst hf hg
  exact qb ZD (qb (qI fun l s h=>Zo l _ _ _ (fun q _=>Wm q s (h _ (.tail _ (.head _))).out) (h _ (.head _)).out) qd)
 rw [show KS a b=(f a&&f b&&!g b a) by rw [hf,hg];unfold KS;rw [show (!List.any b fun x=>!QZ a x)=b.all (QZ a) by rw [List.not_any_eq_all_not];simp]]
 clear hf hg
 refine SEx.go (X:=XX) qc (fun n=>qa [] [] n) (fun _=>none) hO 60 ?_
 intro M R L N m0 m1 m2 m3 m4 m5
 cases M
 cbv
 repeat' first | refine m1 _ _ ?_ ?_ | refine m2 _ _ fun h=>?_ | refine m3 _ ?_ | (refine m4 _ _ (Hd.out ?_);try first | rw [hks] | rw [hk2] | rw [hk3]) | (refine m5 _ _ ?_;cbv)
 all_goals (clear m1 m2 m3 m4 m5;cases m0;(try clear hks;try clear hk2;try clear hk3);try dsimp only)
 all_goals try simp only [sm] at *
 all_goals first
  | exact ha
  | exact hb
  | exact ⟨rfl⟩
  | exact ⟨ha.len⟩
  | exact ⟨hb.len⟩
  | (simp only [kR];simp_all;done)
  | trace_state
theorem VY (a b:List Int)(ha:ZL a)(hb:ZL b):qe Tryz.prog 133 [aIs a,aIs b] (rB (KS a b)):=by
 refine qe.of qc (fn:=Tryz.f133) (c:=Tryz.f133.body.getD .skip) (dr:=fun n=>qa 0 [] n) Tryz.func133 rfl (by kernel_rfl) (by kernel_rfl) (by kernel_rfl) ?_
 obtain ⟨f,hf⟩:∃ f,f=qX:=⟨_,rfl⟩
 obtain ⟨g,hg⟩:∃ f,f=QZ:=⟨_,rfl⟩
 have hO:qm Tryz.prog (qL [(165,Qn f),(93,qeL g)]):=by subst hf hg;exact qb JI (qb Vf qd)
 rw [show KS a b=(f a&&f b&&qD (fun _ x=>g a x) (b.drop 0) 0) by rw [hf,hg,List.drop_zero,J6];rfl]
 clear hf hg
 have hal:=ha.len
 have hbl:=hb.len
 unfold maxLen at hbl
 refine SEx.go (X:=XX) qc (fun n=>qa [] [(4,[0,15,16,17])] n) (fun _=>none) hO 60 ?_
 intro M R L N m0 m1 m2 m3 m4 m5
 cases M
 cbv
 repeat' first | refine m1 _ _ ?_ ?_ | refine m2 _ _ fun h=>?_ | refine m3 _ ?_ | (refine m4 _ _ (Hd.out ?_);generalize hks:(List.cons _ _:List K)=ks) | (refine m5 _ _ ?_;cbv)
 all_goals (clear m1 m2 m3 m4 m5;cases m0;try dsimp only)
 all_goals try simp only [sm] at *
 all_goals first
  | exact ha
  | exact hb
  | (simp only [kR];simp_all;done)
  | skip
 rw [show f a=true by assumption,show f b=true by assumption,Bool.true_and,Bool.true_and]
 obtain ⟨m,hm⟩:∃ m,m=b.length:=⟨_,rfl⟩
 refine ⟨SEx.same (SEx.idx m (fun i=>⟨26,[(0,bL (.i a)),(15,bL (.i b)),(16,bI m),(17,bI i)],[]⟩) (fun i=>rB (qD (fun _ x=>g a x) (b.drop i) i)) ?_) (by rw [hm];rfl) rfl⟩
 intro i hi ih
 rw [<-hks]
 refine SEx.go (X:=XX) qc (fun n=>qa [] [(4,[0,15,16,17])] n) (fun _=>none) hO 60 ?_
 intro M R L N m0 m1 m2 m3 m4 m5
 cases M
 cbv
 repeat' first | refine m1 _ _ ?_ ?_ | refine m2 _ _ fun h=>?_ | refine m3 _ ?_ | (refine m4 _ _ (Hd.out ?_);try first | rw [hks] | rw [hk2] | rw [hk3]) | (refine m5 _ _ ?_;cbv)
 all_goals (clear m1 m2 m3 m4 m5;cases m0;(try clear hks;try clear hk2;try clear hk3);try dsimp only)
 all_goals try simp only [sm] at *
 all_goals first
  | omega
  | exact ⟨hal⟩
  | (rw [JX (p:=fun _ x=>g a x) (l:=b) (i:=i) (0:Int) (by omega) (by assumption)];rfl)
  | (simp only [ql (show i<9223372036854775807 by omega)];exact ⟨(ih (by omega)).same rfl (by rw [wl (p:=fun _ x=>g a x) (l:=b) (i:=i) (0:Int) (by omega) (by assumption)])⟩)
  | (rw [List.drop_eq_nil_of_le (by omega)];rfl)
  | trace_state
def Jt (f:List Int->List Int->Bool):Wr:=w2 kB kB (fun a b=>rB (f a b)) (fun a b=>[ZL a,ZL b])
theorem qaC:qH Tryz.prog 133 (Jt KS):=qI fun a b h=>VY a b (h _ (.head _)) (h _ (.tail _ (.head _)))
theorem qbn:qH Tryz.prog 144 (Jt KS):=qI fun a b h=>VL a b (h _ (.head _)) (h _ (.tail _ (.head _)))
end Go.Proofs.YtececadpjelanaaGreat.Ai
namespace Go.Proofs.YtececadpjelanaaGreat.Ai
open Go
set_option maxRecDepth 100000
variable [qh]
structure qmT (p:Int):Prop where out:0<p
def jz (l:List qf)(p:Int):Int:=zq (fun q=>q.watch == p) l 0
theorem Z2 (t:qx)(p:Int)(h1:t.nodes.length<=maxLen):qe Tryz.prog 72 [zk t,aI p] (rI (jz t.nodes p)):=by
 refine qe.of qc (fn:=Tryz.f72) (c:=Tryz.f72.body.getD .skip) (dr:=fun n=>qa 0 [] n) Tryz.func72 rfl (by kernel_rfl) (by kernel_rfl) (by kernel_rfl) ?_
 obtain ⟨cs,ps,hr⟩:=t
 have h1:cs.length<=maxLen:=h1
 unfold maxLen at h1
 show SEx _ _ _ _ _ _ (rI (zq _ cs 0))
 refine SEx.go (X:=XX) qc (fun n=>qa [] [(2,[1,8,9,10])] n) (fun _=>none) qd 60 ?_
 intro M R L N m0 m1 m2 m3 m4 m5
 cases M
 cbv
 repeat' first | refine m1 _ _ ?_ ?_ | refine m2 _ _ fun h=>?_ | refine m3 _ ?_ | (refine m4 _ _ (Hd.out ?_);generalize hks:(List.cons _ _:List K)=ks) | (refine m5 _ _ ?_;cbv)
 all_goals (clear m1 m2 m3 m4 m5;cases m0;try dsimp only)
 all_goals try simp only [sm] at *
 obtain ⟨n,hn⟩:∃ n,n=cs.length:=⟨_,rfl⟩
 refine ⟨SEx.same (SEx.idx n (fun i=>⟨21,[(1,bI p),(8,bL (.node false none cs)),(9,bI n),(10,bI i)],[]⟩) (fun i=>rI (zq (fun q=>q.watch == p) (cs.drop i) i)) ?_) (by rw [hn];rfl) rfl⟩
 intro i hi ih
 rw [<-hks]
 refine SEx.go (X:=XX) qc (fun n=>qa [] [(2,[1,8,9,10])] n) (fun _=>none) qd 60 ?_
 intro M R L N m0 m1 m2 m3 m4 m5
 cases M
 cbv
 repeat' first | refine m1 _ _ ?_ ?_ | refine m2 _ _ fun h=>?_ | refine m3 _ ?_ | (refine m4 _ _ (Hd.out ?_);try first | rw [hks] | rw [hk2] | rw [hk3]) | (refine m5 _ _ ?_;cbv)
 all_goals (clear m1 m2 m3 m4 m5;cases m0;(try clear hks;try clear hk2;try clear hk3);try dsimp only)
 all_goals try simp only [sm] at *
 all_goals first
  | omega
  | exact ⟨rfl,by cases caps<;>rfl⟩
  | exact ⟨rfl,rfl⟩
  | exact qu (z:=qf.z) (by omega)
  | (rw [kX (p:=fun q=>q.watch == p) (l:=cs) (i:=i) qf.z (by omega) (by first | assumption | exact beq_iff_eq.2 (by assumption))];rfl)
  | (rw [kZ (by omega)];rfl)
  | (simp only [ql (show i<9223372036854775807 by omega)];exact ⟨(ih (by omega)).same rfl (by rw [Qa (p:=fun q=>q.watch == p) (l:=cs) (i:=i) qf.z (by omega) (by first | assumption | exact beq_eq_false_iff_ne.2 (by assumption) | (simp_all;done))])⟩)
 all_goals trace_state
def qot (k:Nat):Dc Int:=⟨fun s=>aF k [.ptr [.int .i64 s]],fun | (false,[.fn f [.ptr [.int .i64 s]]])=>(match nq f k with | true=>some s | false=>none) | _=>none,by
 intro x a h
 split at h
 . split at h
   . rename_i hk
     obtain rfl:=Qr.1 hk
     simp only [Option.some.injEq] at h;subst h;rfl
   . cases h
 . cases h⟩
theorem Wg (q:qf)(p:Int)(hp:0<p):qe Tryz.prog 147 [J7 q,(false,[.ptr [.int .i64 p]])] (rB (q.watch == p)):=by
 refine qe.of qc (fn:=Tryz.f147) (c:=Tryz.f147.body.getD .skip) (dr:=fun n=>qa 0 [] n) Tryz.func147 rfl (by kernel_rfl) (by kernel_rfl) (by kernel_rfl) ?_
 obtain ⟨x1,x2,x3⟩:=q
 refine SEx.go (X:=XX) qc (fun n=>qa [] [] n) (fun _=>none) qd 60 ?_
 intro M R L N m0 m1 m2 m3 m4 m5
 cases M
 cbv
 repeat' first | refine m1 _ _ ?_ ?_ | refine m2 _ _ fun h=>?_ | refine m3 _ ?_ | (refine m4 _ _ (Hd.out ?_);try first | rw [hks] | rw [hk2] | rw [hk3]) | (refine m5 _ _ ?_;cbv)
 all_goals (clear m1 m2 m3 m4 m5;cases m0;(try clear hks;try clear hk2;try clear hk3);try dsimp only)
 all_goals try simp only [sm] at *
 all_goals first
  | rfl
  | (exfalso;omega)
  | trace_state
theorem W8 (t:qx)(p:Int)(h1:t.nodes.length<=maxLen)(hp:0<p):qe Tryz.prog 115 [zk t,aI p] (rI (jz t.nodes p)):=by
 refine qe.of qc (fn:=Tryz.f115) (c:=Tryz.f115.body.getD .skip) (dr:=fun n=>qa 0 [] n) Tryz.func115 rfl (by kernel_rfl) (by kernel_rfl) (by kernel_rfl) ?_
 obtain ⟨f,hf⟩:∃ f,f=jz:=⟨_,rfl⟩
 have hO:qm Tryz.prog (qL [(146,w2 J5 (qot 147) (fun l s=>rI (f l s)) (fun l s=>[LLe l maxLen,qmT s]))]):=by
  subst hf
  exact qb (qI fun l s h=>Vz l _ _ _ (fun q _=>Wg q s (h _ (.tail _ (.head _))).out) (h _ (.head _)).out) qd
 obtain ⟨cs,ps,hr⟩:=t
 have h1:cs.length<=maxLen:=h1
 refine SEx.go (X:=XX) qc (fun n=>qa [] [] n) (fun _=>none) hO 60 ?_
 intro M R L N m0 m1 m2 m3 m4 m5
 cases M
 cbv
 repeat' first | refine m1 _ _ ?_ ?_ | refine m2 _ _ fun h=>?_ | refine m3 _ ?_ | (refine m4 _ _ (Hd.out ?_);try first | rw [hks] | rw [hk2] | rw [hk3]) | (refine m5 _ _ ?_;cbv)
 all_goals (clear m1 m2 m3 m4 m5;cases m0;(try clear hks;try clear hk2;try clear hk3);try dsimp only)
 all_goals try simp only [sm] at *
 all_goals first
  | exact ⟨h1⟩
  | exact ⟨hp⟩
  | (subst hf;rfl)
  | trace_state
def ZQ (f:List qf->Int->Int):Wr:=w2 q7 dcI (fun t p=>rI (f t.nodes p)) (fun t p=>[LLe t.nodes maxLen,qmT p])
theorem qaF:qH Tryz.prog 72 (ZQ jz):=qI fun t p h=>Z2 t p (h _ (.head _)).out
theorem JF:qH Tryz.prog 115 (ZQ jz):=qI fun t p h=>W8 t p (h _ (.head _)).out (h _ (.tail _ (.head _))).out
end Go.Proofs.YtececadpjelanaaGreat.Ai
namespace Go.Proofs.YtececadpjelanaaGreat.Ai
open Go
set_option maxRecDepth 100000
variable [qh]
def qcd (n:Int):Bool:=decide (-20<=n)&&decide (n<=20)
theorem qhA (n:Int):qe Tryz.prog 139 [aI n] (rB (qcd n)):=by
 refine qe.of qc (fn:=Tryz.f139) (c:=Tryz.f139.body.getD .skip) (dr:=fun n=>qa 0 [] n) Tryz.func139 rfl (by kernel_rfl) (by kernel_rfl) (by kernel_rfl) ?_
 refine SEx.go (X:=XX) qc (fun n=>qa [] [] n) (fun _=>none) qd 60 ?_
 intro M R L N m0 m1 m2 m3 m4 m5
 cases M
 cbv
 repeat' first | refine m1 _ _ ?_ ?_ | refine m2 _ _ fun h=>?_ | refine m3 _ ?_ | (refine m4 _ _ (Hd.out ?_);try first | rw [hks] | rw [hk2] | rw [hk3]) | (refine m5 _ _ ?_;cbv)
 all_goals (clear m1 m2 m3 m4 m5;cases m0;(try clear hks;try clear hk2;try clear hk3);try dsimp only)
 all_goals try simp only [sm] at *
 all_goals simp only [kR,qcd]
 all_goals first
  | (rw [decide_eq_false (show ¬-20<=n by omega)];rfl)
  | (rw [decide_eq_true (show -20<=n by omega),Bool.true_and])
def qmS (f:Int->Bool):Wr:=w1 dcI (fun n=>rB (f n)) (fun _=>[])
theorem qi9:qH Tryz.prog 139 (qmS qcd):=zK fun n _=>qhA n
def jd (a b:List Int):Bool:=decide (a.length=b.length)&&qD (fun i x=>x == b.getD i 0) a 0
theorem qed (a b:List Int)(h1:a.length<=maxLen)(h2:b.length<=maxLen):qe Tryz.prog 85 [aIs a,aIs b] (rB (jd a b)):=by
 refine qe.of qc (fn:=Tryz.f85) (c:=Tryz.f85.body.getD .skip) (dr:=fun n=>qa 0 [] n) Tryz.func85 rfl (by kernel_rfl) (by kernel_rfl) (by kernel_rfl) ?_
 unfold maxLen at h1 h2
 rw [show jd a b=(decide (a.length=b.length)&&qD (fun i x=>x == b.getD i 0) (a.drop 0) 0) by rw [List.drop_zero];rfl]
 refine SEx.go (X:=XX) qc (fun n=>qa [] [(4,[1,12,13,14])] n) (fun _=>none) qd 60 ?_
 intro M R L N m0 m1 m2 m3 m4 m5
 cases M
 cbv
 repeat' first | refine m1 _ _ ?_ ?_ | refine m2 _ _ fun h=>?_ | refine m3 _ ?_ | (refine m4 _ _ (Hd.out ?_);generalize hks:(List.cons _ _:List K)=ks) | (refine m5 _ _ ?_;cbv)
 all_goals (clear m1 m2 m3 m4 m5;cases m0;try dsimp only)
 all_goals try simp only [sm] at *
 . simp only [kR];rw [decide_eq_false (by omega)];rfl
 have hab:a.length=b.length:=by omega
 rw [decide_eq_true hab,Bool.true_and]
 obtain ⟨m,hm⟩:∃ m,m=a.length:=⟨_,rfl⟩
 refine ⟨SEx.same (SEx.idx m (fun i=>⟨26,[(1,bL (.i b)),(12,bL (.i a)),(13,bI m),(14,bI i)],[]⟩) (fun i=>rB (qD (fun i x=>x == b.getD i 0) (a.drop i) i)) ?_) (by rw [hm];rfl) rfl⟩
 intro i hi ih
 rw [<-hks]
 refine SEx.go (X:=XX) qc (fun n=>qa [] [(4,[1,12,13,14])] n) (fun _=>none) qd 60 ?_
 intro M R L N m0 m1 m2 m3 m4 m5
 cases M
 cbv
 repeat' first | refine m1 _ _ ?_ ?_ | refine m2 _ _ fun h=>?_ | refine m3 _ ?_ | (refine m4 _ _ (Hd.out ?_);try first | rw [hks] | rw [hk2] | rw [hk3]) | (refine m5 _ _ ?_;cbv)
 all_goals (clear m1 m2 m3 m4 m5;cases m0;(try clear hks;try clear hk2;try clear hk3);try dsimp only)
 all_goals try simp only [sm] at *
 all_goals first
  | omega
  | (rw [JX (p:=fun i x=>x == b.getD i 0) (l:=a) (i:=i) (0:Int) (by omega) (beq_eq_false_iff_ne.2 (by assumption))];rfl)
  | (simp only [ql (show i<9223372036854775807 by omega)];exact ⟨(ih (by omega)).same rfl (by rw [wl (p:=fun i x=>x == b.getD i 0) (l:=a) (i:=i) (0:Int) (by omega) (beq_iff_eq.2 (by assumption))])⟩)
  | (rw [List.drop_eq_nil_of_le (by omega)];rfl)
  | trace_state
theorem qiS (a b:List Int)(h1:a.length<=maxLen)(h2:b.length<=maxLen):qe Tryz.prog 89 [aIs a,aIs b] (rB (jd a b)):=by
 refine qe.of qc (fn:=Tryz.f89) (c:=Tryz.f89.body.getD .skip) (dr:=fun n=>qa 0 [(6,8)] n) Tryz.func89 rfl (by kernel_rfl) (by kernel_rfl) (by kernel_rfl) ?_
 unfold maxLen at h1 h2
 rw [show jd a b=(decide (a.length=b.length)&&qD (fun i x=>x == b.getD i 0) (a.drop 0) 0) by rw [List.drop_zero];rfl]
 refine SEx.go (X:=XX) qc (fun n=>qa [] [(4,[0,1,12,13])] n) (fun _=>none) qd 60 ?_
 intro M R L N m0 m1 m2 m3 m4 m5
 cases M
 cbv
 repeat' first | refine m1 _ _ ?_ ?_ | refine m2 _ _ fun h=>?_ | refine m3 _ ?_ | (refine m4 _ _ (Hd.out ?_);generalize hks:(List.cons _ _:List K)=ks) | (refine m5 _ _ ?_;cbv)
 all_goals (clear m1 m2 m3 m4 m5;cases m0;try dsimp only)
 all_goals try simp only [sm] at *
 . simp only [kR];rw [decide_eq_false (by omega)];rfl
 have hab:a.length=b.length:=by omega
 rw [decide_eq_true hab,Bool.true_and]
 obtain ⟨m,hm⟩:∃ m,m=a.length:=⟨_,rfl⟩
 refine ⟨SEx.same (SEx.idx m (fun i=>⟨26,[(0,bL (.i a)),(1,bL (.i b)),(12,bI m),(13,bI i)],[]⟩) (fun i=>rB (qD (fun i x=>x == b.getD i 0) (a.drop i) i)) ?_) (by rw [hm];rfl) rfl⟩
 intro i hi ih
 rw [<-hks]
 refine SEx.go (X:=XX) qc (fun n=>qa [] [(4,[0,1,12,13])] n) (fun _=>none) qd 60 ?_
 intro M R L N m0 m1 m2 m3 m4 m5
 cases M
 cbv
 repeat' first | refine m1 _ _ ?_ ?_ | refine m2 _ _ fun h=>?_ | refine m3 _ ?_ | (refine m4 _ _ (Hd.out ?_);try first | rw [hks] | rw [hk2] | rw [hk3]) | (refine m5 _ _ ?_;cbv)
 all_goals (clear m1 m2 m3 m4 m5;cases m0;(try clear hks;try clear hk2;try clear hk3);try dsimp only)
 all_goals try simp only [sm] at *
 all_goals first
  | omega
  | (rw [JX (p:=fun i x=>x == b.getD i 0) (l:=a) (i:=i) (0:Int) (by omega) (beq_eq_false_iff_ne.2 (by assumption))];rfl)
  | (simp only [ql (show i<9223372036854775807 by omega)];exact ⟨(ih (by omega)).same rfl (by rw [wl (p:=fun i x=>x == b.getD i 0) (l:=a) (i:=i) (0:Int) (by omega) (beq_iff_eq.2 (by assumption))])⟩)
  | (rw [List.drop_eq_nil_of_le (by omega)];rfl)
  | trace_state
theorem YP:∀ (a c:List Int) (b:List Int) (k:Nat),c=b.drop k->a.length=c.length->(qD (fun i x=>x == b.getD i 0) a k=decide (a=c))
 | [],[],_,_,_,_=>rfl
 | [],_::_,_,_,_,h=>by simp at h
 | _::_,[],_,_,_,h=>by simp at h
 | x::r,y::s,b,k,hc,hl=>by
   have hk:k<b.length:=by
    apply Decidable.byContradiction;intro h
    rw [List.drop_eq_nil_of_le (by omega)] at hc;cases hc
   rw [List.drop_eq_getElem_cons hk] at hc
   injection hc with h1 h2
   unfold qD
   rw [YP r s b (k+1) h2 (by simpa using hl),List.getD_eq_getElem?_getD,List.getElem?_eq_getElem hk,Option.getD_some,<-h1]
   rw [Bool.eq_iff_iff];simp
theorem Kc (a b:List Int):jd a b=decide (a=b):=by
 unfold jd
 by_cases h:a.length=b.length
 . rw [decide_eq_true h,Bool.true_and,YP a b b 0 rfl h]
 . rw [decide_eq_false h,Bool.false_and,decide_eq_false (fun e=>h (by rw [e]))]
def w9 (f:List Int->List Int->Bool):Wr:=w2 kB kB (fun a b=>rB (f a b)) (fun a b=>[LLe a maxLen,LLe b maxLen])
theorem YM:qH Tryz.prog 85 (w9 jd):=qI fun a b h=>qed a b (h _ (.head _)).out (h _ (.tail _ (.head _))).out
theorem YH:qH Tryz.prog 89 (w9 jd):=qI fun a b h=>qiS a b (h _ (.head _)).out (h _ (.tail _ (.head _))).out
structure W6 (q:qf):Prop where
 name:q.name.size<=maxLen
 len:q.label.length<=maxLen
 all:∀ n∈q.label,inI n
def Wy (f:qf->Bool):Wr:=w1 K9 (fun q=>rB (f q)) (fun q=>[W6 q])
theorem qcr:qH Tryz.prog 130 (Wy Qg):=zK fun q h=>yD q (h _ (.head _)).name (h _ (.head _)).len (h _ (.head _)).all
theorem qdz:qH Tryz.prog 137 (Wy Qg):=zK fun q h=>yA q (h _ (.head _)).name (h _ (.head _)).len (h _ (.head _)).all
end Go.Proofs.YtececadpjelanaaGreat.Ai
namespace Go.Proofs.YtececadpjelanaaGreat.Ai
open Go
set_option maxRecDepth 100000
variable [qh]
def ZO (l:List Tie)(x:Int):Int:=zq (fun q=>q.free&&q.dst == x) l 0
theorem qdE (t:qx)(x:Int)(h1:t.ties.length<=maxLen):qe Tryz.prog 121 [zk t,aI x] (rI (ZO t.ties x)):=by
 refine qe.of qc (fn:=Tryz.f121) (c:=Tryz.f121.body.getD .skip) (dr:=fun n=>qa 0 [] n) Tryz.func121 rfl (by kernel_rfl) (by kernel_rfl) (by kernel_rfl) ?_
 obtain ⟨ns,cs,hr⟩:=t
 have h1:cs.length<=maxLen:=h1
 unfold maxLen at h1
 show SEx _ _ _ _ _ _ (rI (zq _ cs 0))
 refine SEx.go (X:=XX) qc (fun n=>qa [] [(2,[1,8,9,10])] n) (fun _=>none) qd 60 ?_
 intro M R L N m0 m1 m2 m3 m4 m5
 cases M
 cbv
 repeat' first | refine m1 _ _ ?_ ?_ | refine m2 _ _ fun h=>?_ | refine m3 _ ?_ | (refine m4 _ _ (Hd.out ?_);generalize hks:(List.cons _ _:List K)=ks) | (refine m5 _ _ ?_;cbv)
 all_goals (clear m1 m2 m3 m4 m5;cases m0;try dsimp only)
 all_goals try simp only [sm] at *
 obtain ⟨n,hn⟩:∃ n,n=cs.length:=⟨_,rfl⟩
 refine ⟨SEx.same (SEx.idx n (fun i=>⟨25,[(1,bI x),(8,bL (.tie cs)),(9,bI n),(10,bI i)],[]⟩) (fun i=>rI (zq (fun q=>q.free&&q.dst == x) (cs.drop i) i)) ?_) (by rw [hn];rfl) rfl⟩
 intro i hi ih
 rw [<-hks]
 refine SEx.go (X:=XX) qc (fun n=>qa [] [(2,[1,8,9,10])] n) (fun _=>none) qd 60 ?_
 intro M R L N m0 m1 m2 m3 m4 m5
 cases M
 cbv
 repeat' first | refine m1 _ _ ?_ ?_ | refine m2 _ _ fun h=>?_ | refine m3 _ ?_ | (refine m4 _ _ (Hd.out ?_);try first | rw [hks] | rw [hk2] | rw [hk3]) | (refine m5 _ _ ?_;cbv)
 all_goals (clear m1 m2 m3 m4 m5;cases m0;(try clear hks;try clear hk2;try clear hk3);try dsimp only)
 all_goals try simp only [sm] at *
 all_goals first
  | omega
  | (rw [kX (p:=fun q=>q.free&&q.dst == x) (l:=cs) (i:=i) Tie.z (by omega) (by simp_all)];rfl)
  | (rw [kZ (by omega)];rfl)
  | (simp only [ql (show i<9223372036854775807 by omega)];exact ⟨(ih (by omega)).same rfl (by rw [Qa (p:=fun q=>q.free&&q.dst == x) (l:=cs) (i:=i) Tie.z (by omega) (by simp_all)])⟩)
def qbE (f:List Tie->Int->Int):Wr:=w2 q7 dcI (fun t x=>rI (f t.ties x)) (fun t _=>[LLe t.ties maxLen])
theorem Yb:qH Tryz.prog 121 (qbE ZO):=qI fun t x h=>qdE t x (h _ (.head _)).out
end Go.Proofs.YtececadpjelanaaGreat.Ai
namespace Go.Proofs.YtececadpjelanaaGreat.Ai
open Go
set_option maxRecDepth 100000
variable [qh]
def nd (ns:List qf)(x:Int):qf:=ns.getD x.toNat qf.z
def Wn (ns:List qf)(ts:List Tie)(i:Nat)(q:Tie):Bool :=
 decide (0<=q.src/\q.src<=ns.length-1/\0<=q.dst/\q.dst<=ns.length-1/\¬q.src=q.dst/\-20<=q.low/\q.high<=20/\q.low<=q.high)&&(!q.free||(decide (1<=q.low/\¬q.dst=0/\(nd ns q.dst).watch=0)&&jd (nd ns q.src).label (nd ns q.dst).label&&decide (ZO ts q.dst=i)))
theorem qep (t:qx)(i:Int)(hi:0<=i/\i<t.ties.length)(h1:t.nodes.length<=maxLen)(h2:t.ties.length<=maxLen)(h3:∀ q∈t.nodes,q.label.length<=maxLen):qe Tryz.prog 103 [zk t,aI i] (rB (Wn t.nodes t.ties i.toNat (t.ties.getD i.toNat Tie.z))):=by
 refine qe.of qc (fn:=Tryz.f103) (c:=Tryz.f103.body.getD .skip) (dr:=fun n=>qa 0 [(5,45)] n) Tryz.func103 rfl (by kernel_rfl) (by kernel_rfl) (by kernel_rfl) ?_
 obtain ⟨f0,hf0⟩:∃ f,f=kj:=⟨_,rfl⟩
 obtain ⟨f1,hf1⟩:∃ f,f=jd:=⟨_,rfl⟩
 obtain ⟨f2,hf2⟩:∃ f,f=ZO:=⟨_,rfl⟩
 have hO:qm Tryz.prog (qL [(70,qaB f0),(85,w9 f1),(121,qbE f2)]):=by subst hf0 hf1 hf2;exact qb Qz (qb YM (qb Yb qd))
 obtain ⟨ns,ts,hr⟩:=t
 have hi:0<=i/\i<ts.length:=hi
 have h1:ns.length<=maxLen:=h1
 have h2:ts.length<=maxLen:=h2
 have h3:∀ q∈ns,q.label.length<=maxLen:=h3
 show SEx _ _ _ _ _ _ (rB (Wn ns ts i.toNat (ts.getD i.toNat Tie.z)))
 obtain ⟨n,rfl⟩:∃ n:Nat,i=n:=⟨i.toNat,by omega⟩
 refine SEx.go (X:=XX) qc (fun n=>qa [] [] n) (fun _=>none) hO 60 ?_
 intro M R L N m0 m1 m2 m3 m4 m5
 cases M
 cbv
 repeat' first | refine m1 _ _ ?_ ?_ | refine m2 _ _ fun h=>?_ | refine m3 _ ?_ | (refine m4 _ _ (Hd.out ?_);try first | rw [hks] | rw [hk2] | rw [hk3]) | (refine m5 _ _ ?_;cbv)
 all_goals (clear m1 m2 m3 m4 m5;cases m0;(try clear hks;try clear hk2;try clear hk3);try dsimp only)
 all_goals try simp only [sm] at *
 all_goals (have hQ:=qu (z:=Tie.z) (l:=ts) (i:=n) (by omega);generalize ts.getD n Tie.z=q at *;obtain ⟨x1,x2,x3,x4,x5⟩:=q)
 all_goals (clear hO;subst hf0 hf1 hf2;unfold maxLen at h1 h2;try dsimp only at *)
 all_goals (try simp only [qy (n:=(ns.length:Int)-1) (by omega) (by omega),kj,Bool.and_eq_true,Bool.and_eq_false_iff,decide_eq_true_eq,decide_eq_false_iff_not] at *)
 all_goals first
  | omega
  | exact ⟨h2⟩
  | exact ⟨h3 _ (qu (z:=qf.z) (by omega)).out⟩
  | (simp only [kR];symm;rw [Bool.eq_false_iff];intro h;simp only [Wn,Bool.and_eq_true,Bool.or_eq_true,Bool.not_eq_true',decide_eq_true_eq] at h;simp only [nd] at h;first | omega | (simp_all;done) | (simp_all;omega))
  | (simp only [kR];symm;simp only [Wn,Bool.and_eq_true,Bool.or_eq_true,Bool.not_eq_true',decide_eq_true_eq];first | (refine ⟨by omega,.inl ?_⟩;assumption) | (refine ⟨by omega,.inr ⟨⟨by omega,?_⟩,?_⟩⟩<;>assumption))
  | (simp only [kR];simp only [Wn,nd];rw [Bool.eq_iff_iff];simp only [Bool.and_eq_true,Bool.or_eq_true,Bool.not_eq_true',decide_eq_true_eq,beq_iff_eq];constructor;(· intro h;exact ⟨by omega,.inr ⟨⟨⟨by assumption,by assumption,by assumption⟩,by assumption⟩,h⟩⟩);(· rintro ⟨-,h | h⟩;(· have:=h.symm.trans (by assumption:_=true);cases this);(· exact h.2)))
  | (simp only [kR];rw [Bool.eq_iff_iff];simp only [Wn,Bool.and_eq_true,Bool.or_eq_true,Bool.not_eq_true',decide_eq_true_eq,beq_iff_eq];simp only [nd];constructor;(· intro h;exact ⟨by omega,.inr ⟨⟨⟨by assumption,by assumption,by assumption⟩,by assumption⟩,h⟩⟩);(· rintro ⟨-,h | h⟩;(· have:=h.symm.trans (by assumption:_=true);cases this);(· exact h.2)))
def qne {α:Type}(k:Nat)(g:Bool)(d:Dc α)(hg:∀ a,(d.enc a).1=g):Dc α:=⟨fun a=>aF k [.ptr (d.enc a).2],fun | (false,[.fn f [.ptr x]])=>(match nq f k with | true=>d.dec (g,x) | false=>none) | _=>none,by
 intro x a h
 split at h
 . split at h
   . rename_i hk
     obtain rfl:=Qr.1 hk
     have:=d.ok _ _ h
     have e:=congrArg Prod.snd this
     simp only [zZ] at e
     simp only [zZ,D.erL,D.er,aF,e]
   . cases h
 . cases h⟩
theorem qdm (u t:Tie):qe Tryz.prog 140 [qdf u,(false,[.ptr t.d])] (rB (u.free&&u.dst == t.dst)):=by
 refine qe.of qc (fn:=Tryz.f140) (c:=Tryz.f140.body.getD .skip) (dr:=fun n=>qa 0 [] n) Tryz.func140 rfl (by kernel_rfl) (by kernel_rfl) (by kernel_rfl) ?_
 obtain ⟨x1,x2,x3,x4,x5⟩:=u
 obtain ⟨y1,y2,y3,y4,y5⟩:=t
 refine SEx.go (X:=XX) qc (fun n=>qa [] [] n) (fun _=>none) qd 60 ?_
 intro M R L N m0 m1 m2 m3 m4 m5
 cases M
 cbv
 repeat' first | refine m1 _ _ ?_ ?_ | refine m2 _ _ fun h=>?_ | refine m3 _ ?_ | (refine m4 _ _ (Hd.out ?_);try first | rw [hks] | rw [hk2] | rw [hk3]) | (refine m5 _ _ ?_;cbv)
 all_goals (clear m1 m2 m3 m4 m5;cases m0;(try clear hks;try clear hk2;try clear hk3);try dsimp only)
 all_goals try simp only [sm] at *
 all_goals simp only [kR]
 all_goals (rw [show x5=_ by assumption];rfl)
def qou (k:Nat):Dc Tie:=qne k true qdj fun _=>rfl
def qby (ns:List qf)(ts:List Tie)(i:Nat)(q:Tie):Bool :=
 decide (0<=q.src/\q.src<=ns.length-1/\0<=q.dst/\q.dst<=ns.length-1/\¬q.src=q.dst/\-20<=q.low/\q.high<=20/\q.low<=q.high)&&(!q.free||(decide (1<=q.low/\¬q.dst=0/\(nd ns q.dst).watch=0)&&jd (nd ns q.dst).label (nd ns q.src).label&&!((ts.take i).any fun u=>u.free&&u.dst == q.dst)))
theorem qeD (t:qx)(h1:t.nodes.length<=maxLen)(h2:t.ties.length<=maxLen)(h3:∀ q∈t.nodes,q.label.length<=maxLen):qe Tryz.prog 110 [zk t] (rB (qD (qby t.nodes t.ties) t.ties 0&&decide (t.ties.length<=14))):=by
 refine qe.of qc (fn:=Tryz.f110) (c:=Tryz.f110.body.getD .skip) (dr:=fun n=>qa 0 [(7,33)] n) Tryz.func110 rfl (by kernel_rfl) (by kernel_rfl) (by kernel_rfl) ?_
 obtain ⟨f0,hf0⟩:∃ f,f=Jq:=⟨_,rfl⟩
 obtain ⟨f1,hf1⟩:∃ f,f=jd:=⟨_,rfl⟩
 obtain ⟨f2,hf2⟩:∃ f,f=qcd:=⟨_,rfl⟩
 obtain ⟨f3,hf3⟩:∃ f:List Tie->Tie->Bool,f=fun l q=>l.any fun u=>u.free&&u.dst == q.dst:=⟨_,rfl⟩
 have hO:qm Tryz.prog (qL [(138,qgO f0),(139,qmS f2),(89,w9 f1),(126,w2 KY (qou 140) (fun l q=>rB (f3 l q)) (fun l q=>[LLe l maxLen]))]):=by
  subst hf0 hf1 hf2 hf3
  exact qb qdS (qb qi9 (qb YH (qb (qI fun l q h=>V8 l _ _ _ (fun u _=>qdm u q) (h _ (.head _)).out) qd)))
 obtain ⟨ns,ts,hr⟩:=t
 have h1:ns.length<=maxLen:=h1
 have h2:ts.length<=maxLen:=h2
 have h3:∀ q∈ns,q.label.length<=maxLen:=h3
 unfold maxLen at h1 h2
 show SEx _ _ _ _ _ _ (rB (qD (qby ns ts) ts 0&&decide (ts.length<=14)))
 obtain ⟨c,hc⟩:∃ c,c=decide (ts.length<=14):=⟨_,rfl⟩
 obtain ⟨p,hp⟩:∃ p,p=qby ns ts:=⟨_,rfl⟩
 rw [<-hc,<-hp]
 refine SEx.go (X:=XX) qc (fun n=>qa [] [(2,[1,6,7,8])] n) (fun _=>none) hO 60 ?_
 intro M R L N m0 m1 m2 m3 m4 m5
 cases M
 cbv
 repeat' first | refine m1 _ _ ?_ ?_ | refine m2 _ _ fun h=>?_ | refine m3 _ ?_ | (refine m4 _ _ (Hd.out ?_);generalize hks:(List.cons _ _:List K)=ks) | (refine m5 _ _ ?_;cbv)
 all_goals (clear m1 m2 m3 m4 m5;cases m0;try dsimp only)
 all_goals try simp only [sm] at *
 obtain ⟨m,hm⟩:∃ m,m=ts.length:=⟨_,rfl⟩
 refine ⟨SEx.same (SEx.idx m (fun i=>⟨105,[(1,bP 4096),(6,bL (.tie ts)),(7,bI m),(8,bI i)],[(4096,.obx [.fz (.sl (.node false none ns)),.fz (.sl (.tie ts)),.fz (.int .i64 hr)])]⟩) (fun i=>rB (qD p (ts.drop i) i&&c)) ?_) (by rw [hm];rfl) rfl⟩
 intro i hi ih
 rw [<-hks]
 have hl:i<m->zE _ _ _:=fun h=>zE.of p ts i c Tie.z (by omega)
 have he:i=m->(qD p (ts.drop i) i&&c)=c:=fun h=>qO (by omega)
 refine SEx.go (X:=XX) qc (fun n=>qa [] [(2,[1,6,7,8])] n) (fun _=>none) hO 60 ?_
 intro M R L N m0 m1 m2 m3 m4 m5
 cases M
 cbv
 repeat' first | refine m1 _ _ ?_ ?_ | refine m2 _ _ fun h=>?_ | refine m3 _ ?_ | (refine m4 _ _ (Hd.out ?_);try first | rw [hks] | rw [hk2] | rw [hk3]) | (refine m5 _ _ ?_;cbv)
 all_goals (clear m1 m2 m3 m4 m5;cases m0;(try clear hks;try clear hk2;try clear hk3);try dsimp only)
 all_goals try simp only [sm] at *
 all_goals (clear hO;subst hf0 hf1 hf2 hf3)
 all_goals (try simp only [ql (show i<9223372036854775807 by omega)])
 all_goals (try refine ⟨(ih (by omega)).same rfl ?_⟩)
 all_goals (clear ih)
 all_goals (generalize ts.getD i Tie.z=q at *;obtain ⟨x1,x2,x3,x4,x5⟩:=q;try dsimp only at *)
 all_goals (try simp only [Jq,qcd,Bool.and_eq_true,Bool.and_eq_false_iff,decide_eq_true_eq,decide_eq_false_iff_not] at *)
 all_goals first
  | omega
  | exact ⟨h3 _ (qu (z:=qf.z) (by omega)).out⟩
  | (refine ⟨?_⟩;simp only [List.length_take];omega)
  | (rw [he (by omega),hc];simp only [kR];apply decide_eq_decide.2;omega)
  | (refine (hl (by omega)).stop _ ?_;clear hl he;rw [hp,Bool.eq_false_iff];intro h;simp only [qby,Bool.and_eq_true,Bool.or_eq_true,Bool.not_eq_true',decide_eq_true_eq] at h;simp only [nd] at h;first | omega | (rcases h with ⟨-,h | h⟩;(· simp_all;done);(· refine absurd h.2 ?_;rw [Bool.not_eq_false];assumption)) | (generalize ns.getD x2.toNat qf.z=r2 at *;generalize ns.getD x1.toNat qf.z=r1 at *;cases r1;cases r2;simp_all;done) | (simp_all;omega))
  | (refine (hl (by omega)).go ?_;clear hl he;rw [hp];simp only [qby,Bool.and_eq_true,Bool.or_eq_true,Bool.not_eq_true',decide_eq_true_eq];first | (refine ⟨by omega,.inl ?_⟩;assumption) | (refine ⟨by omega,.inr ⟨⟨⟨by omega,by omega,by assumption⟩,?_⟩,?_⟩⟩<;>assumption))
  | trace_state
theorem KF {α:Type}{p:α->Bool}:∀ {l:List α} {i:Nat} (n:Nat) (z:α),i<l.length->p (l.getD i z)=true->(zq p l n=(n+i:Nat)↔(l.take i).any p=false)
 | [],i,n,z,h,_=>absurd h (Nat.not_lt_zero _)
 | a::r,0,n,z,_,hp=>by simp only [List.getD_cons_zero] at hp;simp [zq,hp]
 | a::r,i+1,n,z,h,hp=>by
   simp only [List.getD_cons_succ] at hp
   simp only [List.length_cons] at h
   have ih:=KF (l:=r) (i:=i) (n+1) z (by omega) hp
   have hge:=(qal p r (n+1)).2
   unfold zq
   simp only [List.take_succ_cons,List.any_cons]
   cases ha:p a with
   | true=>simp;omega
   | false =>
     simp only [Bool.false_or,Bool.false_eq_true,if_false]
     rw [<-ih,show n+1+i=n+(i+1) by omega]
theorem qfM (a b:List Int):jd a b=jd b a:=by
 rw [Kc,Kc,Bool.eq_iff_iff]
 simp only [decide_eq_true_eq]
 exact ⟨fun h=>h.symm,fun h=>h.symm⟩
theorem qmp {ns:List qf}{ts:List Tie}{i:Nat}{q:Tie}(h:ts[i]?=some q):qby ns ts i q=Wn ns ts i q:=by
 have hi:i<ts.length:=by rw [List.getElem?_eq_some_iff] at h;exact h.1
 have hq:ts.getD i Tie.z=q:=by rw [List.getD_eq_getElem?_getD,h];rfl
 unfold qby Wn
 cases hf:q.free with
 | false=>rfl
 | true =>
   have e:decide (ZO ts q.dst=i)=!((ts.take i).any fun u=>u.free&&u.dst == q.dst):=by
    have:=KF (p:=fun u:Tie=>u.free&&u.dst == q.dst) (l:=ts) (i:=i) 0 Tie.z hi (by rw [hq,hf];simp)
    rw [Nat.zero_add] at this
    rw [Bool.eq_iff_iff]
    simp only [decide_eq_true_eq,Bool.not_eq_true']
    exact this
   rw [e,qfM]
theorem ql7 (ns:List qf)(ts:List Tie):qD (qby ns ts) ts 0=qD (Wn ns ts) ts 0:=Jd ts 0 fun i q h=>by rw [Nat.zero_add];exact qmp h
def qnV (f:List qf->List Tie->Nat->Tie->Bool):Wr:=w2 q7 dcI (fun t i=>rB (f t.nodes t.ties i.toNat (t.ties.getD i.toNat Tie.z))) (fun t i=>[InX i t.ties,LLe t.nodes maxLen,LLe t.ties maxLen,wU t.nodes maxLen])
theorem qmz:qH Tryz.prog 103 (qnV Wn):=qI fun t i h=>qep t i (h _ (.head _)).out (h _ (.tail _ (.head _))).out (h _ (.tail _ (.tail _ (.head _)))).out (h _ (.tail _ (.tail _ (.tail _ (.head _))))).out
def qbM (f:List qf->List Tie->Bool):Wr:=w1 q7 (fun t=>rB (f t.nodes t.ties)) (fun t=>[LLe t.nodes maxLen,LLe t.ties maxLen,wU t.nodes maxLen])
def y6 (ns:List qf)(ts:List Tie):Bool:=qD (Wn ns ts) ts 0&&decide (ts.length<=14)
theorem qbU:qH Tryz.prog 110 (qbM y6):=zK fun t h=>by unfold y6;rw [<-ql7];exact qeD t (h _ (.head _)).out (h _ (.tail _ (.head _))).out (h _ (.tail _ (.tail _ (.head _)))).out
end Go.Proofs.YtececadpjelanaaGreat.Ai
namespace Go.Proofs.YtececadpjelanaaGreat.Ai
open Go
set_option maxRecDepth 100000
variable [qh]
def qhp (x:Int):Int:=IntKind.i64.wrap (-x)
def vV (cs:List qf)(x:Int):List Int:=(cs.getD x.toNat qf.z).label
def wdB (cs:List qf)(l:List Int)(x:Int):Bool:=decide (0<=jz cs (zy x))&&(!QZ (vV cs (jz cs (zy x))) x&&(!QZ (vV cs (jz cs (zy x))) (qhp x)&&KS l (vV cs (jz cs (zy x)))))
def vd (f:List qf->Int->Int):Wr:=w2 q7 dcI (fun t p=>rI (f t.nodes p)) (fun t p=>[LLe t.nodes maxLen])
theorem wk:qH Tryz.prog 72 (vd jz):=qI fun t p h=>Z2 t p (h _ (.head _)).out
def qjN (f:List qf->ByteArray->Int):Wr:=w2 q7 dcS (fun t p=>rI (f t.nodes p)) (fun t p=>[LLe t.nodes maxLen])
def qgK (l:List qf)(s:ByteArray):Int:=zq (fun q=>eqS q.name s) l 0
theorem qh2:qH Tryz.prog 131 (qjN qgK):=qI fun t p h=>qak t p (h _ (.head _)).out
theorem WH (l:List qf)(p:Int):jz l p<l.length/\(0<=jz l p\/jz l p=-1):=by
 unfold jz
 have:=qal (fun q:qf=>q.watch == p) l 0
 omega
theorem qaW (t:qx)(l:List Int)(x:Int)(h1:t.nodes.length<=maxLen)(h2:∀ q∈t.nodes,ZL q.label)(hl:ZL l)(hx:inI x)(hp:0<zy x):qe Tryz.prog 113 [zk t,aIs l,aI x] (rB (wdB t.nodes l x)):=by
 refine qe.of qc (fn:=Tryz.f113) (c:=Tryz.f113.body.getD .skip) (dr:=fun n=>qa 0 [(1,3)] n) Tryz.func113 rfl (by kernel_rfl) (by kernel_rfl) (by kernel_rfl) ?_
 obtain ⟨f0,hf0⟩:∃ f,f=zy:=⟨_,rfl⟩
 obtain ⟨f1,hf1⟩:∃ f,f=jz:=⟨_,rfl⟩
 obtain ⟨f2,hf2⟩:∃ f,f=QZ:=⟨_,rfl⟩
 obtain ⟨f3,hf3⟩:∃ f,f=KS:=⟨_,rfl⟩
 have hO:qm Tryz.prog (qL [(142,vY f0),(115,ZQ f1),(143,qeL f2),(144,Jt f3)]):=by
  subst hf0 hf1 hf2 hf3
  exact qb vh (qb JF (qb qb8 (qb qbn qd)))
 obtain ⟨ns,ts,hr⟩:=t
 have h1:ns.length<=maxLen:=h1
 have h2:∀ q∈ns,ZL q.label:=h2
 show SEx _ _ _ _ _ _ (rB (wdB ns l x))
 rw [<-hf0] at hp
 have hlt:f1 ns (f0 x)<ns.length:=by rw [hf1];exact (WH _ _).1
 refine SEx.go (X:=XX) qc (fun n=>qa [] [] n) (fun _=>none) hO 60 ?_
 intro M R L N m0 m1 m2 m3 m4 m5
 cases M
 cbv
 repeat' first | refine m1 _ _ ?_ ?_ | refine m2 _ _ fun h=>?_ | refine m3 _ ?_ | (refine m4 _ _ (Hd.out ?_);try first | rw [hks] | rw [hk2] | rw [hk3]) | (refine m5 _ _ ?_;cbv)
 all_goals (clear m1 m2 m3 m4 m5;cases m0;(try clear hks;try clear hk2;try clear hk3);try dsimp only)
 all_goals try simp only [sm] at *
 all_goals (clear hO;subst hf0 hf1 hf2 hf3)
 all_goals first
  | exact ⟨hx⟩
  | exact ⟨h1⟩
  | exact ⟨hp⟩
  | exact hl
  | omega
  | exact ⟨(h2 _ (qu (z:=qf.z) (by omega)).out).len⟩
  | exact h2 _ (qu (z:=qf.z) (by omega)).out
  | (simp only [kR];unfold wdB vV qhp;delta qf.label;rw [decide_eq_false (by omega)];rfl)
  | (simp only [kR];unfold wdB vV qhp;delta qf.label;rw [decide_eq_true (by omega)];simp_all;done)
  | skip
structure qoG (x:Int):Prop where out:0<zy x
structure qmZ (cs:List qf):Prop where out:∀ q∈cs,ZL q.label
theorem qfG (x:Int)(t:qx)(q:qf)(h1:t.nodes.length<=maxLen)(h2:∀ q∈t.nodes,ZL q.label)(hl:ZL q.label)(hx:inI x)(hp:0<zy x):qe Tryz.prog 112 [aI x,(false,[.ptr t.d]),(false,[.ptr q.d])] (rB (!wdB t.nodes q.label x)):=by
 refine qe.of qc (fn:=Tryz.f112) (c:=Tryz.f112.body.getD .skip) (dr:=fun n=>qa 0 [] n) Tryz.func112 rfl (by kernel_rfl) (by kernel_rfl) (by kernel_rfl) ?_
 obtain ⟨f,hf⟩:∃ f,f=wdB:=⟨_,rfl⟩
 have hO:qm Tryz.prog (qL [(113,w3 q7 kB dcI (fun t l x=>rB (f t.nodes l x)) (fun t l x=>[LLe t.nodes maxLen,qmZ t.nodes,ZL l,IIn x,qoG x]))]):=by
  subst hf
  exact qb (vq fun t l x h=>qaW t l x (h _ (.head _)).out (h _ (.tail _ (.head _))).out (h _ (.tail _ (.tail _ (.head _)))) (h _ (.tail _ (.tail _ (.tail _ (.head _))))).out (h _ (.tail _ (.tail _ (.tail _ (.tail _ (.head _)))))).out) qd
 obtain ⟨ns,ts,hr⟩:=t
 obtain ⟨x1,x2,x3⟩:=q
 have h1:ns.length<=maxLen:=h1
 have h2:∀ q∈ns,ZL q.label:=h2
 have hl:ZL x2:=hl
 refine SEx.go (X:=XX) qc (fun n=>qa [] [] n) (fun _=>none) hO 60 ?_
 intro M R L N m0 m1 m2 m3 m4 m5
 cases M
 cbv
 repeat' first | refine m1 _ _ ?_ ?_ | refine m2 _ _ fun h=>?_ | refine m3 _ ?_ | (refine m4 _ _ (Hd.out ?_);try first | rw [hks] | rw [hk2] | rw [hk3]) | (refine m5 _ _ ?_;cbv)
 all_goals (clear m1 m2 m3 m4 m5;cases m0;(try clear hks;try clear hk2;try clear hk3);try dsimp only)
 all_goals try simp only [sm] at *
 all_goals first
  | exact ⟨h1⟩
  | exact ⟨h2⟩
  | exact hl
  | exact ⟨hx⟩
  | exact ⟨hp⟩
  | (subst hf;rfl)
def ndP (cs:List qf)(i:Nat)(q:qf):Bool:=Qg q&&(decide (qgK cs q.name=i)&&(decide (q.watch=0)||decide (jz cs q.watch=i)))
def WR (cs:List qf)(q:qf):Bool:=qD (fun _ x=>wdB cs q.label x) q.label 0
def jW (cs:List qf):Bool:=decide (1<=(cs.length:Int)/\(cs.length:Int)<=7)&&(decide (((nd cs 0).label.length:Int)<=0)&&decide ((nd cs 0).watch=0))
theorem YU (t:qx)(h1:t.nodes.length<=maxLen)(h2:∀ q∈t.nodes,W6 q):qe Tryz.prog 102 [zk t] (rB (jW t.nodes&&(qD (ndP t.nodes) t.nodes 0&&qD (fun _ q=>WR t.nodes q) t.nodes 0))):=by
 refine qe.of qc (fn:=Tryz.f102) (c:=Tryz.f102.body.getD .skip) (dr:=fun n=>qa 0 [(15,3),(16,32)] n) Tryz.func102 rfl (by kernel_rfl) (by kernel_rfl) (by kernel_rfl) ?_
 obtain ⟨f0,hf0⟩:∃ f,f=kj:=⟨_,rfl⟩
 obtain ⟨f1,hf1⟩:∃ f,f=Qg:=⟨_,rfl⟩
 obtain ⟨f2,hf2⟩:∃ f,f=qgK:=⟨_,rfl⟩
 obtain ⟨f3,hf3⟩:∃ f,f=jz:=⟨_,rfl⟩
 obtain ⟨f4,hf4⟩:∃ f,f=zy:=⟨_,rfl⟩
 obtain ⟨f5,hf5⟩:∃ f,f=QZ:=⟨_,rfl⟩
 obtain ⟨f6,hf6⟩:∃ f,f=KS:=⟨_,rfl⟩
 have hO:qm Tryz.prog (qL [(70,qaB f0),(130,Wy f1),(131,qjN f2),(72,vd f3),(132,vY f4),(93,qeL f5),(133,Jt f6)]):=by
  subst hf0 hf1 hf2 hf3 hf4 hf5 hf6
  exact qb Qz (qb qcr (qb qh2 (qb wk (qb wM (qb Vf (qb qaC qd))))))
 obtain ⟨cs,ts,hr⟩:=t
 have h1:cs.length<=maxLen:=h1
 have h2:∀ q∈cs,W6 q:=h2
 unfold maxLen at h1
 show SEx _ _ _ _ _ _ (rB (jW cs&&(qD (ndP cs) cs 0&&qD (fun _ q=>WR cs q) cs 0)))
 obtain ⟨c,hc⟩:∃ c,c=qD (fun _ q=>WR cs q) cs 0:=⟨_,rfl⟩
 obtain ⟨p,hp⟩:∃ p,p=ndP cs:=⟨_,rfl⟩
 rw [<-hc,<-hp]
 refine SEx.go (X:=XX) qc (fun n=>qa [] [(4,[1,33,34,35]),(10,[1,66,67,68]),(13,[1,6,66,67,68,73,74,75])] n) (fun _=>none) hO 60 ?_
 intro M R L N m0 m1 m2 m3 m4 m5
 cases M
 cbv
 repeat' first | refine m1 _ _ ?_ ?_ | refine m2 _ _ fun h=>?_ | refine m3 _ ?_ | (refine m4 _ _ (Hd.out ?_);generalize hks:(List.cons _ _:List K)=ks) | (refine m5 _ _ ?_;cbv)
 all_goals (clear m1 m2 m3 m4 m5;cases m0;try dsimp only)
 all_goals try simp only [sm] at *
 all_goals (try simp only [hf0,kj,Bool.and_eq_true,Bool.and_eq_false_iff,decide_eq_true_eq,decide_eq_false_iff_not] at *)
 all_goals first
  | omega
  | (refine qK ?_ _;unfold jW nd;delta qf.label qf.watch;rw [decide_eq_false (by omega)];rfl)
  | (refine qK ?_ _;unfold jW nd;delta qf.label qf.watch;rw [Bool.and_assoc,decide_eq_true (by omega),Bool.true_and,decide_eq_false (by omega)];rfl)
  | (refine qK ?_ _;unfold jW nd;delta qf.label qf.watch;rw [decide_eq_true (by omega),decide_eq_true (by omega),decide_eq_false (by assumption)];rfl)
  | skip
 have hh:jW cs=true:=by
  unfold jW nd;delta qf.label qf.watch;rw [decide_eq_true (by omega),decide_eq_true (by omega),decide_eq_true (by assumption)];rfl
 rw [hh,Bool.true_and]
 obtain ⟨m,hm⟩:∃ m,m=cs.length:=⟨_,rfl⟩
 refine ⟨SEx.same (SEx.idx m (fun i=>⟨120,[(1,bP 4096),(33,bL (.node false none cs)),(34,bI m),(35,bI i)],[(4096,.obx [.fz (.sl (.node false none cs)),.fz (.sl (.tie ts)),.fz (.int .i64 hr)])]⟩) (fun i=>rB (qD p (cs.drop i) i&&c)) ?_) (by rw [hm];rfl) rfl⟩
 intro i hi ih
 rw [<-hks]
 have hl:i<m->zE _ _ _:=fun h=>zE.of p cs i c qf.z (by omega)
 have he:i=m->(qD p (cs.drop i) i&&c)=c:=fun h=>qO (by omega)
 refine SEx.go (X:=XX) qc (fun n=>qa [] [(4,[1,33,34,35]),(10,[1,66,67,68]),(13,[1,6,66,67,68,73,74,75])] n) (fun _=>none) hO 60 ?_
 intro M R L N m0 m1 m2 m3 m4 m5
 cases M
 cbv
 repeat' first | refine m1 _ _ ?_ ?_ | refine m2 _ _ fun h=>?_ | refine m3 _ ?_ | (refine m4 _ _ (Hd.out ?_);first | rw [hks] | generalize hk2:(List.cons _ _:List K)=k2) | (refine m5 _ _ ?_;cbv)
 all_goals (clear m1 m2 m3 m4 m5;cases m0;try dsimp only)
 all_goals try simp only [sm] at *
 all_goals (try simp only [ql (show i<9223372036854775807 by omega)])
 all_goals first
  | omega
  | exact h2 _ (qu (z:=qf.z) (by omega)).out
  | exact ⟨h1⟩
  | (refine (hl (by omega)).stop _ ?_;subst hf1 hf2 hf3;rw [hp];unfold ndP;delta qf.name qf.watch;simp_all;done)
  | (refine ⟨(ih (by omega)).same rfl ((hl (by omega)).go ?_)⟩;clear ih;subst hf1 hf2 hf3;rw [hp];unfold ndP;delta qf.name qf.watch;simp_all;done)
  | skip
 have him:i=m:=by omega
 rw [he him]
 clear ih hl he
 obtain ⟨pl,hpl⟩:∃ pl:Nat->qf->Bool,pl=fun _ q=>WR cs q:=⟨_,rfl⟩
 rw [<-hpl] at hc
 refine ⟨SEx.same (SEx.idx m (fun i=>⟨120,[(1,bP 4096),(66,bL (.node false none cs)),(67,bI m),(68,bI i)],[(4096,.obx [.fz (.sl (.node false none cs)),.fz (.sl (.tie ts)),.fz (.int .i64 hr)])]⟩) (fun i=>rB (qD pl (cs.drop i) i&&true)) ?_) (by rw [hm];rfl) (by rw [hc,Bool.and_true];rfl)⟩
 intro k hk ih
 rw [<-hk2]
 have hl:k<m->zE _ _ _:=fun h=>zE.of pl cs k true qf.z (by omega)
 have he:k=m->(qD pl (cs.drop k) k&&true)=true:=fun h=>qO (by omega)
 refine SEx.go (X:=XX) qc (fun n=>qa [] [(4,[1,33,34,35]),(10,[1,66,67,68]),(13,[1,6,66,67,68,73,74,75])] n) (fun _=>none) hO 60 ?_
 intro M R L N m0 m1 m2 m3 m4 m5
 cases M
 cbv
 repeat' first | refine m1 _ _ ?_ ?_ | refine m2 _ _ fun h=>?_ | refine m3 _ ?_ | (refine m4 _ _ (Hd.out ?_);first | rw [hks] | rw [hk2] | generalize hk3:(List.cons _ _:List K)=k3) | (refine m5 _ _ ?_;cbv)
 all_goals (clear m1 m2 m3 m4 m5;cases m0;try dsimp only)
 all_goals try simp only [sm] at *
 all_goals first
  | omega
  | (refine qK ?_ _;rw [he (by omega)];done)
  | skip
 have hkm:k<m:=by omega
 obtain ⟨q,hq⟩:∃ q,q=cs.getD k qf.z:=⟨_,rfl⟩
 have hnq:W6 q:=by rw [hq];exact h2 _ (qu (z:=qf.z) (by omega)).out
 obtain ⟨d,hd⟩:∃ d,d=(qD pl (cs.drop (k+1)) (k+1)&&true):=⟨_,rfl⟩
 have hs:(qD pl (cs.drop k) k&&true)=(qD (fun _ x=>wdB cs q.label x) (q.label.drop 0) 0&&d):=by
  rw [Wz qf.z (show k<cs.length by omega),hd,<-hq,hpl,Bool.and_assoc];rfl
 rw [hs]
 rw [<-hd] at ih
 clear hl he hs hd
 obtain ⟨x1,x2,x3⟩:=q
 obtain ⟨w,hw⟩:∃ w,w=x2.length:=⟨_,rfl⟩
 have hlw:=hnq.len
 have hall:=hnq.all
 dsimp only at hlw hall
 unfold maxLen at hlw
 refine ⟨SEx.same (SEx.idx w (fun j=>⟨120,[(1,bP 4096),(6,bP 24576),(66,bL (.node false none cs)),(67,bI m),(68,bI k),(73,bL (.i x2)),(74,bI w),(75,bI j)],[(4096,.obx [.fz (.sl (.node false none cs)),.fz (.sl (.tie ts)),.fz (.int .i64 hr)]),(24576,.obx [.fz (.str x1),.fz (.sl (.i x2)),.fz (.int .i64 x3)])]⟩) (fun j=>rB (qD (fun _ x=>wdB cs x2 x) (x2.drop j) j&&d)) ?_) (by rw [hw,<-hq];rfl) rfl⟩
 intro j hj ihj
 rw [<-hk3]
 have hl:j<w->zE _ _ _:=fun h=>zE.of (fun _ x=>wdB cs x2 x) x2 j d (0:Int) (by omega)
 have he:j=w->(qD (fun _ x=>wdB cs x2 x) (x2.drop j) j&&d)=d:=fun h=>qO (by omega)
 have hlt:∀ x,f3 cs x<cs.length:=fun x=>by rw [hf3];exact (WH _ _).1
 refine SEx.go (X:=XX) qc (fun n=>qa [] [(4,[1,33,34,35]),(10,[1,66,67,68]),(13,[1,6,66,67,68,73,74,75])] n) (fun _=>none) hO 60 ?_
 intro M R L N m0 m1 m2 m3 m4 m5
 cases M
 cbv
 repeat' first | refine m1 _ _ ?_ ?_ | refine m2 _ _ fun h=>?_ | refine m3 _ ?_ | (refine m4 _ _ (Hd.out ?_);try first | rw [hks] | rw [hk2] | rw [hk3]) | (refine m5 _ _ ?_;cbv)
 all_goals (clear m1 m2 m3 m4 m5;cases m0;(try clear hks;try clear hk2;try clear hk3);try dsimp only)
 all_goals try simp only [sm] at *
 all_goals (try simp only [ql (show j<9223372036854775807 by omega)])
 all_goals (try have h5:=hlt (f4 (x2.getD j 0)))
 all_goals first
  | omega
  | exact ⟨h1⟩
  | exact ⟨hall _ (qu (z:=(0:Int)) (by omega)).out⟩
  | exact ⟨(h2 _ (qu (z:=qf.z) (by omega)).out).len⟩
  | exact ⟨hlw,hall⟩
  | exact ⟨(h2 _ (qu (z:=qf.z) (by omega)).out).len,(h2 _ (qu (z:=qf.z) (by omega)).out).all⟩
  | (have hjw:j=w:=by omega
     rw [he hjw]
     simp only [ql (show k<9223372036854775807 by omega)]
     exact ⟨(ih hkm).same rfl rfl⟩)
  | (refine (hl (by omega)).stop _ ?_;subst hf3 hf4 hf5 hf6;unfold wdB vV qhp;delta qf.label;rw [decide_eq_false (by omega)];rfl)
  | (refine (hl (by omega)).stop _ ?_;subst hf3 hf4 hf5 hf6;unfold wdB vV qhp;delta qf.label;rw [decide_eq_true (by omega)];simp_all;done)
  | (refine ⟨(ihj (by omega)).same rfl ((hl (by omega)).go ?_)⟩;clear ih ihj;subst hf3 hf4 hf5 hf6;unfold wdB vV qhp;delta qf.label;rw [decide_eq_true (by omega)];simp_all;done)
  | skip
def Kb (q m:qf):Bool:=eqS m.name q.name||(decide (¬q.watch=0)&&m.watch == q.watch)
def ndI (cs:List qf)(i:Nat)(q:qf):Bool:=Qg q&&qD (fun _ m=>!Kb q m) (cs.take i) 0
theorem qda (t:qx)(h1:t.nodes.length<=maxLen)(h2:∀ q∈t.nodes,W6 q):qe Tryz.prog 109 [zk t] (rB (jW t.nodes&&qD (ndI t.nodes) t.nodes 0)):=by
 refine qe.of qc (fn:=Tryz.f109) (c:=Tryz.f109.body.getD .skip) (dr:=fun n=>qa 0 [] n) Tryz.func109 rfl (by kernel_rfl) (by kernel_rfl) (by kernel_rfl) ?_
 obtain ⟨f1,hf1⟩:∃ f,f=Qg:=⟨_,rfl⟩
 have hO:qm Tryz.prog (qL [(137,Wy f1)]):=by
  subst hf1
  exact qb qdz qd
 obtain ⟨cs,ts,hr⟩:=t
 have h1:cs.length<=maxLen:=h1
 have h2:∀ q∈cs,W6 q:=h2
 unfold maxLen at h1
 show SEx _ _ _ _ _ _ (rB (jW cs&&qD (ndI cs) cs 0))
 obtain ⟨p,hp⟩:∃ p,p=ndI cs:=⟨_,rfl⟩
 rw [<-hp]
 refine SEx.go (X:=XX) qc (fun n=>qa [] [(4,[1,35,36,37]),(9,[1,4,35,36,37,48,49,50])] n) (fun _=>none) hO 60 ?_
 intro M R L N m0 m1 m2 m3 m4 m5
 cases M
 cbv
 repeat' first | refine m1 _ _ ?_ ?_ | refine m2 _ _ fun h=>?_ | refine m3 _ ?_ | (refine m4 _ _ (Hd.out ?_);generalize hks:(List.cons _ _:List K)=ks) | (refine m5 _ _ ?_;cbv)
 all_goals (clear m1 m2 m3 m4 m5;cases m0;try dsimp only)
 all_goals try simp only [sm] at *
 all_goals first
  | omega
  | (refine qK ?_ _;unfold jW nd;delta qf.label qf.watch;rw [decide_eq_false (by omega)];rfl)
  | (refine qK ?_ _;unfold jW nd;delta qf.label qf.watch;rw [Bool.and_assoc,decide_eq_true (by omega),Bool.true_and,decide_eq_false (by omega)];rfl)
  | (refine qK ?_ _;unfold jW nd;delta qf.label qf.watch;rw [decide_eq_true (by omega),decide_eq_true (by omega),decide_eq_false (by assumption)];rfl)
  | skip
 have hh:jW cs=true:=by
  unfold jW nd;delta qf.label qf.watch;rw [decide_eq_true (by omega),decide_eq_true (by omega),decide_eq_true (by assumption)];rfl
 rw [hh,Bool.true_and]
 obtain ⟨m,hm⟩:∃ m,m=cs.length:=⟨_,rfl⟩
 refine ⟨SEx.same (SEx.idx m (fun i=>⟨73,[(1,bP 4096),(35,bL (.node false none cs)),(36,bI m),(37,bI i)],[(4096,.obx [.fz (.sl (.node false none cs)),.fz (.sl (.tie ts)),.fz (.int .i64 hr)])]⟩) (fun i=>rB (qD p (cs.drop i) i&&true)) ?_) (by rw [hm];rfl) (by rw [Bool.and_true];rfl)⟩
 intro i hi ih
 rw [<-hks]
 have hl:i<m->zE _ _ _:=fun h=>zE.of p cs i true qf.z (by omega)
 have he:i=m->(qD p (cs.drop i) i&&true)=true:=fun h=>qO (by omega)
 refine SEx.go (X:=XX) qc (fun n=>qa [] [(4,[1,35,36,37]),(9,[1,4,35,36,37,48,49,50])] n) (fun _=>none) hO 60 ?_
 intro M R L N m0 m1 m2 m3 m4 m5
 cases M
 cbv
 repeat' first | refine m1 _ _ ?_ ?_ | refine m2 _ _ fun h=>?_ | refine m3 _ ?_ | (refine m4 _ _ (Hd.out ?_);first | rw [hks] | generalize hk2:(List.cons _ _:List K)=k2) | (refine m5 _ _ ?_;cbv)
 all_goals (clear m1 m2 m3 m4 m5;cases m0;try dsimp only)
 all_goals try simp only [sm] at *
 all_goals (try simp only [ql (show i<9223372036854775807 by omega)])
 all_goals first
  | omega
  | exact h2 _ (qu (z:=qf.z) (by omega)).out
  | (refine qK ?_ _;rw [he (by omega)];done)
  | (refine (hl (by omega)).stop _ ?_;subst hf1;rw [hp];unfold ndI;simp_all;done)
  | skip
 have him:i<m:=by omega
 have hq1:f1 (cs.getD i qf.z)=true:=by assumption
 obtain ⟨q,hq⟩:∃ q,q=cs.getD i qf.z:=⟨_,rfl⟩
 rw [<-hq] at hq1
 obtain ⟨l,hll⟩:∃ l,l=cs.take i:=⟨_,rfl⟩
 obtain ⟨d,hd⟩:∃ d,d=(qD p (cs.drop (i+1)) (i+1)&&true):=⟨_,rfl⟩
 have hs:(qD p (cs.drop i) i&&true)=(qD (fun _ m=>!Kb q m) (l.drop 0) 0&&d):=by
  rw [Wz qf.z (show i<cs.length by omega),hd,<-hq,hp,Bool.and_assoc,ndI,<-hf1,hq1,<-hll,Bool.true_and];rfl
 rw [hs]
 rw [<-hd] at ih
 clear hl he hs hd
 obtain ⟨x1,x2,x3⟩:=q
 obtain ⟨w,hw⟩:∃ w,w=l.length:=⟨_,rfl⟩
 have hwl:w<=cs.length:=by rw [hw,hll,List.length_take];omega
 refine ⟨SEx.same (SEx.idx w (fun j=>⟨73,[(1,bP 4096),(4,bP 16384),(35,bL (.node false none cs)),(36,bI m),(37,bI i),(48,bL (.node false none l)),(49,bI w),(50,bI j)],[(4096,.obx [.fz (.sl (.node false none cs)),.fz (.sl (.tie ts)),.fz (.int .i64 hr)]),(16384,.obx [.fz (.str x1),.fz (.sl (.i x2)),.fz (.int .i64 x3)])]⟩) (fun j=>rB (qD (fun _ m=>!Kb ⟨x1,x2,x3⟩ m) (l.drop j) j&&d)) ?_) (by rw [hw,<-hq,hll];rfl) rfl⟩
 intro j hj ihj
 rw [<-hk2]
 have hl:j<w->zE _ _ _:=fun h=>zE.of (fun _ m=>!Kb ⟨x1,x2,x3⟩ m) l j d qf.z (by omega)
 have he:j=w->(qD (fun _ m=>!Kb ⟨x1,x2,x3⟩ m) (l.drop j) j&&d)=d:=fun h=>qO (by omega)
 refine SEx.go (X:=XX) qc (fun n=>qa [] [(4,[1,35,36,37]),(9,[1,4,35,36,37,48,49,50])] n) (fun _=>none) hO 60 ?_
 intro M R L N m0 m1 m2 m3 m4 m5
 cases M
 cbv
 repeat' first | refine m1 _ _ ?_ ?_ | refine m2 _ _ fun h=>?_ | refine m3 _ ?_ | (refine m4 _ _ (Hd.out ?_);try first | rw [hks] | rw [hk2] | rw [hk3]) | (refine m5 _ _ ?_;cbv)
 all_goals (clear m1 m2 m3 m4 m5;cases m0;(try clear hks;try clear hk2;try clear hk3);try dsimp only)
 all_goals try simp only [sm] at *
 all_goals (try simp only [ql (show j<9223372036854775807 by omega)])
 all_goals first
  | omega
  | (refine (hl (by omega)).stop _ ?_;unfold Kb eqS;delta qf.name qf.watch;simp_all;done)
  | (refine ⟨(ihj (by omega)).same rfl ((hl (by omega)).go ?_)⟩;clear ih ihj;unfold Kb eqS;delta qf.name qf.watch;simp_all;done)
  | (rw [he (by omega)];simp only [ql (show i<9223372036854775807 by omega)];exact ⟨(ih (by omega)).same rfl rfl⟩)
  | skip
theorem qj6 {α:Type}(p q:α->Bool):∀ l:List α,(l.any fun x=>p x||q x)=(l.any p||l.any q)
 | []=>rfl
 | a::r=>by simp only [List.any_cons,qj6 p q r];cases p a<;>cases q a<;>cases r.any p<;>cases r.any q<;>rfl
theorem qgN {α:Type}(c:Bool)(q:α->Bool):∀ l:List α,(l.any fun x=>c&&q x)=(c&&l.any q)
 | []=>by simp
 | a::r=>by simp only [List.any_cons,qgN c q r];cases c<;>rfl
theorem qkI (s:ByteArray):eqS s s=true:=by unfold eqS;simp
theorem qm8 {cs:List qf}{i:Nat}{q:qf}(h:cs[i]?=some q):ndI cs i q=ndP cs i q:=by
 have hi:i<cs.length:=by rw [List.getElem?_eq_some_iff] at h;exact h.1
 have hq:cs.getD i qf.z=q:=by rw [List.getD_eq_getElem?_getD,h];rfl
 have e1:decide (qgK cs q.name=i)=!((cs.take i).any fun r=>eqS r.name q.name):=by
  have:=KF (p:=fun r:qf=>eqS r.name q.name) (l:=cs) (i:=i) 0 qf.z hi (by rw [hq];exact qkI _)
  rw [Nat.zero_add] at this
  rw [Bool.eq_iff_iff]
  simp only [decide_eq_true_eq,Bool.not_eq_true']
  exact this
 have e2:decide (jz cs q.watch=i)=!((cs.take i).any fun r=>r.watch == q.watch):=by
  have:=KF (p:=fun r:qf=>r.watch == q.watch) (l:=cs) (i:=i) 0 qf.z hi (by rw [hq];exact beq_self_eq_true _)
  rw [Nat.zero_add] at this
  rw [Bool.eq_iff_iff]
  simp only [decide_eq_true_eq,Bool.not_eq_true']
  exact this
 have e3:qD (fun _ m=>!Kb q m) (cs.take i) 0=!(((cs.take i).any fun r=>eqS r.name q.name)||(decide (¬q.watch=0)&&(cs.take i).any fun r=>r.watch == q.watch)):=by
  rw [J6,<-qgN,<-qj6,List.not_any_eq_all_not];rfl
 unfold ndI ndP
 rw [e1,e2,e3,Bool.not_or,Bool.not_and,decide_not,Bool.not_not]
theorem qjg (cs:List qf):qD (ndI cs) cs 0=qD (ndP cs) cs 0:=Jd cs 0 fun i q h=>by rw [Nat.zero_add];exact qm8 h
structure qmM (cs:List qf):Prop where out:∀ q∈cs,W6 q
def jN (cs:List qf):Bool:=jW cs&&qD (ndP cs) cs 0
def qfT (cs:List qf):Bool:=qD (fun _ q=>WR cs q) cs 0
def Kt (f:List qf->Bool):Wr:=w1 q7 (fun t=>rB (f t.nodes)) (fun t=>[LLe t.nodes maxLen,qmM t.nodes])
def nlB (cs:List qf):Bool:=jN cs&&qfT cs
theorem yI:qH Tryz.prog 102 (Kt nlB):=zK fun t h=>by
 unfold nlB jN qfT
 rw [Bool.and_assoc]
 exact YU t (h _ (.head _)).out (h _ (.tail _ (.head _))).out
theorem qa9:qH Tryz.prog 109 (Kt jN):=zK fun t h=>by
 unfold jN
 rw [<-qjg]
 exact qda t (h _ (.head _)).out (h _ (.tail _ (.head _))).out
def qcE (n:Int):Bool:=decide (1<=n)&&decide (n<=10)
def z6 (t:qx):Bool:=jN t.nodes&&(qfT t.nodes&&(y6 t.nodes t.ties&&qcE t.hor))
structure KZ (t:qx):Prop where
 len:t.nodes.length<=maxLen
 tlen:t.ties.length<=maxLen
 nodes:∀ q∈t.nodes,W6 q
theorem yz (t:qx)(ht:KZ t):qe Tryz.prog 63 [zk t] (rB (z6 t)):=by
 refine qe.of qc (fn:=Tryz.f63) (c:=Tryz.f63.body.getD .skip) (dr:=fun n=>qa 0 [] n) Tryz.func63 rfl (by kernel_rfl) (by kernel_rfl) (by kernel_rfl) ?_
 have h1:=ht.len
 have h2:=ht.tlen
 have h3:=ht.nodes
 clear ht
 obtain ⟨f1,hf1⟩:∃ f,f=nlB:=⟨_,rfl⟩
 obtain ⟨f3,hf3⟩:∃ f,f=kj:=⟨_,rfl⟩
 obtain ⟨f4,hf4⟩:∃ f,f=Wn:=⟨_,rfl⟩
 have hO:qm Tryz.prog (qL [(102,Kt f1),(70,qaB f3),(103,qnV f4)]):=by
  subst hf1 hf3 hf4
  exact qb yI (qb Qz (qb qmz qd))
 obtain ⟨ns,ts,hr⟩:=t
 have h1:ns.length<=maxLen:=h1
 have h2:ts.length<=maxLen:=h2
 have h3:∀ q∈ns,W6 q:=h3
 unfold maxLen at h2
 obtain ⟨a,ha⟩:∃ a,a=decide (ts.length<=14):=⟨_,rfl⟩
 obtain ⟨d,hd⟩:∃ a,a=qcE hr:=⟨_,rfl⟩
 obtain ⟨p,hp⟩:∃ p:Nat->Tie->Bool,p=f4 ns ts:=⟨_,rfl⟩
 have hs:z6 ⟨ns,ts,hr⟩=(f1 ns&&(qD p ts 0&&(a&&d))):=by
  rw [hf1,hp,hf4,ha,hd];unfold z6 y6 nlB;rw [Bool.and_assoc,Bool.and_assoc]
 rw [hs]
 have hdd:f3 hr 1 10=d:=by rw [hf3,hd];rfl
 clear hd hs
 refine SEx.go (X:=XX) qc (fun n=>qa [] [(4,[1,21,22])] n) (fun _=>none) hO 60 ?_
 intro M R L N m0 m1 m2 m3 m4 m5
 cases M
 cbv
 repeat' first | refine m1 _ _ ?_ ?_ | refine m2 _ _ fun h=>?_ | refine m3 _ ?_ | (refine m4 _ _ (Hd.out ?_);generalize hks:(List.cons _ _:List K)=ks) | (refine m5 _ _ ?_;cbv)
 all_goals (clear m1 m2 m3 m4 m5;cases m0;try dsimp only)
 all_goals try simp only [sm] at *
 all_goals (try rw [hdd] at *)
 all_goals first
  | exact ⟨h1⟩
  | exact ⟨h3⟩
  | (refine qK ?_ _;simp_all;done)
  | (refine qK ?_ _;rw [ha,decide_eq_false (by omega)];simp;done)
  | skip
 rw [show f1 ns=true by assumption,Bool.true_and,show a=true by rw [ha];exact decide_eq_true (by omega),show d=true by assumption,Bool.true_and]
 obtain ⟨m,hm⟩:∃ m,m=ts.length:=⟨_,rfl⟩
 refine ⟨SEx.same (SEx.idx m (fun i=>⟨30,[(1,bP 4096),(21,bI m),(22,bI i)],[(4096,.obx [.fz (.sl (.node false none ns)),.fz (.sl (.tie ts)),.fz (.int .i64 hr)])]⟩) (fun i=>rB (qD p (ts.drop i) i&&true)) ?_) (by rw [hm];rfl) rfl⟩
 intro i hi ih
 rw [<-hks]
 have hl:i<m->zE _ _ _:=fun h=>zE.of p ts i true Tie.z (by omega)
 have he:i=m->(qD p (ts.drop i) i&&true)=true:=fun h=>qO (by omega)
 refine SEx.go (X:=XX) qc (fun n=>qa [] [(4,[1,21,22])] n) (fun _=>none) hO 60 ?_
 intro M R L N m0 m1 m2 m3 m4 m5
 cases M
 cbv
 repeat' first | refine m1 _ _ ?_ ?_ | refine m2 _ _ fun h=>?_ | refine m3 _ ?_ | (refine m4 _ _ (Hd.out ?_);try first | rw [hks] | rw [hk2] | rw [hk3]) | (refine m5 _ _ ?_;cbv)
 all_goals (clear m1 m2 m3 m4 m5;cases m0;(try clear hks;try clear hk2;try clear hk3);try dsimp only)
 all_goals try simp only [sm] at *
 all_goals (try simp only [ql (show i<9223372036854775807 by omega)])
 all_goals first
  | omega
  | exact ⟨h1⟩
  | exact ⟨h2⟩
  | exact ⟨fun q hq=>(h3 q hq).len⟩
  | exact ⟨⟨by omega,by omega⟩⟩
  | (refine qK ?_ _;rw [he (by omega)];done)
  | (refine (hl (by omega)).stop _ ?_;rw [hp];assumption)
  | (refine ⟨(ih (by omega)).same rfl ((hl (by omega)).go ?_)⟩;rw [hp];assumption)
  | skip
end Go.Proofs.YtececadpjelanaaGreat.Ai
namespace Go.Proofs.YtececadpjelanaaGreat.Ai
open Go
set_option maxRecDepth 100000
variable [qh]
def qoA {α β:Type}(k:Nat)(g h:Bool)(d:Dc α)(e:Dc β):Dc (α×β):=⟨fun a=>aF k [.ptr (d.enc a.1).2,.ptr (e.enc a.2).2],fun | (false,[.fn f [.ptr x,.ptr y]])=>(match nq f k with | true=>(match d.dec (g,x),e.dec (h,y) with | some a,some b=>some (a,b) | _,_=>none) | false=>none) | _=>none,by
 intro x a hh
 split at hh
 . split at hh
   . rename_i hk
     obtain rfl:=Qr.1 hk
     split at hh
     . rename_i a' b' ha hb
       simp only [Option.some.injEq] at hh
       subst hh
       have e1:=congrArg Prod.snd (d.ok _ _ ha)
       have e2:=congrArg Prod.snd (e.ok _ _ hb)
       simp only [zZ] at e1 e2
       simp only [zZ,D.erL,D.er,aF,e1,e2]
     . cases hh
   . cases hh
 . cases hh⟩
structure qnS (l:List Int):Prop where out:∀ x∈l,inI x/\0<zy x
theorem wF {x:Int}(h0:¬x=0)(h1:-3<=x)(h2:x<=3):0<zy x:=by
 unfold zy
 split
 . rw [qy (by omega) (by omega)];omega
 . omega
theorem VR {x:Int}(h1:-3<=x)(h2:x<=3):zy x<=3:=by
 unfold zy
 split
 . rw [qy (by omega) (by omega)];omega
 . omega
theorem Zb {l:List Int}(h:qX l=true){x:Int}(hx:x∈l):¬x=0/\-3<=x/\x<=3:=by
 obtain ⟨i,hi,rfl⟩:=List.mem_iff_getElem.1 hx
 have:=of_decide_eq_true (qdd h i hi)
 rw [km hi] at this
 exact ⟨this.1,this.2.1,this.2.2.1⟩
theorem w7 {l:List Int}(h:qX l=true):∀ x∈l,inI x/\0<zy x:=fun x hx=>by
 have ⟨h1,h2,h3⟩:=Zb h hx
 exact ⟨by rw [jC];omega,wF h1 h2 h3⟩
theorem VA {α:Type}{p:Nat->α->Bool}:∀ {l:List α} {n:Nat} {q:α},qD p l n=true->q∈l->∃ i,p i q=true
 | a::r,n,q,h,hq=>by
   unfold qD at h
   rw [Bool.and_eq_true] at h
   rcases List.mem_cons.1 hq with rfl | hq
   . exact ⟨n,h.1⟩
   . exact VA h.2 hq
theorem vA {cs:List qf}(h:jN cs=true){q:qf}(hq:q∈cs):Qg q=true:=by
 unfold jN at h
 rw [Bool.and_eq_true] at h
 obtain ⟨i,hi⟩:=VA h.2 hq
 unfold ndP at hi
 rw [Bool.and_eq_true] at hi
 exact hi.1
theorem vE {q:qf}(h:Qg q=true):qX q.label=true:=by
 unfold Qg at h
 simp only [Bool.and_eq_true] at h
 exact h.1.2
def qoD (l:List Int)(t:qx)(q:qf):Bool:=l.any fun x=>!wdB t.nodes q.label x
theorem yG (t:qx)(ht:KZ t):qe Tryz.prog 76 [zk t] (rB (z6 t)):=by
 refine qe.of qc (fn:=Tryz.f76) (c:=Tryz.f76.body.getD .skip) (dr:=fun n=>qa 0 [] n) Tryz.func76 rfl (by kernel_rfl) (by kernel_rfl) (by kernel_rfl) ?_
 have h1:=ht.len
 have h2:=ht.tlen
 have h3:=ht.nodes
 clear ht
 obtain ⟨f1,hf1⟩:∃ f,f=jN:=⟨_,rfl⟩
 obtain ⟨f2,hf2⟩:∃ f,f=y6:=⟨_,rfl⟩
 obtain ⟨f3,hf3⟩:∃ f,f=qoD:=⟨_,rfl⟩
 have hO:qm Tryz.prog (qL [(109,Kt f1),(110,qbM f2),(111,w2 kB (qoA 112 true true q7 K9) (fun l x=>rB (f3 l x.1 x.2)) (fun l x=>[LLe l maxLen,qnS l,LLe x.1.nodes maxLen,qmM x.1.nodes,W6 x.2]))]):=by
  subst hf1 hf2 hf3
  exact qb qa9 (qb qbU (qb (qI fun l x h=>by
   have g1:=(h _ (.head _)).out
   have g2:=(h _ (.tail _ (.head _))).out
   have g3:=(h _ (.tail _ (.tail _ (.head _)))).out
   have g4:=(h _ (.tail _ (.tail _ (.tail _ (.head _))))).out
   have g5:=h _ (.tail _ (.tail _ (.tail _ (.tail _ (.head _)))))
   exact Zo l _ _ _ (fun y hy=>qfG y x.1 x.2 g3 (fun q hq=>⟨(g4 q hq).len,(g4 q hq).all⟩) ⟨g5.len,g5.all⟩ (g2 y hy).1 (g2 y hy).2) g1) qd))
 obtain ⟨ns,ts,hr⟩:=t
 have h1:ns.length<=maxLen:=h1
 have h2:ts.length<=maxLen:=h2
 have h3:∀ q∈ns,W6 q:=h3
 have h1':=h1
 unfold maxLen at h1'
 obtain ⟨d,hd⟩:∃ a,a=qcE hr:=⟨_,rfl⟩
 obtain ⟨p,hp⟩:∃ p:Nat->qf->Bool,p=fun _ q=>WR ns q:=⟨_,rfl⟩
 have hs:z6 ⟨ns,ts,hr⟩=(f1 ns&&(f2 ns ts&&(d&&qD p ns 0))):=by
  rw [hf1,hp,hf2,hd];unfold z6 qfT;dsimp only
  generalize qD (fun _ q=>WR ns q) ns 0=a
  generalize y6 ns ts=b
  generalize qcE hr=c
  generalize jN ns=e
  revert a b c e;decide
 rw [hs]
 clear hs
 refine SEx.go (X:=XX) qc (fun n=>qa [] [(4,[1,24,25,26])] n) (fun _=>none) hO 60 ?_
 intro M R L N m0 m1 m2 m3 m4 m5
 cases M
 cbv
 repeat' first | refine m1 _ _ ?_ ?_ | refine m2 _ _ fun h=>?_ | refine m3 _ ?_ | (refine m4 _ _ (Hd.out ?_);generalize hks:(List.cons _ _:List K)=ks) | (refine m5 _ _ ?_;cbv)
 all_goals (clear m1 m2 m3 m4 m5;cases m0;try dsimp only)
 all_goals try simp only [sm] at *
 all_goals first
  | exact ⟨h1⟩
  | exact ⟨h2⟩
  | exact ⟨h3⟩
  | exact ⟨fun q hq=>(h3 q hq).len⟩
  | (refine qK ?_ _;rw [show f1 ns=false by assumption];rfl)
  | (refine qK ?_ _;rw [show f2 ns ts=false by assumption];simp;done)
  | (refine qK ?_ _;rw [hd,qcE,decide_eq_false (by omega)];simp;done)
  | (refine qK ?_ _;rw [hd,qcE,decide_eq_false (show ¬hr<=10 by omega)];simp;done)
  | skip
 have hn1:jN ns=true:=by rw [<-hf1];assumption
 rw [show f1 ns=true by assumption,show f2 ns ts=true by assumption,show d=true by rw [hd,qcE,decide_eq_true (by omega),decide_eq_true (by omega)];rfl,Bool.true_and,Bool.true_and,Bool.true_and]
 obtain ⟨m,hm⟩:∃ m,m=ns.length:=⟨_,rfl⟩
 refine ⟨SEx.same (SEx.idx m (fun i=>⟨35,[(1,bP 4096),(24,bL (.node false none ns)),(25,bI m),(26,bI i)],[(4096,.obx [.fz (.sl (.node false none ns)),.fz (.sl (.tie ts)),.fz (.int .i64 hr)])]⟩) (fun i=>rB (qD p (ns.drop i) i&&true)) ?_) (by rw [hm];rfl) (by rw [Bool.and_true];rfl)⟩
 intro i hi ih
 rw [<-hks]
 have hl:i<m->zE _ _ _:=fun h=>zE.of p ns i true qf.z (by omega)
 have he:i=m->(qD p (ns.drop i) i&&true)=true:=fun h=>qO (by omega)
 have hmem:i<m->Mem (ns.getD i qf.z) ns:=fun h=>qu (by omega)
 have hps:∀ q:qf,f3 q.label ⟨ns,ts,hr⟩ q=!p i q:=fun q=>by
  rw [hf3,hp];show (q.label.any fun x=>!wdB ns q.label x)=!qD (fun _ x=>wdB ns q.label x) q.label 0;rw [J6,List.not_all_eq_any_not]
 refine SEx.go (X:=XX) qc (fun n=>qa [] [(4,[1,24,25,26])] n) (fun _=>none) hO 60 ?_
 intro M R L N m0 m1 m2 m3 m4 m5
 cases M
 cbv
 repeat' first | refine m1 _ _ ?_ ?_ | refine m2 _ _ fun h=>?_ | refine m3 _ ?_ | (refine m4 _ _ (Hd.out ?_);try first | rw [hks] | rw [hk2] | rw [hk3]) | (refine m5 _ _ ?_;cbv)
 all_goals (clear m1 m2 m3 m4 m5;cases m0;(try clear hks;try clear hk2;try clear hk3);try dsimp only)
 all_goals try simp only [sm] at *
 all_goals (try simp only [ql (show i<9223372036854775807 by omega)])
 all_goals first
  | omega
  | exact ⟨h1⟩
  | exact ⟨h3⟩
  | exact ⟨(h3 _ (hmem (by omega)).out).len⟩
  | exact ⟨w7 (vE (vA hn1 (hmem (by omega)).out))⟩
  | exact h3 _ (hmem (by omega)).out
  | (refine qK ?_ _;rw [he (by omega)];done)
  | (refine (hl (by omega)).stop _ ?_;have hx:=hps (ns.getD i qf.z);simp_all;done)
  | (refine ⟨(ih (by omega)).same rfl ((hl (by omega)).go ?_)⟩;clear ih;have hx:=hps (ns.getD i qf.z);simp_all;done)
  | skip
def JV (f:qx->Bool):Wr:=w1 q7 (fun t=>rB (f t)) (fun t=>[KZ t])
theorem vP:qH Tryz.prog 63 (JV z6):=zK fun t h=>yz t (h _ (.head _))
theorem qbO:qH Tryz.prog 76 (JV z6):=zK fun t h=>yG t (h _ (.head _))
theorem Ky {t:qx}(h:z6 t=true):1<=t.hor/\t.hor<=10:=by
 unfold z6 qcE at h
 simp only [Bool.and_eq_true,decide_eq_true_eq] at h
 exact h.2.2.2
theorem kp {t:qx}(h:z6 t=true):1<=t.nodes.length/\t.nodes.length<=7:=by
 unfold z6 jN jW at h
 simp only [Bool.and_eq_true,decide_eq_true_eq] at h
 omega
theorem vX {t:qx}(h:z6 t=true){q:qf}(hq:q∈t.nodes):qX q.label=true:=by
 unfold z6 at h
 rw [Bool.and_eq_true] at h
 exact vE (vA h.1 hq)
end Go.Proofs.YtececadpjelanaaGreat.Ai
namespace Go.Proofs.YtececadpjelanaaGreat.Ai
open Go
set_option maxRecDepth 100000
variable [qh]
def Kf (times:List Int)(w:Int):Bool:=decide (0<=w)&&decide (¬times.getD w.toNat 0=-1)
def vR (now:Int)(i:Nat)(n:Int):Bool:=decide ((i=0->n=0)/\(0<i->-1<=n/\n<=now-1))
def qnM (cs:List qf)(times:List Int)(i:Nat)(v:Int):Bool:=decide (¬v=0) == Kf times (jz cs ((i:Int)+1))
def ZA (t:qx)(x:qn):Bool:=decide (0<=x.now/\x.now<=t.hor+1/\x.times.length=t.nodes.length)&&(qW x.vals&&(qD (vR x.now) x.times 0&&qD (qnM t.nodes x.times) x.vals 0))
structure Zy (x:qn):Prop where
 now:inI x.now
 tlen:x.times.length<=maxLen
 vlen:x.vals.length<=maxLen
theorem kO {l:List Int}(h:qW l=true):l.length=3:=by
 unfold qW at h
 simp only [Bool.and_eq_true,decide_eq_true_eq] at h
 exact h.2
theorem Z1 (a b:Int):decide (¬a=b)=!(a == b):=by by_cases h:a=b<;>simp [h]
theorem qfB (t:qx)(x:qn)(ht:z6 t=true)(hx:Zy x):qe Tryz.prog 77 [zk t,zB x] (rB (ZA t x)):=by
 refine qe.of qc (fn:=Tryz.f77) (c:=Tryz.f77.body.getD .skip) (dr:=fun n=>qa 0 [] n) Tryz.func77 rfl (by kernel_rfl) (by kernel_rfl) (by kernel_rfl) ?_
 have hh:=Ky ht
 have hn:=kp ht
 have h2:=hx.tlen
 have h3:=hx.vlen
 have h4:=hx.now
 clear ht hx
 rw [jC] at h4
 obtain ⟨f1,hf1⟩:∃ f,f=qW:=⟨_,rfl⟩
 obtain ⟨f2,hf2⟩:∃ f,f=jz:=⟨_,rfl⟩
 have hO:qm Tryz.prog (qL [(114,QW f1),(115,ZQ f2)]):=by
  subst hf1 hf2
  exact qb KU (qb JF qd)
 obtain ⟨ns,ts,hr⟩:=t
 obtain ⟨now,times,vals⟩:=x
 dsimp only at hh hn h2 h3 h4
 unfold maxLen at h2 h3
 obtain ⟨p,hp⟩:∃ p,p=vR now:=⟨_,rfl⟩
 obtain ⟨q,hq⟩:∃ q,q=qnM ns times:=⟨_,rfl⟩
 obtain ⟨d,hd⟩:∃ d,d=qD q vals 0:=⟨_,rfl⟩
 have hs:ZA ⟨ns,ts,hr⟩ ⟨now,times,vals⟩=(decide (0<=now/\now<=hr+1/\times.length=ns.length)&&(f1 vals&&(qD p times 0&&d))):=by
  rw [hf1,hp,hd,hq];rfl
 rw [hs]
 clear hs
 obtain ⟨r,hrr⟩:∃ r,r=(decide (0<=now/\now<=hr+1/\times.length=ns.length)&&(f1 vals&&(qD p times 0&&d))):=⟨_,rfl⟩
 rw [<-hrr]
 have h1r:IntKind.i64.wrap (hr+1)=hr+1:=qy (by omega) (by omega)
 refine SEx.go (X:=XX) qc (fun n=>qa [] [(4,[2,3,37,38,39]),(10,[2,3,67,68,69])] n) (fun _=>none) hO 60 ?_
 intro M R L N m0 m1 m2 m3 m4 m5
 cases M
 cbv
 repeat' first | refine m1 _ _ ?_ ?_ | refine m2 _ _ fun h=>?_ | refine m3 _ ?_ | (refine m4 _ _ (Hd.out ?_);generalize hks:(List.cons _ _:List K)=ks) | (refine m5 _ _ ?_;cbv)
 all_goals (clear m1 m2 m3 m4 m5;cases m0;try dsimp only)
 all_goals try simp only [sm] at *
 all_goals (try rw [h1r] at *)
 all_goals first
  | omega
  | exact ⟨h3⟩
  | (refine qK ?_ _;rw [hrr,decide_eq_false (by omega)];rfl)
  | (refine qK ?_ _;rw [hrr,show f1 vals=false by assumption];simp;done)
  | skip
 rw [show f1 vals=true by assumption,decide_eq_true (by omega),Bool.true_and,Bool.true_and] at hrr
 rw [hrr]
 clear hrr
 have hv3:vals.length=3:=by apply kO;rw [<-hf1];assumption
 obtain ⟨m,hm⟩:∃ m,m=times.length:=⟨_,rfl⟩
 refine ⟨SEx.same (SEx.idx m (fun i=>⟨92,[(2,bP 8192),(3,bP 12288),(37,bL (.i times)),(38,bI m),(39,bI i)],[(8192,.obx [.fz (.sl (.node false none ns)),.fz (.sl (.tie ts)),.fz (.int .i64 hr)]),(12288,.obx [.fz (.int .i64 now),.fz (.sl (.i times)),.fz (.sl (.i vals))])]⟩) (fun i=>rB (qD p (times.drop i) i&&d)) ?_) (by rw [hm];rfl) rfl⟩
 intro i hi ih
 rw [<-hks]
 have hl:i<m->zE _ _ _:=fun h=>zE.of p times i d (0:Int) (by omega)
 have he:i=m->(qD p (times.drop i) i&&d)=d:=fun h=>qO (by omega)
 have h1n:IntKind.i64.wrap (now-1)=now-1:=qy (by omega) (by omega)
 refine SEx.go (X:=XX) qc (fun n=>qa [] [(4,[2,3,37,38,39]),(10,[2,3,67,68,69])] n) (fun _=>none) hO 60 ?_
 intro M R L N m0 m1 m2 m3 m4 m5
 cases M
 cbv
 repeat' first | refine m1 _ _ ?_ ?_ | refine m2 _ _ fun h=>?_ | refine m3 _ ?_ | (refine m4 _ _ (Hd.out ?_);first | rw [hks] | generalize hk2:(List.cons _ _:List K)=k2) | (refine m5 _ _ ?_;cbv)
 all_goals (clear m1 m2 m3 m4 m5;cases m0;try dsimp only)
 all_goals try simp only [sm] at *
 all_goals (try simp only [ql (show i<9223372036854775807 by omega),h1n] at *)
 all_goals first
  | omega
  | (refine (hl (by omega)).stop _ ?_;rw [hp,vR];apply decide_eq_false;omega)
  | (refine ⟨(ih (by omega)).same rfl ((hl (by omega)).go ?_)⟩;rw [hp,vR];apply decide_eq_true;omega)
  | skip
 have him:i=m:=by omega
 rw [he him]
 clear ih hl he
 rw [hd]
 clear hd
 refine ⟨SEx.same (SEx.idx 3 (fun i=>⟨92,[(2,bP 8192),(3,bP 12288),(67,bL (.i vals)),(68,bI 3),(69,bI i)],[(8192,.obx [.fz (.sl (.node false none ns)),.fz (.sl (.tie ts)),.fz (.int .i64 hr)]),(12288,.obx [.fz (.int .i64 now),.fz (.sl (.i times)),.fz (.sl (.i vals))])]⟩) (fun i=>rB (qD q (vals.drop i) i&&true)) ?_) (by rw [hv3];rfl) (by rw [Bool.and_true];rfl)⟩
 intro k hk ih
 rw [<-hk2]
 have hl:k<3->zE _ _ _:=fun h=>zE.of q vals k true (0:Int) (by omega)
 have he:k=3->(qD q (vals.drop k) k&&true)=true:=fun h=>qO (by omega)
 have hlt:∀ x,f2 ns x<ns.length:=fun x=>by rw [hf2];exact (WH _ _).1
 have hqk:q k (vals.getD k 0)=(decide (¬vals.getD k 0=0) == Kf times (f2 ns ((k+1:Nat):Int))):=by
  rw [hq,hf2];rfl
 have h5:=hlt ((k+1:Nat):Int)
 refine SEx.go (X:=XX) qc (fun n=>qa [] [(4,[2,3,37,38,39]),(10,[2,3,67,68,69])] n) (fun _=>none) hO 60 ?_
 intro M R L N m0 m1 m2 m3 m4 m5
 cases M
 cbv
 repeat' first | refine m1 _ _ ?_ ?_ | refine m2 _ _ fun h=>?_ | refine m3 _ ?_ | (refine m4 _ _ (Hd.out ?_);try first | rw [hks] | rw [hk2] | rw [hk3]) | (refine m5 _ _ ?_;cbv)
 all_goals (clear m1 m2 m3 m4 m5;cases m0;(try clear hks;try clear hk2;try clear hk3);try dsimp only)
 all_goals try simp only [sm] at *
 all_goals (try simp only [ql (show k<9223372036854775807 by omega)] at *)
 all_goals first
  | omega
  | exact ⟨by omega⟩
  | (refine qK ?_ _;rw [he (by omega)];done)
  | (refine (hl (by omega)).stop _ ?_;rw [hqk];unfold Kf;clear hqk hl he ih;generalize f2 ns ((k+1:Nat):Int)=w at *;rw [decide_eq_true (show 0<=w by assumption)];generalize times.getD w.toNat 0=b at *;generalize vals.getD k 0=a at *;rw [Z1,Z1];generalize (a == 0)=u at *;generalize (b == -1)=v at *;cases u<;>cases v<;>simp_all;done)
  | (refine (hl (by omega)).stop _ ?_;rw [hqk];unfold Kf;clear hqk hl he ih;generalize f2 ns ((k+1:Nat):Int)=w at *;rw [decide_eq_false (show ¬0<=w by omega)];generalize vals.getD k 0=a at *;by_cases ha:a=0<;>simp_all;done)
  | (refine ⟨(ih (by omega)).same rfl ((hl (by omega)).go ?_)⟩;rw [hqk];unfold Kf;clear hqk hl he ih;generalize f2 ns ((k+1:Nat):Int)=w at *;rw [decide_eq_true (show 0<=w by assumption)];generalize times.getD w.toNat 0=b at *;generalize vals.getD k 0=a at *;rw [Z1,Z1];generalize (a == 0)=u at *;generalize (b == -1)=v at *;cases u<;>cases v<;>simp_all;done)
  | (refine ⟨(ih (by omega)).same rfl ((hl (by omega)).go ?_)⟩;rw [hqk];unfold Kf;clear hqk hl he ih;generalize f2 ns ((k+1:Nat):Int)=w at *;rw [decide_eq_false (show ¬0<=w by omega)];generalize vals.getD k 0=a at *;by_cases ha:a=0<;>simp_all;done)
  | skip
def qdr (t:qx)(x:qn):Bool:=z6 t&&ZA t x
theorem Vi (t:qx)(x:qn)(ht:KZ t)(hx:Zy x):qe Tryz.prog 40 [zk t,zB x] (rB (qdr t x)):=by
 refine qe.of qc (fn:=Tryz.f40) (c:=Tryz.f40.body.getD .skip) (dr:=fun n=>qa 0 [(13,17)] n) Tryz.func40 rfl (by kernel_rfl) (by kernel_rfl) (by kernel_rfl) ?_
 have h2:=hx.tlen
 have h3:=hx.vlen
 have h4:=hx.now
 clear hx
 rw [jC] at h4
 obtain ⟨f0,hf0⟩:∃ f,f=kj:=⟨_,rfl⟩
 obtain ⟨f1,hf1⟩:∃ f,f=qW:=⟨_,rfl⟩
 obtain ⟨f2,hf2⟩:∃ f,f=jz:=⟨_,rfl⟩
 obtain ⟨f3,hf3⟩:∃ f,f=z6:=⟨_,rfl⟩
 have hO:qm Tryz.prog (qL [(63,JV f3),(70,qaB f0),(71,QW f1),(72,vd f2)]):=by
  subst hf0 hf1 hf2 hf3
  exact qb vP (qb Qz (qb yK (qb wk qd)))
 have hsh:f3 t=true->(1<=t.hor/\t.hor<=10)/\1<=t.nodes.length/\t.nodes.length<=7:=fun h=>by rw [hf3] at h;exact ⟨Ky h,kp h⟩
 obtain ⟨ns,ts,hr⟩:=t
 obtain ⟨now,times,vals⟩:=x
 dsimp only at hsh h2 h3 h4
 unfold maxLen at h2 h3
 have h1:ns.length<=maxLen:=ht.len
 obtain ⟨p,hp⟩:∃ p,p=vR now:=⟨_,rfl⟩
 obtain ⟨q,hq⟩:∃ q,q=qnM ns times:=⟨_,rfl⟩
 obtain ⟨d,hd⟩:∃ d,d=qD q vals 0:=⟨_,rfl⟩
 obtain ⟨r,hrr⟩:∃ r,r=(f3 ⟨ns,ts,hr⟩&&(decide (0<=now/\now<=hr+1/\times.length=ns.length)&&(f1 vals&&(qD p times 0&&d)))):=⟨_,rfl⟩
 have hs:qdr ⟨ns,ts,hr⟩ ⟨now,times,vals⟩=r:=by
  rw [hrr,hf1,hp,hd,hq,hf3];rfl
 rw [hs]
 clear hs
 have h1r:f3 ⟨ns,ts,hr⟩=true->f0 now 0 (IntKind.i64.wrap (hr+1))=(decide (0<=now)&&decide (now<=hr+1)):=fun h=>by have:=hsh h;rw [qy (by omega) (by omega),hf0];rfl
 have hz:¬times.getD (Int.toNat 0) 0=0->0<times.length->qD p times 0=false:=fun h h5=>by
  rw [show times=times.drop 0 by rfl]
  refine JX (0:Int) h5 ?_
  rw [hp,vR]
  apply decide_eq_false
  intro h6
  exact h (h6.1 rfl)
 refine SEx.go (X:=XX) qc (fun n=>qa [] [(4,[2,3,44,45,46]),(10,[2,3,7])] n) (fun _=>none) hO 60 ?_
 intro M R L N m0 m1 m2 m3 m4 m5
 cases M
 cbv
 repeat' first | refine m1 _ _ ?_ ?_ | refine m2 _ _ fun h=>?_ | refine m3 _ ?_ | (refine m4 _ _ (Hd.out ?_);generalize hks:(List.cons _ _:List K)=ks) | (refine m5 _ _ ?_;cbv)
 all_goals (clear m1 m2 m3 m4 m5;cases m0;try dsimp only)
 all_goals try simp only [sm] at *
 all_goals (try (have h7:=hsh (by assumption)))
 all_goals (try (rw [h1r (by assumption)] at *))
 all_goals (try simp only [Bool.and_eq_true,Bool.and_eq_false_iff,decide_eq_true_eq,decide_eq_false_iff_not] at *)
 all_goals first
  | omega
  | exact ht
  | exact ⟨by omega⟩
  | (refine qK ?_ _;rw [hrr,show f3 ⟨ns,ts,hr⟩=false by assumption];rfl)
  | (refine qK ?_ _;rw [hrr,decide_eq_false (by omega)];simp;done)
  | (refine qK ?_ _;rw [hrr,hz (by assumption) (by omega)];simp;done)
  | (refine qK ?_ _;rw [hrr,show f1 vals=false by assumption];simp;done)
  | skip
 have h7:=hsh (by assumption)
 rw [show f3 ⟨ns,ts,hr⟩=true by assumption,show f1 vals=true by assumption,decide_eq_true (by omega),Bool.true_and,Bool.true_and,Bool.true_and] at hrr
 rw [hrr]
 clear hrr hz h1r
 have hv3:vals.length=3:=by apply kO;rw [<-hf1];assumption
 obtain ⟨m,hm⟩:∃ m,m=times.length:=⟨_,rfl⟩
 refine ⟨SEx.same (SEx.idx m (fun i=>⟨87,[(2,bP 8192),(3,bP 12288),(44,bL (.i times)),(45,bI m),(46,bI i)],[(8192,.obx [.fz (.sl (.node false none ns)),.fz (.sl (.tie ts)),.fz (.int .i64 hr)]),(12288,.obx [.fz (.int .i64 now),.fz (.sl (.i times)),.fz (.sl (.i vals))])]⟩) (fun i=>rB (qD p (times.drop i) i&&d)) ?_) (by rw [hm];rfl) rfl⟩
 intro i hi ih
 rw [<-hks]
 have hl:i<m->zE _ _ _:=fun h=>zE.of p times i d (0:Int) (by omega)
 have he:i=m->(qD p (times.drop i) i&&d)=d:=fun h=>qO (by omega)
 have h1n:IntKind.i64.wrap (now-1)=now-1:=qy (by omega) (by omega)
 have h0t:i=0->times.getD i 0=0:=fun h=>by subst h;assumption
 have hin:f0 (times.getD i 0) (-1) (IntKind.i64.wrap (now-1))=(decide (-1<=times.getD i 0)&&decide (times.getD i 0<=now-1)):=by rw [h1n,hf0];rfl
 refine SEx.go (X:=XX) qc (fun n=>qa [] [(4,[2,3,44,45,46]),(10,[2,3,7])] n) (fun _=>none) hO 60 ?_
 intro M R L N m0 m1 m2 m3 m4 m5
 cases M
 cbv
 repeat' first | refine m1 _ _ ?_ ?_ | refine m2 _ _ fun h=>?_ | refine m3 _ ?_ | (refine m4 _ _ (Hd.out ?_);first | rw [hks] | generalize hk2:(List.cons _ _:List K)=k2) | (refine m5 _ _ ?_;cbv)
 all_goals (clear m1 m2 m3 m4 m5;cases m0;try dsimp only)
 all_goals try simp only [sm] at *
 all_goals (try simp only [ql (show i<9223372036854775807 by omega)] at *)
 all_goals (try rw [hin] at *)
 all_goals (try simp only [Bool.and_eq_true,Bool.and_eq_false_iff,decide_eq_true_eq,decide_eq_false_iff_not] at *)
 all_goals first
  | omega
  | (refine (hl (by omega)).stop _ ?_;rw [hp,vR];apply decide_eq_false;omega)
  | (refine ⟨(ih (by omega)).same rfl ((hl (by omega)).go ?_)⟩;rw [hp,vR];apply decide_eq_true;omega)
  | skip
 have him:i=m:=by omega
 rw [he him]
 clear ih hl he hin h0t h1n
 rw [hd]
 clear hd
 refine ⟨SEx.same (SEx.idx 3 (fun i=>⟨87,[(2,bP 8192),(3,bP 12288),(7,bI (i+1:Nat))],[(8192,.obx [.fz (.sl (.node false none ns)),.fz (.sl (.tie ts)),.fz (.int .i64 hr)]),(12288,.obx [.fz (.int .i64 now),.fz (.sl (.i times)),.fz (.sl (.i vals))])]⟩) (fun i=>rB (qD q (vals.drop i) i&&true)) ?_) rfl (by rw [Bool.and_true];rfl)⟩
 intro k hk ih
 rw [<-hk2]
 have hl:k<3->zE _ _ _:=fun h=>zE.of q vals k true (0:Int) (by omega)
 have he:k=3->(qD q (vals.drop k) k&&true)=true:=fun h=>qO (by omega)
 have hlt:∀ x,f2 ns x<ns.length:=fun x=>by rw [hf2];exact (WH _ _).1
 have h5:=hlt ((k+1:Nat):Int)
 have hwk:IntKind.i64.wrap (((k+1:Nat):Int)-1)=k:=by rw [qy (by omega) (by omega)];omega
 obtain ⟨kk,hkk⟩:∃ kk:Nat,kk=k+1:=⟨_,rfl⟩
 rw [<-hkk] at hwk h5 ⊢
 have hqk:q k (vals.getD k 0)=(decide (¬vals.getD k 0=0) == Kf times (f2 ns kk)):=by
  rw [hq,hf2,hkk];rfl
 refine SEx.go (X:=XX) qc (fun n=>qa [] [(4,[2,3,44,45,46]),(10,[2,3,7])] n) (fun _=>none) hO 60 ?_
 intro M R L N m0 m1 m2 m3 m4 m5
 cases M
 cbv
 repeat' first | refine m1 _ _ ?_ ?_ | refine m2 _ _ fun h=>?_ | refine m3 _ ?_ | (refine m4 _ _ (Hd.out ?_);try first | rw [hks] | rw [hk2] | rw [hk3]) | (refine m5 _ _ ?_;cbv)
 all_goals (clear m1 m2 m3 m4 m5;cases m0;(try clear hks;try clear hk2;try clear hk3);try dsimp only)
 all_goals try simp only [sm] at *
 all_goals (try simp only [hwk,Int.toNat_natCast,ql (show kk<9223372036854775807 by omega)] at *)
 all_goals first
  | omega
  | exact ⟨h1⟩
  | (refine qK ?_ _;rw [he (by omega)];done)
  | (refine (hl (by omega)).stop _ ?_;rw [hqk];unfold Kf;clear hqk hl he ih;generalize f2 ns (kk:Int)=w at *;rw [decide_eq_true (show 0<=w by assumption)];generalize times.getD w.toNat 0=b at *;generalize vals.getD k 0=a at *;rw [Z1,Z1];generalize (a == 0)=u at *;generalize (b == -1)=v at *;cases u<;>cases v<;>simp_all;done)
  | (refine (hl (by omega)).stop _ ?_;rw [hqk];unfold Kf;clear hqk hl he ih;generalize f2 ns (kk:Int)=w at *;rw [decide_eq_false (show ¬0<=w by omega)];generalize vals.getD k 0=a at *;by_cases ha:a=0<;>simp_all;done)
  | (subst hkk;refine ⟨(ih (by omega)).same rfl ((hl (by omega)).go ?_)⟩;rw [hqk];unfold Kf;clear hqk hl he ih;generalize f2 ns ((k+1:Nat):Int)=w at *;rw [decide_eq_true (show 0<=w by assumption)];generalize times.getD w.toNat 0=b at *;generalize vals.getD k 0=a at *;rw [Z1,Z1];generalize (a == 0)=u at *;generalize (b == -1)=v at *;cases u<;>cases v<;>simp_all;done)
  | (subst hkk;refine ⟨(ih (by omega)).same rfl ((hl (by omega)).go ?_)⟩;rw [hqk];unfold Kf;clear hqk hl he ih;generalize f2 ns ((k+1:Nat):Int)=w at *;rw [decide_eq_false (show ¬0<=w by omega)];generalize vals.getD k 0=a at *;by_cases ha:a=0<;>simp_all;done)
  | skip
structure qoc (t:qx):Prop where out:z6 t=true
def qbJ (f:qx->qn->Bool):Wr:=w2 q7 zj (fun t x=>rB (f t x)) (fun t x=>[qoc t,Zy x])
theorem qb4:qH Tryz.prog 77 (qbJ ZA):=qI fun t x h=>qfB t x (h _ (.head _)).out (h _ (.tail _ (.head _)))
def qcf (f:qx->qn->Bool):Wr:=w2 q7 zj (fun t x=>rB (f t x)) (fun t x=>[KZ t,Zy x])
theorem qat:qH Tryz.prog 40 (qcf qdr):=qI fun t x h=>Vi t x (h _ (.head _)) (h _ (.tail _ (.head _)))
end Go.Proofs.YtececadpjelanaaGreat.Ai
namespace Go.Proofs.YtececadpjelanaaGreat.Ai
open Go
set_option maxRecDepth 100000
variable [qh]
def qbg (v:List Int)(x:Int):Int:=if x<0 then -(v.getD (zy x-1).toNat 0) else v.getD (zy x-1).toNat 0
def wK (v:List Int):List Int->Int->Int
 | [],s=>s
 | x::r,s=>wK v r (min s (qbg v x))
theorem wQ {v l:List Int}{i:Nat}{s:Int}(h:i<l.length):wK v (l.drop i) s=wK v (l.drop (i+1)) (min s (qbg v (l.getD i 0))):=by
 rw [List.drop_eq_getElem_cons h,km h]
 rfl
theorem yf {v:List Int}(h:qW v=true)(i:Nat):-1<=v.getD i 0/\v.getD i 0<=1:=by
 unfold qW at h
 rw [Bool.and_eq_true] at h
 by_cases hi:i<v.length
 . obtain ⟨j,hj⟩:=VA h.1 (qu (z:=(0:Int)) hi).out
   simpa [wX] using hj
 . rw [List.getD_eq_getElem?_getD,List.getElem?_eq_none (by omega)]
   exact ⟨by decide,by decide⟩
structure qov (l:List Int):Prop where out:qX l=true
structure qn7 (l:List Int):Prop where out:qW l=true
theorem qdc {l:List Int}(h:qX l=true):l.length<=3:=by
 have key:∀ n,n<=l.length->∀ j,j<n->(j:Int)+1<=zy (l.getD j 0):=by
  intro n hn j hj
  induction j with
  | zero =>
    have:=(w7 h _ (qu (z:=(0:Int)) (show 0<l.length by omega)).out).2
    omega
  | succ j ih =>
    have h1:=ih (by omega)
    have h2:=(of_decide_eq_true (qdd h (j+1) (by omega))).2.2.2 (by omega)
    rw [Nat.add_sub_cancel] at h2
    omega
 apply Decidable.byContradiction
 intro hn
 have h1:=key l.length (Nat.le_refl _) 3 (by omega)
 have h2:=Zb h (qu (z:=(0:Int)) (show 3<l.length by omega)).out
 have h3:=VR h2.2.1 h2.2.2
 omega
theorem qj9 (a s:Int):(if a<s then a else s)=min s a:=by rw [Int.min_def];split<;>split<;>omega
theorem Wf (l v:List Int)(hl:qX l=true)(hv:qW v=true):qe Tryz.prog 122 [aIs l,aIs v] (rI (wK v l 1)):=by
 refine qe.of qc (fn:=Tryz.f122) (c:=Tryz.f122.body.getD .skip) (dr:=fun n=>qa 0 [] n) Tryz.func122 rfl (by kernel_rfl) (by kernel_rfl) (by kernel_rfl) ?_
 obtain ⟨f,hf⟩:∃ f,f=zy:=⟨_,rfl⟩
 have hO:qm Tryz.prog (qL [(132,vY f)]):=by subst hf;exact qb wM qd
 have h3:=qdc hl
 have hv3:=kO hv
 rw [show wK v l 1=wK v (l.drop 0) 1 by rw [List.drop_zero]]
 refine SEx.go (X:=XX) qc (fun n=>qa [] [(3,[1,5,9,10,11])] n) (fun _=>none) hO 60 ?_
 intro M R L N m0 m1 m2 m3 m4 m5
 cases M
 cbv
 repeat' first | refine m1 _ _ ?_ ?_ | refine m2 _ _ fun h=>?_ | refine m3 _ ?_ | (refine m4 _ _ (Hd.out ?_);generalize hks:(List.cons _ _:List K)=ks) | (refine m5 _ _ ?_;cbv)
 all_goals (clear m1 m2 m3 m4 m5;cases m0;try dsimp only)
 all_goals try simp only [sm] at *
 obtain ⟨m,hm⟩:∃ m,m=l.length:=⟨_,rfl⟩
 refine ⟨SEx.same (SEx.idxS m (fun i (s:Int)=>⟨30,[(1,bL (.i v)),(5,bI s),(9,bL (.i l)),(10,bI m),(11,bI i)],[]⟩) (fun i s=>rI (wK v (l.drop i) s)) (fun _ _=>True) 1 trivial ?_) (by rw [hm];rfl) rfl⟩
 intro i s hi _ ih
 rw [<-hks]
 have hp:i<m->0<f (l.getD i 0)/\f (l.getD i 0)<=3:=fun h=>by
  have h2:=Zb hl (qu (z:=(0:Int)) (show i<l.length by omega)).out
  rw [hf]
  exact ⟨wF h2.1 h2.2.1 h2.2.2,VR h2.2.1 h2.2.2⟩
 have hw:i<m->IntKind.i64.wrap (f (l.getD i 0)-1)=f (l.getD i 0)-1:=fun h=>by have:=hp h;exact qy (by omega) (by omega)
 refine SEx.go (X:=XX) qc (fun n=>qa [] [(3,[1,5,9,10,11])] n) (fun _=>none) hO 60 ?_
 intro M R L N m0 m1 m2 m3 m4 m5
 cases M
 cbv
 repeat' first | refine m1 _ _ ?_ ?_ | refine m2 _ _ fun h=>?_ | refine m3 _ ?_ | (refine m4 _ _ (Hd.out ?_);try first | rw [hks] | rw [hk2] | rw [hk3]) | (refine m5 _ _ ?_;cbv)
 all_goals (clear m1 m2 m3 m4 m5;cases m0;(try clear hks;try clear hk2;try clear hk3);try dsimp only)
 all_goals try simp only [sm] at *
 all_goals (try (have h7:=hp (by omega)))
 all_goals (try rw [hw (by omega)] at *)
 all_goals (have hvr:=yf hv (f (l.getD i 0)-1).toNat;try rw [qy (n:=0-v.getD (f (l.getD i 0)-1).toNat 0) (by omega) (by omega)])
 all_goals (try simp only [ql (show i<9223372036854775807 by omega),qj9])
 all_goals first
  | omega
  | exact ⟨(w7 hl _ (qu (z:=(0:Int)) (by omega)).out).1⟩
  | (refine ⟨(ih _ (by omega) trivial).same rfl ?_⟩;rw [wQ (show i<l.length by omega),qbg,if_pos (by assumption),hf,Int.zero_sub];done)
  | (refine ⟨(ih _ (by omega) trivial).same rfl ?_⟩;rw [wQ (show i<l.length by omega),qbg,if_neg (by omega),hf];done)
  | (rw [List.drop_eq_nil_of_le (by omega)];rfl)
  | skip
theorem qaj (x:Int)(v:List Int)(hx:¬x=0/\-3<=x/\x<=3)(hv:qW v=true):qe Tryz.prog 179 [aI x,aIs v] (rI (qbg v x)):=by
 refine qe.of qc (fn:=Tryz.f179) (c:=Tryz.f179.body.getD .skip) (dr:=fun n=>qa 0 [] n) Tryz.func179 rfl (by kernel_rfl) (by kernel_rfl) (by kernel_rfl) ?_
 obtain ⟨f,hf⟩:∃ f,f=zy:=⟨_,rfl⟩
 have hO:qm Tryz.prog (qL [(142,vY f)]):=by subst hf;exact qb vh qd
 have hv3:=kO hv
 have hp:0<f x/\f x<=3:=by rw [hf];exact ⟨wF hx.1 hx.2.1 hx.2.2,VR hx.2.1 hx.2.2⟩
 have hw:IntKind.i64.wrap (f x-1)=f x-1:=qy (by omega) (by omega)
 refine SEx.go (X:=XX) qc (fun n=>qa [] [] n) (fun _=>none) hO 60 ?_
 intro M R L N m0 m1 m2 m3 m4 m5
 cases M
 cbv
 repeat' first | refine m1 _ _ ?_ ?_ | refine m2 _ _ fun h=>?_ | refine m3 _ ?_ | (refine m4 _ _ (Hd.out ?_);try first | rw [hks] | rw [hk2] | rw [hk3]) | (refine m5 _ _ ?_;cbv)
 all_goals (clear m1 m2 m3 m4 m5;cases m0;(try clear hks;try clear hk2;try clear hk3);try dsimp only)
 all_goals try simp only [sm] at *
 all_goals (try rw [hw] at *)
 all_goals (have hvr:=yf hv (f x-1).toNat;try rw [qy (n:=0-v.getD (f x-1).toNat 0) (by omega) (by omega)])
 all_goals first
  | omega
  | (refine ⟨?_⟩;rw [jC];omega)
  | (simp only [Zn];rw [qbg,if_pos (by assumption),hf,Int.zero_sub];done)
  | (simp only [Zn];rw [qbg,if_neg (by omega),hf];done)
  | skip
structure qoI (x:Int):Prop where out:¬x=0/\-3<=x/\x<=3
def qkZ (f:List Int->Int->Int):Wr:=w2 dcI kB (fun x v=>rI (f v x)) (fun x v=>[qoI x,qn7 v])
theorem qi0:qH Tryz.prog 179 (qkZ qbg):=qI fun x v h=>qaj x v (h _ (.head _)).out (h _ (.tail _ (.head _))).out
theorem Wc (l v:List Int)(hl:ZL l)(hv:v.length<=maxLen):qe Tryz.prog 163 [aIs l,aIs v] (rI (if qX l=true/\qW v=true then wK v l 1 else -1)):=by
 refine qe.of qc (fn:=Tryz.f163) (c:=Tryz.f163.body.getD .skip) (dr:=fun n=>qa 0 [] n) Tryz.func163 rfl (by kernel_rfl) (by kernel_rfl) (by kernel_rfl) ?_
 obtain ⟨f,hf⟩:∃ f,f=qbg:=⟨_,rfl⟩
 obtain ⟨f1,hf1⟩:∃ f,f=qX:=⟨_,rfl⟩
 obtain ⟨f2,hf2⟩:∃ f,f=qW:=⟨_,rfl⟩
 have hO:qm Tryz.prog (qL [(169,Qn f1),(114,QW f2),(179,qkZ f)]):=by subst hf hf1 hf2;exact qb ZD (qb KU (qb qi0 qd))
 rw [<-hf1,<-hf2]
 refine SEx.go (X:=XX) qc (fun n=>qa [] [(5,[1,5,16,17,18])] n) (fun _=>none) hO 60 ?_
 intro M R L N m0 m1 m2 m3 m4 m5
 cases M
 cbv
 repeat' first | refine m1 _ _ ?_ ?_ | refine m2 _ _ fun h=>?_ | refine m3 _ ?_ | (refine m4 _ _ (Hd.out ?_);generalize hks:(List.cons _ _:List K)=ks) | (refine m5 _ _ ?_;cbv)
 all_goals (clear m1 m2 m3 m4 m5;cases m0;try dsimp only)
 all_goals try simp only [sm] at *
 all_goals first
  | exact hl
  | exact ⟨hv⟩
  | (simp only [Zn];rw [if_neg];rintro ⟨h1,h2⟩;simp_all;done)
  | skip
 rw [if_pos ⟨by assumption,by assumption⟩]
 have hlb:qX l=true:=by rw [<-hf1];assumption
 have hvb:qW v=true:=by rw [<-hf2];assumption
 have h3:=qdc hlb
 obtain ⟨m,hm⟩:∃ m,m=l.length:=⟨_,rfl⟩
 refine ⟨SEx.same (SEx.idxS m (fun i (s:Int)=>⟨29,[(1,bL (.i v)),(5,bI s),(16,bL (.i l)),(17,bI m),(18,bI i)],[]⟩) (fun i s=>rI (wK v (l.drop i) s)) (fun _ _=>True) 1 trivial ?_) (by rw [hm];rfl) rfl⟩
 intro i s hi _ ih
 rw [<-hks]
 refine SEx.go (X:=XX) qc (fun n=>qa [] [(5,[1,5,16,17,18])] n) (fun _=>none) hO 60 ?_
 intro M R L N m0 m1 m2 m3 m4 m5
 cases M
 cbv
 repeat' first | refine m1 _ _ ?_ ?_ | refine m2 _ _ fun h=>?_ | refine m3 _ ?_ | (refine m4 _ _ (Hd.out ?_);try first | rw [hks] | rw [hk2] | rw [hk3]) | (refine m5 _ _ ?_;cbv)
 all_goals (clear m1 m2 m3 m4 m5;cases m0;(try clear hks;try clear hk2;try clear hk3);try dsimp only)
 all_goals try simp only [sm] at *
 all_goals (try simp only [ql (show i<9223372036854775807 by omega),qj9])
 all_goals first
  | omega
  | exact ⟨Zb hlb (qu (z:=(0:Int)) (by omega)).out⟩
  | exact ⟨hvb⟩
  | (refine ⟨(ih _ (by omega) trivial).same rfl ?_⟩;rw [wQ (show i<l.length by omega),hf];done)
  | (rw [List.drop_eq_nil_of_le (by omega)];rfl)
  | skip
def nsI (t:qx)(x:qn)(i:Int):Int:=wK x.vals (nd t.nodes i).label 1
structure StT (t:qx)(x:qn):Prop where
 sh:z6 t=true
 st:ZA t x=true
theorem StT.vals {t:qx}{x:qn}(h:StT t x):qW x.vals=true:=by
 have:=h.st
 unfold ZA at this
 rw [Bool.and_eq_true,Bool.and_eq_true] at this
 exact this.2.1
theorem StT.now {t:qx}{x:qn}(h:StT t x):0<=x.now/\x.now<=t.hor+1/\x.times.length=t.nodes.length:=by
 have:=h.st
 unfold ZA at this
 rw [Bool.and_eq_true,decide_eq_true_eq] at this
 exact this.1
theorem Ye {α:Type}{p:Nat->α->Bool}:∀ {l:List α} {n i:Nat} (z:α),qD p l n=true->i<l.length->p (n+i) (l.getD i z)=true
 | a::r,n,0,z,h,_=>by
   unfold qD at h
   rw [Bool.and_eq_true] at h
   simpa using h.1
 | a::r,n,i+1,z,h,hi=>by
   unfold qD at h
   rw [Bool.and_eq_true] at h
   have:=Ye z h.2 (show i<r.length by simpa using hi)
   rw [List.getD_cons_succ,show n+(i+1)=n+1+i by omega]
   exact this
structure ZK (t:qx)(x:qn):Prop where
 sh:KZ t
 st:Zy x
end Go.Proofs.YtececadpjelanaaGreat.Ai
namespace Go.Proofs.YtececadpjelanaaGreat.Ai
open Go
set_option maxRecDepth 100000
variable [qh]
def qn2 (l v:List Int):Int:=wK v l 1
def YA (f:List Int->List Int->Int):Wr:=w2 kB kB (fun l v=>rI (f l v)) (fun l v=>[qov l,qn7 v])
theorem qbm:qH Tryz.prog 122 (YA qn2):=qI fun l v h=>Wf l v (h _ (.head _)).out (h _ (.tail _ (.head _))).out
end Go.Proofs.YtececadpjelanaaGreat.Ai
namespace Go.Proofs.YtececadpjelanaaGreat.Ai
open Go
set_option maxRecDepth 100000
variable [qh]
theorem Y3.le {t:qx}(h:Y3 t):KZ t:=⟨h.len,h.tlen,fun q hq=>⟨(h.nodes q hq).name,(h.nodes q hq).len,(h.nodes q hq).label⟩⟩
theorem Ww.le {x:qn}(h:Ww x):Zy x:=⟨h.now,h.len,h.vlen⟩
structure qdV (t:qx)(n:Int):Prop where
 len:t.nodes.length<=1048576
 tlen:t.ties.length<=1048576
 labs:∀ q∈t.nodes,q.label.length<=1048576
 le:n<=1048576
theorem qns {t:qx}(h:0<=jk t 1048576):qdV t (jk t 1048576):=by
 have:=qhc (n:=1048576) (by decide) h
 exact ⟨by omega,by omega,fun q hq=>by have:=(this.2.2.1 q hq).2;omega,this.2.2.2⟩
structure qgg (x:qn):Prop where
 tlen:x.times.length<=1048576
 vlen:x.vals.length<=1048576
theorem qlu {x:qn}{n:Int}(h0:0<=n)(h1:n<=1048576)(h:0<=kS x n):qgg x:=by
 have:=qfK h0 h
 exact ⟨by omega,by omega⟩
end Go.Proofs.YtececadpjelanaaGreat.Ai
namespace Go.Proofs.YtececadpjelanaaGreat.Ai
open Go
set_option maxRecDepth 100000
variable [qh]
theorem qb1 (x:qn)(h1:x.times.length<=1048576)(h2:x.vals.length<=1048576):qe Tryz.prog 86 [zB x] (wz x):=by
 refine qe.of qc (fn:=Tryz.f86) (c:=Tryz.f86.body.getD .skip) (dr:=fun n=>qa 0 [(1,10)] n) Tryz.func86 rfl (by kernel_rfl) (by kernel_rfl) (by kernel_rfl) ?_
 obtain ⟨now,times,vals⟩:=x
 dsimp only at h1 h2
 refine SEx.go (X:=XX) qc (fun n=>qa [] [] n) (fun _=>none) qd 60 ?_
 intro M R L N m0 m1 m2 m3 m4 m5
 cases M
 cbv
 repeat' first | refine m1 _ _ ?_ ?_ | refine m2 _ _ fun h=>?_ | refine m3 _ ?_ | (refine m4 _ _ (Hd.out ?_);try first | rw [hks] | rw [hk2] | rw [hk3]) | (refine m5 _ _ ?_;cbv)
 all_goals (clear m1 m2 m3 m4 m5;cases m0;(try clear hks;try clear hk2;try clear hk3);try dsimp only)
 all_goals try simp only [sm] at *
 all_goals first
  | (have:=kT;omega)
  | rfl
structure We (x:qn):Prop where
 tlen:x.times.length<=1048576
 vlen:x.vals.length<=1048576
def wZ:Wr:=w1 zj wz (fun x=>[We x])
theorem JU:qH Tryz.prog 86 wZ:=zK fun x h=>qb1 x (h _ (.head _)).tlen (h _ (.head _)).vlen
def vk (n:Int):Int:=max (-1000000) (min n 1000000)
theorem qjF (n:Int):qe Tryz.prog 107 [aI n] (rI (vk n)):=by
 refine qe.of qc (fn:=Tryz.f107) (c:=Tryz.f107.body.getD .skip) (dr:=fun n=>qa 0 [] n) Tryz.func107 rfl (by kernel_rfl) (by kernel_rfl) (by kernel_rfl) ?_
 refine SEx.go (X:=XX) qc (fun n=>qa [] [] n) (fun _=>none) qd 60 ?_
 intro M R L N m0 m1 m2 m3 m4 m5
 cases M
 cbv
 repeat' first | refine m1 _ _ ?_ ?_ | refine m2 _ _ fun h=>?_ | refine m3 _ ?_ | (refine m4 _ _ (Hd.out ?_);try first | rw [hks] | rw [hk2] | rw [hk3]) | (refine m5 _ _ ?_;cbv)
 all_goals (clear m1 m2 m3 m4 m5;cases m0;(try clear hks;try clear hk2;try clear hk3);try dsimp only)
 all_goals try simp only [sm] at *
 all_goals simp only [Zn,vk]
 all_goals (try rw [Int.max_def,Int.min_def])
 all_goals (repeat' split)
 all_goals omega
def qlb (f:Int->Int):Wr:=w1 dcI (fun n=>rI (f n)) (fun _=>[])
theorem qhg:qH Tryz.prog 107 (qlb vk):=zK fun n _=>qjF n
def Zh (t:qx)(x:qn):Bool:=z6 t&&(decide (0<=x.now)&&(decide (x.now<=t.hor)&&ZA t ⟨x.now+1,x.times,x.vals⟩))
theorem yF (t:qx)(x:qn)(hs:ZK t x)(hz:We x):qe Tryz.prog 91 [zk t,zB x] (rB (Zh t x)):=by
 refine qe.of qc (fn:=Tryz.f91) (c:=Tryz.f91.body.getD .skip) (dr:=fun n=>qa 0 [] n) Tryz.func91 rfl (by kernel_rfl) (by kernel_rfl) (by kernel_rfl) ?_
 obtain ⟨f,hf⟩:∃ f,f=z6:=⟨_,rfl⟩
 obtain ⟨g,hg⟩:∃ f,f=qdr:=⟨_,rfl⟩
 obtain ⟨k,hk⟩:∃ f,f=kj:=⟨_,rfl⟩
 have hO:qm Tryz.prog (qL [(70,qaB k),(63,JV f),(86,wZ),(40,qcf g)]):=by subst hf hg hk;exact qb Qz (qb vP (qb JU (qb qat qd)))
 have h1:=hs.sh
 have h2:=hs.st
 have h4:=h2.now
 rw [jC] at h4
 obtain ⟨r,hr⟩:∃ r,r=Zh t x:=⟨_,rfl⟩
 rw [<-hr]
 have hsh:f t=true->1<=t.hor/\t.hor<=10:=fun h=>by rw [hf] at h;exact Ky h
 have hk0:k x.now 0 10=(decide (0<=x.now)&&decide (x.now<=10)):=by rw [hk];rfl
 have hr1:f t=true->¬(0<=x.now/\x.now<=t.hor)->r=false:=fun h h'=>by
  rw [hr];unfold Zh
  by_cases h0:0<=x.now
  . rw [decide_eq_false (show ¬x.now<=t.hor by omega)];simp
  . rw [decide_eq_false h0];simp
 have hr2:f t=false->r=false:=fun h=>by rw [hr];unfold Zh;rw [<-hf,h];rfl
 have hr0:¬(0<=x.now/\x.now<=10)->r=false:=fun h=>by
  cases h5:f t with
  | true=>have:=hsh h5;exact hr1 h5 (by omega)
  | false=>exact hr2 h5
 have hr3:f t=true->0<=x.now->x.now<=t.hor->r=g t ⟨x.now+1,x.times,x.vals⟩:=fun h h5 h6=>by
  rw [hr];unfold Zh;rw [hg,decide_eq_true h5,decide_eq_true h6];unfold qdr;rw [<-hf,h];rfl
 clear hr hf hg hk hs
 obtain ⟨ns,ts,hr⟩:=t
 obtain ⟨now,times,vals⟩:=x
 dsimp only at hr1 hr3 hr0 hk0 hsh h4
 refine SEx.go (X:=XX) qc (fun n=>qa [] [] n) (fun _=>none) hO 60 ?_
 intro M R L N m0 m1 m2 m3 m4 m5
 cases M
 cbv
 repeat' first | refine m1 _ _ ?_ ?_ | refine m2 _ _ fun h=>?_ | refine m3 _ ?_ | (refine m4 _ _ (Hd.out ?_);try first | rw [hks] | rw [hk2] | rw [hk3]) | (refine m5 _ _ ?_;cbv)
 all_goals (clear m1 m2 m3 m4 m5;cases m0;(try clear hks;try clear hk2;try clear hk3);try dsimp only)
 all_goals try simp only [sm] at *
 all_goals (try rw [hk0] at *)
 all_goals (try simp only [Bool.and_eq_true,Bool.and_eq_false_iff,decide_eq_true_eq,decide_eq_false_iff_not] at *)
 all_goals first
  | exact h1
  | exact hz
  | (rw [qy (by omega) (by omega)];exact ⟨by rw [jC];dsimp only;omega,h2.tlen,h2.vlen⟩)
  | (refine qK ?_ _;rw [hr0 (by omega)];done)
  | (refine qK ?_ _;rw [hr2 (by assumption)];done)
  | (refine qK ?_ _;rw [hr1 (by assumption) (by omega)];done)
  | (rw [qy (by omega) (by omega)];refine qK ?_ _;rw [hr3 (by assumption) (by omega) (by assumption)];done)
  | skip
theorem yB (t:qx)(x:qn)(hs:ZK t x):qe Tryz.prog 67 [zk t,zB x] (rB (Zh t x)):=by
 refine qe.of qc (fn:=Tryz.f67) (c:=Tryz.f67.body.getD .skip) (dr:=fun n=>qa 0 [] n) Tryz.func67 rfl (by kernel_rfl) (by kernel_rfl) (by kernel_rfl) ?_
 obtain ⟨f,hf⟩:∃ f,f=z6:=⟨_,rfl⟩
 obtain ⟨g,hg⟩:∃ f,f=ZA:=⟨_,rfl⟩
 obtain ⟨k,hk⟩:∃ f,f=vk:=⟨_,rfl⟩
 have hO:qm Tryz.prog (qL [(107,qlb k),(76,JV f),(77,qbJ g)]):=by subst hf hg hk;exact qb qhg (qb qbO (qb qb4 qd))
 have h1:=hs.sh
 have h2:=hs.st
 have h4:=h2.now
 rw [jC] at h4
 obtain ⟨r,hr⟩:∃ r,r=Zh t x:=⟨_,rfl⟩
 rw [<-hr]
 have hsh:f t=true->z6 t=true/\1<=t.hor/\t.hor<=10:=fun h=>by rw [hf] at h;exact ⟨h,Ky h⟩
 have hc:f t=true->0<=x.now->x.now<=t.hor->IntKind.i64.wrap (k x.now+1)=x.now+1:=fun h h5 h6=>by
  have:=hsh h
  rw [hk,show vk x.now=x.now by unfold vk;omega]
  exact qy (by omega) (by omega)
 have hr0:f t=false->r=false:=fun h=>by rw [hr];unfold Zh;rw [<-hf,h];rfl
 have hr1:x.now<0->r=false:=fun h=>by rw [hr];unfold Zh;rw [decide_eq_false (show ¬0<=x.now by omega)];simp
 have hr2:t.hor<x.now->r=false:=fun h=>by rw [hr];unfold Zh;rw [decide_eq_false (show ¬x.now<=t.hor by omega)];simp
 have hr3:f t=true->0<=x.now->x.now<=t.hor->r=g t ⟨IntKind.i64.wrap (k x.now+1),x.times,x.vals⟩:=fun h h5 h6=>by
  rw [hc h h5 h6,hr];unfold Zh;rw [hg,decide_eq_true h5,decide_eq_true h6,<-hf,h];rfl
 have hle:f t=true->0<=x.now->x.now<=t.hor->Zy ⟨IntKind.i64.wrap (k x.now+1),x.times,x.vals⟩:=fun h h5 h6=>by
  have:=hsh h
  rw [hc h h5 h6]
  exact ⟨by rw [jC];dsimp only;omega,h2.tlen,h2.vlen⟩
 clear hr hf hg hk hs hc
 obtain ⟨ns,ts,hr⟩:=t
 obtain ⟨now,times,vals⟩:=x
 dsimp only at hr1 hr2 hr3 hle hsh h4
 refine SEx.go (X:=XX) qc (fun n=>qa [] [] n) (fun _=>none) hO 60 ?_
 intro M R L N m0 m1 m2 m3 m4 m5
 cases M
 cbv
 repeat' first | refine m1 _ _ ?_ ?_ | refine m2 _ _ fun h=>?_ | refine m3 _ ?_ | (refine m4 _ _ (Hd.out ?_);try first | rw [hks] | rw [hk2] | rw [hk3]) | (refine m5 _ _ ?_;cbv)
 all_goals (clear m1 m2 m3 m4 m5;cases m0;(try clear hks;try clear hk2;try clear hk3);try dsimp only)
 all_goals try simp only [sm] at *
 all_goals first
  | exact h1
  | exact ⟨(hsh (by assumption)).1⟩
  | exact hle (by assumption) (by assumption) (by assumption)
  | (refine qK ?_ _;rw [hr0 (by assumption)];done)
  | (refine qK ?_ _;rw [hr1 (by assumption)];done)
  | (refine qK ?_ _;rw [hr2 (by assumption)];done)
  | (refine qK ?_ _;rw [hr3 (by assumption) (by assumption) (by assumption)];done)
  | skip
def qmQ (f:qx->qn->Bool):Wr:=w2 q7 zj (fun t x=>rB (f t x)) (fun t x=>[ZK t x,We x])
theorem qkw:qH Tryz.prog 91 (qmQ Zh):=qI fun t x h=>yF t x (h _ (.head _)) (h _ (.tail _ (.head _)))
def qmP (f:qx->qn->Bool):Wr:=w2 q7 zj (fun t x=>rB (f t x)) (fun t x=>[ZK t x])
theorem qk0:qH Tryz.prog 67 (qmP Zh):=qI fun t x h=>yB t x (h _ (.head _))
end Go.Proofs.YtececadpjelanaaGreat.Ai
namespace Go.Proofs.YtececadpjelanaaGreat.Ai
open Go
set_option maxRecDepth 100000
variable [qh]
def qnD (k:Int):Tie:=⟨k,k+1,k+2,k+3,decide ((k+4).tmod 3=0)⟩
def kI (k:Int)(n:Nat):List Tie:=(List.range n).map fun j=>qnD (k+5 * (j:Nat))
theorem kL (k:Int)(n:Nat):(kI k n).length=n:=by simp [kI]
theorem qbG (k:Int)(n:Nat):kI k (n+1)=kI k n++[qnD (k+5 * n)]:=by simp [kI,List.range_succ]
theorem qcO {k:Int}{i:Nat}{l:List Tie}(hi:i<l.length):(kI k i++l.drop i).set i (qnD (k+5 * i))=kI k (i+1)++l.drop (i+1):=by
 rw [List.set_append_right _ _ (by rw [kL];omega),kL,Nat.sub_self,qbG,List.append_assoc,List.drop_eq_getElem_cons hi];rfl
theorem qdk (l:List Tie)(k:Int)(hl:l.length<=maxLen)(hk:0<k/\k+5 * l.length<=4611686018427387904) :
 zG Tryz.prog 51 [wR l.length,bI1 k] [(lrt 0,.osl (.tie l))] [.rf (lrt 0,[]) true 0 l.length] (.v (bI1 (k+5 * l.length))) [(lrt 0,.osl (.tie (kI k l.length)))] [.rf (lrt 0,[]) true 0 l.length]:=by
 refine zG.of qc (fn:=Tryz.f51) (c:=Tryz.f51.body.getD .skip) (dr:=fun n=>qa 0 [] n) (r:=(_,_,_)) Tryz.func51 rfl (by kernel_rfl) (by kernel_rfl) (by kernel_rfl) ?_
 generalize hn:l.length=n at *
 refine zu.go (X:=XX) qc (fun n=>qa [] [(2,[0,1,5,4294967296])] n) (fun _=>none) qd 60 1 ?_
 intro M R L N m0 m1 m2 m3 m4 m5
 cases M
 cbv
 repeat' first | refine m1 _ _ ?_ ?_ | refine m2 _ _ fun h=>?_ | refine m3 _ ?_ | (refine m4 _ _ (Hd.out ?_);generalize hks:(List.cons _ _:List K)=ks) | (refine m5 _ _ ?_;cbv)
 all_goals (clear m1 m2 m3 m4 m5;cases m0;try dsimp only)
 all_goals try simp only [sm] at *
 refine ⟨zu.same (zu.idx n (fun i=>⟨50,[(0,bR 41000000 n),(1,bI (k+5 * i)),(5,bI i),(4294967296,bR 41000000 n)],[(41000000,.osl (.tie (kI k i++l.drop i)))]⟩) (fun _=>(.v (bI1 (k+5 * n)),[(lrt 0,.osl (.tie (kI k n)))],[.rf (lrt 0,[]) true 0 n])) ?_) ?_ ⟨rfl,rfl,rfl⟩⟩
 rotate_left
 . rw [show k+5 * ((0:Nat):Int)=k by omega];rfl
 intro i hi ih
 rw [<-hks]
 obtain ⟨c,hc⟩:∃ c,c=kI k i++l.drop i:=⟨_,rfl⟩
 have hcl:c.length=n:=by rw [hc,List.length_append,kL,List.length_drop];omega
 rw [<-hc]
 obtain ⟨q,hq⟩:∃ q,q=k+5 * (i:Int):=⟨_,rfl⟩
 rw [<-hq]
 unfold maxLen at hl
 refine zu.go (X:=XX) qc (fun n=>qa [] [(2,[0,1,5,4294967296])] n) (fun _=>none) qd 90 1 ?_
 intro M R L N m0 m1 m2 m3 m4 m5
 cases M
 cbv
 repeat' first | refine m1 _ _ ?_ ?_ | refine m2 _ _ fun h=>?_ | refine m3 _ ?_ | (refine m4 _ _ (Hd.out ?_);try rw [hks]) | (refine m5 _ _ ?_;cbv)
 all_goals (clear m1 m2 m3 m4 m5;cases m0;(try clear hks);try dsimp only)
 all_goals try simp only [sm] at *
 all_goals (try simp only [QA])
 all_goals first
  | omega
  | (have hin:i=n:=by omega
     subst hin
     rw [List.drop_eq_nil_of_le (by omega),List.append_nil] at hc
     subst hc;subst hq
     refine ⟨?_,?_,?_⟩<;>rfl)
  | (have hin:i<n:=by omega
     have e1:IntKind.i64.wrap (q+1)=q+1:=by rw [qy (by omega) (by omega)]
     have e2:IntKind.i64.wrap (q+1+1)=q+2:=by rw [qy (by omega) (by omega)];omega
     have e3:IntKind.i64.wrap (q+2+1)=q+3:=by rw [qy (by omega) (by omega)];omega
     have e4:IntKind.i64.wrap (q+3+1)=q+4:=by rw [qy (by omega) (by omega)];omega
     have e5:IntKind.i64.wrap (q+4+1)=q+5:=by rw [qy (by omega) (by omega)];omega
     simp only [e1,e2,e3,e4,e5,ql (show i<9223372036854775807 by omega),wH]
     refine ⟨(ih hin).same ?_ ⟨rfl,rfl,rfl⟩⟩
     rw [<-qcO (k:=k) (i:=i) (l:=l) (by omega),<-hq,<-hc,show k+5 * ((i+1:Nat):Int)=q+5 by omega]
     rfl)
  | skip
def qoh (q:qf):Nat:=q.label.length+2
def kN (k:Int)(l:List qf)(i:Nat):Int:=k+(((l.take i).map qoh).sum:Nat)
theorem JM (k:Int)(l:List qf):kN k l 0=k:=by simp [kN]
theorem WI {k:Int}{l:List qf}{i:Nat}(h:i<l.length):kN k l (i+1)=kN k l i+(l.getD i qf.z).label.length+2:=by
 unfold kN
 rw [List.take_add_one,List.getElem?_eq_getElem h,km h,Option.toList_some,List.map_append,List.sum_append,List.map_cons,List.map_nil,List.sum_cons,List.sum_nil]
 unfold qoh
 omega
theorem JA (k:Int)(l:List qf)(i:Nat):∀ d,kN k l i<=kN k l (i+d)
 | 0=>Int.le_refl _
 | d+1=>by
   have:=JA k l i d
   by_cases h:i+d<l.length
   . rw [<-Nat.add_assoc,WI h];omega
   . have h1:kN k l (i+d+1)=kN k l (i+d):=by unfold kN;rw [List.take_of_length_le (by omega),List.take_of_length_le (by omega)]
     rw [<-Nat.add_assoc]
     omega
def mNd (k:Int)(n:Nat):qf:=⟨mT k,zC (k+1) n,k+1+n⟩
def mNS (k:Int)(l:List qf)(i:Nat):List qf:=(List.range i).map fun j=>mNd (kN k l j) (l.getD j qf.z).label.length
theorem Kp (k:Int)(l:List qf)(i:Nat):(mNS k l i).length=i:=by simp [mNS]
theorem qkG (k:Int)(l:List qf)(i:Nat):mNS k l (i+1)=mNS k l i++[mNd (kN k l i) (l.getD i qf.z).label.length]:=by simp [mNS,List.range_succ]
theorem qkL {k:Int}{i:Nat}{l:List qf}(hi:i<l.length):(mNS k l i++l.drop i).set i (mNd (kN k l i) (l.getD i qf.z).label.length)=mNS k l (i+1)++l.drop (i+1):=by
 rw [List.set_append_right _ _ (by rw [Kp];omega),Kp,Nat.sub_self,qkG,List.append_assoc,List.drop_eq_getElem_cons hi];rfl
theorem qld {k:Int}{i:Nat}{l:List qf}(hi:i<l.length):(mNS k l i++l.drop i).getD i qf.z=l.getD i qf.z:=by
 rw [List.getD_eq_getElem?_getD,List.getElem?_append_right (by rw [Kp];omega),Kp,Nat.sub_self,List.getElem?_drop,Nat.add_zero,List.getD_eq_getElem?_getD]
theorem qkx {α:Type}{z:α}{l:List α}{n:Nat}{f:α->α}(h:n<l.length):(Jf z l n f).getD n z=f (l.getD n z):=by simp [Jf,List.getD_eq_getElem?_getD,h]
theorem qa0 (l:List qf)(k:Int)(hl:l.length<=maxLen)(hx:∀ q∈l,q.label.length<=maxLen)(hk:0<k/\kN k l l.length<=4611686018427387904) :
 zG Tryz.prog 50 [wR l.length,bI1 k] [(lrt 0,.osl (.node true none l))] [.rf (lrt 0,[]) true 0 l.length] (.v (bI1 (kN k l l.length))) [(lrt 0,.osl (.node true none (mNS k l l.length)))] [.rf (lrt 0,[]) true 0 l.length]:=by
 refine zG.of qc (fn:=Tryz.f50) (c:=Tryz.f50.body.getD .skip) (dr:=fun n=>qa 0 [] n) (r:=(_,_,_)) Tryz.func50 rfl (by kernel_rfl) (by kernel_rfl) (by kernel_rfl) ?_
 generalize hn:l.length=n at *
 refine zu.go (X:=XX) qc (fun n=>qa [] [(2,[0,1,5,4294967296])] n) (fun _=>none) qd 60 1 ?_
 intro M R L N m0 m1 m2 m3 m4 m5
 cases M
 cbv
 repeat' first | refine m1 _ _ ?_ ?_ | refine m2 _ _ fun h=>?_ | refine m3 _ ?_ | (refine m4 _ _ (Hd.out ?_);generalize hks:(List.cons _ _:List K)=ks) | (refine m5 _ _ ?_;cbv)
 all_goals (clear m1 m2 m3 m4 m5;cases m0;try dsimp only)
 all_goals try simp only [sm] at *
 refine ⟨zu.same (zu.idx n (fun i=>⟨35,[(0,bR 41000000 n),(1,bI (kN k l i)),(5,bI i),(4294967296,bR 41000000 n)],[(41000000,.osl (.node true none (mNS k l i++l.drop i)))]⟩) (fun _=>(.v (bI1 (kN k l n)),[(lrt 0,.osl (.node true none (mNS k l n)))],[.rf (lrt 0,[]) true 0 n])) ?_) ?_ ⟨rfl,rfl,rfl⟩⟩
 rotate_left
 . rw [JM];rfl
 intro i hi ih
 rw [<-hks]
 obtain ⟨c,hc⟩:∃ c,c=mNS k l i++l.drop i:=⟨_,rfl⟩
 have hcl:c.length=n:=by rw [hc,List.length_append,Kp,List.length_drop];omega
 rw [<-hc]
 obtain ⟨q,hq⟩:∃ q,q=kN k l i:=⟨_,rfl⟩
 rw [<-hq]
 obtain ⟨f,hf⟩:∃ f,f=mT:=⟨_,rfl⟩
 have hO:qm Tryz.prog (qL [(84,qnn f)]):=by subst hf;exact qb (zK fun q h=>qc6 q (h _ (.head _)).out) qd
 obtain ⟨f2,hf2⟩:∃ f,f=zC:=⟨_,rfl⟩
 obtain ⟨g2,hg2⟩:∃ f,f=jO:=⟨_,rfl⟩
 have hW:zR Tryz.prog (XX.withW [(26,[(0,0)])] (kw [(26,QO f2 g2)])):=by
  subst hf2 hg2
  exact SX.withW_ok (zM wO jA)
 unfold maxLen at hl
 refine zu.go (X:=(XX.withW [(26,[(0,0)])] (kw [(26,QO f2 g2)]))) qc (fun n=>qa [] [(2,[0,1,5,4294967296])] n) (fun _=>none) hO 90 1 ?_ hW
 intro M R L N m0 m1 m2 m3 m4 m5
 cases M
 cbv
 repeat' first | refine m1 _ _ ?_ ?_ | refine m2 _ _ fun h=>?_ | refine m3 _ ?_ | (refine m4 _ _ (Hd.out ?_);try rw [hks]) | (refine m5 _ _ ?_;cbv)
 all_goals (clear m1 m2 m3 m4 m5;cases m0;(try clear hks);try dsimp only)
 all_goals try simp only [sm] at *
 all_goals (clear hW)
 all_goals (try simp only [QA])
 all_goals (try simp only [qkx (l:=c) (n:=i) (z:=qf.z) (by omega)])
 all_goals (have hb0:=JA k l 0 i;rw [Nat.zero_add,JM,<-hq] at hb0)
 all_goals first
  | omega
  | (have hin:i=n:=by omega
     subst hin
     rw [List.drop_eq_nil_of_le (by omega),List.append_nil] at hc
     subst hc;subst hq
     refine ⟨?_,?_,?_⟩<;>rfl)
  | skip
 all_goals (have hin:i<n:=by omega)
 all_goals (have h3:=WI (k:=k) (l:=l) (i:=i) (by omega);have h4:=JA k l (i+1) (n-(i+1));rw [show i+1+(n-(i+1))=n by omega] at h4)
 all_goals (have h6:c.getD i qf.z=l.getD i qf.z:=by rw [hc,qld (by omega)])
 all_goals (have h7:=hx _ (qu (z:=qf.z) (show i<l.length by omega)).out)
 all_goals (have e1:IntKind.i64.wrap (q+1)=q+1:=by rw [qy (by omega) (by omega)])
 all_goals (simp only [e1,h6] at *)
 all_goals first
  | exact ⟨by omega⟩
  | (subst hf2;exact (qT _ _).symm)
  | exact ⟨rfl,rfl,rfl,h7,by omega,by omega⟩
  | skip
 all_goals (subst hf hf2 hg2)
 all_goals (have e2:jO (q+1) (l.getD i qf.z).label.length=q+1+(l.getD i qf.z).label.length:=rfl)
 all_goals (have e3:IntKind.i64.wrap (q+1+(l.getD i qf.z).label.length+1)=q+(l.getD i qf.z).label.length+2:=by rw [qy (by omega) (by omega)];omega)
 all_goals (simp only [e2,e3,wH,ql (show i<9223372036854775807 by omega)])
 all_goals (refine ⟨(ih hin).same ?_ ⟨rfl,rfl,rfl⟩⟩)
 all_goals (rw [WI (by omega),<-qkL (by omega),<-hq,<-hc])
 all_goals rfl
structure MkN (p:SP)(n m:Nat)(l:List qf)(k b:Int):Prop where out:p=(lrt 0,[])/\m=n/\l.length=n/\n<=maxLen/\(∀ q∈l,q.label.length<=maxLen)/\0<k/\b<=4611686018427387904
structure MkT {α:Type}(p:SP)(n m:Nat)(l:List α)(k:Int):Prop where out:p=(lrt 0,[])/\m=n/\l.length=n/\n<=maxLen/\0<k/\k+5 * n<=4611686018427387904
def qi4 (k:Int)(n:Nat):Int:=k+5 * n
def gN (k:Int)(l:List qf):Int:=kN k l l.length
def fN (k:Int)(l:List qf):List qf:=mNS k l l.length
def WK (f:Int->Nat->List Tie)(g:Int->Nat->Int):WrW
 | [(false,[.rf p true 0 n]),(false,[.fz (.int .i64 k)])],[(.sl m,.osl (.tie l))]=>some ([MkT p n m l k],(.v (bI1 (g k n)),[(lrt 0,.osl (.tie (f k n)))],[.rf (lrt 0,[]) true 0 n]))
 | _,_=>none
theorem qfp:JE Tryz.prog 51 (WK kI qi4):=by
 intro xs ls
 unfold WK
 split
 . refine R.Sim.mk fun hp=>?_
   obtain ⟨rfl,rfl,rfl,h1,h2,h3⟩:=(hp _ (.head _)).out
   exact qdk _ _ h1 ⟨h2,h3⟩
 . exact R.Sim.none'
def qaR (f:Int->List qf->List qf)(g:Int->List qf->Int):WrW
 | [(false,[.rf p true 0 n]),(false,[.fz (.int .i64 k)])],[(.sl m,.osl (.node true none l))]=>some ([MkN p n m l k (g k l)],(.v (bI1 (g k l)),[(lrt 0,.osl (.node true none (f k l)))],[.rf (lrt 0,[]) true 0 n]))
 | _,_=>none
theorem qg9:JE Tryz.prog 50 (qaR fN gN):=by
 intro xs ls
 unfold qaR
 split
 . refine R.Sim.mk fun hp=>?_
   obtain ⟨rfl,rfl,rfl,h1,h2,h3,h4⟩:=(hp _ (.head _)).out
   exact qa0 _ _ h1 h2 ⟨h3,h4⟩
 . exact R.Sim.none'
theorem qar (k:Int)(l:List qf):(fN k l).length=l.length:=Kp _ _ _
theorem qdD (cs:List qf)(ps:List Tie)(hr:Int)(k:Int)(h1:cs.length<=maxLen)(h2:ps.length<=maxLen)(h3:∀ q∈cs,q.label.length<=maxLen)(hk:0<k/\gN k cs+5 * ps.length<=4611686018427387904) :
 zG Tryz.prog 18 [(true,[.rf (lrt 0,[]) true 0 cs.length,.rf (lrt 1,[]) true 0 ps.length,.fz (.int .i64 hr)]),bI1 k] [(lrt 0,.osl (.node true none cs)),(lrt 1,.osl (.tie ps))]
  [.rf (lrt 0,[]) true 0 cs.length,.rf (lrt 1,[]) true 0 ps.length] (.v (bI1 (qi4 (gN k cs) ps.length)))
  [(8192,.obx [.osl (.node true none (fN k cs)),.osl (.tie (kI (gN k cs) ps.length)),.fz (.int .i64 hr)])] [.rf (8192,[((true,0),0)]) true 0 cs.length,.rf (8192,[((true,0),1)]) true 0 ps.length]:=by
 refine zG.of qc (fn:=Tryz.f18) (c:=Tryz.f18.body.getD .skip) (dr:=fun n=>qa 0 [] n) (r:=(_,_,_)) Tryz.func18 rfl (by kernel_rfl) (by kernel_rfl) (by kernel_rfl) ?_
 obtain ⟨f1,hf1⟩:∃ f,f=fN:=⟨_,rfl⟩
 obtain ⟨f2,hf2⟩:∃ f,f=kI:=⟨_,rfl⟩
 obtain ⟨g1,hg1⟩:∃ f,f=gN:=⟨_,rfl⟩
 obtain ⟨g2,hg2⟩:∃ f,f=qi4:=⟨_,rfl⟩
 have hpos:0<g1 k cs:=by rw [hg1];have:=JA k cs 0 cs.length;rw [JM,Nat.zero_add] at this;unfold gN;omega
 rw [<-hg1] at hk
 have hW:zR Tryz.prog (XX.withW [(50,[(0,0)]),(51,[(0,0)])] (kw [(50,qaR f1 g1),(51,WK f2 g2)])):=by
  subst hf1 hf2 hg1 hg2
  exact SX.withW_ok (zM qg9 (zM qfp jA))
 generalize hn:cs.length=n at *
 generalize hm:ps.length=m at *
 refine zu.go (X:=(XX.withW [(50,[(0,0)]),(51,[(0,0)])] (kw [(50,qaR f1 g1),(51,WK f2 g2)]))) qc (fun n=>qa [] [] n) (fun _=>none) qd 90 2 ?_ hW
 intro M R L N m0 m1 m2 m3 m4 m5
 cases M
 cbv
 repeat' first | refine m1 _ _ ?_ ?_ | refine m2 _ _ fun h=>?_ | refine m3 _ ?_ | (refine m4 _ _ (Hd.out ?_);try rw [hks]) | (refine m5 _ _ ?_;cbv)
 all_goals (clear m1 m2 m3 m4 m5;cases m0;(try clear hks);try dsimp only)
 all_goals try simp only [sm] at *
 all_goals (clear hW)
 all_goals (subst hf1 hf2 hg1 hg2 hn hm)
 all_goals first
  | rfl
  | exact (qar _ _).symm
  | exact (kL _ _).symm
  | exact ⟨rfl,rfl,rfl,h1,h3,hk.1,by omega⟩
  | exact ⟨rfl,rfl,rfl,h2,hpos,by omega⟩
  | (refine ⟨?_,?_,?_⟩<;>rfl)
  | skip
structure qor (p q:SP)(n n' m m':Nat)(cs:List qf)(ps:List Tie)(k b:Int):Prop where out:(p=(lrt 0,[])/\q=(lrt 1,[])/\n'=n/\m'=m)/\cs.length=n/\ps.length=m/\n<=maxLen/\m<=maxLen/\(∀ q∈cs,q.label.length<=maxLen)/\0<k/\b<=4611686018427387904
def Qf (f1:Int->List qf->List qf)(f2:Int->List qf->Nat->List Tie)(g:Int->List qf->Nat->Int):WrW
 | [(true,[.rf p true 0 n,.rf q true 0 m,.fz (.int .i64 hr)]),(false,[.fz (.int .i64 k)])],[(.sl n',.osl (.node true none cs)),(.sl m',.osl (.tie ps))]=>some ([qor p q n n' m m' cs ps k (g k cs m)],(.v (bI1 (g k cs m)),[(8192,.obx [.osl (.node true none (f1 k cs)),.osl (.tie (f2 k cs m)),.fz (.int .i64 hr)])],[.rf (8192,[((true,0),0)]) true 0 n,.rf (8192,[((true,0),1)]) true 0 m]))
 | _,_=>none
def shT (k:Int)(cs:List qf)(m:Nat):List Tie:=kI (gN k cs) m
def shG (k:Int)(cs:List qf)(m:Nat):Int:=qi4 (gN k cs) m
theorem qaK:JE Tryz.prog 18 (Qf fN shT shG):=by
 intro xs ls
 unfold Qf
 split
 . refine R.Sim.mk fun hp=>?_
   obtain ⟨⟨rfl,rfl,rfl,rfl⟩,rfl,rfl,h1,h2,h3,h4,h5⟩:=(hp _ (.head _)).out
   exact qdD _ _ _ _ h1 h2 h3 ⟨h4,by unfold shG qi4 at h5;omega⟩
 . exact R.Sim.none'
theorem qbr (nw:Int)(cs:List Int)(ps:List Int)(k:Int)(h1:cs.length<=maxLen)(h2:ps.length<=maxLen)(hk:0<k/\k+cs.length+ps.length<=4611686018427387904) :
 zG Tryz.prog 19 [(true,[.fz (.int .i64 nw),.rf (lrt 0,[]) true 0 cs.length,.rf (lrt 1,[]) true 0 ps.length]),bI1 k] [(lrt 0,.osl (.i cs)),(lrt 1,.osl (.i ps))]
  [.rf (lrt 0,[]) true 0 cs.length,.rf (lrt 1,[]) true 0 ps.length] (.v (bI1 (jO (jO k cs.length) ps.length)))
  [(8192,.obx [.fz (.int .i64 nw),.osl (.i (zC k cs.length)),.osl (.i (zC (jO k cs.length) ps.length))])] [.rf (8192,[((true,0),1)]) true 0 cs.length,.rf (8192,[((true,0),2)]) true 0 ps.length]:=by
 refine zG.of qc (fn:=Tryz.f19) (c:=Tryz.f19.body.getD .skip) (dr:=fun n=>qa 0 [] n) (r:=(_,_,_)) Tryz.func19 rfl (by kernel_rfl) (by kernel_rfl) (by kernel_rfl) ?_
 generalize hn:cs.length=n at *
 generalize hm:ps.length=m at *
 obtain ⟨f2,hf2⟩:∃ f,f=zC:=⟨_,rfl⟩
 obtain ⟨g2,hg2⟩:∃ f,f=jO:=⟨_,rfl⟩
 have hW:zR Tryz.prog (XX.withW [(26,[(0,0)])] (kw [(26,QO f2 g2)])):=by
  subst hf2 hg2
  exact SX.withW_ok (zM wO jA)
 refine zu.go (X:=(XX.withW [(26,[(0,0)])] (kw [(26,QO f2 g2)]))) qc (fun n=>qa [] [] n) (fun _=>none) qd 90 2 ?_ hW
 intro M R L N m0 m1 m2 m3 m4 m5
 cases M
 cbv
 repeat' first | refine m1 _ _ ?_ ?_ | refine m2 _ _ fun h=>?_ | refine m3 _ ?_ | (refine m4 _ _ (Hd.out ?_);try rw [hks]) | (refine m5 _ _ ?_;cbv)
 all_goals (clear m1 m2 m3 m4 m5;cases m0;(try clear hks);try dsimp only)
 all_goals try simp only [sm] at *
 all_goals (clear hW)
 all_goals (subst hf2 hg2 hn hm)
 all_goals first
  | rfl
  | exact (qT _ _).symm
  | exact ⟨rfl,rfl,rfl,h1,by omega,by omega⟩
  | exact ⟨rfl,rfl,rfl,h2,by unfold jO;omega,by unfold jO;omega⟩
  | (refine ⟨?_,?_,?_⟩<;>rfl)
  | skip
structure qoj (p q:SP)(n n' m m':Nat)(cs ps:List Int)(k:Int):Prop where out:(p=(lrt 0,[])/\q=(lrt 1,[])/\n'=n/\m'=m)/\cs.length=n/\ps.length=m/\n<=maxLen/\m<=maxLen/\0<k/\k+n+m<=4611686018427387904
def jy (f1:Int->Nat->List Int)(f2:Int->Nat->Nat->List Int)(g:Int->Nat->Nat->Int):WrW
 | [(true,[.fz (.int .i64 nw),.rf p true 0 n,.rf q true 0 m]),(false,[.fz (.int .i64 k)])],[(.sl n',.osl (.i cs)),(.sl m',.osl (.i ps))]=>some ([qoj p q n n' m m' cs ps k],(.v (bI1 (g k n m)),[(8192,.obx [.fz (.int .i64 nw),.osl (.i (f1 k n)),.osl (.i (f2 k n m))])],[.rf (8192,[((true,0),1)]) true 0 n,.rf (8192,[((true,0),2)]) true 0 m]))
 | _,_=>none
def stF (k:Int)(n m:Nat):List Int:=zC (jO k n) m
def stG (k:Int)(n m:Nat):Int:=jO (jO k n) m
theorem yS:JE Tryz.prog 19 (jy zC stF stG):=by
 intro xs ls
 unfold jy
 split
 . refine R.Sim.mk fun hp=>?_
   obtain ⟨⟨rfl,rfl,rfl,rfl⟩,rfl,rfl,h1,h2,h3,h4⟩:=(hp _ (.head _)).out
   exact qbr _ _ _ _ h1 h2 ⟨h3,h4⟩
 . exact R.Sim.none'
theorem qaI (nw k:Int)(n m:Nat)(h1:n<=maxLen)(h2:m<=maxLen)(hk:0<=k/\k+n+m<=4611686018427387904):qe Tryz.prog 27 [zB ⟨nw,zC k n,stF k n m⟩,aI k] (rI (stG k n m)):=by
 refine qe.of qc (fn:=Tryz.f27) (c:=Tryz.f27.body.getD .skip) (dr:=fun n=>qa 0 [] n) Tryz.func27 rfl (by kernel_rfl) (by kernel_rfl) (by kernel_rfl) ?_
 obtain ⟨a,ha⟩:∃ a,a=zC k n:=⟨_,rfl⟩
 obtain ⟨b,hb⟩:∃ b,b=stF k n m:=⟨_,rfl⟩
 obtain ⟨g,hg⟩:∃ f,f=jO:=⟨_,rfl⟩
 obtain ⟨f,hf⟩:∃ f,f=zC:=⟨_,rfl⟩
 obtain ⟨ln,hln⟩:∃ f,f=@List.length Int:=⟨_,rfl⟩
 have hO:qm Tryz.prog (qL [(30,qfO g f ln)]):=by subst hg hf hln;exact qb y8 qd
 have e1:ln a=n:=by rw [hln,ha,qT]
 have e2:ln b=m:=by rw [hln,hb];unfold stF;rw [qT]
 rw [<-ha,<-hb]
 unfold stG
 rw [<-hg]
 have hp:0<=g k n:=by rw [hg];unfold jO;omega
 have hp2:0<=g (g k n) m:=by rw [hg];unfold jO;omega
 have q1:a=f k n:=by rw [ha,hf]
 have q2:b=f (g k n) m:=by rw [hb,hf,hg];rfl
 refine SEx.go (X:=XX) qc (fun n=>qa [] [] n) (fun _=>none) hO 60 ?_
 intro M R L N m0 m1 m2 m3 m4 m5
 cases M
 cbv
 repeat' first | refine m1 _ _ ?_ ?_ | refine m2 _ _ fun h=>?_ | refine m3 _ ?_ | (refine m4 _ _ (Hd.out ?_);try first | rw [hks] | rw [hk2] | rw [hk3]) | (refine m5 _ _ ?_;cbv)
 all_goals (clear m1 m2 m3 m4 m5;cases m0;(try clear hks;try clear hk2;try clear hk3);try dsimp only)
 all_goals try simp only [sm] at *
 all_goals (clear hO)
 all_goals (simp only [e1,e2] at *)
 all_goals first
  | omega
  | exact ⟨q1⟩
  | exact ⟨q2⟩
  | rfl
  | exact ⟨by rw [ha,qT];exact h1⟩
  | exact ⟨by rw [hb];unfold stF;rw [qT];exact h2⟩
  | exact ⟨by omega,by omega⟩
  | (subst hg;exact ⟨by unfold jO;omega,by unfold jO;omega⟩)
  | (exfalso;omega)
  | skip
structure HSt (x:qn)(k:Int)(n m:Nat):Prop where out:x.times=zC k n/\x.vals=stF k n m/\n<=maxLen/\m<=maxLen/\0<=k/\k+n+m<=4611686018427387904
def qgk (g:Int->Nat->Nat->Int)(ln:List Int->Nat):Wr:=w2 zj dcI (fun x k=>rI (g k (ln x.times) (ln x.vals))) (fun x k=>[HSt x k (ln x.times) (ln x.vals)])
theorem qeg:qH Tryz.prog 27 (qgk stG List.length):=qI fun x k h=>by
 obtain ⟨e1,e2,h1,h2,h3,h4⟩:=(h _ (.head _)).out
 have:=qaI x.now k x.times.length x.vals.length h1 h2 ⟨h3,h4⟩
 rw [<-e1,<-e2] at this
 exact this
end Go.Proofs.YtececadpjelanaaGreat.Ai
namespace Go.Proofs.YtececadpjelanaaGreat.Ai
open Go
set_option maxRecDepth 100000
variable [qh]
theorem qip (l:List Int)(h1:l.length<=1048576):qe Tryz.prog 120 [aIs l] (rIs l):=by
 refine qe.of qc (fn:=Tryz.f120) (c:=Tryz.f120.body.getD .skip) (dr:=fun n=>qa 0 [] n) Tryz.func120 rfl (by kernel_rfl) (by kernel_rfl) (by kernel_rfl) ?_
 refine SEx.go (X:=XX) qc (fun n=>qa [] [] n) (fun _=>none) qd 60 ?_
 intro M R L N m0 m1 m2 m3 m4 m5
 cases M
 cbv
 repeat' first | refine m1 _ _ ?_ ?_ | refine m2 _ _ fun h=>?_ | refine m3 _ ?_ | (refine m4 _ _ (Hd.out ?_);try first | rw [hks] | rw [hk2] | rw [hk3]) | (refine m5 _ _ ?_;cbv)
 all_goals (clear m1 m2 m3 m4 m5;cases m0;(try clear hks;try clear hk2;try clear hk3);try dsimp only)
 all_goals try simp only [sm] at *
 all_goals first
  | (have:=kT;omega)
  | (have hl:l=[]:=List.eq_nil_of_length_eq_zero (by omega)
     subst hl;rfl)
  | rfl
end Go.Proofs.YtececadpjelanaaGreat.Ai
namespace Go.Proofs.YtececadpjelanaaGreat.Ai
open Go
set_option maxRecDepth 100000
variable [qh]
def qfQ:Wr:=w1 kB rIs (fun l=>[LLe l 1048576])
theorem qd8:qH Tryz.prog 120 qfQ:=zK fun l h=>qip l (h _ (.head _)).out
theorem qaO (x:qn)(hz:We x):qe Tryz.prog 90 [zB x] (wz x):=by
 refine qe.of qc (fn:=Tryz.f90) (c:=Tryz.f90.body.getD .skip) (dr:=fun n=>qa 0 [(1,8)] n) Tryz.func90 rfl (by kernel_rfl) (by kernel_rfl) (by kernel_rfl) ?_
 have hO:qm Tryz.prog (qL [(120,qfQ)]):=qb qd8 qd
 have h1:=hz.tlen
 have h2:=hz.vlen
 clear hz
 obtain ⟨now,times,vals⟩:=x
 dsimp only at h1 h2
 refine SEx.go (X:=XX) qc (fun n=>qa [] [] n) (fun _=>none) hO 60 ?_
 intro M R L N m0 m1 m2 m3 m4 m5
 cases M
 cbv
 repeat' first | refine m1 _ _ ?_ ?_ | refine m2 _ _ fun h=>?_ | refine m3 _ ?_ | (refine m4 _ _ (Hd.out ?_);try first | rw [hks] | rw [hk2] | rw [hk3]) | (refine m5 _ _ ?_;cbv)
 all_goals (clear m1 m2 m3 m4 m5;cases m0;(try clear hks;try clear hk2;try clear hk3);try dsimp only)
 all_goals try simp only [sm] at *
 all_goals first
  | exact ⟨h1⟩
  | exact ⟨h2⟩
  | rfl
def qgq:Wr:=w1 zj wz (fun x=>[We x])
theorem qe7:qH Tryz.prog 90 qgq:=zK fun x h=>qaO x (h _ (.head _))
end Go.Proofs.YtececadpjelanaaGreat.Ai
namespace Go.Proofs.YtececadpjelanaaGreat.Ai
open Go
set_option maxRecDepth 100000
variable [qh]
theorem qmV {l:List qf}(k:Int)(h:∀ q∈l,q.label.length<=1048576):∀ i,i<=l.length->kN k l i<=k+i * 1048578
 | 0,_=>by rw [JM];omega
 | i+1,hi=>by
   have h1:=qmV k h i (by omega)
   have h2:=h _ (qu (z:=qf.z) (show i<l.length by omega)).out
   rw [WI (by omega)]
   omega
structure qnR (n:Int)(g:Int):Prop where
 lo:0<g
 hi:g<=4000000000000
theorem qno {t:qx}{n:Int}(h:qdV t n):qnR n (shG 1 t.nodes t.ties.length)/\gN 1 t.nodes<=4000000000000:=by
 have h1:=qmV 1 h.labs t.nodes.length (Nat.le_refl _)
 have h2:=JA 1 t.nodes 0 t.nodes.length
 rw [JM,Nat.zero_add] at h2
 have h3:=h.len
 have h4:=h.tlen
 unfold shG qi4 gN
 exact ⟨⟨by omega,by omega⟩,by omega⟩
theorem YT (k:Int)(n m:Nat):(stF k n m).length=m:=qT _ _
theorem qa6 (s:qn)(h1:s.times.length<=1048576)(h2:s.vals.length<=1048576):HSt ⟨s.now,zC 1 s.times.length,stF 1 s.times.length s.vals.length⟩ 1 s.times.length s.vals.length:=⟨rfl,rfl,by unfold maxLen;omega,by unfold maxLen;omega,by omega,by omega⟩
theorem yv (s:qn)(h1:s.times.length<=1048576)(h2:s.vals.length<=1048576):qoj (lrt 0,[]) (lrt 1,[]) s.times.length s.times.length s.vals.length s.vals.length s.times s.vals 1:=⟨⟨rfl,rfl,rfl,rfl⟩,rfl,rfl,by unfold maxLen;omega,by unfold maxLen;omega,by omega,by omega⟩
end Go.Proofs.YtececadpjelanaaGreat.Ai
namespace Go.Proofs.YtececadpjelanaaGreat.Ai
open Go
set_option maxRecDepth 100000
variable [qh]
def zI (p:Int->Bool)(l:List Int):List Int:=l.filter fun x=>!p x
def VC (p:Int->Bool)(l:List Int):List Int:=zI p l++List.replicate (l.length-(zI p l).length) 0
def qkS (g:FuncId)(caps:List D)(l:List Int)(p:Int->Bool)(L:List (Nat×Wr)):jS:=fun g' as'=>match as' with
 | (false,[.int .i64 q])::r=>some ([qka g' g r caps,Mem q l],rB (p q))
 | xs=>qL L g' xs
theorem qjM {P:Program}{g:FuncId}{caps:List D}{l:List Int}{p:Int->Bool}{L:List (Nat×Wr)}(hp:∀ q∈l,qe P g (aI q::jr caps) (rB (p q)))(hL:qm P (qL L)):qm P (qkS g caps l p L):=by
 intro g' as'
 unfold qkS
 split
 . refine R.Sim.mk fun hq=>?_
   obtain ⟨rfl,rfl⟩:=hq _ (.head _)
   exact hp _ (hq _ (.tail _ (.head _))).out
 . exact hL _ _
theorem K8 {α:Type}(p:α->Bool)(z:α):∀ (l:List α) (n:Nat),(zq p l n=-1/\∀ q∈l,p q=false)\/∃ i,i<l.length/\zq p l n=((n+i:Nat):Int)/\p (l.getD i z)=true/\∀ q∈l.take i,p q=false
 | [],n=>.inl ⟨rfl,fun q h=>by cases h⟩
 | a::r,n=>by
   unfold zq
   cases h:p a with
   | true=>exact .inr ⟨0,by simp,by simp,by simpa using h,fun q h=>by simp at h⟩
   | false =>
     rw [if_neg (by simp)]
     rcases K8 p z r (n+1) with ⟨h1,h2⟩ | ⟨i,h1,h2,h3,h4⟩
     . exact .inl ⟨h1,fun q hq=>(List.mem_cons.1 hq).elim (fun e=>e▸h) (h2 q)⟩
     . refine .inr ⟨i+1,by simpa using h1,by rw [h2];congr 1;omega,by simpa using h3,fun q hq=>?_⟩
       rw [List.take_succ_cons] at hq
       exact (List.mem_cons.1 hq).elim (fun e=>e▸h) (h4 q)
theorem Yd {p:Int->Bool}{l:List Int}(h:∀ q∈l,p q=false):zI p l=l:=by
 unfold zI
 rw [List.filter_eq_self]
 intro q hq
 rw [h q hq];rfl
theorem qfC {p:Int->Bool}{l:List Int}{j:Nat}(h:j<l.length):zI p (l.take (j+1))=zI p (l.take j)++(if p (l.getD j 0)=true then [] else [l.getD j 0]):=by
 unfold zI
 rw [List.take_add_one,List.filter_append,km h,List.getElem?_eq_getElem h,Option.toList_some,List.filter_cons,List.filter_nil]
 cases p l[j]<;>rfl
theorem qik {c:List Int}{i n:Nat}(hn:c.length=n)(hi:i<=n):ky c i (n-i) 0=c.take i++List.replicate (n-i) 0:=by
 apply List.ext_getElem?
 intro j
 rw [jG,List.getElem?_append,List.length_take,hn,Nat.min_eq_left hi,List.getElem?_take,List.getElem?_replicate]
 by_cases h1:j<i
 . rw [if_neg (by omega),if_pos h1,if_pos h1]
 . rw [if_neg h1]
   by_cases h2:j<n
   . rw [if_pos (by omega),if_pos (by omega)]
   . rw [if_neg (by omega),if_neg (by omega),List.getElem?_eq_none (by omega)]
theorem qjB {c:List Int}{i:Nat}(v:Int)(h:i<c.length):(c.set i v).take (i+1)=c.take i++[v]:=by
 rw [List.take_add_one,List.take_set_of_le (Nat.le_refl i),List.getElem?_set_self h];rfl
theorem qcR {c l:List Int}{j:Nat}(h:c.drop j=l.drop j):c.drop (j+1)=l.drop (j+1):=by
 have:=congrArg (List.drop 1) h
 rwa [List.drop_drop,List.drop_drop] at this
theorem vJ (l:List Int)(g:FuncId)(a b:List D)(p:Int->Bool)(hp:∀ q∈l,qe Tryz.prog g [aI q,(false,[.ptr a]),(false,[.ptr b])] (rB (p q)))(h1:l.length<=maxLen) :
 zG Tryz.prog 159 [wR l.length,(false,[.clo g [.fz (.ptr a),.fz (.ptr b)]])] [(lrt 0,.osl (.i l))] [.rf (lrt 0,[]) true 0 l.length]
  (.v (false,[.rf (lrt 0,[]) false 0 (zI p l).length])) [(lrt 0,.osl (.i (VC p l)))] [.rf (lrt 0,[]) true 0 l.length]:=by
 refine zG.of qc (fn:=Tryz.f159) (c:=Tryz.f159.body.getD .skip) (dr:=fun n=>qa 0 [] n) (r:=(_,_,_)) Tryz.func159 rfl (by kernel_rfl) (by kernel_rfl) (by kernel_rfl) ?_
 obtain ⟨f,hf⟩:∃ f:List Int->Int,f=fun l=>zq p l 0:=⟨_,rfl⟩
 have hO:qm Tryz.prog (qkS g [.ptr a,.ptr b] l p [(141,wCl kB g [.ptr a,.ptr b] (fun l=>rI (f l)) (fun m=>[JZ m l]))]):=by
  subst hf
  exact qjM hp (qb (Va fun m h=>by obtain rfl:=(h _ (.head _)).out;exact vK m g [.ptr a,.ptr b] p hp h1) qd)
 unfold maxLen at h1
 have hc:=K8 p 0 l 0
 rw [show zq p l 0=f l by rw [hf]] at hc
 have hkl:(zI p l).length<=l.length:=List.length_filter_le _ _
 have hka:=Yd (p:=p) (l:=l)
 have hks':∀ j,j<l.length->zI p (l.take (j+1))=zI p (l.take j)++(if p (l.getD j 0)=true then [] else [l.getD j 0]):=fun j h=>qfC h
 have hkt:zI p (l.take l.length)=zI p l:=by rw [List.take_length]
 obtain ⟨kl,hkl0⟩:∃ kl,kl=zI p l:=⟨_,rfl⟩
 obtain ⟨m,hm⟩:∃ m,m=kl.length:=⟨_,rfl⟩
 obtain ⟨dl,hdl⟩:∃ dl,dl=VC p l:=⟨_,rfl⟩
 rw [<-hkl0,<-hm,<-hdl]
 unfold VC at hdl
 rw [<-hkl0,<-hm] at hdl
 rw [<-hkl0] at hkl hka hkt
 generalize hn:l.length=n at *
 obtain ⟨tt,htt⟩:∃ t:Nat->List Int,t=fun j=>zI p (l.take j):=⟨_,rfl⟩
 rw [show zI p (l.take n)=tt n by rw [htt]] at hkt
 have hst:∀ j,j<n->tt (j+1)=tt j++(if p (l.getD j 0)=true then [] else [l.getD j 0]):=fun j h=>by rw [htt];exact hks' j h
 clear hks'
 refine zu.go (X:=(XX.withF [4])) qc (fun n=>qa [] [(5,[0,1,5,6,4294967296])] n) (fun _=>none) hO 60 1 ?_
 intro M R L N m0 m1 m2 m3 m4 m5
 cases M
 cbv
 repeat' first | refine m1 _ _ ?_ ?_ | refine m2 _ _ fun h=>?_ | refine m3 _ ?_ | (refine m4 _ _ (Hd.out ?_);generalize hks:(List.cons _ _:List K)=ks) | (refine m5 _ _ ?_;cbv)
 all_goals (clear m1 m2 m3 m4 m5;cases m0;try dsimp only)
 all_goals try simp only [sm] at *
 all_goals first
  | exact hn.symm
  | exact ⟨rfl⟩
  | exact ⟨rfl,rfl⟩
  | (have e:kl=l:=by
      rcases hc with ⟨_,h2⟩ | ⟨i,_,h2,_⟩
      . exact hka h2
      . omega
     have e2:m=n:=by rw [hm,e,hn]
     subst e2
     rw [Nat.sub_self,List.replicate_zero,List.append_nil,e] at hdl
     subst hdl
     refine ⟨?_,?_,?_⟩<;>rfl)
  | skip
 obtain ⟨i0,hi0,hfi,hpi,hbe⟩:∃ i,i<n/\f l=(i:Int)/\p (l.getD i 0)=true/\∀ q∈l.take i,p q=false:=by
  rcases hc with ⟨h2,_⟩ | ⟨i,h2,h3,h4,h5⟩
  . contradiction
  . exact ⟨i,h2,by rw [h3,Nat.zero_add],h4,h5⟩
 rw [hfi,ql (show i0<9223372036854775807 by omega)]
 have htl:∀ j,(tt j).length<=j:=fun j=>by
  rw [htt]
  show (zI p (l.take j)).length<=j
  unfold zI
  exact Nat.le_trans (List.length_filter_le _ _) (by rw [List.length_take];omega)
 have ht0:tt (i0+1)=l.take i0:=by
  rw [hst i0 hi0,hpi,if_pos rfl,List.append_nil,htt]
  exact Yd hbe
 have htn:∀ j,j<=n->(tt j).length<=m:=fun j hj=>by
  have key:∀ d,j+d<=n->(tt j).length<=(tt (j+d)).length:=by
   intro d
   induction d with
   | zero=>intro _;exact Nat.le_refl _
   | succ d ih =>
     intro h
     have:=ih (by omega)
     rw [<-Nat.add_assoc,hst (j+d) (by omega),List.length_append]
     omega
  have:=key (n-j) (by omega)
  rw [show j+(n-j)=n by omega,hkt,<-hm] at this
  exact this
 clear hf hka hc hbe hkl0 htt
 refine ⟨zu.same (zu.ind (α:=Nat×List Int×Nat) (fun x=>⟨42,[(0,bR 41000000 n),(1,.v (false,[.clo g [.fz (.ptr a),.fz (.ptr b)]])),(5,bI x.2.2),(6,bI x.1),(4294967296,bR 41000000 n)],[(41000000,.osl (.i x.2.1))]⟩) (fun _=>(.v (false,[.rf (lrt 0,[]) false 0 m]),[(lrt 0,.osl (.i dl))],[.rf (lrt 0,[]) true 0 n])) (fun x=>x.1<=n/\x.2.2<x.1/\x.2.1.length=n/\x.2.1.take x.2.2=tt x.1/\x.2.1.drop x.1=l.drop x.1) (fun x=>n-x.1) (i0+1,l,i0) ⟨by show i0+1<=n;omega,Nat.lt_succ_self i0,hn,ht0.symm,rfl⟩ ?_) rfl ⟨rfl,rfl,rfl⟩⟩
 rintro ⟨j,c,i⟩ ⟨hj,hij,hcl,hct,hcd⟩ ih
 dsimp only at hj hij hcl hct hcd ih ⊢
 rw [<-hks]
 have hcj:j<n->c.getD j 0=l.getD j 0:=fun h=>by
  have:=congrArg (fun x:List Int=>x[0]?) hcd
  simp only [List.getElem?_drop,Nat.add_zero] at this
  rw [List.getD_eq_getElem?_getD,List.getD_eq_getElem?_getD,this]
 have hil:i=(tt j).length:=by rw [<-hct,List.length_take];omega
 refine zu.go (X:=(XX.withF [4])) qc (fun n=>qa [] [(5,[0,1,5,6,4294967296])] n) (fun _=>none) hO 60 1 ?_
 intro M R L N m0 m1 m2 m3 m4 m5
 cases M
 cbv
 repeat' first | refine m1 _ _ ?_ ?_ | refine m2 _ _ fun h=>?_ | refine m3 _ ?_ | (refine m4 _ _ (Hd.out ?_);try rw [hks]) | (refine m5 _ _ ?_;cbv)
 all_goals (clear m1 m2 m3 m4 m5;cases m0;(try clear hks);try dsimp only)
 all_goals try simp only [sm] at *
 all_goals (try simp only [Nat.zero_add] at *)
 all_goals (try simp only [hcj (by omega),ql (show j<9223372036854775807 by omega),ql (show i<9223372036854775807 by omega)] at *)
 all_goals first
  | exact hn.symm
  | omega
  | (rw [kP];omega)
  | exact ⟨rfl,rfl⟩
  | exact qu (z:=(0:Int)) (by omega)
  | (have hpj:p (l.getD j 0)=false:=by assumption
     refine ⟨(ih (j+1,c.set i (l.getD j 0),i+1) ⟨by show j+1<=n;omega,by show i+1<j+1;omega,by show (c.set i (l.getD j 0)).length=n;rw [List.length_set];exact hcl,?_,?_⟩ (by show n-(j+1)<n-j;omega)).same rfl ⟨rfl,rfl,rfl⟩⟩
     . show (c.set i (l.getD j 0)).take (i+1)=tt (j+1)
       rw [qjB _ (by omega),hct,hst j (by omega),hpj];rfl
     . show (c.set i (l.getD j 0)).drop (j+1)=l.drop (j+1)
       rw [List.drop_set_of_lt (by omega),qcR hcd])
  | (have hpj:p (l.getD j 0)=true:=by assumption
     refine ⟨(ih (j+1,c,i) ⟨by show j+1<=n;omega,by show i<j+1;omega,hcl,?_,?_⟩ (by show n-(j+1)<n-j;omega)).same rfl ⟨rfl,rfl,rfl⟩⟩
     . show c.take i=tt (j+1)
       rw [hct,hst j (by omega),hpj,if_pos rfl,List.append_nil]
     . show c.drop (j+1)=l.drop (j+1)
       exact qcR hcd)
  | (have e:j=n:=by omega
     subst e
     have hmi:m=i:=by rw [hm,<-hkt,<-hil]
     have e2:dl=ky c i (j-i) 0:=by rw [qik hcl (by omega),hct,hkt,hdl,hmi]
     subst hmi
     rw [e2]
     refine ⟨?_,?_,?_⟩<;>rfl)
  | skip
def jx (q:Nat->Bool)(i:Nat):List Int:=((List.range i).filter q).map fun (j:Nat)=>(j:Int)
theorem qbP {q:Nat->Bool}{i:Nat}(h:q i=true):jx q (i+1)=jx q i++[(i:Int)]:=by
 simp only [jx,List.range_succ,List.filter_append,List.map_append,List.filter_cons,List.filter_nil,h,if_true,List.map_cons,List.map_nil]
theorem qam {q:Nat->Bool}{i:Nat}(h:q i=false):jx q (i+1)=jx q i:=by
 simp only [jx,List.range_succ,List.filter_append,List.map_append,List.filter_cons,List.filter_nil,h,Bool.false_eq_true,if_false,List.map_nil,List.append_nil]
theorem JG (q:Nat->Bool)(i:Nat):(jx q i).length<=i:=by
 simp only [jx,List.length_map]
 exact Nat.le_trans (List.length_filter_le _ _) (by simp)
theorem qcn {q:Nat->Bool}{n:Nat}{x:Int}(h:x∈jx q n):0<=x/\x<n/\q x.toNat=true:=by
 simp only [jx,List.mem_map,List.mem_filter,List.mem_range] at h
 obtain ⟨j,⟨h1,h2⟩,rfl⟩:=h
 exact ⟨by omega,by omega,by simpa using h2⟩
theorem qds (q:Nat->Bool)(p:Int->Bool)(n:Nat):(jx q n).filter p=jx (fun j=>q j&&p j) n:=by
 simp only [jx,List.filter_map,List.filter_filter]
 congr 1
 congr 1
 funext j
 simp [Function.comp,Bool.and_comm]
def chQ (ts:List Tie)(i:Nat):Bool:=decide (0<i)&&decide (ZO ts i<0)
def chL (t:qx):List Int:=jx (chQ t.ties) t.nodes.length
def enP (t:qx)(x:qn)(i:Int):Bool:=decide (x.times.getD i.toNat 0=-1)&&decide (nsI t x i=1)
def enL (t:qx)(x:qn):List Int:=(chL t).filter (enP t x)
theorem qcV (q:Tie)(x:Int):qe Tryz.prog 181 [qdf q,(false,[.ptr [.int .i64 x]])] (rB (q.free&&q.dst == x)):=by
 refine qe.of qc (fn:=Tryz.f181) (c:=Tryz.f181.body.getD .skip) (dr:=fun n=>qa 0 [] n) Tryz.func181 rfl (by kernel_rfl) (by kernel_rfl) (by kernel_rfl) ?_
 obtain ⟨x1,x2,x3,x4,x5⟩:=q
 refine SEx.go (X:=XX) qc (fun n=>qa [] [] n) (fun _=>none) qd 60 ?_
 intro M R L N m0 m1 m2 m3 m4 m5
 cases M
 cbv
 repeat' first | refine m1 _ _ ?_ ?_ | refine m2 _ _ fun h=>?_ | refine m3 _ ?_ | (refine m4 _ _ (Hd.out ?_);try first | rw [hks] | rw [hk2] | rw [hk3]) | (refine m5 _ _ ?_;cbv)
 all_goals (clear m1 m2 m3 m4 m5;cases m0;(try clear hks;try clear hk2;try clear hk3);try dsimp only)
 all_goals try simp only [sm] at *
 all_goals (refine qK ?_ _;simp_all;done)
end Go.Proofs.YtececadpjelanaaGreat.Ai
