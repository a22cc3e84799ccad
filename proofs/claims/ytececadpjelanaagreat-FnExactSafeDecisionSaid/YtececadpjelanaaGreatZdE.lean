/- The law's proof, part 5 of 10: what of its author's texts it needs; no condition. -/
import Derived.Test.YtececadpjelanaaGreatProg
import Derived.KernelRfl
import Derived.Test.YtececadpjelanaaGreatZdD
set_option linter.unusedSectionVars false
set_option linter.unusedSimpArgs false
set_option linter.unusedVariables false
namespace Go.Proofs.YtececadpjelanaaGreat.Ai
open Go
set_option maxRecDepth 100000
variable [qi]
def tr3:Ty:={ kind:=TK.int IntKind.i64,agg:=false,size:=1,bytes:=8,zero:=[C.int IntKind.i64 (Int.ofNat 0)] }
theorem ty3:kY Tryz.prog 3=some tr3:=by kernel_rfl
def tr4:Ty:={ kind:=TK.bool,agg:=false,size:=1,bytes:=1,zero:=[C.bool false] }
theorem ty4:kY Tryz.prog 4=some tr4:=by kernel_rfl
def tr5:Ty:={ kind:=TK.int IntKind.u8,agg:=false,size:=1,bytes:=1,zero:=[C.int IntKind.u8 (Int.ofNat 0)] }
theorem ty5:kY Tryz.prog 5=some tr5:=by kernel_rfl
def tr9:Ty:={ kind:=TK.str,agg:=false,size:=1,bytes:=16,zero:=[C.str { data:={ toList:=[] } }] }
theorem ty9:kY Tryz.prog 9=some tr9:=by kernel_rfl
def tr22:Ty:={ kind:=TK.sl 85,agg:=false,size:=1,bytes:=24,zero:=[C.nilsl] }
theorem ty22:kY Tryz.prog 22=some tr22:=by kernel_rfl
def tr23:Ty:={ kind:=TK.sl 94,agg:=false,size:=1,bytes:=24,zero:=[C.nilsl] }
theorem ty23:kY Tryz.prog 23=some tr23:=by kernel_rfl
def tr25:Ty:={ kind:=TK.st [(0,1,false),(1,1,false),(2,1,false)],agg:=true,size:=3,bytes:=56,zero:=[C.nilsl,C.nilsl,C.int IntKind.i64 (Int.ofNat 0)] }
theorem ty25:kY Tryz.prog 25=some tr25:=by kernel_rfl
def tr26:Ty:={ kind:=TK.sl 3,agg:=false,size:=1,bytes:=24,zero:=[C.nilsl] }
theorem ty26:kY Tryz.prog 26=some tr26:=by kernel_rfl
def tr28:Ty:={ kind:=TK.st [(0,1,false),(1,1,false),(2,1,false)],agg:=true,size:=3,bytes:=56,zero:=[C.int IntKind.i64 (Int.ofNat 0),C.nilsl,C.nilsl] }
theorem ty28:kY Tryz.prog 28=some tr28:=by kernel_rfl
def tr31:Ty:={ kind:=TK.sl 26,agg:=false,size:=1,bytes:=24,zero:=[C.nilsl] }
theorem ty31:kY Tryz.prog 31=some tr31:=by kernel_rfl
def tr33:Ty:={ kind:=TK.sl 91,agg:=false,size:=1,bytes:=24,zero:=[C.nilsl] }
theorem ty33:kY Tryz.prog 33=some tr33:=by kernel_rfl
def tr34:Ty:={ kind:=TK.sl 90,agg:=false,size:=1,bytes:=24,zero:=[C.nilsl] }
theorem ty34:kY Tryz.prog 34=some tr34:=by kernel_rfl
def tr36:Ty:={ kind:=TK.st [(0,1,false),(1,1,false),(2,1,false)],agg:=true,size:=3,bytes:=56,zero:=[C.nilsl,C.nilsl,C.int IntKind.i64 (Int.ofNat 0)] }
theorem ty36:kY Tryz.prog 36=some tr36:=by kernel_rfl
def tr38:Ty:={ kind:=TK.st [(0,1,false),(1,1,false),(2,1,false)],agg:=true,size:=3,bytes:=56,zero:=[C.int IntKind.i64 (Int.ofNat 0),C.nilsl,C.nilsl] }
theorem ty38:kY Tryz.prog 38=some tr38:=by kernel_rfl
def tr64:Ty:={ kind:=TK.int IntKind.u64,agg:=false,size:=1,bytes:=8,zero:=[C.int IntKind.u64 (Int.ofNat 0)] }
theorem ty64:kY Tryz.prog 64=some tr64:=by kernel_rfl
def tr85:Ty:={ kind:=TK.st [(0,1,false),(1,1,false),(2,1,false)],agg:=true,size:=3,bytes:=48,zero:=[C.str { data:={ toList:=[] } },C.nilsl,C.int IntKind.i64 (Int.ofNat 0)] }
theorem ty85:kY Tryz.prog 85=some tr85:=by kernel_rfl
def tr90:Ty:={ kind:=TK.st [(0,1,false),(1,1,false),(2,1,false),(3,1,false),(4,1,false)],agg:=true,size:=5,bytes:=40,zero:=[C.int IntKind.i64 (Int.ofNat 0),C.int IntKind.i64 (Int.ofNat 0),C.int IntKind.i64 (Int.ofNat 0),C.int IntKind.i64 (Int.ofNat 0),C.bool false] }
theorem ty90:kY Tryz.prog 90=some tr90:=by kernel_rfl
def tr91:Ty:={ kind:=TK.st [(0,1,false),(1,1,false),(2,1,false)],agg:=true,size:=3,bytes:=48,zero:=[C.str { data:={ toList:=[] } },C.nilsl,C.int IntKind.i64 (Int.ofNat 0)] }
theorem ty91:kY Tryz.prog 91=some tr91:=by kernel_rfl
def tr94:Ty:={ kind:=TK.st [(0,1,false),(1,1,false),(2,1,false),(3,1,false),(4,1,false)],agg:=true,size:=5,bytes:=40,zero:=[C.int IntKind.i64 (Int.ofNat 0),C.int IntKind.i64 (Int.ofNat 0),C.int IntKind.i64 (Int.ofNat 0),C.int IntKind.i64 (Int.ofNat 0),C.bool false] }
theorem ty94:kY Tryz.prog 94=some tr94:=by kernel_rfl
def tr103:Ty:={ kind:=TK.mp 9 4,agg:=false,size:=1,bytes:=8,zero:=[C.un] }
theorem ty103:kY Tryz.prog 103=some tr103:=by kernel_rfl
def tr105:Ty:={ kind:=TK.st [(0,3,true),(3,1,false)],agg:=true,size:=4,bytes:=64,zero:=[C.nilsl,C.nilsl,C.int IntKind.i64 (Int.ofNat 0),C.un] }
theorem ty105:kY Tryz.prog 105=some tr105:=by kernel_rfl
def tr118:Ty:={ kind:=TK.sl 5,agg:=false,size:=1,bytes:=24,zero:=[C.nilsl] }
theorem ty118:kY Tryz.prog 118=some tr118:=by kernel_rfl
def tr122:Ty:={ kind:=TK.sl 4,agg:=false,size:=1,bytes:=24,zero:=[C.nilsl] }
theorem ty122:kY Tryz.prog 122=some tr122:=by kernel_rfl
def tr136:Ty:={ kind:=TK.int IntKind.i64,agg:=false,size:=1,bytes:=8,zero:=[C.int IntKind.i64 (Int.ofNat 0)] }
theorem ty136:kY Tryz.prog 136=some tr136:=by kernel_rfl
def tr144:Ty:={ kind:=TK.int IntKind.u32,agg:=false,size:=1,bytes:=4,zero:=[C.int IntKind.u32 (Int.ofNat 0)] }
theorem ty144:kY Tryz.prog 144=some tr144:=by kernel_rfl
def tr146:Ty:={ kind:=TK.int IntKind.u64,agg:=false,size:=1,bytes:=8,zero:=[C.int IntKind.u64 (Int.ofNat 0)] }
theorem ty146:kY Tryz.prog 146=some tr146:=by kernel_rfl
def tr155:Ty:={ kind:=TK.int IntKind.u64,agg:=false,size:=1,bytes:=8,zero:=[C.int IntKind.u64 (Int.ofNat 0)] }
theorem ty155:kY Tryz.prog 155=some tr155:=by kernel_rfl
def TT:List (Nat×Option Ty):=[(3,some tr3),(26,some tr26),(36,some tr36),(38,some tr38),(91,some tr91),(33,some tr33),(90,some tr90),(4,some tr4),(34,some tr34),(31,some tr31),(9,some tr9),(64,some tr64),(25,some tr25),(28,some tr28),(85,some tr85),(5,some tr5),(94,some tr94),(22,some tr22),(23,some tr23),(105,some tr105),(144,some tr144),(146,some tr146),(103,some tr103),(118,some tr118),(122,some tr122),(155,some tr155),(136,some tr136)]
def XX:SX:={ T:=qa none TT,K:=fun t=>qa none [(3,some .i),(26,some .ii),(91,some .node),(90,some .tie),(4,some .b),(9,some .s),(85,some .node),(5,some .u),(94,some .tie),(136,some .i)] t }
theorem qc:ku Tryz.prog XX.T:=qkI (by simp only [TT,List.mem_cons,List.not_mem_nil,or_false,forall_eq_or_imp,forall_eq,ty3,ty26,ty36,ty38,ty91,ty33,ty90,ty4,ty34,ty31,ty9,ty64,ty25,ty28,ty85,ty5,ty94,ty22,ty23,ty105,ty144,ty146,ty103,ty118,ty122,ty155,ty136];simp)
def qsu:List (Nat×Option (List Nat)):=[(2,some [0]),(3,some [1]),(4,some [1,2]),(5,some [1,2,3]),(6,some [1,2,3,4]),(7,some [1,2,3,5]),(8,some [1,2,3,6]),(9,some [1,2,3]),(10,some [1,2,3,8]),(11,some [1,2,3,9]),(12,some [1,2,3,10]),(13,some [1,2,3]),(14,some [2,3,12]),(15,some [2,3,13]),(16,some [2,3])]
def qsp:List (Nat×Option (List Nat)):=[(2,some [0]),(3,some [1]),(4,some [1,2]),(5,some [1,2,3]),(6,some [1,2,3,4]),(7,some [1,2,3,5]),(8,some [1,2,3]),(9,some [1,2,3,7]),(10,some [1,2,3,8]),(11,some [1,2,3,9]),(12,some [1,2,3]),(13,some [2,3,11]),(14,some [2,3,12]),(15,some [2,3,13]),(16,some [2,3])]
end Go.Proofs.YtececadpjelanaaGreat.Ai
namespace Go.Proofs.YtececadpjelanaaGreat.Ai
open Go
set_option maxRecDepth 100000
variable [qi]
def bI (n:Int):TV B:=.v (false,[.fz (.int .i64 n)])
def bS (s:ByteArray):TV B:=.v (false,[.fz (.str s)])
def bL (x:LL):TV B:=.v (false,[.fz (.sl x)])
def bR (r len:Nat):TV B:=.v (false,[.rf (r,[]) true 0 len])
def bP (r:Nat):TV B:=.v (false,[.pp (r,[]) (true,0) 0])
theorem sm:type_of% (Bool.not_eq_true')/\type_of% (Bool.not_eq_false')/\type_of% (@decide_eq_true_eq)/\type_of% (@decide_eq_false_iff_not)/\type_of% (@Int.not_le)/\type_of% (@Int.not_lt)/\type_of% (@beq_iff_eq.{0})/\type_of% (@beq_eq_false_iff_ne.{0})/\type_of% (@ne_eq.{1})/\type_of% (@Int.ofNat_eq_natCast)/\type_of% (@Int.toNat_natCast)/\type_of% (@List.length_replicate.{0})/\type_of% (@qeI)/\type_of% (@Nat.sub_zero)/\type_of% (@List.drop_zero.{0})/\type_of% (@Cue.eta)/\type_of% (@Tie.eta)/\type_of% (@Edge.eta)/\type_of% (@Qo.eta)/\type_of% (@qg.eta):=⟨Bool.not_eq_true',Bool.not_eq_false',@decide_eq_true_eq,@decide_eq_false_iff_not,@Int.not_le,@Int.not_lt,@beq_iff_eq.{0},@beq_eq_false_iff_ne.{0},@ne_eq.{1},@Int.ofNat_eq_natCast,@Int.toNat_natCast,@List.length_replicate.{0},@qeI,@Nat.sub_zero,@List.drop_zero.{0},@Cue.eta,@Tie.eta,@Edge.eta,@Qo.eta,@qg.eta⟩
theorem SEx.idx {P:Program}{T:Nat->Option Ty}{dr:Nat->Nat}{rs:Array ResultVar}{ks:List K}(n:Nat)(f:Nat->SF)(R:Nat->TV W)
 (step:∀ i,i<=n->(i<n->SEx P T dr rs ks (f (i+1)) (R (i+1)))->SEx P T dr rs ks (f i) (R i)):SEx P T dr rs ks (f 0) (R 0) :=
 SEx.ind f R (fun i=>i<=n) (fun i=>n-i) 0 (Nat.zero_le _) fun i hi ih=>step i hi fun h=>ih (i+1) (by omega) (by omega)
theorem SEx.idxS {P:Program}{T:Nat->Option Ty}{dr:Nat->Nat}{rs:Array ResultVar}{ks:List K}{α:Type}(n:Nat)(f:Nat->α->SF)(R:Nat->α->TV W)(Inv:Nat->α->Prop)(s0:α)(h0:Inv 0 s0)
 (step:∀ i s,i<=n->Inv i s->(∀ s',i<n->Inv (i+1) s'->SEx P T dr rs ks (f (i+1) s') (R (i+1) s'))->SEx P T dr rs ks (f i s) (R i s)):SEx P T dr rs ks (f 0 s0) (R 0 s0) :=
 SEx.ind (fun x:Nat×α=>f x.1 x.2) (fun x=>R x.1 x.2) (fun x=>x.1<=n/\Inv x.1 x.2) (fun x=>n-x.1) (0,s0) ⟨Nat.zero_le _,h0⟩ fun x hx ih=>step x.1 x.2 hx.1 hx.2 fun s' h hI=>ih (x.1+1,s') ⟨by show x.1+1<=n;omega,hI⟩ (by show n-(x.1+1)<n-x.1;omega)
structure WQ {α:Type}(a b:α):Prop where out:a=b
structure LLe {α:Type}(l:List α)(n:Nat):Prop where out:l.length<=n
theorem qr {n:Int}(h1:-9223372036854775808<=n)(h2:n<=9223372036854775807):IntKind.i64.wrap n=n:=IntWalk.i64_in n ⟨h1,h2⟩
theorem qh {i:Nat}(h:i<9223372036854775807):IntKind.i64.wrap ((i:Int)+1)=((i+1:Nat):Int):=by
 rw [qr (by omega) (by omega)];rfl
structure qsG (s:ByteArray):Prop where out:s.size<=maxLen
structure qhL (n:Int):Prop where out:0<=n/\n<=9223372036854775807
structure Hd (p:Prop):Prop where out:p
theorem zz:(1048576:Int)<=lim:=by decide
theorem zm {α:Type}{l:List α}{i:Nat}{z:α}(h:i<l.length):l.getD i z=l[i]:=by rw [List.getD_eq_getElem?_getD,List.getElem?_eq_getElem h,Option.getD_some]
def eqS (a b:ByteArray):Bool:=a.toList == b.toList
def zV {α:Type}(p:α->Bool):List α->Nat->Int
 | [],_=>-1
 | a::r,n=>if p a=true then n else zV p r (n+1)
theorem qi3 {α:Type}{p:α->Bool}{l:List α}{i n:Nat}(z:α)(h:i<l.length):zV p (l.drop i) n=if p (l.getD i z)=true then (n:Int) else zV p (l.drop (i+1)) (n+1):=by
 rw [List.drop_eq_getElem_cons h,List.getD_eq_getElem?_getD,List.getElem?_eq_getElem h,Option.getD_some];rfl
theorem Qa {α:Type}{p:α->Bool}{l:List α}{i n:Nat}(z:α)(h:i<l.length)(hp:p (l.getD i z)=true):zV p (l.drop i) n=n:=by rw [qi3 z h,if_pos hp]
theorem Zb {α:Type}{p:α->Bool}{l:List α}{i n:Nat}(z:α)(h:i<l.length)(hp:p (l.getD i z)=false):zV p (l.drop i) n=zV p (l.drop (i+1)) (n+1):=by rw [qi3 z h,hp];rfl
theorem Qb {α:Type}{p:α->Bool}{l:List α}{i n:Nat}(h:l.length<=i):zV p (l.drop i) n=-1:=by rw [List.drop_eq_nil_of_le h];rfl
def qsQ (k:Nat):Dc ByteArray:=⟨fun s=>aF k [.ptr [.str s]],fun | (false,[.fn f [.ptr [.str s]]])=>(match nq f k with | true=>some s | false=>none) | _=>none,by
 intro x a h
 split at h
 . split at h
   . rename_i hk
     obtain rfl:=QW.1 hk
     simp only [Option.some.injEq] at h;subst h;rfl
   . cases h
 . cases h⟩
structure qnV (g' g:FuncId)(r:List (V1 D))(caps:List D):Prop where
 fn:g'=g
 caps:r=Qv caps
structure Mem {α:Type}(x:α)(l:List α):Prop where out:x∈l
theorem qo {α:Type}{l:List α}{i:Nat}{z:α}(h:i<l.length):Mem (l.getD i z) l:=⟨by rw [List.getD_eq_getElem?_getD,List.getElem?_eq_getElem h,Option.getD_some];exact List.getElem_mem _⟩
def qm3 {α:Type}(d:Dc α)(g:FuncId)(caps:List D)(l:List α)(p:α->Bool):Qg:=fun g' as'=>match as' with
 | x::r=>(match d.dec x with
   | some q=>some ([qnV g' g r caps,Mem q l],rB (p q))
   | none=>none)
 | []=>none
theorem qb6 {P:Program}{α:Type}{d:Dc α}{g:FuncId}{caps:List D}{l:List α}{p:α->Bool}(hp:∀ q∈l,qe P g (d.enc q::Qv caps) (rB (p q))):qp P (qm3 d g caps l p):=by
 intro g' as'
 unfold qm3
 split
 . split
   . rename_i hx
     refine R.Sim.mk fun hq=>?_
     obtain ⟨rfl,rfl⟩:=hq _ (.head _)
     exact (hp _ (hq _ (.tail _ (.head _))).out).er (by simp only [qx,d.ok _ _ hx]) rfl
   . exact R.Sim.none'
 . exact R.Sim.none'
theorem wS {α:Type}(p:α->Bool):∀ (l:List α) (n:Nat),decide (0<=zV p l n)=l.any p
 | [],n=>rfl
 | a::r,n=>by
   unfold zV
   rw [List.any_cons]
   cases h:p a with
   | true=>rw [if_pos rfl];simp
   | false=>rw [if_neg (by simp)];exact wS p r (n+1)
def qA {α:Type}(p:Nat->α->Bool):List α->Nat->Bool
 | [],_=>true
 | a::r,n=>p n a&&qA p r (n+1)
theorem ye {α:Type}{p:Nat->α->Bool}{l:List α}{i n:Nat}(z:α)(h:i<l.length):qA p (l.drop i) n=(p n (l.getD i z)&&qA p (l.drop (i+1)) (n+1)):=by
 rw [List.drop_eq_getElem_cons h,List.getD_eq_getElem?_getD,List.getElem?_eq_getElem h,Option.getD_some];rfl
theorem wP {α:Type}{p:Nat->α->Bool}{l:List α}{i n:Nat}(z:α)(h:i<l.length)(hp:p n (l.getD i z)=true):qA p (l.drop i) n=qA p (l.drop (i+1)) (n+1):=by rw [ye z h,hp];rfl
theorem vm {α:Type}{p:Nat->α->Bool}{l:List α}{i n:Nat}(z:α)(h:i<l.length)(hp:p n (l.getD i z)=false):qA p (l.drop i) n=false:=by rw [ye z h,hp];rfl
theorem ql7 {α:Type}{p:Nat->α->Bool}{l:List α}{i n:Nat}(h:l.length<=i):qA p (l.drop i) n=true:=by rw [List.drop_eq_nil_of_le h];rfl
theorem wh {α:Type}{p q:Nat->α->Bool}:∀ (l:List α) (n:Nat),(∀ i a,l[i]?=some a->p (n+i) a=q (n+i) a)->qA p l n=qA q l n
 | [],_,_=>rfl
 | a::r,n,h=>by
   have h1:qA p r (n+1)=qA q r (n+1):=wh r (n+1) fun i b hi=>by
    have:=h (i+1) b (by simpa using hi)
    rwa [show n+(i+1)=n+1+i by omega] at this
   show (p n a&&qA p r (n+1))=(q n a&&qA q r (n+1))
   rw [h1,show p n a=q n a from h 0 a rfl]
def wCl {α:Type}(d:Dc α)(g:FuncId)(caps:List D)(f:α->TV W)(p:α->List Prop):Wr
 | [x,(false,[.fn g' caps'])]=>(match d.dec x with | some l=>some (WQ g' g::WQ caps' caps::p l,f l) | none=>none)
 | _=>none
theorem qbH {P:Program}{k:FuncId}{α:Type}{d:Dc α}{g:FuncId}{caps:List D}{f:α->TV W}{p:α->List Prop}(h:∀ l,Holds (p l)->qe P k [d.enc l,aF g caps] (f l)):qz P k (wCl d g caps f p):=by
 intro xs
 unfold wCl
 split
 . split
   . rename_i hx
     refine R.Sim.mk fun hq=>?_
     obtain ⟨rfl⟩:=hq _ (.head _)
     obtain ⟨rfl⟩:=hq _ (.tail _ (.head _))
     exact (h _ fun r hr=>hq r (.tail _ (.tail _ hr))).er (by simp only [qx,d.ok _ _ hx];rfl) rfl
   . exact R.Sim.none'
 . exact R.Sim.none'
theorem wQ {α:Type}{p:Nat->α->Bool}{l:List α}{i:Nat}{c:Bool}(z:α)(h:i<l.length)(hp:p i (l.getD i z)=true):(qA p (l.drop i) i&&c)=(qA p (l.drop (i+1)) (i+1)&&c):=by rw [wP z h hp]
theorem W4 {α:Type}{p:Nat->α->Bool}{l:List α}{i:Nat}{c:Bool}(z:α)(h:i<l.length)(hp:p i (l.getD i z)=false):(qA p (l.drop i) i&&c)=false:=by rw [vm z h hp];rfl
theorem qN {α:Type}{p:Nat->α->Bool}{l:List α}{i:Nat}{c:Bool}(h:l.length<=i):(qA p (l.drop i) i&&c)=c:=by rw [ql7 h];rfl
theorem qdq {α:Type}(p:α->Bool):∀ (l:List α) (n:Nat),zV p l n<n+l.length/\(zV p l n=-1\/(n:Int)<=zV p l n)
 | [],n=>by simp [zV];omega
 | a::r,n=>by
   have:=qdq p r (n+1)
   unfold zV
   simp only [List.length_cons]
   split<;>omega
theorem qJ {a b:Bool}(h:b=a)(k:Bool):eR (.v (false,[.fz (.bool k a)]))=eR (rB b):=by rw [jK];exact h.symm
structure q9 (p A B:Bool):Prop where
 yes:p=true->A=B
 no:p=false->A=false
theorem q9.of {α:Type}(p:Nat->α->Bool)(l:List α)(i:Nat)(c:Bool)(z:α)(h:i<l.length):q9 (p i (l.getD i z)) (qA p (l.drop i) i&&c) (qA p (l.drop (i+1)) (i+1)&&c):=⟨wQ z h,W4 z h⟩
theorem q9.stop {p A B:Bool}(h:q9 p A B)(k:Bool)(hp:p=false):eR (.v (false,[.fz (.bool k false)]))=eR (rB A):=qJ (h.no hp) k
theorem q9.go {p A B:Bool}(h:q9 p A B)(hp:p=true):eR (rB B)=eR (rB A):=by rw [h.yes hp]
theorem q9.stopN {p A B:Bool}(h:q9 p A B)(k:Bool)(hp:p=false):eR (.v (false,[.fz (.bool k true)]))=eR (rB (!A)):=qJ (by rw [h.no hp];rfl) k
theorem q9.goN {p A B:Bool}(h:q9 p A B)(hp:p=true):eR (rB (!B))=eR (rB (!A)):=by rw [h.yes hp]
end Go.Proofs.YtececadpjelanaaGreat.Ai
namespace Go.Proofs.YtececadpjelanaaGreat.Ai
open Go
set_option maxRecDepth 100000
variable [qi]
theorem Vn (l:List Int)(g:FuncId)(caps:List D)(p:Int->Bool)(hp:∀ q∈l,qe Tryz.prog g (aI q::Qv caps) (rB (p q)))(h1:l.length<=maxLen):qe Tryz.prog 141 [aIs l,aF g caps] (rI (zV p l 0)):=by
 refine qe.of qc (fn:=Tryz.f141) (c:=Tryz.f141.body.getD .skip) (dr:=fun n=>qa 0 [] n) Tryz.func141 rfl (by kernel_rfl) (by kernel_rfl) (by kernel_rfl) ?_
 unfold maxLen at h1
 have hO:qp Tryz.prog (qm3 dcI g caps l p):=qb6 hp
 refine SEx.go (X:=XX) qc (fun n=>qa [] [(2,[0,1,7,8])] n) (fun _=>none) hO 60 ?_
 intro M R L N m0 m1 m2 m3 m4 m5
 cases M
 cbv
 repeat' first | refine m1 _ _ ?_ ?_ | refine m2 _ _ fun h=>?_ | refine m3 _ ?_ | (refine m4 _ _ (Hd.out ?_);generalize hks:(List.cons _ _:List K)=ks) | (refine m5 _ _ ?_;cbv)
 all_goals (clear m1 m2 m3 m4 m5;cases m0;try dsimp only)
 all_goals try simp only [sm] at *
 obtain ⟨n,hn⟩:∃ n,n=l.length:=⟨_,rfl⟩
 refine ⟨SEx.same (SEx.idx n (fun i=>⟨19,[(0,bL (.i l)),(1,.v (false,[.fz (.fn g caps)])),(7,bI n),(8,bI i)],[]⟩) (fun i=>rI (zV p (l.drop i) i)) ?_) (by rw [hn];rfl) rfl⟩
 intro i hi ih
 rw [<-hks]
 refine SEx.go (X:=XX) qc (fun n=>qa [] [(2,[0,1,7,8])] n) (fun _=>none) hO 60 ?_
 intro M R L N m0 m1 m2 m3 m4 m5
 cases M
 cbv
 repeat' first | refine m1 _ _ ?_ ?_ | refine m2 _ _ fun h=>?_ | refine m3 _ ?_ | (refine m4 _ _ (Hd.out ?_);try first | rw [hks] | rw [hk2] | rw [hk3]) | (refine m5 _ _ ?_;cbv)
 all_goals (clear m1 m2 m3 m4 m5;cases m0;(try clear hks;try clear hk2;try clear hk3);try dsimp only)
 all_goals try simp only [sm] at *
 all_goals first
  | omega
  | exact ⟨rfl,by cases caps<;>rfl⟩
  | exact ⟨rfl,rfl⟩
  | exact qo (z:=(0:Int)) (by omega)
  | (rw [Qa (p:=p) (l:=l) (i:=i) (0:Int) (by omega) (by first | assumption | exact beq_iff_eq.2 (by assumption))];rfl)
  | (rw [Qb (by omega)];rfl)
  | (simp only [qh (show i<9223372036854775807 by omega)];exact ⟨(ih (by omega)).same rfl (by rw [Zb (p:=p) (l:=l) (i:=i) (0:Int) (by omega) (by first | assumption | exact beq_eq_false_iff_ne.2 (by assumption) | (simp_all;done))])⟩)
theorem Z6 (l:List Int)(g:FuncId)(caps:List D)(p:Int->Bool)(hp:∀ q∈l,qe Tryz.prog g (aI q::Qv caps) (rB (p q)))(h1:l.length<=maxLen):qe Tryz.prog 111 [aIs l,aF g caps] (rB (l.any p)):=by
 refine qe.of qc (fn:=Tryz.f111) (c:=Tryz.f111.body.getD .skip) (dr:=fun n=>qa 0 [] n) Tryz.func111 rfl (by kernel_rfl) (by kernel_rfl) (by kernel_rfl) ?_
 obtain ⟨f,hf⟩:∃ f:List Int->Int,f=fun l=>zV p l 0:=⟨_,rfl⟩
 have hO:qp Tryz.prog (qM [(141,wCl kA g caps (fun l=>rI (f l)) (fun m=>[WQ m l]))]):=by subst hf;exact qb (qbH fun m h=>by obtain rfl:=(h _ (.head _)).out;exact Vn m g caps p hp h1) qd
 refine SEx.go (X:=XX) qc (fun n=>qa [] [] n) (fun _=>none) hO 60 ?_
 intro M R L N m0 m1 m2 m3 m4 m5
 cases M
 cbv
 repeat' first | refine m1 _ _ ?_ ?_ | refine m2 _ _ fun h=>?_ | refine m3 _ ?_ | (refine m4 _ _ (Hd.out ?_);try first | rw [hks] | rw [hk2] | rw [hk3]) | (refine m5 _ _ ?_;cbv)
 all_goals (clear m1 m2 m3 m4 m5;cases m0;(try clear hks;try clear hk2;try clear hk3);try dsimp only)
 all_goals try simp only [sm] at *
 all_goals first
  | exact ⟨rfl⟩
  | (rw [<-wS p l 0,hf];rfl)
theorem JZ (l:List Tie)(g:FuncId)(caps:List D)(p:Tie->Bool)(hp:∀ q∈l,qe Tryz.prog g (yZ q::Qv caps) (rB (p q)))(h1:l.length<=maxLen):qe Tryz.prog 162 [YM l,aF g caps] (rI (zV p l 0)):=by
 refine qe.of qc (fn:=Tryz.f162) (c:=Tryz.f162.body.getD .skip) (dr:=fun n=>qa 0 [] n) Tryz.func162 rfl (by kernel_rfl) (by kernel_rfl) (by kernel_rfl) ?_
 unfold maxLen at h1
 have hO:qp Tryz.prog (qm3 qaa g caps l p):=qb6 hp
 refine SEx.go (X:=XX) qc (fun n=>qa [] [(2,[0,1,7,8])] n) (fun _=>none) hO 60 ?_
 intro M R L N m0 m1 m2 m3 m4 m5
 cases M
 cbv
 repeat' first | refine m1 _ _ ?_ ?_ | refine m2 _ _ fun h=>?_ | refine m3 _ ?_ | (refine m4 _ _ (Hd.out ?_);generalize hks:(List.cons _ _:List K)=ks) | (refine m5 _ _ ?_;cbv)
 all_goals (clear m1 m2 m3 m4 m5;cases m0;try dsimp only)
 all_goals try simp only [sm] at *
 obtain ⟨n,hn⟩:∃ n,n=l.length:=⟨_,rfl⟩
 refine ⟨SEx.same (SEx.idx n (fun i=>⟨19,[(0,bL (.tie l)),(1,.v (false,[.fz (.fn g caps)])),(7,bI n),(8,bI i)],[]⟩) (fun i=>rI (zV p (l.drop i) i)) ?_) (by rw [hn];rfl) rfl⟩
 intro i hi ih
 rw [<-hks]
 refine SEx.go (X:=XX) qc (fun n=>qa [] [(2,[0,1,7,8])] n) (fun _=>none) hO 60 ?_
 intro M R L N m0 m1 m2 m3 m4 m5
 cases M
 cbv
 repeat' first | refine m1 _ _ ?_ ?_ | refine m2 _ _ fun h=>?_ | refine m3 _ ?_ | (refine m4 _ _ (Hd.out ?_);try first | rw [hks] | rw [hk2] | rw [hk3]) | (refine m5 _ _ ?_;cbv)
 all_goals (clear m1 m2 m3 m4 m5;cases m0;(try clear hks;try clear hk2;try clear hk3);try dsimp only)
 all_goals try simp only [sm] at *
 all_goals first
  | omega
  | exact ⟨rfl,by cases caps<;>rfl⟩
  | exact ⟨rfl,rfl⟩
  | exact qo (z:=Tie.z) (by omega)
  | (rw [Qa (p:=p) (l:=l) (i:=i) Tie.z (by omega) (by first | assumption | exact beq_iff_eq.2 (by assumption))];rfl)
  | (rw [Qb (by omega)];rfl)
  | (simp only [qh (show i<9223372036854775807 by omega)];exact ⟨(ih (by omega)).same rfl (by rw [Zb (p:=p) (l:=l) (i:=i) Tie.z (by omega) (by first | assumption | exact beq_eq_false_iff_ne.2 (by assumption) | (simp_all;done))])⟩)
theorem KV (l:List Tie)(g:FuncId)(caps:List D)(p:Tie->Bool)(hp:∀ q∈l,qe Tryz.prog g (yZ q::Qv caps) (rB (p q)))(h1:l.length<=maxLen):qe Tryz.prog 126 [YM l,aF g caps] (rB (l.any p)):=by
 refine qe.of qc (fn:=Tryz.f126) (c:=Tryz.f126.body.getD .skip) (dr:=fun n=>qa 0 [] n) Tryz.func126 rfl (by kernel_rfl) (by kernel_rfl) (by kernel_rfl) ?_
 obtain ⟨f,hf⟩:∃ f:List Tie->Int,f=fun l=>zV p l 0:=⟨_,rfl⟩
 have hO:qp Tryz.prog (qM [(162,wCl K9 g caps (fun l=>rI (f l)) (fun m=>[WQ m l]))]):=by subst hf;exact qb (qbH fun m h=>by obtain rfl:=(h _ (.head _)).out;exact JZ m g caps p hp h1) qd
 refine SEx.go (X:=XX) qc (fun n=>qa [] [] n) (fun _=>none) hO 60 ?_
 intro M R L N m0 m1 m2 m3 m4 m5
 cases M
 cbv
 repeat' first | refine m1 _ _ ?_ ?_ | refine m2 _ _ fun h=>?_ | refine m3 _ ?_ | (refine m4 _ _ (Hd.out ?_);try first | rw [hks] | rw [hk2] | rw [hk3]) | (refine m5 _ _ ?_;cbv)
 all_goals (clear m1 m2 m3 m4 m5;cases m0;(try clear hks;try clear hk2;try clear hk3);try dsimp only)
 all_goals try simp only [sm] at *
 all_goals first
  | exact ⟨rfl⟩
  | (rw [<-wS p l 0,hf];rfl)
theorem yg (l:List qg)(g:FuncId)(caps:List D)(p:qg->Bool)(hp:∀ q∈l,qe Tryz.prog g (wO q::Qv caps) (rB (p q)))(h1:l.length<=maxLen):qe Tryz.prog 146 [WK l,aF g caps] (rI (zV p l 0)):=by
 refine qe.of qc (fn:=Tryz.f146) (c:=Tryz.f146.body.getD .skip) (dr:=fun n=>qa 0 [] n) Tryz.func146 rfl (by kernel_rfl) (by kernel_rfl) (by kernel_rfl) ?_
 unfold maxLen at h1
 have hO:qp Tryz.prog (qm3 wi g caps l p):=qb6 hp
 refine SEx.go (X:=XX) qc (fun n=>qa [] [(2,[0,1,7,8])] n) (fun _=>none) hO 60 ?_
 intro M R L N m0 m1 m2 m3 m4 m5
 cases M
 cbv
 repeat' first | refine m1 _ _ ?_ ?_ | refine m2 _ _ fun h=>?_ | refine m3 _ ?_ | (refine m4 _ _ (Hd.out ?_);generalize hks:(List.cons _ _:List K)=ks) | (refine m5 _ _ ?_;cbv)
 all_goals (clear m1 m2 m3 m4 m5;cases m0;try dsimp only)
 all_goals try simp only [sm] at *
 obtain ⟨n,hn⟩:∃ n,n=l.length:=⟨_,rfl⟩
 refine ⟨SEx.same (SEx.idx n (fun i=>⟨19,[(0,bL (.node false none l)),(1,.v (false,[.fz (.fn g caps)])),(7,bI n),(8,bI i)],[]⟩) (fun i=>rI (zV p (l.drop i) i)) ?_) (by rw [hn];rfl) rfl⟩
 intro i hi ih
 rw [<-hks]
 refine SEx.go (X:=XX) qc (fun n=>qa [] [(2,[0,1,7,8])] n) (fun _=>none) hO 60 ?_
 intro M R L N m0 m1 m2 m3 m4 m5
 cases M
 cbv
 repeat' first | refine m1 _ _ ?_ ?_ | refine m2 _ _ fun h=>?_ | refine m3 _ ?_ | (refine m4 _ _ (Hd.out ?_);try first | rw [hks] | rw [hk2] | rw [hk3]) | (refine m5 _ _ ?_;cbv)
 all_goals (clear m1 m2 m3 m4 m5;cases m0;(try clear hks;try clear hk2;try clear hk3);try dsimp only)
 all_goals try simp only [sm] at *
 all_goals first
  | omega
  | exact ⟨rfl,by cases caps<;>rfl⟩
  | exact ⟨rfl,rfl⟩
  | exact qo (z:=qg.z) (by omega)
  | (rw [Qa (p:=p) (l:=l) (i:=i) qg.z (by omega) (by first | assumption | exact beq_iff_eq.2 (by assumption))];rfl)
  | (rw [Qb (by omega)];rfl)
  | (simp only [qh (show i<9223372036854775807 by omega)];exact ⟨(ih (by omega)).same rfl (by rw [Zb (p:=p) (l:=l) (i:=i) qg.z (by omega) (by first | assumption | exact beq_eq_false_iff_ne.2 (by assumption) | (simp_all;done))])⟩)
theorem qkX (l:List Int)(v:Int)(h1:l.length<=maxLen):qe Tryz.prog 170 [aIs l,aI v] (rI (zV (fun x=>v == x) l 0)):=by
 refine qe.of qc (fn:=Tryz.f170) (c:=Tryz.f170.body.getD .skip) (dr:=fun n=>qa 0 [] n) Tryz.func170 rfl (by kernel_rfl) (by kernel_rfl) (by kernel_rfl) ?_
 unfold maxLen at h1
 refine SEx.go (X:=XX) qc (fun n=>qa [] [(2,[0,1,7,8])] n) (fun _=>none) qd 60 ?_
 intro M R L N m0 m1 m2 m3 m4 m5
 cases M
 cbv
 repeat' first | refine m1 _ _ ?_ ?_ | refine m2 _ _ fun h=>?_ | refine m3 _ ?_ | (refine m4 _ _ (Hd.out ?_);generalize hks:(List.cons _ _:List K)=ks) | (refine m5 _ _ ?_;cbv)
 all_goals (clear m1 m2 m3 m4 m5;cases m0;try dsimp only)
 all_goals try simp only [sm] at *
 obtain ⟨n,hn⟩:∃ n,n=l.length:=⟨_,rfl⟩
 refine ⟨SEx.same (SEx.idx n (fun i=>⟨19,[(0,bL (.i l)),(1,bI v),(7,bI n),(8,bI i)],[]⟩) (fun i=>rI (zV (fun x=>v == x) (l.drop i) i)) ?_) (by rw [hn];rfl) rfl⟩
 intro i hi ih
 rw [<-hks]
 refine SEx.go (X:=XX) qc (fun n=>qa [] [(2,[0,1,7,8])] n) (fun _=>none) qd 60 ?_
 intro M R L N m0 m1 m2 m3 m4 m5
 cases M
 cbv
 repeat' first | refine m1 _ _ ?_ ?_ | refine m2 _ _ fun h=>?_ | refine m3 _ ?_ | (refine m4 _ _ (Hd.out ?_);try first | rw [hks] | rw [hk2] | rw [hk3]) | (refine m5 _ _ ?_;cbv)
 all_goals (clear m1 m2 m3 m4 m5;cases m0;(try clear hks;try clear hk2;try clear hk3);try dsimp only)
 all_goals try simp only [sm] at *
 all_goals first
  | omega
  | exact ⟨rfl,by cases caps<;>rfl⟩
  | exact ⟨rfl,rfl⟩
  | exact qo (z:=(0:Int)) (by omega)
  | (rw [Qa (p:=fun x=>v == x) (l:=l) (i:=i) (0:Int) (by omega) (by first | assumption | exact beq_iff_eq.2 (by assumption))];rfl)
  | (rw [Qb (by omega)];rfl)
  | (simp only [qh (show i<9223372036854775807 by omega)];exact ⟨(ih (by omega)).same rfl (by rw [Zb (p:=fun x=>v == x) (l:=l) (i:=i) (0:Int) (by omega) (by first | assumption | exact beq_eq_false_iff_ne.2 (by assumption) | (simp_all;done))])⟩)
def qja (f:List Int->Int->Int):Wr:=w2 kA dcI (fun l v=>rI (f l v)) (fun l _=>[LLe l maxLen])
theorem qh5:qz Tryz.prog 170 (qja fun l v=>zV (fun x=>v == x) l 0):=qE fun l v h=>qkX l v (h _ (.head _)).out
end Go.Proofs.YtececadpjelanaaGreat.Ai
namespace Go.Proofs.YtececadpjelanaaGreat.Ai
open Go
set_option maxRecDepth 100000
variable [qi]
def inB (n lo hi:Int):Bool:=decide (lo<=n/\n<=hi)
def bt (s:ByteArray)(i:Nat):Int:=(s[i]?.getD 0).toNat
def qiJ (s:ByteArray)(i:Nat):Bool:=decide (97<=bt s i/\bt s i<=122\/i≠0/\48<=bt s i/\bt s i<=57)
def Qc (s:ByteArray)(i:Nat):Bool:=(List.range' i (s.size-i)).all (qiJ s)&&decide (1<=s.size/\s.size<=8)
theorem qfm {s:ByteArray}{i:Nat}(h:i<s.size):Qc s i=(qiJ s i&&Qc s (i+1)):=by
 unfold Qc
 rw [show s.size-i=(s.size-(i+1))+1 by omega,List.range'_succ,List.all_cons,Bool.and_assoc]
theorem qfB {s:ByteArray}{i:Nat}(h:i<s.size)(hc:¬(97<=bt s i/\bt s i<=122\/i≠0/\48<=bt s i/\bt s i<=57)):Qc s i=false:=by
 rw [qfm h,qiJ,decide_eq_false hc,Bool.false_and]
theorem qbf {s:ByteArray}{i:Nat}(h:i<s.size)(hc:97<=bt s i/\bt s i<=122\/i≠0/\48<=bt s i/\bt s i<=57):Qc s i=Qc s (i+1):=by
 rw [qfm h,qiJ,decide_eq_true hc,Bool.true_and]
theorem qfw {s:ByteArray}{i:Nat}(h:s.size<=i):Qc s i=decide (1<=s.size/\s.size<=8):=by
 unfold Qc
 rw [show s.size-i=0 by omega]
 simp
theorem qoc (a b c:Int):qe Tryz.prog 70 [aI a,aI b,aI c] (rB (inB a b c)):=by
 refine qe.of qc (fn:=Tryz.f70) (c:=Tryz.f70.body.getD .skip) (dr:=fun n=>qa 0 [] n) Tryz.func70 rfl (by kernel_rfl) (by kernel_rfl) (by kernel_rfl) ?_
 refine SEx.walk (X:=XX) qc (fun n=>qa [] [] n) qd 100 ?_
 intro M R L N hM hR hL hN
 cases M
 cbv
 cases hM
 try dsimp only
 repeat' first | apply And.intro | (intro h;try simp only [Bool.not_eq_true',Bool.not_eq_false',decide_eq_true_eq,decide_eq_false_iff_not,Int.not_le,Int.not_lt,beq_iff_eq,beq_eq_false_iff_ne,ne_eq,Int.ofNat_eq_natCast,Int.toNat_natCast,List.length_replicate,qeI,Nat.sub_zero,List.drop_zero,Cue.eta,Tie.eta,Edge.eta,Qo.eta,qg.eta] at h) | (refine hR _ ?_) | (refine hL _ _ (Hd.out ?_)) | (refine hN _ _ (Hd.out ?_))
 all_goals simp only [jK,inB]
 all_goals (rw [Bool.eq_iff_iff];simp;try omega)
def qsj (f:Int->Int->Int->Bool):Wr:=w3 dcI dcI dcI (fun x y z=>rB (f x y z)) (fun _ _ _=>[])
theorem qpK:qz Tryz.prog 70 (qsj inB):=Qe fun x y z _=>qoc x y z
theorem qat (s:ByteArray)(hs:s.size<=maxLen):qe Tryz.prog 164 [aS s] (rB (Qc s 0)):=by
 refine qe.of qc (fn:=Tryz.f164) (c:=Tryz.f164.body.getD .skip) (dr:=fun n=>qa 0 [] n) Tryz.func164 rfl (by kernel_rfl) (by kernel_rfl) (by kernel_rfl) ?_
 obtain ⟨f,hf⟩:∃ f,f=inB:=⟨_,rfl⟩
 have hO:qp Tryz.prog (qM [(70,qsj f)]):=by subst hf;exact qb qpK qd
 unfold maxLen at hs
 refine SEx.walk (X:=XX) qc (fun n=>qa [] [(2,[0,3])] n) hO 100 ?_
 intro M R L N hM hR hL hN
 cases M
 cbv
 cases hM
 try dsimp only
 refine hL _ _ ?_
 clear hR hL hN R L N
 generalize hks:(List.cons _ _:List K)=ks
 refine SEx.same (SEx.ind (fun i:Nat=>⟨42,[(0,.v (false,[.fz (.str s)])),(3,.v (false,[.fz (.int .i64 i)]))],[]⟩) (fun i=>rB (Qc s i)) (fun i=>i<=s.size) (fun i=>s.size-i) 0 (Nat.zero_le _) ?_) rfl rfl
 intro i hi ih
 rw [<-hks]
 refine SEx.walk (X:=XX) qc (fun n=>qa [] [(2,[0,3])] n) hO 100 ?_
 intro M R L N hM hR hL hN
 cases M
 cbv
 cases hM
 try dsimp only
 repeat' first | apply And.intro | (intro h;try simp only [Bool.not_eq_true',Bool.not_eq_false',decide_eq_true_eq,decide_eq_false_iff_not,Int.not_le,Int.not_lt,beq_iff_eq,beq_eq_false_iff_ne,ne_eq,Int.ofNat_eq_natCast,Int.toNat_natCast,List.length_replicate,qeI,Nat.sub_zero,List.drop_zero,Cue.eta,Tie.eta,Edge.eta,Qo.eta,qg.eta] at h) | (refine hR _ ?_) | (refine hL _ _ (Hd.out ?_)) | (refine hN _ _ (Hd.out ?_))
 all_goals simp only [Int.ofNat_eq_natCast,hks,jK]
 all_goals (try simp only [qh (show i<9223372036854775807 by omega)])
 all_goals first
  | omega
  | (rw [qfB]<;>(try unfold bt)<;>omega)
  | (rw [qbf (by omega) (by unfold bt;omega)];exact ⟨ih (i+1) (by omega) (by omega)⟩)
  | (rw [hf,qfw (by omega)];unfold inB;rw [Bool.eq_iff_iff];simp only [decide_eq_true_eq];omega)
theorem qaP (s:ByteArray)(hs:s.size<=maxLen):qe Tryz.prog 168 [aS s] (rB (Qc s 0)):=by
 refine qe.of qc (fn:=Tryz.f168) (c:=Tryz.f168.body.getD .skip) (dr:=fun n=>qa 0 [(4,22)] n) Tryz.func168 rfl (by kernel_rfl) (by kernel_rfl) (by kernel_rfl) ?_
 unfold maxLen at hs
 refine SEx.walk (X:=XX) qc (fun n=>qa [] [(2,[0,3])] n) qd 100 ?_
 intro M R L N hM hR hL hN
 cases M
 cbv
 cases hM
 try dsimp only
 refine hL _ _ ?_
 clear hR hL hN R L N
 generalize hks:(List.cons _ _:List K)=ks
 refine SEx.same (SEx.ind (fun i:Nat=>⟨50,[(0,.v (false,[.fz (.str s)])),(3,.v (false,[.fz (.int .i64 i)]))],[]⟩) (fun i=>rB (Qc s i)) (fun i=>i<=s.size) (fun i=>s.size-i) 0 (Nat.zero_le _) ?_) rfl rfl
 intro i hi ih
 rw [<-hks]
 refine SEx.walk (X:=XX) qc (fun n=>qa [] [(2,[0,3])] n) qd 100 ?_
 intro M R L N hM hR hL hN
 cases M
 cbv
 cases hM
 try dsimp only
 repeat' first | apply And.intro | (intro h;try simp only [Bool.not_eq_true',Bool.not_eq_false',decide_eq_true_eq,decide_eq_false_iff_not,Int.not_le,Int.not_lt,beq_iff_eq,beq_eq_false_iff_ne,ne_eq,Int.ofNat_eq_natCast,Int.toNat_natCast,List.length_replicate,qeI,Nat.sub_zero,List.drop_zero,Cue.eta,Tie.eta,Edge.eta,Qo.eta,qg.eta] at h) | (refine hR _ ?_) | (refine hL _ _ (Hd.out ?_)) | (refine hN _ _ (Hd.out ?_))
 all_goals simp only [Int.ofNat_eq_natCast,hks,jK]
 all_goals (try simp only [qh (show i<9223372036854775807 by omega)])
 all_goals first
  | omega
  | (rw [qfB]<;>(try unfold bt)<;>omega)
  | (rw [qbf (by omega) (by unfold bt;omega)];exact ⟨ih (i+1) (by omega) (by omega)⟩)
  | (rw [qfw (by omega),Bool.eq_iff_iff];simp only [decide_eq_true_eq,Bool.false_eq_true,false_iff];omega)
def qcz (f:ByteArray->Bool):Wr:=w1 dcS (fun x=>rB (f x)) (fun x=>[qsG x])
theorem qkB:qz Tryz.prog 164 (qcz (Qc · 0)):=zx fun x h=>qat x (h _ List.mem_cons_self).out
theorem qj9:qz Tryz.prog 168 (qcz (Qc · 0)):=zx fun x h=>qaP x (h _ List.mem_cons_self).out
end Go.Proofs.YtececadpjelanaaGreat.Ai
namespace Go.Proofs.YtececadpjelanaaGreat.Ai
open Go
set_option maxRecDepth 100000
variable [qi]
def szL {α:Type}(l:List α)(n:Int):Int:=if n<l.length then -1 else n-l.length
theorem qkj (l:List Int)(n:Int)(hs:l.length<=maxLen)(hn:0<=n/\n<=9223372036854775807):qe Tryz.prog 39 [aIs l,aI n] (rI (szL l n)):=by
 refine qe.of qc (fn:=Tryz.f39) (c:=Tryz.f39.body.getD .skip) (dr:=fun n=>qa 0 [] n) Tryz.func39 rfl (by kernel_rfl) (by kernel_rfl) (by kernel_rfl) ?_
 unfold maxLen at hs
 refine SEx.go (X:=XX) qc (fun n=>qa [] [] n) (fun _=>none) qd 60 ?_
 intro M R L N m0 m1 m2 m3 m4 m5
 cases M
 cbv
 repeat' first | refine m1 _ _ ?_ ?_ | refine m2 _ _ fun h=>?_ | refine m3 _ ?_ | (refine m4 _ _ (Hd.out ?_);try first | rw [hks] | rw [hk2] | rw [hk3]) | (refine m5 _ _ ?_;cbv)
 all_goals (clear m1 m2 m3 m4 m5;cases m0;(try clear hks;try clear hk2;try clear hk3);try dsimp only)
 all_goals try simp only [sm] at *
 all_goals rw [qr (by omega) (by omega)] at *
 all_goals simp only [Kk,szL]
 all_goals split<;>omega
def ZF {α:Type}(z:α)(l:List α)(n i:Nat):List α:=l.take i++List.replicate (n-i) z
theorem WH {α:Type}{z:α}{l:List α}{n i:Nat}(h:l.length=n)(hi:i<=n):(ZF z l n i).length=n:=by simp [ZF];omega
theorem wc {α:Type}{z d:α}{l:List α}{n i:Nat}(h:l.length=n)(hi:i<n):(ZF z l n i).set i (l.getD i d)=ZF z l n (i+1):=by
 have hl:i<l.length:=by omega
 unfold ZF
 rw [show n-i=(n-(i+1))+1 by omega,List.replicate_succ,List.set_append_right _ _ (by simp;omega)]
 rw [show i-(l.take i).length=0 by simp;omega,List.set_cons_zero,List.take_add_one,List.getElem?_eq_getElem hl]
 simp only [Option.toList_some,List.append_assoc,List.singleton_append,List.getD_eq_getElem?_getD,List.getElem?_eq_getElem hl,Option.getD_some]
theorem Ww {α:Type}{z:α}{l:List α}{n:Nat}(h:l.length=n):ZF z l n n=l:=by simp [ZF,<-h]
theorem qlZ (l:List Int)(hs:l.length<=1048576):qe Tryz.prog 23 [aIs l] (rIs l):=by
 refine qe.of qc (fn:=Tryz.f23) (c:=Tryz.f23.body.getD .skip) (dr:=fun n=>qa 0 [] n) Tryz.func23 rfl (by kernel_rfl) (by kernel_rfl) (by kernel_rfl) ?_
 refine SEx.go (X:=XX) qc (fun n=>qa [] [(3,[0,3,4])] n) (fun _=>none) qd 60 ?_
 intro M R L N m0 m1 m2 m3 m4 m5
 cases M
 cbv
 repeat' first | refine m1 _ _ ?_ ?_ | refine m2 _ _ fun h=>?_ | refine m3 _ ?_ | (refine m4 _ _ (Hd.out ?_);generalize hks:(List.cons _ _:List K)=ks) | (refine m5 _ _ ?_;cbv)
 all_goals (clear m1 m2 m3 m4 m5;cases m0;try dsimp only)
 all_goals try simp only [sm] at *
 . have:=zz;omega
 generalize hn:l.length=n at *
 refine ⟨SEx.same (SEx.ind (fun i:Nat=>⟨22,[(0,.v (false,[.fz (.sl (.i l))])),(3,.v (false,[.rf (12288,[]) true 0 n])),(4,.v (false,[.fz (.int .i64 i)]))],[(12288,.osl (.i (ZF 0 l n i)))]⟩) (fun _=>rIs l) (fun i=>i<=n) (fun i=>n-i) 0 (Nat.zero_le _) ?_) rfl rfl⟩
 intro i hi ih
 rw [<-hks]
 obtain ⟨fl,hfl⟩:∃ x,x=ZF 0 l n i:=⟨_,rfl⟩
 have hf:=WH (z:=(0:Int)) hn hi
 rw [<-hfl] at hf ⊢
 refine SEx.go (X:=XX) qc (fun n=>qa [] [(3,[0,3,4])] n) (fun _=>none) qd 60 ?_
 intro M R L N m0 m1 m2 m3 m4 m5
 cases M
 cbv
 repeat' first | refine m1 _ _ ?_ ?_ | refine m2 _ _ fun h=>?_ | refine m3 _ ?_ | (refine m4 _ _ (Hd.out ?_);try first | rw [hks] | rw [hk2] | rw [hk3]) | (refine m5 _ _ ?_;cbv)
 all_goals (clear m1 m2 m3 m4 m5;cases m0;(try clear hks;try clear hk2;try clear hk3);try dsimp only)
 all_goals try simp only [sm] at *
 all_goals first
  | omega
  | (simp only [qh (show i<9223372036854775807 by omega),hfl,wc hn (show i<n by omega)];exact ⟨ih (i+1) (by omega) (by omega)⟩)
  | (obtain rfl:i=n:=by omega
     rw [hfl,Ww hn];rfl)
def qbN:Wr:=w1 kA rIs (fun l=>[LLe l 1048576])
theorem yH:qz Tryz.prog 23 qbN:=zx fun l h=>qlZ l (h _ (.head _)).out
def qpe:Wr:=w2 kA dcI (fun l n=>rI (szL l n)) (fun l n=>[LLe l maxLen,qhL n])
theorem qhr:qz Tryz.prog 39 qpe:=qE fun l n h=>qkj l n (h _ (.head _)).out (h _ (.tail _ (.head _))).out
theorem qky (l:List Int)(hs:l.length<=maxLen):qe Tryz.prog 25 [aIs l,aIs l] (rB true):=by
 refine qe.of qc (fn:=Tryz.f25) (c:=Tryz.f25.body.getD .skip) (dr:=fun n=>qa 0 [(6,8)] n) Tryz.func25 rfl (by kernel_rfl) (by kernel_rfl) (by kernel_rfl) ?_
 unfold maxLen at hs
 refine SEx.go (X:=XX) qc (fun n=>qa [] [(4,[0,1,5])] n) (fun _=>none) qd 60 ?_
 intro M R L N m0 m1 m2 m3 m4 m5
 cases M
 cbv
 repeat' first | refine m1 _ _ ?_ ?_ | refine m2 _ _ fun h=>?_ | refine m3 _ ?_ | (refine m4 _ _ (Hd.out ?_);generalize hks:(List.cons _ _:List K)=ks) | (refine m5 _ _ ?_;cbv)
 all_goals (clear m1 m2 m3 m4 m5;cases m0;try dsimp only)
 all_goals try simp only [sm] at *
 . exact absurd trivial (by assumption)
 generalize hn:l.length=n at *
 refine ⟨SEx.same (SEx.ind (fun i:Nat=>⟨26,[(0,.v (false,[.fz (.sl (.i l))])),(1,.v (false,[.fz (.sl (.i l))])),(5,.v (false,[.fz (.int .i64 i)]))],[]⟩) (fun _=>rB true) (fun i=>i<=n) (fun i=>n-i) 0 (Nat.zero_le _) ?_) rfl rfl⟩
 intro i hi ih
 rw [<-hks]
 refine SEx.go (X:=XX) qc (fun n=>qa [] [(4,[0,1,5])] n) (fun _=>none) qd 60 ?_
 intro M R L N m0 m1 m2 m3 m4 m5
 cases M
 cbv
 repeat' first | refine m1 _ _ ?_ ?_ | refine m2 _ _ fun h=>?_ | refine m3 _ ?_ | (refine m4 _ _ (Hd.out ?_);try first | rw [hks] | rw [hk2] | rw [hk3]) | (refine m5 _ _ ?_;cbv)
 all_goals (clear m1 m2 m3 m4 m5;cases m0;(try clear hks;try clear hk2;try clear hk3);try dsimp only)
 all_goals try simp only [sm] at *
 all_goals first
  | omega
  | exact absurd trivial (by assumption)
  | rfl
  | (simp only [qh (show i<9223372036854775807 by omega)];exact ⟨ih (i+1) (by omega) (by omega)⟩)
def VO:Wr:=w2 kA kA (fun _ _=>rB true) (fun l m=>[WQ l m,LLe l maxLen])
theorem wm:qz Tryz.prog 25 VO:=qE fun l m h=>by
 obtain rfl:=(h _ (.head _)).out
 exact qky l (h _ (.tail _ (.head _))).out
end Go.Proofs.YtececadpjelanaaGreat.Ai
namespace Go.Proofs.YtececadpjelanaaGreat.Ai
open Go
set_option maxRecDepth 100000
variable [qi]
def wR (n:Nat):V1 B:=(false,[.rf (lrt 0,[]) true 0 n])
def bI1 (n:Int):V1 B:=(false,[.fz (.int .i64 n)])
def kv (k:Int)(n:Nat):List Int:=(List.range n).map fun j=>k+(j:Nat)
theorem zO (k:Int)(n:Nat):(kv k n).length=n:=by simp [kv]
theorem qh4 (k:Int)(n:Nat):kv k (n+1)=kv k n++[k+n]:=by simp [kv,List.range_succ]
theorem qf1 {q:Int}(h0:-9223372036854775808<=q)(h:q<9223372036854775807):IntKind.i64.wrap (q+1)=q+1:=by
 simp [IntKind.wrap,IntKind.bits,IntKind.signed];omega
theorem qjY {k:Int}{i:Nat}{l:List Int}(hi:i<l.length):(kv k i++l.drop i).set i (k+i)=kv k (i+1)++l.drop (i+1):=by
 rw [List.set_append_right _ _ (by rw [zO];omega),zO,Nat.sub_self,qh4,List.append_assoc,List.drop_eq_getElem_cons hi];rfl
theorem Vl (l:List Int)(k:Int)(hl:l.length<=maxLen)(hk:0<=k/\k+l.length<=4611686018427387904) :
 zY Tryz.prog 26 [wR l.length,bI1 k] [(lrt 0,.osl (.i l))] [.rf (lrt 0,[]) true 0 l.length] (.v (bI1 (k+l.length))) [(lrt 0,.osl (.i (kv k l.length)))] [.rf (lrt 0,[]) true 0 l.length]:=by
 refine zY.of qc (fn:=Tryz.f26) (c:=Tryz.f26.body.getD .skip) (dr:=fun n=>qa 0 [] n) (r:=(_,_,_)) Tryz.func26 rfl (by kernel_rfl) (by kernel_rfl) (by kernel_rfl) ?_
 generalize hn:l.length=n at *
 refine zN.go (X:=XX) qc (fun n=>qa [] [(2,[0,1,5,4294967296])] n) (fun _=>none) qd 60 1 ?_
 intro M R L N m0 m1 m2 m3 m4 m5
 cases M
 cbv
 repeat' first | refine m1 _ _ ?_ ?_ | refine m2 _ _ fun h=>?_ | refine m3 _ ?_ | (refine m4 _ _ (Hd.out ?_);generalize hks:(List.cons _ _:List K)=ks) | (refine m5 _ _ ?_;cbv)
 all_goals (clear m1 m2 m3 m4 m5;cases m0;try dsimp only)
 all_goals try simp only [sm] at *
 refine ⟨zN.same (zN.idx n (fun i=>⟨19,[(0,bR 41000000 n),(1,bI (k+i)),(5,bI i),(4294967296,bR 41000000 n)],[(41000000,.osl (.i (kv k i++l.drop i)))]⟩) (fun _=>(.v (bI1 (k+n)),[(lrt 0,.osl (.i (kv k n)))],[.rf (lrt 0,[]) true 0 n])) ?_) ?_ ⟨rfl,rfl,rfl⟩⟩
 rotate_left
 . rw [show k+((0:Nat):Int)=k by omega];rfl
 intro i hi ih
 rw [<-hks]
 obtain ⟨c,hc⟩:∃ c,c=kv k i++l.drop i:=⟨_,rfl⟩
 have hcl:c.length=n:=by rw [hc,List.length_append,zO,List.length_drop];omega
 rw [<-hc]
 obtain ⟨q,hq⟩:∃ q,q=k+(i:Int):=⟨_,rfl⟩
 rw [<-hq]
 unfold maxLen at hl
 refine zN.go (X:=XX) qc (fun n=>qa [] [(2,[0,1,5,4294967296])] n) (fun _=>none) qd 60 1 ?_
 intro M R L N m0 m1 m2 m3 m4 m5
 cases M
 cbv
 repeat' first | refine m1 _ _ ?_ ?_ | refine m2 _ _ fun h=>?_ | refine m3 _ ?_ | (refine m4 _ _ (Hd.out ?_);try rw [hks]) | (refine m5 _ _ ?_;cbv)
 all_goals (clear m1 m2 m3 m4 m5;cases m0;(try clear hks);try dsimp only)
 all_goals try simp only [sm] at *
 all_goals first
  | omega
  | (have hin:i=n:=by omega
     subst hin
     rw [List.drop_eq_nil_of_le (by omega),List.append_nil] at hc
     subst hc;subst hq
     refine ⟨?_,?_,?_⟩<;>rfl)
  | (simp only [qh (show i<9223372036854775807 by omega),qf1 (q:=q) (by omega) (by omega)]
     refine ⟨(ih (by omega)).same ?_ ⟨rfl,rfl,rfl⟩⟩
     rw [hc,hq,qjY (k:=k) (i:=i) (l:=l) (by omega)]
     rw [show k+((i+1:Nat):Int)=k+i+1 by omega,show ((i+1:Nat):Int)=i+1 by omega]
     rfl)
def dch (k:Int):ByteArray:=⟨(List.map (fun n=>UInt8.ofNat n.toNat) [IntKind.u8.wrap (IntKind.i64.wrap (48+k.tmod 10))]).toArray⟩
theorem qfz (k:Int):(dch k).size=1:=rfl
def YD:Nat->Int->ByteArray->ByteArray
 | 0,_,out=>out
 | n+1,k,out=>if 0<k then YD n (k.tdiv 10) (dch k++out) else out
theorem qcu {k:Int}(h:0<k):0<=k.tdiv 10/\k.tdiv 10<k:=by
 rw [Int.tdiv_eq_ediv_of_nonneg (by omega)];omega
theorem qa8:∀ (n m:Nat) (k:Int) (out:ByteArray),k.toNat<=n->k.toNat<=m->YD n k out=YD m k out
 | 0,0,_,_,_,_=>rfl
 | 0,m+1,k,out,h,_=>by simp only [YD];rw [if_neg (by omega)]
 | n+1,0,k,out,_,h=>by simp only [YD];rw [if_neg (by omega)]
 | n+1,m+1,k,out,h1,h2=>by
   simp only [YD]
   split
   . rename_i h
     have:=qcu h
     exact qa8 n m _ _ (by omega) (by omega)
   . rfl
theorem qlP {k:Int}(out:ByteArray)(h:0<k):YD k.toNat k out=YD (k.tdiv 10).toNat (k.tdiv 10) (dch k++out):=by
 have:=qcu h
 obtain ⟨n,hn⟩:∃ n,k.toNat=n+1:=⟨k.toNat-1,by omega⟩
 rw [hn]
 simp only [YD]
 rw [if_pos h]
 exact qa8 _ _ _ _ (by omega) (by omega)
def mS:ByteArray:=⟨⟨[109]⟩⟩
def mT (k:Int):ByteArray:=mS++YD k.toNat k ⟨⟨[]⟩⟩
theorem qfa (k:Int)(hk:0<k/\k<=4611686018427387904):qe Tryz.prog 84 [aI k] (rS (mT k)):=by
 refine qe.of qc (fn:=Tryz.f84) (c:=Tryz.f84.body.getD .skip) (dr:=fun n=>qa 0 [] n) Tryz.func84 rfl (by kernel_rfl) (by kernel_rfl) (by kernel_rfl) ?_
 refine SEx.go (X:=XX) qc (fun n=>qa [] [(4,[0,3])] n) (fun _=>none) qd 60 ?_
 intro M R L N m0 m1 m2 m3 m4 m5
 cases M
 cbv
 repeat' first | refine m1 _ _ ?_ ?_ | refine m2 _ _ fun h=>?_ | refine m3 _ ?_ | (refine m4 _ _ (Hd.out ?_);generalize hks:(List.cons _ _:List K)=ks) | (refine m5 _ _ ?_;cbv)
 all_goals (clear m1 m2 m3 m4 m5;cases m0;try dsimp only)
 all_goals try simp only [sm] at *
 . exfalso;omega
 refine ⟨SEx.same (SEx.ind (α:=Int×ByteArray) (fun x=>⟨20,[(0,bI x.1),(3,bS x.2)],[]⟩) (fun x=>rS (mS++YD x.1.toNat x.1 x.2)) (fun x=>0<=x.1/\x.2.size+x.1<=4611686018427387904) (fun x=>x.1.toNat) (k,⟨⟨[]⟩⟩) ⟨by omega,by show (0:Int)+k<=_;omega⟩ ?_) rfl rfl⟩
 rintro ⟨q,out⟩ ⟨hq0,hq1⟩ ih
 simp only at hq0 hq1 ih ⊢
 rw [<-hks]
 refine SEx.go (X:=XX) qc (fun n=>qa [] [(4,[0,3])] n) (fun _=>none) qd 60 ?_
 intro M R L N m0 m1 m2 m3 m4 m5
 cases M
 cbv
 repeat' first | refine m1 _ _ ?_ ?_ | refine m2 _ _ fun h=>?_ | refine m3 _ ?_ | (refine m4 _ _ (Hd.out ?_);try first | rw [hks] | rw [hk2] | rw [hk3]) | (refine m5 _ _ ?_;cbv)
 all_goals (clear m1 m2 m3 m4 m5;cases m0;(try clear hks;try clear hk2;try clear hk3);try dsimp only)
 all_goals try simp only [sm] at *
 all_goals first
  | exact ⟨⟩
  | (intro h;cases h;done)
  | rfl
  | (show (dch q).size+out.size<=_;rw [qfz];omega)
  | (have h2:=qcu (k:=q) (by assumption)
     rw [qr (by omega) (by omega)]
     exact ⟨(ih (q.tdiv 10,dch q++out) ⟨h2.1,by show ((dch q++out).size:Int)+_<=_;rw [ByteArray.size_append,qfz];show ((1+out.size:Nat):Int)+q.tdiv 10<=_;omega⟩ (by show (q.tdiv 10).toNat<_;omega)).same rfl (by rw [qlP out (by assumption)])⟩)
  | (have hq:q=0:=by omega
     subst hq;rfl)
  | trace_state
structure qsx (k:Int):Prop where out:0<k/\k<=4611686018427387904
def qq5 (f:Int->ByteArray):Wr:=w1 dcI (fun k=>rS (f k)) (fun k=>[qsx k])
structure MkI {α:Type}(p:SP)(n m:Nat)(l:List α)(k:Int):Prop where out:p=(lrt 0,[])/\m=n/\l.length=n/\n<=maxLen/\0<=k/\k+n<=4611686018427387904
structure qsm (k:Int)(n:Nat):Prop where out:0<=k/\k+n<=4611686018427387904
def KI (k:Int)(n:Nat):Int:=k+n
def KS (f:Int->Nat->List Int)(g:Int->Nat->Int):WrW
 | [(false,[.rf p true 0 n]),(false,[.fz (.int .i64 k)])],[(.sl m,.osl (.i l))]=>some ([MkI p n m l k],(.v (bI1 (g k n)),[(lrt 0,.osl (.i (f k n)))],[.rf (lrt 0,[]) true 0 n]))
 | [(false,[.rf p true 0 n]),(false,[.fz (.int .i64 k)])],[(.sl m,.onil)]=>some ([MkI p n m ([]:List Int) k],(.v (bI1 k),[(lrt 0,.onil)],[.rf (lrt 0,[]) true 0 n]))
 | _,_=>none
theorem WB:vr Tryz.prog 26 (KS kv KI):=by
 intro xs ls
 unfold KS
 split
 . refine R.Sim.mk fun hp=>?_
   obtain ⟨rfl,rfl,rfl,h1,h2,h3⟩:=(hp _ (.head _)).out
   exact Vl _ _ h1 ⟨h2,h3⟩
 . refine R.Sim.mk fun hp=>?_
   obtain ⟨rfl,rfl,h0,h1,h2,h3⟩:=(hp _ (.head _)).out
   cases h0
   rename_i k
   have:=Vl [] k h1 ⟨h2,h3⟩
   rw [show k+(([]:List Int).length:Int)=k by simp] at this
   exact this
 . exact R.Sim.none'
theorem qhu {k:Int}{n i:Nat}(h:i<n):(kv k n).getD i 0=k+i:=by
 rw [zm (by rw [zO];exact h)];simp [kv]
theorem qe1 (k:Int)(n:Nat)(h1:n<=maxLen)(hk:0<=k/\k+n<=4611686018427387904):qe Tryz.prog 30 [aIs (kv k n),aI k] (rI (KI k n)):=by
 refine qe.of qc (fn:=Tryz.f30) (c:=Tryz.f30.body.getD .skip) (dr:=fun n=>qa 0 [] n) Tryz.func30 rfl (by kernel_rfl) (by kernel_rfl) (by kernel_rfl) ?_
 obtain ⟨c,hc⟩:∃ c,c=kv k n:=⟨_,rfl⟩
 have hcl:c.length=n:=by rw [hc,zO]
 rw [<-hc]
 refine SEx.go (X:=XX) qc (fun n=>qa [] [(2,[0,1,5])] n) (fun _=>none) qd 60 ?_
 intro M R L N m0 m1 m2 m3 m4 m5
 cases M
 cbv
 repeat' first | refine m1 _ _ ?_ ?_ | refine m2 _ _ fun h=>?_ | refine m3 _ ?_ | (refine m4 _ _ (Hd.out ?_);generalize hks:(List.cons _ _:List K)=ks) | (refine m5 _ _ ?_;cbv)
 all_goals (clear m1 m2 m3 m4 m5;cases m0;try dsimp only)
 all_goals try simp only [sm] at *
 refine ⟨SEx.same (SEx.idx n (fun i=>⟨21,[(0,bL (.i c)),(1,bI (k+i)),(5,bI i)],[]⟩) (fun _=>rI (KI k n)) ?_) (by rw [show k+((0:Nat):Int)=k by omega];rfl) rfl⟩
 intro i hi ih
 rw [<-hks]
 obtain ⟨q,hq⟩:∃ q,q=k+(i:Int):=⟨_,rfl⟩
 have hg:i<n->c.getD i 0=q:=fun h=>by rw [hc,hq,qhu h]
 rw [<-hq]
 unfold maxLen at h1
 refine SEx.go (X:=XX) qc (fun n=>qa [] [(2,[0,1,5])] n) (fun _=>none) qd 60 ?_
 intro M R L N m0 m1 m2 m3 m4 m5
 cases M
 cbv
 repeat' first | refine m1 _ _ ?_ ?_ | refine m2 _ _ fun h=>?_ | refine m3 _ ?_ | (refine m4 _ _ (Hd.out ?_);try first | rw [hks] | rw [hk2] | rw [hk3]) | (refine m5 _ _ ?_;cbv)
 all_goals (clear m1 m2 m3 m4 m5;cases m0;(try clear hks;try clear hk2;try clear hk3);try dsimp only)
 all_goals try simp only [sm] at *
 all_goals first
  | omega
  | (exfalso;have:=hg (by omega);first | contradiction | (simp_all;done))
  | (simp only [qh (show i<9223372036854775807 by omega),qf1 (q:=q) (by omega) (by omega)]
     refine ⟨(ih (by omega)).same ?_ rfl⟩
     rw [hq,show k+((i+1:Nat):Int)=k+i+1 by omega,show ((i+1:Nat):Int)=i+1 by omega]
     rfl)
  | (obtain rfl:i=n:=by omega
     subst hq;rfl)
  | trace_state
def qmm (g:Int->Nat->Int)(f:Int->Nat->List Int)(ln:List Int->Nat):Wr:=w2 kA dcI (fun l k=>rI (g k (ln l))) (fun l k=>[WQ l (f k (ln l)),LLe l maxLen,qsm k (ln l)])
theorem qj5:qz Tryz.prog 30 (qmm KI kv List.length):=qE fun l k h=>by
 have e:=(h _ (.head _)).out
 have h1:=(h _ (.tail _ (.head _))).out
 have h2:=(h _ (.tail _ (.tail _ (.head _)))).out
 have:=qe1 k l.length h1 h2
 rwa [<-e] at this
end Go.Proofs.YtececadpjelanaaGreat.Ai
namespace Go.Proofs.YtececadpjelanaaGreat.Ai
open Go
set_option maxRecDepth 100000
variable [qi]
def pI (l:List Int)(i:Nat):Bool:=decide (1<=l.getD i 0/\l.getD i 0<=3/\(0<i->l.getD (i-1) 0<l.getD i 0))
def okP (l:List Int):Bool:=(List.range l.length).all (pI l)
theorem qnz {l:List Int}{i:Nat}(hi:i<l.length)(h:pI l i=false):okP l=false:=by
 unfold okP
 rw [List.all_eq_false]
 exact ⟨i,List.mem_range.2 hi,by rw [h];simp⟩
theorem qb9 {l:List Int}(h:∀ j,j<l.length->pI l j=true):okP l=true:=by
 unfold okP
 rw [List.all_eq_true]
 exact fun j hj=>h j (List.mem_range.1 hj)
theorem qql {l:List Int}{n:Nat}(h:∀ j,j<n->pI l j=true):∀ j,j<n->(j:Int)+1<=l.getD j 0
 | 0,hj=>by have:=of_decide_eq_true (h 0 hj);omega
 | j+1,hj=>by
   have h1:=of_decide_eq_true (h (j+1) hj)
   have h2:=qql h j (by omega)
   have h3:=h1.2.2 (by omega)
   rw [Nat.add_sub_cancel] at h3
   omega
theorem y9 {l:List Int}{n:Nat}(h:∀ j,j<n->pI l j=true):n<=3:=by
 apply Decidable.byContradiction
 intro hn
 have h1:=qql h 3 (by omega)
 have h2:=of_decide_eq_true (h 3 (by omega))
 omega
theorem qmc {l:List Int}{i:Nat}(h1:1<=l.getD i 0)(h2:l.getD i 0<=3)(h3:0<i->l.getD (i-1) 0<l.getD i 0):pI l i=true:=decide_eq_true ⟨h1,h2,h3⟩
def z8 (a b c:Int):Bool:=decide (b<=a)&&decide (a<=c)
theorem qpk (a b c:Int):qe Tryz.prog 70 [aI a,aI b,aI c] (rB (z8 a b c)):=by
 refine qe.of qc (fn:=Tryz.f70) (c:=Tryz.f70.body.getD .skip) (dr:=fun n=>qa 0 [] n) Tryz.func70 rfl (by kernel_rfl) (by kernel_rfl) (by kernel_rfl) ?_
 refine SEx.go (X:=XX) qc (fun n=>qa [] [] n) (fun _=>none) qd 60 ?_
 intro M R L N m0 m1 m2 m3 m4 m5
 cases M
 cbv
 repeat' first | refine m1 _ _ ?_ ?_ | refine m2 _ _ fun h=>?_ | refine m3 _ ?_ | (refine m4 _ _ (Hd.out ?_);try first | rw [hks] | rw [hk2] | rw [hk3]) | (refine m5 _ _ ?_;cbv)
 all_goals (clear m1 m2 m3 m4 m5;cases m0;(try clear hks;try clear hk2;try clear hk3);try dsimp only)
 all_goals try simp only [sm] at *
 . simp only [jK,z8]
   rw [decide_eq_true (show b<=a by assumption),Bool.true_and]
 . simp only [jK,z8]
   rw [decide_eq_false (show ¬b<=a by omega),Bool.false_and]
theorem Qh {n:Nat}(h:n<18446744073709551616):IntKind.u64.wrap (n:Int)=(n:Int):=by
 simp [IntKind.wrap,IntKind.bits,IntKind.signed];omega
theorem qeU {m:Nat}(h:m<=3):IntKind.i64.wrap (1 * 2 ^ min m IntKind.i64.bits)=((2 ^ m:Nat):Int):=by
 have:m=0\/m=1\/m=2\/m=3:=by omega
 rcases this with rfl | rfl | rfl | rfl<;>decide
theorem Wi {m:Nat}(h:m<=3):2 ^ m<=8:=by
 have:m=0\/m=1\/m=2\/m=3:=by omega
 rcases this with rfl | rfl | rfl | rfl<;>decide
def ql2 (n i:Nat):Int:=IntKind.i64.wrap (1-IntKind.i64.wrap (2 * IntKind.i64.wrap (((BitVec.ofInt IntKind.i64.bits ((n:Int).fdiv (2 ^ min i IntKind.i64.bits)) &&& BitVec.ofInt IntKind.i64.bits 1).toNat:Nat):Int)))
def We (n i:Nat):List Int:=(List.range i).map (ql2 n)
def vN (m n:Nat):List (List Int):=(List.range n).map fun n=>We n m
theorem qaV (n i:Nat):We n (i+1)=We n i++[ql2 n i]:=by simp [We,List.range_succ]
theorem qaS (m n:Nat):vN m (n+1)=vN m n++[We n m]:=by simp [vN,List.range_succ]
theorem K3 (n i:Nat):(We n i).length=i:=by simp [We]
theorem Yn (m n:Nat):(vN m n).length=n:=by simp [vN]
def QH (l:List Int):List (List Int):=if okP l then vN l.length (2 ^ l.length) else []
def Ye (f:Int->Int->Int->Bool):Wr:=w3 dcI dcI dcI (fun a b c=>rB (f a b c)) (fun _ _ _=>[])
theorem j8:qz Tryz.prog 70 (Ye z8):=Qe fun a b c _=>qpk a b c
theorem qgL (l:List Int)(h1:l.length<=1048576):qe Tryz.prog 135 [aIs l] (Zl (QH l)):=by
 refine qe.of qc (fn:=Tryz.f135) (c:=Tryz.f135.body.getD .skip) (dr:=fun n=>qa 0 [] n) Tryz.func135 rfl (by kernel_rfl) (by kernel_rfl) (by kernel_rfl) ?_
 obtain ⟨m,hm⟩:∃ m,m=l.length:=⟨_,rfl⟩
 obtain ⟨r,hr⟩:∃ r,r=QH l:=⟨_,rfl⟩
 rw [<-hr]
 refine SEx.go (X:=XX) qc (fun n=>qa [] [(2,[0,9,10,11]),(9,[0,5,6]),(13,[0,5,6,7,44,45])] n) (fun _=>none) qd 60 ?_
 intro M R L N m0 m1 m2 m3 m4 m5
 cases M
 cbv
 repeat' first | refine m1 _ _ ?_ ?_ | refine m2 _ _ fun h=>?_ | refine m3 _ ?_ | (refine m4 _ _ (Hd.out ?_);generalize hks:(List.cons _ _:List K)=ks) | (refine m5 _ _ ?_;cbv)
 all_goals (clear m1 m2 m3 m4 m5;cases m0;try dsimp only)
 all_goals try simp only [sm] at *
 refine ⟨SEx.same (SEx.ind (α:=Nat) (fun i=>⟨63,[(0,bL (.i l)),(9,bL (.i l)),(10,bI m),(11,bI i)],[]⟩) (fun _=>Zl r) (fun i=>i<=m/\∀ j,j<i->pI l j=true) (fun i=>m-i) 0 ⟨by omega,fun j h=>by omega⟩ ?_) (by rw [hm];rfl) rfl⟩
 rintro i ⟨hi,hj⟩ ih
 rw [<-hks]
 have hw:0<(i:Int)->IntKind.i64.wrap ((i:Int)-1)=((i-1:Nat):Int):=fun h=>by rw [qr (by omega) (by omega)];omega
 have hbad:i<l.length->pI l i=false->r=[]:=fun h h2=>by rw [hr,QH,qnz h h2];rfl
 have hgo:∀ (h:i<m) (h2:pI l i=true),i+1<=m/\∀ j,j<i+1->pI l j=true:=fun h h2=>⟨h,fun j hj'=>by
  by_cases e:j=i
  . rw [e];exact h2
  . exact hj j (by omega)⟩
 refine SEx.go (X:=XX) qc (fun n=>qa [] [(2,[0,9,10,11]),(9,[0,5,6]),(13,[0,5,6,7,44,45])] n) (fun _=>none) qd 60 ?_
 intro M R L N m0 m1 m2 m3 m4 m5
 cases M
 cbv
 repeat' first | refine m1 _ _ ?_ ?_ | refine m2 _ _ fun h=>?_ | refine m3 _ ?_ | (refine m4 _ _ (Hd.out ?_);first | rw [hks] | generalize hk2:(List.cons _ _:List K)=k2) | (refine m5 _ _ ?_;cbv)
 all_goals (clear m1 m2 m3 m4 m5;cases m0;try dsimp only)
 all_goals try simp only [sm] at *
 all_goals (try rw [hw (by omega)] at *)
 all_goals (try simp only [Int.toNat_natCast] at *)
 all_goals first
  | omega
  | (have hb:=hbad (by omega) (decide_eq_false (by rintro ⟨h1,h2,h3⟩;first | omega | (have:=h3 (by omega);omega)))
     rw [hb];rfl)
  | (have hp:=qmc (l:=l) (i:=i) (by assumption) (by assumption) (fun h=>by first | assumption | (exfalso;omega))
     simp only [qh (show i<9223372036854775807 by omega)]
     exact ⟨(ih (i+1) (hgo (by omega) hp) (by omega)).same rfl rfl⟩)
  | skip
 clear ih hbad hgo hw
 have him:i=m:=by omega
 subst him
 have hm3:i<=3:=y9 hj
 have hrr:r=vN i (2 ^ i):=by rw [hr,QH,if_pos (qb9 (by rw [<-hm];exact hj)),<-hm]
 clear hr hj
 refine ⟨SEx.same (SEx.idx (2 ^ i) (fun n=>⟨63,[(0,bL (.i l)),(5,bR 20480 n),(6,bI n)],[(20480,.osl (.ii true none (vN i n)))]⟩) (fun _=>Zl r) ?_) rfl rfl⟩
 intro n hn ih
 rw [<-hk2]
 obtain ⟨o,ho⟩:∃ o,o=vN i n:=⟨_,rfl⟩
 have hol:o.length=n:=by rw [ho,Yn]
 rw [<-ho]
 have hs:IntKind.i64.wrap (1 * 2 ^ min l.length IntKind.i64.bits)=((2 ^ i:Nat):Int):=by rw [<-hm];exact qeU hm3
 have hp:=Wi hm3
 obtain ⟨p,hpp⟩:∃ p,p=2 ^ i:=⟨_,rfl⟩
 rw [<-hpp] at hs hp hn ih hrr
 refine SEx.go (X:=XX) qc (fun n=>qa [] [(2,[0,9,10,11]),(9,[0,5,6]),(13,[0,5,6,7,44,45])] n) (fun _=>none) qd 60 ?_
 intro M R L N m0 m1 m2 m3 m4 m5
 cases M
 cbv
 repeat' first | refine m1 _ _ ?_ ?_ | refine m2 _ _ fun h=>?_ | refine m3 _ ?_ | (refine m4 _ _ (Hd.out ?_);first | rw [hks] | rw [hk2] | generalize hk3:(List.cons _ _:List K)=k3) | (refine m5 _ _ ?_;cbv)
 all_goals (clear m1 m2 m3 m4 m5;cases m0;try dsimp only)
 all_goals try simp only [sm] at *
 all_goals (try rw [hs] at *)
 all_goals first
  | omega
  | (have hnp:n=p:=by omega
     subst hnp
     rw [ho,hrr];rfl)
  | skip
 have hm0:=hm
 obtain ⟨m,hmm⟩:∃ m,m=l.length:=⟨_,rfl⟩
 rw [<-hmm] at hm0 ⊢
 refine ⟨SEx.same (SEx.idx m (fun j=>⟨63,[(0,bL (.i l)),(5,bR 20480 n),(6,bI n),(7,bR 28672 j),(44,bI m),(45,bI j)],[(20480,.osl (.ii true none o)),(28672,.osl (.i (We n j)))]⟩) (fun _=>Zl r) ?_) rfl rfl⟩
 intro j hj ihj
 rw [<-hk3]
 obtain ⟨w,hw⟩:∃ w,w=We n j:=⟨_,rfl⟩
 have hwl:w.length=j:=by rw [hw,K3]
 rw [<-hw]
 refine SEx.go (X:=XX) qc (fun n=>qa [] [(2,[0,9,10,11]),(9,[0,5,6]),(13,[0,5,6,7,44,45])] n) (fun _=>none) qd 60 ?_
 intro M R L N m0 m1 m2 m3 m4 m5
 cases M
 cbv
 repeat' first | refine m1 _ _ ?_ ?_ | refine m2 _ _ fun h=>?_ | refine m3 _ ?_ | (refine m4 _ _ (Hd.out ?_);try first | rw [hks] | rw [hk2] | rw [hk3]) | (refine m5 _ _ ?_;cbv)
 all_goals (clear m1 m2 m3 m4 m5;cases m0;(try clear hks;try clear hk2;try clear hk3);try dsimp only)
 all_goals try simp only [sm] at *
 all_goals first
  | omega
  | rfl
  | (have:=zz;simp only [List.length_cons,List.length_nil];omega)
  | (have ihj':=ihj (by omega)
     simp only [qh (show j<9223372036854775807 by omega)]
     rw [qaV,<-hw] at ihj'
     simp only [List.length_append,List.length_cons,List.length_nil,hwl]
     exact ⟨ihj'.same rfl rfl⟩)
  | (have hjm:j=m:=by omega
     have ih':=ih (by omega)
     simp only [qh (show n<9223372036854775807 by omega)]
     rw [qaS,<-ho,hm0,<-hjm,<-hw] at ih'
     simp only [List.length_append,List.length_cons,List.length_nil,hol]
     exact ⟨ih'.same rfl rfl⟩)
theorem qhC (l:List Int)(h1:l.length<=1048576):qe Tryz.prog 105 [aIs l] (Zl (QH l)):=by
 refine qe.of qc (fn:=Tryz.f105) (c:=Tryz.f105.body.getD .skip) (dr:=fun n=>qa 0 [] n) Tryz.func105 rfl (by kernel_rfl) (by kernel_rfl) (by kernel_rfl) ?_
 obtain ⟨f0,hf0⟩:∃ f,f=z8:=⟨_,rfl⟩
 have hO:qp Tryz.prog (qM [(70,Ye f0)]):=by subst hf0;exact qb j8 qd
 obtain ⟨m,hm⟩:∃ m,m=l.length:=⟨_,rfl⟩
 obtain ⟨r,hr⟩:∃ r,r=QH l:=⟨_,rfl⟩
 rw [<-hr]
 refine SEx.go (X:=XX) qc (fun n=>qa [] [(2,[0,9,10,11]),(9,[0,5,6]),(13,[0,5,6,7,44,45])] n) (fun _=>none) hO 60 ?_
 intro M R L N m0 m1 m2 m3 m4 m5
 cases M
 cbv
 repeat' first | refine m1 _ _ ?_ ?_ | refine m2 _ _ fun h=>?_ | refine m3 _ ?_ | (refine m4 _ _ (Hd.out ?_);generalize hks:(List.cons _ _:List K)=ks) | (refine m5 _ _ ?_;cbv)
 all_goals (clear m1 m2 m3 m4 m5;cases m0;try dsimp only)
 all_goals try simp only [sm] at *
 refine ⟨SEx.same (SEx.ind (α:=Nat) (fun i=>⟨64,[(0,bL (.i l)),(9,bL (.i l)),(10,bI m),(11,bI i)],[]⟩) (fun _=>Zl r) (fun i=>i<=m/\∀ j,j<i->pI l j=true) (fun i=>m-i) 0 ⟨by omega,fun j h=>by omega⟩ ?_) (by rw [hm];rfl) rfl⟩
 rintro i ⟨hi,hj⟩ ih
 rw [<-hks]
 have hw:0<(i:Int)->IntKind.i64.wrap ((i:Int)-1)=((i-1:Nat):Int):=fun h=>by rw [qr (by omega) (by omega)];omega
 have hbad:i<l.length->pI l i=false->r=[]:=fun h h2=>by rw [hr,QH,qnz h h2];rfl
 have hgo:∀ (h:i<m) (h2:pI l i=true),i+1<=m/\∀ j,j<i+1->pI l j=true:=fun h h2=>⟨h,fun j hj'=>by
  by_cases e:j=i
  . rw [e];exact h2
  . exact hj j (by omega)⟩
 have hft:f0 (l.getD i 0) 1 3=true->1<=l.getD i 0/\l.getD i 0<=3:=by subst hf0;intro h;simpa [z8] using h
 have hff:f0 (l.getD i 0) 1 3=false->¬(1<=l.getD i 0/\l.getD i 0<=3):=by subst hf0;intro h h2;simp only [z8,decide_eq_true h2.1,decide_eq_true h2.2] at h;cases h
 refine SEx.go (X:=XX) qc (fun n=>qa [] [(2,[0,9,10,11]),(9,[0,5,6]),(13,[0,5,6,7,44,45])] n) (fun _=>none) hO 60 ?_
 intro M R L N m0 m1 m2 m3 m4 m5
 cases M
 cbv
 repeat' first | refine m1 _ _ ?_ ?_ | refine m2 _ _ fun h=>?_ | refine m3 _ ?_ | (refine m4 _ _ (Hd.out ?_);first | rw [hks] | generalize hk2:(List.cons _ _:List K)=k2) | (refine m5 _ _ ?_;cbv)
 all_goals (clear m1 m2 m3 m4 m5;cases m0;try dsimp only)
 all_goals try simp only [sm] at *
 all_goals (try (have hA:=hft (by assumption);have hA1:=hA.1;have hA2:=hA.2))
 all_goals (try have hB:=hff (by assumption))
 all_goals (try rw [hw (by omega)] at *)
 all_goals (try simp only [Int.toNat_natCast] at *)
 all_goals first
  | omega
  | (have hb:=hbad (by omega) (decide_eq_false (by rintro ⟨h1,h2,h3⟩;first | omega | (have:=h3 (by omega);omega)))
     rw [hb];rfl)
  | (have hp:=qmc (l:=l) (i:=i) (by assumption) (by assumption) (fun h=>by first | assumption | (exfalso;omega))
     simp only [qh (show i<9223372036854775807 by omega)]
     exact ⟨(ih (i+1) (hgo (by omega) hp) (by omega)).same rfl rfl⟩)
  | skip
 clear ih hbad hgo hw hft hff
 have him:i=m:=by omega
 subst him
 have hm3:i<=3:=y9 hj
 have hrr:r=vN i (2 ^ i):=by rw [hr,QH,if_pos (qb9 (by rw [<-hm];exact hj)),<-hm]
 clear hr hj
 refine ⟨SEx.same (SEx.idx (2 ^ i) (fun n=>⟨64,[(0,bL (.i l)),(5,bR 20480 n),(6,bI n)],[(20480,.osl (.ii true none (vN i n)))]⟩) (fun _=>Zl r) ?_) rfl rfl⟩
 intro n hn ih
 rw [<-hk2]
 obtain ⟨o,ho⟩:∃ o,o=vN i n:=⟨_,rfl⟩
 have hol:o.length=n:=by rw [ho,Yn]
 rw [<-ho]
 have hs:IntKind.i64.wrap (1 * 2 ^ min l.length IntKind.i64.bits)=((2 ^ i:Nat):Int):=by rw [<-hm];exact qeU hm3
 have hp:=Wi hm3
 obtain ⟨p,hpp⟩:∃ p,p=2 ^ i:=⟨_,rfl⟩
 rw [<-hpp] at hs hp hn ih hrr
 have hu:IntKind.u64.wrap (l.length:Int)=(l.length:Int):=Qh (by omega)
 refine SEx.go (X:=XX) qc (fun n=>qa [] [(2,[0,9,10,11]),(9,[0,5,6]),(13,[0,5,6,7,44,45])] n) (fun _=>none) hO 60 ?_
 intro M R L N m0 m1 m2 m3 m4 m5
 cases M
 cbv
 repeat' first | refine m1 _ _ ?_ ?_ | refine m2 _ _ fun h=>?_ | refine m3 _ ?_ | (refine m4 _ _ (Hd.out ?_);first | rw [hks] | rw [hk2] | generalize hk3:(List.cons _ _:List K)=k3) | (refine m5 _ _ ?_;cbv)
 all_goals (clear m1 m2 m3 m4 m5;cases m0;try dsimp only)
 all_goals try simp only [sm] at *
 all_goals (try simp only [hu,Int.toNat_natCast] at *)
 all_goals (try rw [hs] at *)
 all_goals first
  | omega
  | (have hnp:n=p:=by omega
     subst hnp
     rw [ho,hrr];rfl)
  | skip
 have hm0:=hm
 obtain ⟨m,hmm⟩:∃ m,m=l.length:=⟨_,rfl⟩
 rw [<-hmm] at hm0 ⊢
 refine ⟨SEx.same (SEx.idx m (fun j=>⟨64,[(0,bL (.i l)),(5,bR 20480 n),(6,bI n),(7,bR 28672 j),(44,bI m),(45,bI j)],[(20480,.osl (.ii true none o)),(28672,.osl (.i (We n j)))]⟩) (fun _=>Zl r) ?_) rfl rfl⟩
 intro j hj ihj
 rw [<-hk3]
 obtain ⟨w,hw⟩:∃ w,w=We n j:=⟨_,rfl⟩
 have hwl:w.length=j:=by rw [hw,K3]
 rw [<-hw]
 have hv:j<m->IntKind.u64.wrap (j:Int)=(j:Int):=fun h=>Qh (by omega)
 refine SEx.go (X:=XX) qc (fun n=>qa [] [(2,[0,9,10,11]),(9,[0,5,6]),(13,[0,5,6,7,44,45])] n) (fun _=>none) hO 60 ?_
 intro M R L N m0 m1 m2 m3 m4 m5
 cases M
 cbv
 repeat' first | refine m1 _ _ ?_ ?_ | refine m2 _ _ fun h=>?_ | refine m3 _ ?_ | (refine m4 _ _ (Hd.out ?_);try first | rw [hks] | rw [hk2] | rw [hk3]) | (refine m5 _ _ ?_;cbv)
 all_goals (clear m1 m2 m3 m4 m5;cases m0;(try clear hks;try clear hk2;try clear hk3);try dsimp only)
 all_goals try simp only [sm] at *
 all_goals (try rw [hv (by omega)] at *)
 all_goals (try simp only [Int.toNat_natCast] at *)
 all_goals first
  | omega
  | rfl
  | trivial
  | (have:=zz;simp only [List.length_cons,List.length_nil];omega)
  | (have ihj':=ihj (by omega)
     simp only [qh (show j<9223372036854775807 by omega)]
     rw [qaV,<-hw] at ihj'
     simp only [List.length_append,List.length_cons,List.length_nil,hwl]
     exact ⟨ihj'.same rfl rfl⟩)
  | (have hjm:j=m:=by omega
     have ih':=ih (by omega)
     simp only [qh (show n<9223372036854775807 by omega)]
     rw [qaS,<-ho,hm0,<-hjm,<-hw] at ih'
     simp only [List.length_append,List.length_cons,List.length_nil,hol]
     exact ⟨ih'.same rfl rfl⟩)
theorem qan (l:List Int):(QH l).length<=8/\∀ x∈QH l,x.length<=3:=by
 unfold QH
 split
 . rename_i h
   have h3:l.length<=3:=by
    unfold okP at h
    rw [List.all_eq_true] at h
    exact y9 (fun j hj=>h j (List.mem_range.2 hj))
   refine ⟨by rw [Yn];exact Wi h3,fun x hx=>?_⟩
   simp only [vN,List.mem_map] at hx
   obtain ⟨n,_,rfl⟩:=hx
   rw [K3];exact h3
 . exact ⟨by simp,fun x hx=>by cases hx⟩
def qps (f:List Int->List (List Int)):Wr:=w1 kA (fun l=>Zl (f l)) (fun l=>[LLe l 1048576])
theorem qou:qz Tryz.prog 105 (qps QH):=zx fun l h=>qhC l (h _ (.head _)).out
theorem qmI:qz Tryz.prog 135 (qps QH):=zx fun l h=>qgL l (h _ (.head _)).out
end Go.Proofs.YtececadpjelanaaGreat.Ai
namespace Go.Proofs.YtececadpjelanaaGreat.Ai
open Go
set_option maxRecDepth 100000
variable [qi]
def rUs (l:List Int):TV W:=.v (false,[.osl (.i l)])
end Go.Proofs.YtececadpjelanaaGreat.Ai
namespace Go.Proofs.YtececadpjelanaaGreat.Ai
open Go
set_option maxRecDepth 100000
variable [qi]
structure InX {α:Type}(c:Int)(l:List α):Prop where out:0<=c/\c<l.length
def vc (n x:Int):Bool:=decide (0<=x/\x<n)
theorem qlC (n m:Int):qe Tryz.prog 138 [aI n,aI m] (rB (vc n m)):=by
 refine qe.of qc (fn:=Tryz.f138) (c:=Tryz.f138.body.getD .skip) (dr:=fun n=>qa 0 [] n) Tryz.func138 rfl (by kernel_rfl) (by kernel_rfl) (by kernel_rfl) ?_
 refine SEx.go (X:=XX) qc (fun n=>qa [] [] n) (fun _=>none) qd 60 ?_
 intro M R L N m0 m1 m2 m3 m4 m5
 cases M
 cbv
 repeat' first | refine m1 _ _ ?_ ?_ | refine m2 _ _ fun h=>?_ | refine m3 _ ?_ | (refine m4 _ _ (Hd.out ?_);try first | rw [hks] | rw [hk2] | rw [hk3]) | (refine m5 _ _ ?_;cbv)
 all_goals (clear m1 m2 m3 m4 m5;cases m0;(try clear hks;try clear hk2;try clear hk3);try dsimp only)
 all_goals try simp only [sm] at *
 all_goals simp only [jK,vc]
 all_goals (first | (rw [decide_eq_false (by omega)];done) | (symm;apply decide_eq_decide.2;omega) | (rw [Bool.eq_iff_iff];simp;omega))
def qjm (f:Int->Int->Bool):Wr:=w2 dcI dcI (fun x y=>rB (f x y)) (fun _ _=>[])
theorem qgQ:qz Tryz.prog 138 (qjm vc):=qE fun x y _=>qlC x y
end Go.Proofs.YtececadpjelanaaGreat.Ai
namespace Go.Proofs.YtececadpjelanaaGreat.Ai
open Go
set_option maxRecDepth 100000
variable [qi]
theorem qkT (l:List Tie)(n:Int)(hs:l.length<=maxLen)(hn:0<=n/\n<=9223372036854775807):qe Tryz.prog 38 [YM l,aI n] (rI (szL l n)):=by
 refine qe.of qc (fn:=Tryz.f38) (c:=Tryz.f38.body.getD .skip) (dr:=fun n=>qa 0 [] n) Tryz.func38 rfl (by kernel_rfl) (by kernel_rfl) (by kernel_rfl) ?_
 unfold maxLen at hs
 refine SEx.go (X:=XX) qc (fun n=>qa [] [] n) (fun _=>none) qd 60 ?_
 intro M R L N m0 m1 m2 m3 m4 m5
 cases M
 cbv
 repeat' first | refine m1 _ _ ?_ ?_ | refine m2 _ _ fun h=>?_ | refine m3 _ ?_ | (refine m4 _ _ (Hd.out ?_);try first | rw [hks] | rw [hk2] | rw [hk3]) | (refine m5 _ _ ?_;cbv)
 all_goals (clear m1 m2 m3 m4 m5;cases m0;(try clear hks;try clear hk2;try clear hk3);try dsimp only)
 all_goals try simp only [sm] at *
 all_goals rw [qr (by omega) (by omega)] at *
 all_goals simp only [Kk,szL]
 all_goals split<;>omega
def qiq (f:List Tie->Int->Int):Wr:=w2 K9 dcI (fun l n=>rI (f l n)) (fun l n=>[LLe l maxLen,qhL n])
theorem qga:qz Tryz.prog 38 (qiq szL):=qE fun l n h=>qkT l n (h _ (.head _)).out (h _ (.tail _ (.head _))).out
theorem qmk (q:Tie):qe Tryz.prog 75 [yZ q] (qrI q):=by
 refine qe.of qc (fn:=Tryz.f75) (c:=Tryz.f75.body.getD .skip) (dr:=fun n=>qa 0 [] n) Tryz.func75 rfl (by kernel_rfl) (by kernel_rfl) (by kernel_rfl) ?_
 obtain ⟨x1,x2,x3,x4,x5⟩:=q
 refine SEx.go (X:=XX) qc (fun n=>qa [] [] n) (fun _=>none) qd 60 ?_
 intro M R L N m0 m1 m2 m3 m4 m5
 cases M
 cbv
 repeat' first | refine m1 _ _ ?_ ?_ | refine m2 _ _ fun h=>?_ | refine m3 _ ?_ | (refine m4 _ _ (Hd.out ?_);try first | rw [hks] | rw [hk2] | rw [hk3]) | (refine m5 _ _ ?_;cbv)
 all_goals (clear m1 m2 m3 m4 m5;cases m0;(try clear hks;try clear hk2;try clear hk3);try dsimp only)
 all_goals try simp only [sm] at *
 all_goals rfl
def qnJ:Wr:=w1 qaa qrI (fun _=>[])
theorem qll:qz Tryz.prog 75 qnJ:=zx fun q _=>qmk q
theorem qjQ (l:List Tie)(hs:l.length<=1048576):qe Tryz.prog 45 [YM l] (qnr l):=by
 refine qe.of qc (fn:=Tryz.f45) (c:=Tryz.f45.body.getD .skip) (dr:=fun n=>qa 0 [] n) Tryz.func45 rfl (by kernel_rfl) (by kernel_rfl) (by kernel_rfl) ?_
 have hO:qp Tryz.prog (qM [(75,qnJ)]):=qb qll qd
 refine SEx.go (X:=XX) qc (fun n=>qa [] [(3,[0,3,4])] n) (fun _=>none) hO 60 ?_
 intro M R L N m0 m1 m2 m3 m4 m5
 cases M
 cbv
 repeat' first | refine m1 _ _ ?_ ?_ | refine m2 _ _ fun h=>?_ | refine m3 _ ?_ | (refine m4 _ _ (Hd.out ?_);generalize hks:(List.cons _ _:List K)=ks) | (refine m5 _ _ ?_;cbv)
 all_goals (clear m1 m2 m3 m4 m5;cases m0;try dsimp only)
 all_goals try simp only [sm] at *
 . have:=zz;omega
 generalize hn:l.length=n at *
 refine ⟨SEx.same (SEx.idx n (fun i:Nat=>⟨23,[(0,bL (.tie l)),(3,bR 12288 n),(4,bI i)],[(12288,.osl (.tie (ZF ⟨0,0,0,0,false⟩ l n i)))]⟩) (fun _=>qnr l) ?_) rfl rfl⟩
 intro i hi ih
 rw [<-hks]
 obtain ⟨fl,hfl⟩:∃ x,x=ZF (⟨0,0,0,0,false⟩:Tie) l n i:=⟨_,rfl⟩
 have hf:=WH (z:=(⟨0,0,0,0,false⟩:Tie)) hn hi
 rw [<-hfl] at hf ⊢
 refine SEx.go (X:=XX) qc (fun n=>qa [] [(3,[0,3,4])] n) (fun _=>none) hO 60 ?_
 intro M R L N m0 m1 m2 m3 m4 m5
 cases M
 cbv
 repeat' first | refine m1 _ _ ?_ ?_ | refine m2 _ _ fun h=>?_ | refine m3 _ ?_ | (refine m4 _ _ (Hd.out ?_);try first | rw [hks] | rw [hk2] | rw [hk3]) | (refine m5 _ _ ?_;cbv)
 all_goals (clear m1 m2 m3 m4 m5;cases m0;(try clear hks;try clear hk2;try clear hk3);try dsimp only)
 all_goals try simp only [sm] at *
 all_goals (try simp only [Zd] at *)
 all_goals (try omega)
 . simp only [qh (show i<9223372036854775807 by omega),Wg,qg5,hfl]
   have e:=wc (z:=(⟨0,0,0,0,false⟩:Tie)) (d:=Tie.z) hn (show i<n by omega)
   have ih':=ih (by omega)
   rw [<-e] at ih'
   exact ⟨ih'⟩
 . obtain rfl:i=n:=by omega
   rw [hfl,Ww hn];rfl
def qi1:Wr:=w1 K9 qnr (fun l=>[LLe l 1048576])
theorem qh2:qz Tryz.prog 45 qi1:=zx fun l h=>qjQ l (h _ (.head _)).out
theorem qnP (q:Tie):qe Tryz.prog 83 [yZ q,yZ q] (rB true):=by
 refine qe.of qc (fn:=Tryz.f83) (c:=Tryz.f83.body.getD .skip) (dr:=fun n=>qa 0 [] n) Tryz.func83 rfl (by kernel_rfl) (by kernel_rfl) (by kernel_rfl) ?_
 obtain ⟨x1,x2,x3,x4,x5⟩:=q
 refine SEx.go (X:=XX) qc (fun n=>qa [] [] n) (fun _=>none) qd 60 ?_
 intro M R L N m0 m1 m2 m3 m4 m5
 cases M
 cbv
 repeat' first | refine m1 _ _ ?_ ?_ | refine m2 _ _ fun h=>?_ | refine m3 _ ?_ | (refine m4 _ _ (Hd.out ?_);try first | rw [hks] | rw [hk2] | rw [hk3]) | (refine m5 _ _ ?_;cbv)
 all_goals (clear m1 m2 m3 m4 m5;cases m0;(try clear hks;try clear hk2;try clear hk3);try dsimp only)
 all_goals try simp only [sm] at *
 all_goals first
  | exact absurd trivial (by assumption)
  | rfl
  | (exfalso;simp_all;done)
def qms:Wr:=w2 qaa qaa (fun _ _=>rB true) (fun q r=>[WQ q r])
theorem qkq:qz Tryz.prog 83 qms:=qE fun q r h=>by
 obtain rfl:=(h _ (.head _)).out
 exact qnP q
theorem qlO (l:List Tie)(hs:l.length<=maxLen):qe Tryz.prog 49 [YM l,YM l] (rB true):=by
 refine qe.of qc (fn:=Tryz.f49) (c:=Tryz.f49.body.getD .skip) (dr:=fun n=>qa 0 [(6,8)] n) Tryz.func49 rfl (by kernel_rfl) (by kernel_rfl) (by kernel_rfl) ?_
 unfold maxLen at hs
 have hO:qp Tryz.prog (qM [(83,qms)]):=qb qkq qd
 refine SEx.go (X:=XX) qc (fun n=>qa [] [(4,[0,1,5])] n) (fun _=>none) hO 60 ?_
 intro M R L N m0 m1 m2 m3 m4 m5
 cases M
 cbv
 repeat' first | refine m1 _ _ ?_ ?_ | refine m2 _ _ fun h=>?_ | refine m3 _ ?_ | (refine m4 _ _ (Hd.out ?_);generalize hks:(List.cons _ _:List K)=ks) | (refine m5 _ _ ?_;cbv)
 all_goals (clear m1 m2 m3 m4 m5;cases m0;try dsimp only)
 all_goals try simp only [sm] at *
 . exact absurd trivial (by assumption)
 generalize hn:l.length=n at *
 refine ⟨SEx.same (SEx.idx n (fun i:Nat=>⟨27,[(0,bL (.tie l)),(1,bL (.tie l)),(5,bI i)],[]⟩) (fun _=>rB true) ?_) rfl rfl⟩
 intro i hi ih
 rw [<-hks]
 refine SEx.go (X:=XX) qc (fun n=>qa [] [(4,[0,1,5])] n) (fun _=>none) hO 60 ?_
 intro M R L N m0 m1 m2 m3 m4 m5
 cases M
 cbv
 repeat' first | refine m1 _ _ ?_ ?_ | refine m2 _ _ fun h=>?_ | refine m3 _ ?_ | (refine m4 _ _ (Hd.out ?_);try first | rw [hks] | rw [hk2] | rw [hk3]) | (refine m5 _ _ ?_;cbv)
 all_goals (clear m1 m2 m3 m4 m5;cases m0;(try clear hks;try clear hk2;try clear hk3);try dsimp only)
 all_goals try simp only [sm] at *
 all_goals first
  | omega
  | exact absurd trivial (by assumption)
  | rfl
  | exact ⟨rfl⟩
  | contradiction
  | (simp only [qh (show i<9223372036854775807 by omega)];exact ⟨ih (by omega)⟩)
def qi9:Wr:=w2 K9 K9 (fun _ _=>rB true) (fun l m=>[WQ l m,LLe l maxLen])
theorem qh1:qz Tryz.prog 49 qi9:=qE fun l m h=>by
 obtain rfl:=(h _ (.head _)).out
 exact qlO l (h _ (.tail _ (.head _))).out
end Go.Proofs.YtececadpjelanaaGreat.Ai
namespace Go.Proofs.YtececadpjelanaaGreat.Ai
open Go
set_option maxRecDepth 100000
variable [qi]
def zw (q:qg)(n:Int):Int:=if n<q.name.size then -1 else szL q.label (n-q.name.size)
def YZ (g:List Int->Int->Int):Wr:=w2 kA dcI (fun l n=>rI (g l n)) (fun l n=>[LLe l maxLen,qhL n])
theorem Vq:qz Tryz.prog 39 (YZ szL):=qhr
theorem qgs {α:Type}(l:List α){n:Int}(h:0<=n):szL l n<=n:=by unfold szL;split<;>omega
theorem qlB (q:qg)(n:Int)(hs:q.name.size<=maxLen)(hl:q.label.length<=maxLen)(hn:0<=n/\n<=9223372036854775807):qe Tryz.prog 69 [wO q,aI n] (rI (zw q n)):=by
 refine qe.of qc (fn:=Tryz.f69) (c:=Tryz.f69.body.getD .skip) (dr:=fun n=>qa 0 [] n) Tryz.func69 rfl (by kernel_rfl) (by kernel_rfl) (by kernel_rfl) ?_
 unfold maxLen at hs
 obtain ⟨g,hg⟩:∃ g:List Int->Int->Int,g=szL:=⟨_,rfl⟩
 have hO:qp Tryz.prog (qM [(39,YZ g)]):=by subst hg;exact qb Vq qd
 obtain ⟨x1,x2,x3⟩:=q
 have hs:x1.size<=2 ^ 63-1:=hs
 have hl:x2.length<=maxLen:=hl
 refine SEx.go (X:=XX) qc (fun n=>qa [] [] n) (fun _=>none) hO 60 ?_
 intro M R L N m0 m1 m2 m3 m4 m5
 cases M
 cbv
 repeat' first | refine m1 _ _ ?_ ?_ | refine m2 _ _ fun h=>?_ | refine m3 _ ?_ | (refine m4 _ _ (Hd.out ?_);try first | rw [hks] | rw [hk2] | rw [hk3]) | (refine m5 _ _ ?_;cbv)
 all_goals (clear m1 m2 m3 m4 m5;cases m0;(try clear hks;try clear hk2;try clear hk3);try dsimp only)
 all_goals try simp only [sm] at *
 all_goals (try rw [qr (by omega) (by omega)] at *)
 all_goals first
  | exact ⟨hl⟩
  | exact ⟨⟨by omega,by omega⟩⟩
  | (simp only [Kk,zw];rw [if_pos (by omega)];done)
  | (subst hg;simp only [Kk,zw];rw [if_neg (by omega)];done)
  | (subst hg;simp only [Kk,zw];rw [if_neg (by omega)];unfold szL at *;split<;>omega)
theorem Y9 (q:qg){n:Int}(h:0<=n):zw q n<=n:=by
 unfold zw
 split
 . omega
 . have:=qgs q.label (n:=n-q.name.size) (by omega)
   omega
structure Wb (q:qg)(n:Nat):Prop where
 name:q.name.size<=n
 label:q.label.length<=n
theorem qib {q:qg}{n:Int}(h:0<=zw q n):(q.name.size:Int)<=n/\(q.label.length:Int)<=n:=by
 unfold zw szL at h
 split at h
 . omega
 . split at h<;>omega
def qjo (f:qg->Int->Int):Wr:=w2 wi dcI (fun q n=>rI (f q n)) (fun q n=>[Wb q maxLen,qhL n])
theorem qgW:qz Tryz.prog 69 (qjo zw):=qE fun q n h=>qlB q n (h _ (.head _)).name (h _ (.head _)).label (h _ (.tail _ (.head _))).out
def szF {α:Type}(f:α->Int->Int):List α->Int->Int
 | [],n=>n
 | q::r,n=>if f q n<0 then -1 else szF f r (f q n)
theorem qeW {α:Type}{f:α->Int->Int}{l:List α}{i:Nat}{m:Int}(z:α)(h:i<l.length):szF f (l.drop i) m=if f (l.getD i z) m<0 then -1 else szF f (l.drop (i+1)) (f (l.getD i z) m):=by
 rw [List.drop_eq_getElem_cons h,zm h]
 rfl
def kg (l:List qg)(n:Int):Int:=if n<l.length then -1 else szF zw l (n-l.length)
theorem qha (l:List qg)(n:Int)(hs:l.length<=maxLen)(hq:∀ q∈l,Wb q maxLen)(hn:0<=n/\n<=9223372036854775807):qe Tryz.prog 37 [WK l,aI n] (rI (kg l n)):=by
 refine qe.of qc (fn:=Tryz.f37) (c:=Tryz.f37.body.getD .skip) (dr:=fun n=>qa 0 [] n) Tryz.func37 rfl (by kernel_rfl) (by kernel_rfl) (by kernel_rfl) ?_
 unfold maxLen at hs
 obtain ⟨g,hg⟩:∃ g,g=zw:=⟨_,rfl⟩
 have hO:qp Tryz.prog (qM [(69,qjo g)]):=by subst hg;exact qb qgW qd
 refine SEx.go (X:=XX) qc (fun n=>qa [] [(5,[0,1,5])] n) (fun _=>none) hO 60 ?_
 intro M R L N m0 m1 m2 m3 m4 m5
 cases M
 cbv
 repeat' first | refine m1 _ _ ?_ ?_ | refine m2 _ _ fun h=>?_ | refine m3 _ ?_ | (refine m4 _ _ (Hd.out ?_);generalize hks:(List.cons _ _:List K)=ks) | (refine m5 _ _ ?_;cbv)
 all_goals (clear m1 m2 m3 m4 m5;cases m0;try dsimp only)
 all_goals try simp only [sm] at *
 . rw [qr (by omega) (by omega)] at *
   simp only [Kk,kg]
   split<;>omega
 rw [qr (by omega) (by omega)] at *
 have h0:0<=n-l.length:=by assumption
 rw [show kg l n=szF zw (l.drop 0) (n-l.length) by unfold kg;rw [if_neg (by omega)];rfl]
 refine ⟨SEx.same (SEx.ind (fun x:Nat×Int=>⟨27,[(0,bL (.node false none l)),(1,.v (false,[.fz (.int .i64 x.2)])),(5,bI x.1)],[]⟩) (fun x=>rI (szF zw (l.drop x.1) x.2)) (fun x=>x.1<=l.length/\0<=x.2/\x.2<=n) (fun x=>l.length-x.1) (0,n-l.length) ⟨by omega,h0,by omega⟩ ?_) rfl rfl⟩
 rintro ⟨i,m⟩ ⟨hi,hm1,hm2⟩ ih
 dsimp only at hi hm1 hm2 ih ⊢
 rw [<-hks]
 refine SEx.go (X:=XX) qc (fun n=>qa [] [(5,[0,1,5])] n) (fun _=>none) hO 60 ?_
 intro M R L N m0 m1 m2 m3 m4 m5
 cases M
 cbv
 repeat' first | refine m1 _ _ ?_ ?_ | refine m2 _ _ fun h=>?_ | refine m3 _ ?_ | (refine m4 _ _ (Hd.out ?_);try first | rw [hks] | rw [hk2] | rw [hk3]) | (refine m5 _ _ ?_;cbv)
 all_goals (clear m1 m2 m3 m4 m5;cases m0;(try clear hks;try clear hk2;try clear hk3);try dsimp only)
 all_goals try simp only [sm] at *
 all_goals first
  | omega
  | exact hq _ (qo (z:=qg.z) (by omega)).out
  | exact ⟨⟨hm1,by omega⟩⟩
  | (subst hg
     have hi':i<l.length:=by omega
     rw [qeW qg.z hi',if_pos (by assumption)]
     rfl)
  | (subst hg
     have hi':i<l.length:=by omega
     have h2:0<=zw (l.getD i qg.z) m:=by assumption
     have h3:=Y9 (l.getD i qg.z) hm1
     simp only [qh (show i<9223372036854775807 by omega)]
     exact ⟨(ih (i+1,zw (l.getD i qg.z) m) ⟨by show i+1<=l.length;omega,h2,by show zw _ m<=n;omega⟩ (by show l.length-(i+1)<_;omega)).same rfl (by rw [qeW qg.z hi',if_neg (by omega)])⟩)
  | (obtain rfl:i=l.length:=by omega
     rw [List.drop_length]
     rfl)
  | trace_state
theorem qkL (q:qg)(hl:q.label.length<=1048576):qe Tryz.prog 74 [wO q] (qqx q):=by
 refine qe.of qc (fn:=Tryz.f74) (c:=Tryz.f74.body.getD .skip) (dr:=fun n=>qa 0 [] n) Tryz.func74 rfl (by kernel_rfl) (by kernel_rfl) (by kernel_rfl) ?_
 have hO:qp Tryz.prog (qM [(23,qbN)]):=qb yH qd
 obtain ⟨x1,x2,x3⟩:=q
 have hl:x2.length<=1048576:=hl
 refine SEx.go (X:=XX) qc (fun n=>qa [] [] n) (fun _=>none) hO 60 ?_
 intro M R L N m0 m1 m2 m3 m4 m5
 cases M
 cbv
 repeat' first | refine m1 _ _ ?_ ?_ | refine m2 _ _ fun h=>?_ | refine m3 _ ?_ | (refine m4 _ _ (Hd.out ?_);try first | rw [hks] | rw [hk2] | rw [hk3]) | (refine m5 _ _ ?_;cbv)
 all_goals (clear m1 m2 m3 m4 m5;cases m0;(try clear hks;try clear hk2;try clear hk3);try dsimp only)
 all_goals try simp only [sm] at *
 all_goals first
  | rfl
  | exact ⟨hl⟩
theorem qku (q:qg)(hl:q.label.length<=maxLen):qe Tryz.prog 82 [wO q,wO q] (rB true):=by
 refine qe.of qc (fn:=Tryz.f82) (c:=Tryz.f82.body.getD .skip) (dr:=fun n=>qa 0 [] n) Tryz.func82 rfl (by kernel_rfl) (by kernel_rfl) (by kernel_rfl) ?_
 have hO:qp Tryz.prog (qM [(25,VO)]):=qb wm qd
 obtain ⟨x1,x2,x3⟩:=q
 have hl:x2.length<=maxLen:=hl
 refine SEx.go (X:=XX) qc (fun n=>qa [] [] n) (fun _=>none) hO 60 ?_
 intro M R L N m0 m1 m2 m3 m4 m5
 cases M
 cbv
 repeat' first | refine m1 _ _ ?_ ?_ | refine m2 _ _ fun h=>?_ | refine m3 _ ?_ | (refine m4 _ _ (Hd.out ?_);try first | rw [hks] | rw [hk2] | rw [hk3]) | (refine m5 _ _ ?_;cbv)
 all_goals (clear m1 m2 m3 m4 m5;cases m0;(try clear hks;try clear hk2;try clear hk3);try dsimp only)
 all_goals try simp only [sm] at *
 all_goals first
  | exact absurd trivial (by assumption)
  | rfl
  | exact ⟨rfl⟩
  | exact ⟨hl⟩
  | (exfalso;simp_all;done)
structure qqh (q:qg)(n:Nat):Prop where out:q.label.length<=n
def qiX:Wr:=w1 wi qqx (fun q=>[qqh q 1048576])
theorem qhg:qz Tryz.prog 74 qiX:=zx fun q h=>qkL q (h _ (.head _)).out
def qjk:Wr:=w2 wi wi (fun _ _=>rB true) (fun q r=>[WQ q r,qqh q maxLen])
theorem qgg:qz Tryz.prog 82 qjk:=qE fun q r h=>by
 obtain rfl:=(h _ (.head _)).out
 exact qku q (h _ (.tail _ (.head _))).out
theorem qkd {fl:List qg}{i:Nat}(h:i<fl.length)(s:ByteArray)(lab:List Int)(w:Int) :
 wq qg.z ((fl.set i ⟨s,(fl.getD i qg.z).2,(fl.getD i qg.z).3⟩).set i ⟨((fl.set i ⟨s,(fl.getD i qg.z).2,(fl.getD i qg.z).3⟩).getD i qg.z).1,lab,((fl.set i ⟨s,(fl.getD i qg.z).2,(fl.getD i qg.z).3⟩).getD i qg.z).3⟩) i (fun q=>⟨q.name,q.label,w⟩)=fl.set i ⟨s,lab,w⟩:=by
 simp [wq,List.getD_eq_getElem?_getD,h]
theorem qhn (l:List qg)(hs:l.length<=1048576)(hl:∀ q∈l,q.label.length<=1048576):qe Tryz.prog 44 [WK l] (qhB l):=by
 refine qe.of qc (fn:=Tryz.f44) (c:=Tryz.f44.body.getD .skip) (dr:=fun n=>qa 0 [] n) Tryz.func44 rfl (by kernel_rfl) (by kernel_rfl) (by kernel_rfl) ?_
 have hO:qp Tryz.prog (qM [(74,qiX)]):=qb qhg qd
 refine SEx.go (X:=XX) qc (fun n=>qa [] [(3,[0,3,4])] n) (fun _=>none) hO 60 ?_
 intro M R L N m0 m1 m2 m3 m4 m5
 cases M
 cbv
 repeat' first | refine m1 _ _ ?_ ?_ | refine m2 _ _ fun h=>?_ | refine m3 _ ?_ | (refine m4 _ _ (Hd.out ?_);generalize hks:(List.cons _ _:List K)=ks) | (refine m5 _ _ ?_;cbv)
 all_goals (clear m1 m2 m3 m4 m5;cases m0;try dsimp only)
 all_goals try simp only [sm] at *
 . have:=zz;omega
 generalize hn:l.length=n at *
 refine ⟨SEx.same (SEx.idx n (fun i:Nat=>⟨23,[(0,bL (.node false none l)),(3,bR 12288 n),(4,bI i)],[(12288,.osl (.node true none (ZF ⟨⟨#[]⟩,[],0⟩ l n i)))]⟩) (fun _=>qhB l) ?_) rfl rfl⟩
 intro i hi ih
 rw [<-hks]
 obtain ⟨fl,hfl⟩:∃ x,x=ZF (⟨⟨#[]⟩,[],0⟩:qg) l n i:=⟨_,rfl⟩
 have hf:=WH (z:=(⟨⟨#[]⟩,[],0⟩:qg)) hn hi
 rw [<-hfl] at hf ⊢
 refine SEx.go (X:=XX) qc (fun n=>qa [] [(3,[0,3,4])] n) (fun _=>none) hO 60 ?_
 intro M R L N m0 m1 m2 m3 m4 m5
 cases M
 cbv
 repeat' first | refine m1 _ _ ?_ ?_ | refine m2 _ _ fun h=>?_ | refine m3 _ ?_ | (refine m4 _ _ (Hd.out ?_);try first | rw [hks] | rw [hk2] | rw [hk3]) | (refine m5 _ _ ?_;cbv)
 all_goals (clear m1 m2 m3 m4 m5;cases m0;(try clear hks;try clear hk2;try clear hk3);try dsimp only)
 all_goals try simp only [sm] at *
 all_goals (try simp only [List.length_set,Zd])
 all_goals (try omega)
 . exact ⟨hl _ (qo (z:=qg.z) (by omega)).out⟩
 . simp only [qh (show i<9223372036854775807 by omega)]
   have e:=wc (z:=(⟨⟨#[]⟩,[],0⟩:qg)) (d:=qg.z) hn (show i<n by omega)
   have ih':=ih (by omega)
   rw [<-e,<-hfl] at ih'
   refine ⟨ih'.same ?_ rfl⟩
   rw [qkd (by omega)]
   rfl
 . obtain rfl:i=n:=by omega
   rw [hfl,Ww hn];rfl
theorem qgb (l:List qg)(hs:l.length<=maxLen)(hl:∀ q∈l,q.label.length<=maxLen):qe Tryz.prog 48 [WK l,WK l] (rB true):=by
 refine qe.of qc (fn:=Tryz.f48) (c:=Tryz.f48.body.getD .skip) (dr:=fun n=>qa 0 [(6,8)] n) Tryz.func48 rfl (by kernel_rfl) (by kernel_rfl) (by kernel_rfl) ?_
 unfold maxLen at hs
 have hO:qp Tryz.prog (qM [(82,qjk)]):=qb qgg qd
 refine SEx.go (X:=XX) qc (fun n=>qa [] [(4,[0,1,5])] n) (fun _=>none) hO 60 ?_
 intro M R L N m0 m1 m2 m3 m4 m5
 cases M
 cbv
 repeat' first | refine m1 _ _ ?_ ?_ | refine m2 _ _ fun h=>?_ | refine m3 _ ?_ | (refine m4 _ _ (Hd.out ?_);generalize hks:(List.cons _ _:List K)=ks) | (refine m5 _ _ ?_;cbv)
 all_goals (clear m1 m2 m3 m4 m5;cases m0;try dsimp only)
 all_goals try simp only [sm] at *
 . exact absurd trivial (by assumption)
 generalize hn:l.length=n at *
 refine ⟨SEx.same (SEx.idx n (fun i:Nat=>⟨27,[(0,bL (.node false none l)),(1,bL (.node false none l)),(5,bI i)],[]⟩) (fun _=>rB true) ?_) rfl rfl⟩
 intro i hi ih
 rw [<-hks]
 refine SEx.go (X:=XX) qc (fun n=>qa [] [(4,[0,1,5])] n) (fun _=>none) hO 60 ?_
 intro M R L N m0 m1 m2 m3 m4 m5
 cases M
 cbv
 repeat' first | refine m1 _ _ ?_ ?_ | refine m2 _ _ fun h=>?_ | refine m3 _ ?_ | (refine m4 _ _ (Hd.out ?_);try first | rw [hks] | rw [hk2] | rw [hk3]) | (refine m5 _ _ ?_;cbv)
 all_goals (clear m1 m2 m3 m4 m5;cases m0;(try clear hks;try clear hk2;try clear hk3);try dsimp only)
 all_goals try simp only [sm] at *
 all_goals first
  | omega
  | exact absurd trivial (by assumption)
  | rfl
  | exact ⟨rfl⟩
  | contradiction
  | exact ⟨hl _ (qo (z:=qg.z) (by omega)).out⟩
  | (simp only [qh (show i<9223372036854775807 by omega)];exact ⟨ih (by omega)⟩)
structure WN (l:List qg)(n:Nat):Prop where out:∀ q∈l,q.label.length<=n
structure qiQ (l:List qg)(n:Nat):Prop where out:∀ q∈l,Wb q n
def qew (f:List qg->Int->Int):Wr:=w2 vF dcI (fun l n=>rI (f l n)) (fun l n=>[LLe l maxLen,qiQ l maxLen,qhL n])
theorem qem:qz Tryz.prog 37 (qew kg):=qE fun l n h=>qha l n (h _ (.head _)).out (h _ (.tail _ (.head _))).out (h _ (.tail _ (.tail _ (.head _)))).out
def qeY:Wr:=w1 vF qhB (fun l=>[LLe l 1048576,WN l 1048576])
theorem qdC:qz Tryz.prog 44 qeY:=zx fun l h=>qhn l (h _ (.head _)).out (h _ (.tail _ (.head _))).out
def qeB:Wr:=w2 vF vF (fun _ _=>rB true) (fun l m=>[WQ l m,LLe l maxLen,WN l maxLen])
theorem qe7:qz Tryz.prog 48 qeB:=qE fun l m h=>by
 obtain rfl:=(h _ (.head _)).out
 exact qgb l (h _ (.tail _ (.head _))).out (h _ (.tail _ (.tail _ (.head _)))).out
end Go.Proofs.YtececadpjelanaaGreat.Ai
namespace Go.Proofs.YtececadpjelanaaGreat.Ai
open Go
set_option maxRecDepth 100000
variable [qi]
def jH (t:qm)(n:Int):Int:=if kg t.nodes n<0 then -1 else if szL t.ties (kg t.nodes n)<0 then -1 else szL t.ties (kg t.nodes n)
def jD (t:qf)(n:Int):Int:=if szL t.times n<0 then -1 else if szL t.vals (szL t.times n)<0 then -1 else szL t.vals (szL t.times n)
theorem qnv:∀ (l:List qg) (n:Int),0<=n->szF zw l n<=n/\(0<=szF zw l n->∀ q∈l,(q.name.size:Int)<=n/\(q.label.length:Int)<=n)
 | [],n,h=>⟨Int.le_refl _,fun _ q hq=>by cases hq⟩
 | q::r,n,h=>by
   have h0:=Y9 q h
   unfold szF
   by_cases hn:zw q n<0
   . rw [if_pos hn];exact ⟨by omega,fun h=>by omega⟩
   . rw [if_neg hn]
     have ih:=qnv r (zw q n) (by omega)
     refine ⟨by omega,fun h1 x hx=>?_⟩
     rcases List.mem_cons.1 hx with rfl | hx
     . exact qib (by omega)
     . have:=ih.2 h1 x hx;omega
theorem WZ {l:List qg}{n:Int}(h:0<=n):kg l n<=n/\(0<=kg l n->(l.length:Int)<=n/\∀ q∈l,(q.name.size:Int)<=n/\(q.label.length:Int)<=n):=by
 unfold kg
 split
 . exact ⟨by omega,fun h=>by omega⟩
 . have:=qnv l (n-l.length) (by omega)
   refine ⟨by omega,fun h1=>⟨by omega,fun q hq=>?_⟩⟩
   have:=this.2 h1 q hq
   omega
theorem qka (t:qm)(n:Int)(h1:t.nodes.length<=maxLen)(h2:t.ties.length<=maxLen)(h3:∀ q∈t.nodes,Wb q maxLen)(hn:0<=n/\n<=9223372036854775807):qe Tryz.prog 9 [qQ t,aI n] (rI (jH t n)):=by
 refine qe.of qc (fn:=Tryz.f9) (c:=Tryz.f9.body.getD .skip) (dr:=fun n=>qa 0 [] n) Tryz.func9 rfl (by kernel_rfl) (by kernel_rfl) (by kernel_rfl) ?_
 obtain ⟨f,hf⟩:∃ f,f=kg:=⟨_,rfl⟩
 obtain ⟨g,hg⟩:∃ g:List Tie->Int->Int,g=szL:=⟨_,rfl⟩
 have hO:qp Tryz.prog (qM [(37,qew f),(38,qiq g)]):=by subst hf hg;exact qb qem (qb qga qd)
 obtain ⟨cs,ps,hr⟩:=t
 have h1:cs.length<=maxLen:=h1
 have h2:ps.length<=maxLen:=h2
 have h3:∀ q∈cs,Wb q maxLen:=h3
 have h4:f cs n<=n:=by rw [hf];exact (WZ hn.1).1
 refine SEx.go (X:=XX) qc (fun n=>qa [] [] n) (fun _=>none) hO 60 ?_
 intro M R L N m0 m1 m2 m3 m4 m5
 cases M
 cbv
 repeat' first | refine m1 _ _ ?_ ?_ | refine m2 _ _ fun h=>?_ | refine m3 _ ?_ | (refine m4 _ _ (Hd.out ?_);try first | rw [hks] | rw [hk2] | rw [hk3]) | (refine m5 _ _ ?_;cbv)
 all_goals (clear m1 m2 m3 m4 m5;cases m0;(try clear hks;try clear hk2;try clear hk3);try dsimp only)
 all_goals try simp only [sm] at *
 all_goals first
  | exact ⟨h1⟩
  | exact ⟨h2⟩
  | exact ⟨h3⟩
  | exact ⟨hn⟩
  | exact ⟨⟨by omega,by omega⟩⟩
  | (subst hf hg;simp only [Kk,jH];rw [if_pos (by assumption)];done)
  | (subst hf hg;simp only [Kk,jH];rw [if_neg (by omega),if_pos (by assumption)];done)
  | (subst hf hg;simp only [Kk,jH];rw [if_neg (by omega),if_neg (by omega)];done)
  | trace_state
theorem qhH (t:qf)(n:Int)(h1:t.times.length<=maxLen)(h2:t.vals.length<=maxLen)(hn:0<=n/\n<=9223372036854775807):qe Tryz.prog 10 [qI t,aI n] (rI (jD t n)):=by
 refine qe.of qc (fn:=Tryz.f10) (c:=Tryz.f10.body.getD .skip) (dr:=fun n=>qa 0 [] n) Tryz.func10 rfl (by kernel_rfl) (by kernel_rfl) (by kernel_rfl) ?_
 obtain ⟨g,hg⟩:∃ g:List Int->Int->Int,g=szL:=⟨_,rfl⟩
 have hO:qp Tryz.prog (qM [(39,YZ g)]):=by subst hg;exact qb Vq qd
 obtain ⟨nw,cs,ps⟩:=t
 have h1:cs.length<=maxLen:=h1
 have h2:ps.length<=maxLen:=h2
 have h4:g cs n<=n:=by rw [hg];exact qgs _ hn.1
 refine SEx.go (X:=XX) qc (fun n=>qa [] [] n) (fun _=>none) hO 60 ?_
 intro M R L N m0 m1 m2 m3 m4 m5
 cases M
 cbv
 repeat' first | refine m1 _ _ ?_ ?_ | refine m2 _ _ fun h=>?_ | refine m3 _ ?_ | (refine m4 _ _ (Hd.out ?_);try first | rw [hks] | rw [hk2] | rw [hk3]) | (refine m5 _ _ ?_;cbv)
 all_goals (clear m1 m2 m3 m4 m5;cases m0;(try clear hks;try clear hk2;try clear hk3);try dsimp only)
 all_goals try simp only [sm] at *
 all_goals first
  | exact ⟨h1⟩
  | exact ⟨h2⟩
  | exact ⟨hn⟩
  | exact ⟨⟨by omega,by omega⟩⟩
  | (subst hg;simp only [Kk,jD];rw [if_pos (by assumption)];done)
  | (subst hg;simp only [Kk,jD];rw [if_neg (by omega),if_pos (by assumption)];done)
  | (subst hg;simp only [Kk,jD];rw [if_neg (by omega),if_neg (by omega)];done)
  | trace_state
theorem qlT (t:qm)(h1:t.nodes.length<=1048576)(h2:t.ties.length<=1048576)(h3:∀ q∈t.nodes,q.label.length<=1048576):qe Tryz.prog 12 [qQ t] (qqu t):=by
 refine qe.of qc (fn:=Tryz.f12) (c:=Tryz.f12.body.getD .skip) (dr:=fun n=>qa 0 [] n) Tryz.func12 rfl (by kernel_rfl) (by kernel_rfl) (by kernel_rfl) ?_
 have hO:qp Tryz.prog (qM [(44,qeY),(45,qi1)]):=qb qdC (qb qh2 qd)
 obtain ⟨cs,ps,hr⟩:=t
 have h1:cs.length<=1048576:=h1
 have h2:ps.length<=1048576:=h2
 have h3:∀ q∈cs,q.label.length<=1048576:=h3
 refine SEx.go (X:=XX) qc (fun n=>qa [] [] n) (fun n=>qa none qsu n) hO 8 ?_
 intro M R L N m0 m1 m2 m3 m4 m5
 cases M
 cbv
 repeat' first | refine m1 _ _ ?_ ?_ | refine m2 _ _ fun h=>?_ | refine m3 _ ?_ | (refine m4 _ _ (Hd.out ?_);try first | rw [hks] | rw [hk2] | rw [hk3]) | (refine m5 _ _ ?_;cbv)
 all_goals (clear m1 m2 m3 m4 m5;cases m0;(try clear hks;try clear hk2;try clear hk3);try dsimp only)
 all_goals try simp only [sm] at *
 all_goals first
  | exact ⟨h1⟩
  | exact ⟨h2⟩
  | exact ⟨h3⟩
  | rfl
  | trace_state
theorem qhm (t:qf)(h1:t.times.length<=1048576)(h2:t.vals.length<=1048576):qe Tryz.prog 13 [qI t] (kU t):=by
 refine qe.of qc (fn:=Tryz.f13) (c:=Tryz.f13.body.getD .skip) (dr:=fun n=>qa 0 [] n) Tryz.func13 rfl (by kernel_rfl) (by kernel_rfl) (by kernel_rfl) ?_
 have hO:qp Tryz.prog (qM [(23,qbN)]):=qb yH qd
 obtain ⟨nw,cs,ps⟩:=t
 have h1:cs.length<=1048576:=h1
 have h2:ps.length<=1048576:=h2
 refine SEx.go (X:=XX) qc (fun n=>qa [] [] n) (fun n=>qa none qsp n) hO 8 ?_
 intro M R L N m0 m1 m2 m3 m4 m5
 cases M
 cbv
 repeat' first | refine m1 _ _ ?_ ?_ | refine m2 _ _ fun h=>?_ | refine m3 _ ?_ | (refine m4 _ _ (Hd.out ?_);try first | rw [hks] | rw [hk2] | rw [hk3]) | (refine m5 _ _ ?_;cbv)
 all_goals (clear m1 m2 m3 m4 m5;cases m0;(try clear hks;try clear hk2;try clear hk3);try dsimp only)
 all_goals try simp only [sm] at *
 all_goals first
  | exact ⟨h1⟩
  | exact ⟨h2⟩
  | rfl
  | trace_state
theorem qlz (t:qm)(h1:t.nodes.length<=maxLen)(h2:t.ties.length<=maxLen)(h3:∀ q∈t.nodes,q.label.length<=maxLen):qe Tryz.prog 16 [qQ t,qQ t] (rB true):=by
 refine qe.of qc (fn:=Tryz.f16) (c:=Tryz.f16.body.getD .skip) (dr:=fun n=>qa 0 [] n) Tryz.func16 rfl (by kernel_rfl) (by kernel_rfl) (by kernel_rfl) ?_
 have hO:qp Tryz.prog (qM [(48,qeB),(49,qi9)]):=qb qe7 (qb qh1 qd)
 obtain ⟨cs,ps,hr⟩:=t
 have h1:cs.length<=maxLen:=h1
 have h2:ps.length<=maxLen:=h2
 have h3:∀ q∈cs,q.label.length<=maxLen:=h3
 refine SEx.go (X:=XX) qc (fun n=>qa [] [] n) (fun _=>none) hO 60 ?_
 intro M R L N m0 m1 m2 m3 m4 m5
 cases M
 cbv
 repeat' first | refine m1 _ _ ?_ ?_ | refine m2 _ _ fun h=>?_ | refine m3 _ ?_ | (refine m4 _ _ (Hd.out ?_);try first | rw [hks] | rw [hk2] | rw [hk3]) | (refine m5 _ _ ?_;cbv)
 all_goals (clear m1 m2 m3 m4 m5;cases m0;(try clear hks;try clear hk2;try clear hk3);try dsimp only)
 all_goals try simp only [sm] at *
 all_goals first
  | exact ⟨h1⟩
  | exact ⟨h2⟩
  | exact ⟨h3⟩
  | exact ⟨rfl⟩
  | rfl
  | contradiction
  | exact absurd trivial (by assumption)
  | trace_state
theorem qgG (t:qf)(h1:t.times.length<=maxLen)(h2:t.vals.length<=maxLen):qe Tryz.prog 17 [qI t,qI t] (rB true):=by
 refine qe.of qc (fn:=Tryz.f17) (c:=Tryz.f17.body.getD .skip) (dr:=fun n=>qa 0 [] n) Tryz.func17 rfl (by kernel_rfl) (by kernel_rfl) (by kernel_rfl) ?_
 have hO:qp Tryz.prog (qM [(25,VO)]):=qb wm qd
 obtain ⟨nw,cs,ps⟩:=t
 have h1:cs.length<=maxLen:=h1
 have h2:ps.length<=maxLen:=h2
 refine SEx.go (X:=XX) qc (fun n=>qa [] [] n) (fun _=>none) hO 60 ?_
 intro M R L N m0 m1 m2 m3 m4 m5
 cases M
 cbv
 repeat' first | refine m1 _ _ ?_ ?_ | refine m2 _ _ fun h=>?_ | refine m3 _ ?_ | (refine m4 _ _ (Hd.out ?_);try first | rw [hks] | rw [hk2] | rw [hk3]) | (refine m5 _ _ ?_;cbv)
 all_goals (clear m1 m2 m3 m4 m5;cases m0;(try clear hks;try clear hk2;try clear hk3);try dsimp only)
 all_goals try simp only [sm] at *
 all_goals first
  | exact ⟨h1⟩
  | exact ⟨h2⟩
  | exact ⟨rfl⟩
  | rfl
  | contradiction
  | exact absurd trivial (by assumption)
  | trace_state
def qiN (f:qm->Int->Int):Wr:=w2 qP dcI (fun t n=>rI (f t n)) (fun t n=>[LLe t.nodes maxLen,LLe t.ties maxLen,qiQ t.nodes maxLen,qhL n])
theorem qh3:qz Tryz.prog 9 (qiN jH):=qE fun t n h=>qka t n (h _ (.head _)).out (h _ (.tail _ (.head _))).out (h _ (.tail _ (.tail _ (.head _)))).out (h _ (.tail _ (.tail _ (.tail _ (.head _))))).out
def qeq (f:qf->Int->Int):Wr:=w2 qG dcI (fun t n=>rI (f t n)) (fun t n=>[LLe t.times maxLen,LLe t.vals maxLen,qhL n])
theorem qfF:qz Tryz.prog 10 (qeq jD):=qE fun t n h=>qhH t n (h _ (.head _)).out (h _ (.tail _ (.head _))).out (h _ (.tail _ (.tail _ (.head _)))).out
def qjt:Wr:=w1 qP qqu (fun t=>[LLe t.nodes 1048576,LLe t.ties 1048576,WN t.nodes 1048576])
theorem qh7:qz Tryz.prog 12 qjt:=zx fun t h=>qlT t (h _ (.head _)).out (h _ (.tail _ (.head _))).out (h _ (.tail _ (.tail _ (.head _)))).out
def qd8:Wr:=w1 qG kU (fun t=>[LLe t.times 1048576,LLe t.vals 1048576])
theorem qdT:qz Tryz.prog 13 qd8:=zx fun t h=>qhm t (h _ (.head _)).out (h _ (.tail _ (.head _))).out
def qin:Wr:=w2 qP qP (fun _ _=>rB true) (fun t u=>[WQ t u,LLe t.nodes maxLen,LLe t.ties maxLen,WN t.nodes maxLen])
theorem qij:qz Tryz.prog 16 qin:=qE fun t u h=>by
 obtain rfl:=(h _ (.head _)).out
 exact qlz t (h _ (.tail _ (.head _))).out (h _ (.tail _ (.tail _ (.head _)))).out (h _ (.tail _ (.tail _ (.tail _ (.head _))))).out
def qeV:Wr:=w2 qG qG (fun _ _=>rB true) (fun t u=>[WQ t u,LLe t.times maxLen,LLe t.vals maxLen])
theorem qeo:qz Tryz.prog 17 qeV:=qE fun t u h=>by
 obtain rfl:=(h _ (.head _)).out
 exact qgG t (h _ (.tail _ (.head _))).out (h _ (.tail _ (.tail _ (.head _)))).out
theorem qla {t:qm}{n:Int}(h0:0<=n)(h:0<=jH t n):(t.nodes.length:Int)<=n/\(t.ties.length:Int)<=n/\(∀ q∈t.nodes,(q.name.size:Int)<=n/\(q.label.length:Int)<=n)/\jH t n<=n:=by
 unfold jH at h ⊢
 have h1:=WZ (l:=t.nodes) h0
 split at h
 . omega
 . rename_i ha
   rw [if_neg ha]
   split at h
   . omega
   . rename_i hb
     rw [if_neg hb]
     have h2:=h1.2 (by omega)
     have h3:=qgs t.ties (n:=kg t.nodes n) (by omega)
     refine ⟨h2.1,?_,h2.2,by omega⟩
     unfold szL at hb
     split at hb<;>omega
theorem qhl {t:qf}{n:Int}(h0:0<=n)(h:0<=jD t n):(t.times.length:Int)<=n/\(t.vals.length:Int)<=n:=by
 unfold jD at h
 split at h
 . omega
 . rename_i ha
   split at h
   . omega
   . rename_i hb
     unfold szL at ha hb
     constructor
     . split at ha<;>omega
     . split at hb
       . omega
       . split at ha<;>split at hb<;>omega
end Go.Proofs.YtececadpjelanaaGreat.Ai
namespace Go.Proofs.YtececadpjelanaaGreat.Ai
open Go
set_option maxRecDepth 100000
variable [qi]
def Vy (p:Nat->Bool)(n:Nat):Bool:=(List.range n).all p
theorem qiA {p:Nat->Bool}{n i:Nat}(hi:i<n)(h:p i=false):Vy p n=false:=by
 unfold Vy
 rw [List.all_eq_false]
 exact ⟨i,List.mem_range.2 hi,by rw [h];simp⟩
theorem ZC {p:Nat->Bool}{n:Nat}(h:∀ j,j<n->p j=true):Vy p n=true:=by
 unfold Vy
 rw [List.all_eq_true]
 exact fun j hj=>h j (List.mem_range.1 hj)
theorem Jg {p:Nat->Bool}{n:Nat}(h:Vy p n=true):∀ j,j<n->p j=true:=by
 unfold Vy at h
 rw [List.all_eq_true] at h
 exact fun j hj=>h j (List.mem_range.2 hj)
structure IIn (n:Int):Prop where out:inI n
def zG (n:Int):Int:=if n<0 then IntKind.i64.wrap (-n) else n
theorem qm0 {n:Int}(h:inI n):IntKind.i64.wrap (-n)=if n=-9223372036854775808 then n else -n:=by
 rw [je] at h
 split
 . rename_i e;subst e;decide
 . exact qr (by omega) (by omega)
theorem qex (n:Int):qe Tryz.prog 132 [aI n] (rI (zG n)):=by
 refine qe.of qc (fn:=Tryz.f132) (c:=Tryz.f132.body.getD .skip) (dr:=fun n=>qa 0 [] n) Tryz.func132 rfl (by kernel_rfl) (by kernel_rfl) (by kernel_rfl) ?_
 refine SEx.go (X:=XX) qc (fun n=>qa [] [] n) (fun _=>none) qd 60 ?_
 intro M R L N m0 m1 m2 m3 m4 m5
 cases M
 cbv
 repeat' first | refine m1 _ _ ?_ ?_ | refine m2 _ _ fun h=>?_ | refine m3 _ ?_ | (refine m4 _ _ (Hd.out ?_);try first | rw [hks] | rw [hk2] | rw [hk3]) | (refine m5 _ _ ?_;cbv)
 all_goals (clear m1 m2 m3 m4 m5;cases m0;(try clear hks;try clear hk2;try clear hk3);try dsimp only)
 all_goals try simp only [sm] at *
 . simp only [Kk,zG];rw [if_pos (by assumption),Int.zero_sub]
 . simp only [Kk,zG];rw [if_neg (by omega)]
theorem qeC (n:Int)(h:inI n):qe Tryz.prog 142 [aI n] (rI (zG n)):=by
 refine qe.of qc (fn:=Tryz.f142) (c:=Tryz.f142.body.getD .skip) (dr:=fun n=>qa 0 [] n) Tryz.func142 rfl (by kernel_rfl) (by kernel_rfl) (by kernel_rfl) ?_
 refine SEx.go (X:=XX) qc (fun n=>qa [] [] n) (fun _=>none) qd 60 ?_
 intro M R L N m0 m1 m2 m3 m4 m5
 cases M
 cbv
 repeat' first | refine m1 _ _ ?_ ?_ | refine m2 _ _ fun h=>?_ | refine m3 _ ?_ | (refine m4 _ _ (Hd.out ?_);try first | rw [hks] | rw [hk2] | rw [hk3]) | (refine m5 _ _ ?_;cbv)
 all_goals (clear m1 m2 m3 m4 m5;cases m0;(try clear hks;try clear hk2;try clear hk3);try dsimp only)
 all_goals try simp only [sm] at *
 all_goals simp only [Kk,zG,Int.zero_sub]
 all_goals rw [qm0 h]
 all_goals rw [je] at h
 all_goals (split<;>split<;>(try split at *)<;>omega)
def WX (f:Int->Int):Wr:=w1 dcI (fun n=>rI (f n)) (fun n=>[IIn n])
theorem Wo:qz Tryz.prog 132 (WX zG):=zx fun n _=>qex n
theorem WO:qz Tryz.prog 142 (WX zG):=zx fun n h=>qeC n (h _ (.head _)).out
def lP (l:List Int)(i:Nat):Bool:=decide (¬l.getD i 0=0/\-3<=l.getD i 0/\l.getD i 0<=3/\(0<i->zG (l.getD (i-1) 0)<zG (l.getD i 0)))
def qW (l:List Int):Bool:=Vy (lP l) l.length
theorem Yl (l:List Int)(h1:l.length<=maxLen)(hx:∀ n∈l,inI n):qe Tryz.prog 169 [aIs l] (rB (qW l)):=by
 refine qe.of qc (fn:=Tryz.f169) (c:=Tryz.f169.body.getD .skip) (dr:=fun n=>qa 0 [] n) Tryz.func169 rfl (by kernel_rfl) (by kernel_rfl) (by kernel_rfl) ?_
 obtain ⟨m,hm⟩:∃ m,m=l.length:=⟨_,rfl⟩
 obtain ⟨r,hr⟩:∃ r,r=qW l:=⟨_,rfl⟩
 obtain ⟨f,hf⟩:∃ f,f=zG:=⟨_,rfl⟩
 have hO:qp Tryz.prog (qM [(142,WX f)]):=by subst hf;exact qb WO qd
 unfold maxLen at h1
 rw [<-hr]
 refine SEx.go (X:=XX) qc (fun n=>qa [] [(2,[0,5,6,7])] n) (fun _=>none) hO 60 ?_
 intro M R L N m0 m1 m2 m3 m4 m5
 cases M
 cbv
 repeat' first | refine m1 _ _ ?_ ?_ | refine m2 _ _ fun h=>?_ | refine m3 _ ?_ | (refine m4 _ _ (Hd.out ?_);generalize hks:(List.cons _ _:List K)=ks) | (refine m5 _ _ ?_;cbv)
 all_goals (clear m1 m2 m3 m4 m5;cases m0;try dsimp only)
 all_goals try simp only [sm] at *
 refine ⟨SEx.same (SEx.ind (α:=Nat) (fun i=>⟨38,[(0,bL (.i l)),(5,bL (.i l)),(6,bI m),(7,bI i)],[]⟩) (fun _=>rB r) (fun i=>i<=m/\∀ j,j<i->lP l j=true) (fun i=>m-i) 0 ⟨by omega,fun j h=>by omega⟩ ?_) (by rw [hm];rfl) rfl⟩
 rintro i ⟨hi,hj⟩ ih
 rw [<-hks]
 have hw:0<(i:Int)->IntKind.i64.wrap ((i:Int)-1)=((i-1:Nat):Int):=fun h=>by rw [qr (by omega) (by omega)];omega
 have hbad:i<l.length->lP l i=false->r=false:=fun h h2=>by rw [hr,qW,qiA h h2]
 have hgo:∀ (h:i<m) (h2:lP l i=true),i+1<=m/\∀ j,j<i+1->lP l j=true:=fun h h2=>⟨h,fun j hj'=>by
  by_cases e:j=i
  . rw [e];exact h2
  . exact hj j (by omega)⟩
 refine SEx.go (X:=XX) qc (fun n=>qa [] [(2,[0,5,6,7])] n) (fun _=>none) hO 60 ?_
 intro M R L N m0 m1 m2 m3 m4 m5
 cases M
 cbv
 repeat' first | refine m1 _ _ ?_ ?_ | refine m2 _ _ fun h=>?_ | refine m3 _ ?_ | (refine m4 _ _ (Hd.out ?_);try first | rw [hks] | rw [hk2] | rw [hk3]) | (refine m5 _ _ ?_;cbv)
 all_goals (clear m1 m2 m3 m4 m5;cases m0;(try clear hks;try clear hk2;try clear hk3);try dsimp only)
 all_goals try simp only [sm] at *
 all_goals (try rw [hw (by omega)] at *)
 all_goals (try simp only [Int.toNat_natCast] at *)
 all_goals (clear hO;subst hf)
 all_goals first
  | omega
  | exact ⟨hx _ (qo (z:=(0:Int)) (by omega)).out⟩
  | (have hb:=hbad (by omega) (decide_eq_false (by rintro ⟨h1,h2,h3,h4⟩;first | contradiction | omega | (have:=h4 (by omega);omega)))
     rw [hb];rfl)
  | (have hp:lP l i=true:=decide_eq_true ⟨by assumption,by assumption,by assumption,fun h=>by first | assumption | (exfalso;omega)⟩
     simp only [qh (show i<9223372036854775807 by omega)]
     exact ⟨(ih (i+1) (hgo (by omega) hp) (by omega)).same rfl rfl⟩)
  | (have hee:i=m:=by omega
     subst hee
     rw [hr,qW,ZC (by rw [<-hm];exact hj)];rfl)
theorem YC (l:List Int)(h1:l.length<=maxLen)(hx:∀ n∈l,inI n):qe Tryz.prog 165 [aIs l] (rB (qW l)):=by
 refine qe.of qc (fn:=Tryz.f165) (c:=Tryz.f165.body.getD .skip) (dr:=fun n=>qa 0 [] n) Tryz.func165 rfl (by kernel_rfl) (by kernel_rfl) (by kernel_rfl) ?_
 obtain ⟨m,hm⟩:∃ m,m=l.length:=⟨_,rfl⟩
 obtain ⟨r,hr⟩:∃ r,r=qW l:=⟨_,rfl⟩
 obtain ⟨f0,hf0⟩:∃ f,f=z8:=⟨_,rfl⟩
 obtain ⟨f,hf⟩:∃ f,f=zG:=⟨_,rfl⟩
 have hO:qp Tryz.prog (qM [(70,Ye f0),(132,WX f)]):=by subst hf hf0;exact qb j8 (qb Wo qd)
 unfold maxLen at h1
 rw [<-hr]
 refine SEx.go (X:=XX) qc (fun n=>qa [] [(2,[0,5,6,7])] n) (fun _=>none) hO 60 ?_
 intro M R L N m0 m1 m2 m3 m4 m5
 cases M
 cbv
 repeat' first | refine m1 _ _ ?_ ?_ | refine m2 _ _ fun h=>?_ | refine m3 _ ?_ | (refine m4 _ _ (Hd.out ?_);generalize hks:(List.cons _ _:List K)=ks) | (refine m5 _ _ ?_;cbv)
 all_goals (clear m1 m2 m3 m4 m5;cases m0;try dsimp only)
 all_goals try simp only [sm] at *
 refine ⟨SEx.same (SEx.ind (α:=Nat) (fun i=>⟨35,[(0,bL (.i l)),(5,bL (.i l)),(6,bI m),(7,bI i)],[]⟩) (fun _=>rB r) (fun i=>i<=m/\∀ j,j<i->lP l j=true) (fun i=>m-i) 0 ⟨by omega,fun j h=>by omega⟩ ?_) (by rw [hm];rfl) rfl⟩
 rintro i ⟨hi,hj⟩ ih
 rw [<-hks]
 have hw:0<(i:Int)->IntKind.i64.wrap ((i:Int)-1)=((i-1:Nat):Int):=fun h=>by rw [qr (by omega) (by omega)];omega
 have hbad:i<l.length->lP l i=false->r=false:=fun h h2=>by rw [hr,qW,qiA h h2]
 have hgo:∀ (h:i<m) (h2:lP l i=true),i+1<=m/\∀ j,j<i+1->lP l j=true:=fun h h2=>⟨h,fun j hj'=>by
  by_cases e:j=i
  . rw [e];exact h2
  . exact hj j (by omega)⟩
 have hft:f0 (l.getD i 0) (-3) 3=true->-3<=l.getD i 0/\l.getD i 0<=3:=by subst hf0;intro h;simpa [z8] using h
 have hff:f0 (l.getD i 0) (-3) 3=false->¬(-3<=l.getD i 0/\l.getD i 0<=3):=by subst hf0;intro h h2;simp only [z8,decide_eq_true h2.1,decide_eq_true h2.2] at h;cases h
 refine SEx.go (X:=XX) qc (fun n=>qa [] [(2,[0,5,6,7])] n) (fun _=>none) hO 60 ?_
 intro M R L N m0 m1 m2 m3 m4 m5
 cases M
 cbv
 repeat' first | refine m1 _ _ ?_ ?_ | refine m2 _ _ fun h=>?_ | refine m3 _ ?_ | (refine m4 _ _ (Hd.out ?_);try first | rw [hks] | rw [hk2] | rw [hk3]) | (refine m5 _ _ ?_;cbv)
 all_goals (clear m1 m2 m3 m4 m5;cases m0;(try clear hks;try clear hk2;try clear hk3);try dsimp only)
 all_goals try simp only [sm] at *
 all_goals (try (have hA:=hft (by assumption);have hA1:=hA.1;have hA2:=hA.2))
 all_goals (try have hB:=hff (by assumption))
 all_goals (try rw [hw (by omega)] at *)
 all_goals (try simp only [Int.toNat_natCast] at *)
 all_goals (clear hO;subst hf)
 all_goals first
  | omega
  | exact ⟨hx _ (qo (z:=(0:Int)) (by omega)).out⟩
  | (have hb:=hbad (by omega) (decide_eq_false (by rintro ⟨h1,h2,h3,h4⟩;first | contradiction | omega | (have:=h4 (by omega);omega)))
     rw [hb];rfl)
  | (have hp:lP l i=true:=decide_eq_true ⟨by assumption,by assumption,by assumption,fun h=>by first | assumption | (exfalso;omega)⟩
     simp only [qh (show i<9223372036854775807 by omega)]
     exact ⟨(ih (i+1) (hgo (by omega) hp) (by omega)).same rfl rfl⟩)
  | (have hee:i=m:=by omega
     subst hee
     rw [hr,qW,ZC (by rw [<-hm];exact hj)];rfl)
structure Kb (l:List Int):Prop where
 len:l.length<=maxLen
 all:∀ n∈l,inI n
def QX (f:List Int->Bool):Wr:=w1 kA (fun l=>rB (f l)) (fun l=>[Kb l])
theorem wJ:qz Tryz.prog 165 (QX qW):=zx fun l h=>YC l (h _ (.head _)).len (h _ (.head _)).all
theorem Kj:qz Tryz.prog 169 (QX qW):=zx fun l h=>Yl l (h _ (.head _)).len (h _ (.head _)).all
end Go.Proofs.YtececadpjelanaaGreat.Ai
namespace Go.Proofs.YtececadpjelanaaGreat.Ai
open Go
set_option maxRecDepth 100000
variable [qi]
def ZM (l:List Int)(v:Int):Bool:=decide (0<=zV (fun x=>v == x) l 0)
theorem qm9 (l:List Int)(v:Int)(h1:l.length<=maxLen):qe Tryz.prog 143 [aIs l,aI v] (rB (ZM l v)):=by
 refine qe.of qc (fn:=Tryz.f143) (c:=Tryz.f143.body.getD .skip) (dr:=fun n=>qa 0 [] n) Tryz.func143 rfl (by kernel_rfl) (by kernel_rfl) (by kernel_rfl) ?_
 obtain ⟨f,hf⟩:∃ f:List Int->Int->Int,f=fun l v=>zV (fun x=>v == x) l 0:=⟨_,rfl⟩
 have hO:qp Tryz.prog (qM [(170,qja f)]):=by subst hf;exact qb qh5 qd
 refine SEx.go (X:=XX) qc (fun n=>qa [] [] n) (fun _=>none) hO 60 ?_
 intro M R L N m0 m1 m2 m3 m4 m5
 cases M
 cbv
 repeat' first | refine m1 _ _ ?_ ?_ | refine m2 _ _ fun h=>?_ | refine m3 _ ?_ | (refine m4 _ _ (Hd.out ?_);try first | rw [hks] | rw [hk2] | rw [hk3]) | (refine m5 _ _ ?_;cbv)
 all_goals (clear m1 m2 m3 m4 m5;cases m0;(try clear hks;try clear hk2;try clear hk3);try dsimp only)
 all_goals try simp only [sm] at *
 all_goals first
  | exact ⟨h1⟩
  | (subst hf;rfl)
theorem qrh (l:List Int)(v:Int)(h1:l.length<=maxLen):qe Tryz.prog 93 [aIs l,aI v] (rB (ZM l v)):=by
 refine qe.of qc (fn:=Tryz.f93) (c:=Tryz.f93.body.getD .skip) (dr:=fun n=>qa 0 [] n) Tryz.func93 rfl (by kernel_rfl) (by kernel_rfl) (by kernel_rfl) ?_
 unfold maxLen at h1
 obtain ⟨g,hg⟩:∃ g:Nat->Bool,g=fun i=>decide (0<=zV (fun x=>v == x) (l.drop i) i):=⟨_,rfl⟩
 rw [show ZM l v=g 0 by rw [hg];rfl]
 refine SEx.go (X:=XX) qc (fun n=>qa [] [(2,[1,7,8,9])] n) (fun _=>none) qd 60 ?_
 intro M R L N m0 m1 m2 m3 m4 m5
 cases M
 cbv
 repeat' first | refine m1 _ _ ?_ ?_ | refine m2 _ _ fun h=>?_ | refine m3 _ ?_ | (refine m4 _ _ (Hd.out ?_);generalize hks:(List.cons _ _:List K)=ks) | (refine m5 _ _ ?_;cbv)
 all_goals (clear m1 m2 m3 m4 m5;cases m0;try dsimp only)
 all_goals try simp only [sm] at *
 obtain ⟨m,hm⟩:∃ m,m=l.length:=⟨_,rfl⟩
 refine ⟨SEx.same (SEx.idx m (fun i=>⟨17,[(1,bI v),(7,bL (.i l)),(8,bI m),(9,bI i)],[]⟩) (fun i=>rB (g i)) ?_) (by rw [hm];rfl) rfl⟩
 intro i hi ih
 rw [<-hks]
 refine SEx.go (X:=XX) qc (fun n=>qa [] [(2,[1,7,8,9])] n) (fun _=>none) qd 60 ?_
 intro M R L N m0 m1 m2 m3 m4 m5
 cases M
 cbv
 repeat' first | refine m1 _ _ ?_ ?_ | refine m2 _ _ fun h=>?_ | refine m3 _ ?_ | (refine m4 _ _ (Hd.out ?_);try first | rw [hks] | rw [hk2] | rw [hk3]) | (refine m5 _ _ ?_;cbv)
 all_goals (clear m1 m2 m3 m4 m5;cases m0;(try clear hks;try clear hk2;try clear hk3);try dsimp only)
 all_goals try simp only [sm] at *
 all_goals first
  | omega
  | (have hh:l.getD i 0=v:=by assumption
     rw [hg];simp only [jK];rw [Qa (z:=(0:Int)) (by omega) (by rw [hh];simp),decide_eq_true (by omega)])
  | (have hh:¬l.getD i 0=v:=by assumption
     simp only [qh (show i<9223372036854775807 by omega)]
     have e:g i=g (i+1):=by rw [hg];simp only;rw [Zb (z:=(0:Int)) (by omega) (beq_eq_false_iff_ne.2 (fun e=>hh e.symm))]
     exact ⟨(ih (by omega)).same rfl (by rw [e])⟩)
  | (rw [hg];simp only [jK];rw [Qb (by omega)];rfl)
  | trace_state
def qhe (f:List Int->Int->Bool):Wr:=w2 kA dcI (fun l v=>rB (f l v)) (fun l _=>[LLe l maxLen])
theorem YY:qz Tryz.prog 93 (qhe ZM):=qE fun l v h=>qrh l v (h _ (.head _)).out
theorem qeM:qz Tryz.prog 143 (qhe ZM):=qE fun l v h=>qm9 l v (h _ (.head _)).out
def QY (q:qg):Bool:=Qc q.name 0&&qW q.label&&(decide (0<=q.watch)&&decide (q.watch<=3))
theorem qaI (q:qg)(hs:q.name.size<=maxLen)(hl:q.label.length<=maxLen)(hx:∀ n∈q.label,inI n):qe Tryz.prog 130 [wO q] (rB (QY q)):=by
 refine qe.of qc (fn:=Tryz.f130) (c:=Tryz.f130.body.getD .skip) (dr:=fun n=>qa 0 [] n) Tryz.func130 rfl (by kernel_rfl) (by kernel_rfl) (by kernel_rfl) ?_
 obtain ⟨f0,hf0⟩:∃ f,f=z8:=⟨_,rfl⟩
 obtain ⟨f1,hf1⟩:∃ f,f=(Qc · 0):=⟨_,rfl⟩
 obtain ⟨f2,hf2⟩:∃ f,f=qW:=⟨_,rfl⟩
 have hO:qp Tryz.prog (qM [(164,qcz f1),(165,QX f2),(70,Ye f0)]):=by subst hf0 hf1 hf2;exact qb qkB (qb wJ (qb j8 qd))
 obtain ⟨x1,x2,x3⟩:=q
 refine SEx.go (X:=XX) qc (fun n=>qa [] [] n) (fun _=>none) hO 60 ?_
 intro M R L N m0 m1 m2 m3 m4 m5
 cases M
 cbv
 repeat' first | refine m1 _ _ ?_ ?_ | refine m2 _ _ fun h=>?_ | refine m3 _ ?_ | (refine m4 _ _ (Hd.out ?_);try first | rw [hks] | rw [hk2] | rw [hk3]) | (refine m5 _ _ ?_;cbv)
 all_goals (clear m1 m2 m3 m4 m5;cases m0;(try clear hks;try clear hk2;try clear hk3);try dsimp only)
 all_goals try simp only [sm] at *
 all_goals first
  | exact ⟨hs⟩
  | exact ⟨hl,hx⟩
  | (subst hf0 hf1 hf2;simp only [jK,QY];simp_all [z8];done)
  | trace_state
theorem qaF (q:qg)(hs:q.name.size<=maxLen)(hl:q.label.length<=maxLen)(hx:∀ n∈q.label,inI n):qe Tryz.prog 137 [wO q] (rB (QY q)):=by
 refine qe.of qc (fn:=Tryz.f137) (c:=Tryz.f137.body.getD .skip) (dr:=fun n=>qa 0 [] n) Tryz.func137 rfl (by kernel_rfl) (by kernel_rfl) (by kernel_rfl) ?_
 obtain ⟨f1,hf1⟩:∃ f,f=(Qc · 0):=⟨_,rfl⟩
 obtain ⟨f2,hf2⟩:∃ f,f=qW:=⟨_,rfl⟩
 have hO:qp Tryz.prog (qM [(168,qcz f1),(169,QX f2)]):=by subst hf1 hf2;exact qb qj9 (qb Kj qd)
 obtain ⟨x1,x2,x3⟩:=q
 refine SEx.go (X:=XX) qc (fun n=>qa [] [] n) (fun _=>none) hO 60 ?_
 intro M R L N m0 m1 m2 m3 m4 m5
 cases M
 cbv
 repeat' first | refine m1 _ _ ?_ ?_ | refine m2 _ _ fun h=>?_ | refine m3 _ ?_ | (refine m4 _ _ (Hd.out ?_);try first | rw [hks] | rw [hk2] | rw [hk3]) | (refine m5 _ _ ?_;cbv)
 all_goals (clear m1 m2 m3 m4 m5;cases m0;(try clear hks;try clear hk2;try clear hk3);try dsimp only)
 all_goals try simp only [sm] at *
 all_goals first
  | exact ⟨hs⟩
  | exact ⟨hl,hx⟩
  | (subst hf1 hf2;simp only [jK,QY];simp_all;done)
  | (subst hf1 hf2;simp only [jK,QY];rw [decide_eq_false (by omega)];simp;done)
  | trace_state
end Go.Proofs.YtececadpjelanaaGreat.Ai
namespace Go.Proofs.YtececadpjelanaaGreat.Ai
open Go
set_option maxRecDepth 100000
variable [qi]
def vf (x:Int):Bool:=decide (-1<=x)&&decide (x<=1)
def qR (l:List Int):Bool:=qA (fun _ x=>vf x) l 0&&decide (l.length=3)
theorem VB (l:List Int)(h1:l.length<=maxLen):qe Tryz.prog 71 [aIs l] (rB (qR l)):=by
 refine qe.of qc (fn:=Tryz.f71) (c:=Tryz.f71.body.getD .skip) (dr:=fun n=>qa 0 [] n) Tryz.func71 rfl (by kernel_rfl) (by kernel_rfl) (by kernel_rfl) ?_
 unfold maxLen at h1
 obtain ⟨f0,hf0⟩:∃ f,f=z8:=⟨_,rfl⟩
 have hO:qp Tryz.prog (qM [(70,Ye f0)]):=by subst hf0;exact qb j8 qd
 have hv:∀ x,f0 x (-1) 1=vf x:=by intro x;rw [hf0];rfl
 obtain ⟨c,hc⟩:∃ c,c=decide (l.length=3):=⟨_,rfl⟩
 rw [show qR l=(qA (fun _ x=>vf x) (l.drop 0) 0&&c) by rw [hc];rfl]
 clear hf0
 refine SEx.go (X:=XX) qc (fun n=>qa [] [(2,[0,5,6,7])] n) (fun _=>none) hO 60 ?_
 intro M R L N m0 m1 m2 m3 m4 m5
 cases M
 cbv
 repeat' first | refine m1 _ _ ?_ ?_ | refine m2 _ _ fun h=>?_ | refine m3 _ ?_ | (refine m4 _ _ (Hd.out ?_);generalize hks:(List.cons _ _:List K)=ks) | (refine m5 _ _ ?_;cbv)
 all_goals (clear m1 m2 m3 m4 m5;cases m0;try dsimp only)
 all_goals try simp only [sm] at *
 obtain ⟨m,hm⟩:∃ m,m=l.length:=⟨_,rfl⟩
 refine ⟨SEx.same (SEx.idx m (fun i=>⟨18,[(0,bL (.i l)),(5,bL (.i l)),(6,bI m),(7,bI i)],[]⟩) (fun i=>rB (qA (fun _ x=>vf x) (l.drop i) i&&c)) ?_) (by rw [hm];rfl) rfl⟩
 intro i hi ih
 rw [<-hks]
 refine SEx.go (X:=XX) qc (fun n=>qa [] [(2,[0,5,6,7])] n) (fun _=>none) hO 60 ?_
 intro M R L N m0 m1 m2 m3 m4 m5
 cases M
 cbv
 repeat' first | refine m1 _ _ ?_ ?_ | refine m2 _ _ fun h=>?_ | refine m3 _ ?_ | (refine m4 _ _ (Hd.out ?_);try first | rw [hks] | rw [hk2] | rw [hk3]) | (refine m5 _ _ ?_;cbv)
 all_goals (clear m1 m2 m3 m4 m5;cases m0;(try clear hks;try clear hk2;try clear hk3);try dsimp only)
 all_goals try simp only [sm] at *
 all_goals first
  | omega
  | exact qo (z:=(0:Int)) (by omega)
  | exact ⟨rfl⟩
  | exact ⟨by omega⟩
  | (rw [W4 (p:=fun _ x=>vf x) (l:=l) (i:=i) (0:Int) (by omega) (by rw [<-hv];assumption)];rfl)
  | (simp only [qh (show i<9223372036854775807 by omega)];exact ⟨(ih (by omega)).same rfl (by rw [wQ (p:=fun _ x=>vf x) (l:=l) (i:=i) (0:Int) (by omega) (by rw [<-hv];assumption)])⟩)
  | skip
 all_goals first
  | (rw [qN (l:=l) (by omega),hc];simp only [jK,Bool.true_and];apply decide_eq_decide.2;omega)
theorem y6 (n:Int):qe Tryz.prog 145 [aI n] (rB (!vf n)):=by
 refine qe.of qc (fn:=Tryz.f145) (c:=Tryz.f145.body.getD .skip) (dr:=fun n=>qa 0 [] n) Tryz.func145 rfl (by kernel_rfl) (by kernel_rfl) (by kernel_rfl) ?_
 refine SEx.go (X:=XX) qc (fun n=>qa [] [] n) (fun _=>none) qd 60 ?_
 intro M R L N m0 m1 m2 m3 m4 m5
 cases M
 cbv
 repeat' first | refine m1 _ _ ?_ ?_ | refine m2 _ _ fun h=>?_ | refine m3 _ ?_ | (refine m4 _ _ (Hd.out ?_);try first | rw [hks] | rw [hk2] | rw [hk3]) | (refine m5 _ _ ?_;cbv)
 all_goals (clear m1 m2 m3 m4 m5;cases m0;(try clear hks;try clear hk2;try clear hk3);try dsimp only)
 all_goals try simp only [sm] at *
 all_goals simp only [jK,vf]
 all_goals first
  | (rw [decide_eq_false (show ¬-1<=n by omega)];rfl)
  | (rw [decide_eq_true (show -1<=n by omega)];rw [Bool.eq_iff_iff];simp;done)
theorem VE (l:List Int)(h1:l.length<=maxLen):qe Tryz.prog 114 [aIs l] (rB (qR l)):=by
 refine qe.of qc (fn:=Tryz.f114) (c:=Tryz.f114.body.getD .skip) (dr:=fun n=>qa 0 [] n) Tryz.func114 rfl (by kernel_rfl) (by kernel_rfl) (by kernel_rfl) ?_
 obtain ⟨f,hf⟩:∃ f:List Int->Bool,f=fun l=>l.any (fun n=>!vf n):=⟨_,rfl⟩
 have hO:qp Tryz.prog (qM [(111,wCl kA 145 [] (fun l=>rB (f l)) (fun l=>[LLe l maxLen]))]):=by
  subst hf
  exact qb (qbH fun l h=>Z6 l _ _ _ (fun q _=>y6 q) (h _ (.head _)).out) qd
 have ha:qA (fun _ x=>vf x) l 0=!f l:=by
  rw [hf,show (!List.any l fun n=>!vf n)=l.all vf by rw [List.not_any_eq_all_not];simp]
  generalize 0=k
  induction l generalizing k with
  | nil=>rfl
  | cons x r ih=>simp only [qA,List.all_cons];rw [ih (by simp at h1;omega)]
 rw [show qR l=(!f l&&decide (l.length=3)) by unfold qR;rw [ha]]
 clear ha hf
 refine SEx.go (X:=XX) qc (fun n=>qa [] [] n) (fun _=>none) hO 60 ?_
 intro M R L N m0 m1 m2 m3 m4 m5
 cases M
 cbv
 repeat' first | refine m1 _ _ ?_ ?_ | refine m2 _ _ fun h=>?_ | refine m3 _ ?_ | (refine m4 _ _ (Hd.out ?_);try first | rw [hks] | rw [hk2] | rw [hk3]) | (refine m5 _ _ ?_;cbv)
 all_goals (clear m1 m2 m3 m4 m5;cases m0;(try clear hks;try clear hk2;try clear hk3);try dsimp only)
 all_goals try simp only [sm] at *
 all_goals first
  | exact ⟨rfl⟩
  | exact ⟨h1⟩
  | (simp only [jK];rw [decide_eq_true (by omega),Bool.and_true];done)
  | (simp only [jK];rw [decide_eq_false (by omega),Bool.and_false];done)
def ZP (f:List Int->Bool):Wr:=w1 kA (fun l=>rB (f l)) (fun l=>[LLe l maxLen])
theorem qaA:qz Tryz.prog 71 (ZP qR):=zx fun l h=>VB l (h _ (.head _)).out
theorem J0:qz Tryz.prog 114 (ZP qR):=zx fun l h=>VE l (h _ (.head _)).out
theorem qcI (t:qm)(s:ByteArray)(h1:t.nodes.length<=maxLen):qe Tryz.prog 131 [qQ t,aS s] (rI (zV (fun q=>eqS q.name s) t.nodes 0)):=by
 refine qe.of qc (fn:=Tryz.f131) (c:=Tryz.f131.body.getD .skip) (dr:=fun n=>qa 0 [] n) Tryz.func131 rfl (by kernel_rfl) (by kernel_rfl) (by kernel_rfl) ?_
 obtain ⟨cs,ps,hr⟩:=t
 have h1:cs.length<=maxLen:=h1
 unfold maxLen at h1
 show SEx _ _ _ _ _ _ (rI (zV _ cs 0))
 refine SEx.go (X:=XX) qc (fun n=>qa [] [(2,[1,8,9,10])] n) (fun _=>none) qd 60 ?_
 intro M R L N m0 m1 m2 m3 m4 m5
 cases M
 cbv
 repeat' first | refine m1 _ _ ?_ ?_ | refine m2 _ _ fun h=>?_ | refine m3 _ ?_ | (refine m4 _ _ (Hd.out ?_);generalize hks:(List.cons _ _:List K)=ks) | (refine m5 _ _ ?_;cbv)
 all_goals (clear m1 m2 m3 m4 m5;cases m0;try dsimp only)
 all_goals try simp only [sm] at *
 obtain ⟨n,hn⟩:∃ n,n=cs.length:=⟨_,rfl⟩
 refine ⟨SEx.same (SEx.idx n (fun i=>⟨21,[(1,bS s),(8,bL (.node false none cs)),(9,bI n),(10,bI i)],[]⟩) (fun i=>rI (zV (fun q=>eqS q.name s) (cs.drop i) i)) ?_) (by rw [hn];rfl) rfl⟩
 intro i hi ih
 rw [<-hks]
 refine SEx.go (X:=XX) qc (fun n=>qa [] [(2,[1,8,9,10])] n) (fun _=>none) qd 60 ?_
 intro M R L N m0 m1 m2 m3 m4 m5
 cases M
 cbv
 repeat' first | refine m1 _ _ ?_ ?_ | refine m2 _ _ fun h=>?_ | refine m3 _ ?_ | (refine m4 _ _ (Hd.out ?_);try first | rw [hks] | rw [hk2] | rw [hk3]) | (refine m5 _ _ ?_;cbv)
 all_goals (clear m1 m2 m3 m4 m5;cases m0;(try clear hks;try clear hk2;try clear hk3);try dsimp only)
 all_goals try simp only [sm] at *
 all_goals first
  | omega
  | exact ⟨rfl,by cases caps<;>rfl⟩
  | exact ⟨rfl,rfl⟩
  | exact qo (z:=qg.z) (by omega)
  | (rw [Qa (p:=fun q=>eqS q.name s) (l:=cs) (i:=i) qg.z (by omega) (by first | assumption | exact beq_iff_eq.2 (by assumption))];rfl)
  | (rw [Qb (by omega)];rfl)
  | (simp only [qh (show i<9223372036854775807 by omega)];exact ⟨(ih (by omega)).same rfl (by rw [Zb (p:=fun q=>eqS q.name s) (l:=cs) (i:=i) qg.z (by omega) (by first | assumption | exact beq_eq_false_iff_ne.2 (by assumption) | (simp_all;done))])⟩)
def qr9 (k:Nat):Dc (List Int):=⟨fun s=>aF k [.ptr [.sl (.i s)]],fun | (false,[.fn f [.ptr [.sl (.i s)]]])=>(match nq f k with | true=>some s | false=>none) | _=>none,by
 intro x a h
 split at h
 . split at h
   . rename_i hk
     obtain rfl:=QW.1 hk
     simp only [Option.some.injEq] at h;subst h;rfl
   . cases h
 . cases h⟩
def J4 (a b:List Int):Bool:=qW a&&qW b&&b.all (ZM a)
theorem K5 {α:Type}(p:α->Bool):∀ (l:List α) (k:Nat),qA (fun _ x=>p x) l k=l.all p
 | [],_=>rfl
 | a::r,k=>by simp only [qA,List.all_cons,K5 p r]
theorem VC (x:Int)(a:List Int)(h1:a.length<=maxLen):qe Tryz.prog 171 [aI x,(false,[.ptr [.sl (.i a)]])] (rB (!ZM a x)):=by
 refine qe.of qc (fn:=Tryz.f171) (c:=Tryz.f171.body.getD .skip) (dr:=fun n=>qa 0 [] n) Tryz.func171 rfl (by kernel_rfl) (by kernel_rfl) (by kernel_rfl) ?_
 obtain ⟨f,hf⟩:∃ f,f=ZM:=⟨_,rfl⟩
 have hO:qp Tryz.prog (qM [(143,qhe f)]):=by subst hf;exact qb qeM qd
 rw [<-hf]
 refine SEx.go (X:=XX) qc (fun n=>qa [] [] n) (fun _=>none) hO 60 ?_
 intro M R L N m0 m1 m2 m3 m4 m5
 cases M
 cbv
 repeat' first | refine m1 _ _ ?_ ?_ | refine m2 _ _ fun h=>?_ | refine m3 _ ?_ | (refine m4 _ _ (Hd.out ?_);try first | rw [hks] | rw [hk2] | rw [hk3]) | (refine m5 _ _ ?_;cbv)
 all_goals (clear m1 m2 m3 m4 m5;cases m0;(try clear hks;try clear hk2;try clear hk3);try dsimp only)
 all_goals try simp only [sm] at *
 all_goals first
  | exact ⟨h1⟩
  | rfl
theorem Y0 (a b:List Int)(ha:Kb a)(hb:Kb b):qe Tryz.prog 144 [aIs a,aIs b] (rB (J4 a b)):=by
 refine qe.of qc (fn:=Tryz.f144) (c:=Tryz.f144.body.getD .skip) (dr:=fun n=>qa 0 [] n) Tryz.func144 rfl (by kernel_rfl) (by kernel_rfl) (by kernel_rfl) ?_
 obtain ⟨f,hf⟩:∃ f,f=qW:=⟨_,rfl⟩
 obtain ⟨g,hg⟩:∃ g:List Int->List Int->Bool,g=fun l a=>l.any (fun x=>!ZM a x):=⟨_,rfl⟩
 have hO:qp Tryz.prog (qM [(169,QX f),(111,w2 kA (qr9 171) (fun l s=>rB (g l s)) (fun l s=>[LLe l maxLen,LLe s maxLen]))]):=by
  subst hf hg
  exact qb Kj (qb (qE fun l s h=>Z6 l _ _ _ (fun q _=>VC q s (h _ (.tail _ (.head _))).out) (h _ (.head _)).out) qd)
 rw [show J4 a b=(f a&&f b&&!g b a) by rw [hf,hg];unfold J4;rw [show (!List.any b fun x=>!ZM a x)=b.all (ZM a) by rw [List.not_any_eq_all_not];simp]]
 clear hf hg
 refine SEx.go (X:=XX) qc (fun n=>qa [] [] n) (fun _=>none) hO 60 ?_
 intro M R L N m0 m1 m2 m3 m4 m5
 cases M
 cbv
 repeat' first | refine m1 _ _ ?_ ?_ | refine m2 _ _ fun h=>?_ | refine m3 _ ?_ | (refine m4 _ _ (Hd.out ?_);try first | rw [hks] | rw [hk2] | rw [hk3]) | (refine m5 _ _ ?_;cbv)
 all_goals (clear m1 m2 m3 m4 m5;cases m0;(try clear hks;try clear hk2;try clear hk3);try dsimp only)
 all_goals try simp only [sm] at *
 all_goals first
  | exact ha
  | exact hb
  | exact ⟨rfl⟩
  | exact ⟨ha.len⟩
  | exact ⟨hb.len⟩
  | (simp only [jK];simp_all;done)
  | trace_state
theorem yW (a b:List Int)(ha:Kb a)(hb:Kb b):qe Tryz.prog 133 [aIs a,aIs b] (rB (J4 a b)):=by
 refine qe.of qc (fn:=Tryz.f133) (c:=Tryz.f133.body.getD .skip) (dr:=fun n=>qa 0 [] n) Tryz.func133 rfl (by kernel_rfl) (by kernel_rfl) (by kernel_rfl) ?_
 obtain ⟨f,hf⟩:∃ f,f=qW:=⟨_,rfl⟩
 obtain ⟨g,hg⟩:∃ f,f=ZM:=⟨_,rfl⟩
 have hO:qp Tryz.prog (qM [(165,QX f),(93,qhe g)]):=by subst hf hg;exact qb wJ (qb YY qd)
 rw [show J4 a b=(f a&&f b&&qA (fun _ x=>g a x) (b.drop 0) 0) by rw [hf,hg,List.drop_zero,K5];rfl]
 clear hf hg
 have hal:=ha.len
 have hbl:=hb.len
 unfold maxLen at hbl
 refine SEx.go (X:=XX) qc (fun n=>qa [] [(4,[0,15,16,17])] n) (fun _=>none) hO 60 ?_
 intro M R L N m0 m1 m2 m3 m4 m5
 cases M
 cbv
 repeat' first | refine m1 _ _ ?_ ?_ | refine m2 _ _ fun h=>?_ | refine m3 _ ?_ | (refine m4 _ _ (Hd.out ?_);generalize hks:(List.cons _ _:List K)=ks) | (refine m5 _ _ ?_;cbv)
 all_goals (clear m1 m2 m3 m4 m5;cases m0;try dsimp only)
 all_goals try simp only [sm] at *
 all_goals first
  | exact ha
  | exact hb
  | (simp only [jK];simp_all;done)
  | skip
 rw [show f a=true by assumption,show f b=true by assumption,Bool.true_and,Bool.true_and]
 obtain ⟨m,hm⟩:∃ m,m=b.length:=⟨_,rfl⟩
 refine ⟨SEx.same (SEx.idx m (fun i=>⟨26,[(0,bL (.i a)),(15,bL (.i b)),(16,bI m),(17,bI i)],[]⟩) (fun i=>rB (qA (fun _ x=>g a x) (b.drop i) i)) ?_) (by rw [hm];rfl) rfl⟩
 intro i hi ih
 rw [<-hks]
 refine SEx.go (X:=XX) qc (fun n=>qa [] [(4,[0,15,16,17])] n) (fun _=>none) hO 60 ?_
 intro M R L N m0 m1 m2 m3 m4 m5
 cases M
 cbv
 repeat' first | refine m1 _ _ ?_ ?_ | refine m2 _ _ fun h=>?_ | refine m3 _ ?_ | (refine m4 _ _ (Hd.out ?_);try first | rw [hks] | rw [hk2] | rw [hk3]) | (refine m5 _ _ ?_;cbv)
 all_goals (clear m1 m2 m3 m4 m5;cases m0;(try clear hks;try clear hk2;try clear hk3);try dsimp only)
 all_goals try simp only [sm] at *
 all_goals first
  | omega
  | exact ⟨hal⟩
  | (rw [vm (p:=fun _ x=>g a x) (l:=b) (i:=i) (0:Int) (by omega) (by assumption)];rfl)
  | (simp only [qh (show i<9223372036854775807 by omega)];exact ⟨(ih (by omega)).same rfl (by rw [wP (p:=fun _ x=>g a x) (l:=b) (i:=i) (0:Int) (by omega) (by assumption)])⟩)
  | (rw [List.drop_eq_nil_of_le (by omega)];rfl)
  | trace_state
def w7 (f:List Int->List Int->Bool):Wr:=w2 kA kA (fun a b=>rB (f a b)) (fun a b=>[Kb a,Kb b])
theorem qcP:qz Tryz.prog 133 (w7 J4):=qE fun a b h=>yW a b (h _ (.head _)) (h _ (.tail _ (.head _)))
theorem qcQ:qz Tryz.prog 144 (w7 J4):=qE fun a b h=>Y0 a b (h _ (.head _)) (h _ (.tail _ (.head _)))
end Go.Proofs.YtececadpjelanaaGreat.Ai
namespace Go.Proofs.YtececadpjelanaaGreat.Ai
open Go
set_option maxRecDepth 100000
variable [qi]
structure qqA (p:Int):Prop where out:0<p
def zF (l:List qg)(p:Int):Int:=zV (fun q=>q.watch == p) l 0
theorem KD (t:qm)(p:Int)(h1:t.nodes.length<=maxLen):qe Tryz.prog 72 [qQ t,aI p] (rI (zF t.nodes p)):=by
 refine qe.of qc (fn:=Tryz.f72) (c:=Tryz.f72.body.getD .skip) (dr:=fun n=>qa 0 [] n) Tryz.func72 rfl (by kernel_rfl) (by kernel_rfl) (by kernel_rfl) ?_
 obtain ⟨cs,ps,hr⟩:=t
 have h1:cs.length<=maxLen:=h1
 unfold maxLen at h1
 show SEx _ _ _ _ _ _ (rI (zV _ cs 0))
 refine SEx.go (X:=XX) qc (fun n=>qa [] [(2,[1,8,9,10])] n) (fun _=>none) qd 60 ?_
 intro M R L N m0 m1 m2 m3 m4 m5
 cases M
 cbv
 repeat' first | refine m1 _ _ ?_ ?_ | refine m2 _ _ fun h=>?_ | refine m3 _ ?_ | (refine m4 _ _ (Hd.out ?_);generalize hks:(List.cons _ _:List K)=ks) | (refine m5 _ _ ?_;cbv)
 all_goals (clear m1 m2 m3 m4 m5;cases m0;try dsimp only)
 all_goals try simp only [sm] at *
 obtain ⟨n,hn⟩:∃ n,n=cs.length:=⟨_,rfl⟩
 refine ⟨SEx.same (SEx.idx n (fun i=>⟨21,[(1,bI p),(8,bL (.node false none cs)),(9,bI n),(10,bI i)],[]⟩) (fun i=>rI (zV (fun q=>q.watch == p) (cs.drop i) i)) ?_) (by rw [hn];rfl) rfl⟩
 intro i hi ih
 rw [<-hks]
 refine SEx.go (X:=XX) qc (fun n=>qa [] [(2,[1,8,9,10])] n) (fun _=>none) qd 60 ?_
 intro M R L N m0 m1 m2 m3 m4 m5
 cases M
 cbv
 repeat' first | refine m1 _ _ ?_ ?_ | refine m2 _ _ fun h=>?_ | refine m3 _ ?_ | (refine m4 _ _ (Hd.out ?_);try first | rw [hks] | rw [hk2] | rw [hk3]) | (refine m5 _ _ ?_;cbv)
 all_goals (clear m1 m2 m3 m4 m5;cases m0;(try clear hks;try clear hk2;try clear hk3);try dsimp only)
 all_goals try simp only [sm] at *
 all_goals first
  | omega
  | exact ⟨rfl,by cases caps<;>rfl⟩
  | exact ⟨rfl,rfl⟩
  | exact qo (z:=qg.z) (by omega)
  | (rw [Qa (p:=fun q=>q.watch == p) (l:=cs) (i:=i) qg.z (by omega) (by first | assumption | exact beq_iff_eq.2 (by assumption))];rfl)
  | (rw [Qb (by omega)];rfl)
  | (simp only [qh (show i<9223372036854775807 by omega)];exact ⟨(ih (by omega)).same rfl (by rw [Zb (p:=fun q=>q.watch == p) (l:=cs) (i:=i) qg.z (by omega) (by first | assumption | exact beq_eq_false_iff_ne.2 (by assumption) | (simp_all;done))])⟩)
 all_goals trace_state
def qsF (k:Nat):Dc Int:=⟨fun s=>aF k [.ptr [.int .i64 s]],fun | (false,[.fn f [.ptr [.int .i64 s]]])=>(match nq f k with | true=>some s | false=>none) | _=>none,by
 intro x a h
 split at h
 . split at h
   . rename_i hk
     obtain rfl:=QW.1 hk
     simp only [Option.some.injEq] at h;subst h;rfl
   . cases h
 . cases h⟩
theorem Vz (q:qg)(p:Int)(hp:0<p):qe Tryz.prog 147 [wO q,(false,[.ptr [.int .i64 p]])] (rB (q.watch == p)):=by
 refine qe.of qc (fn:=Tryz.f147) (c:=Tryz.f147.body.getD .skip) (dr:=fun n=>qa 0 [] n) Tryz.func147 rfl (by kernel_rfl) (by kernel_rfl) (by kernel_rfl) ?_
 obtain ⟨x1,x2,x3⟩:=q
 refine SEx.go (X:=XX) qc (fun n=>qa [] [] n) (fun _=>none) qd 60 ?_
 intro M R L N m0 m1 m2 m3 m4 m5
 cases M
 cbv
 repeat' first | refine m1 _ _ ?_ ?_ | refine m2 _ _ fun h=>?_ | refine m3 _ ?_ | (refine m4 _ _ (Hd.out ?_);try first | rw [hks] | rw [hk2] | rw [hk3]) | (refine m5 _ _ ?_;cbv)
 all_goals (clear m1 m2 m3 m4 m5;cases m0;(try clear hks;try clear hk2;try clear hk3);try dsimp only)
 all_goals try simp only [sm] at *
 all_goals first
  | rfl
  | (exfalso;omega)
  | trace_state
theorem YS (t:qm)(p:Int)(h1:t.nodes.length<=maxLen)(hp:0<p):qe Tryz.prog 115 [qQ t,aI p] (rI (zF t.nodes p)):=by
 refine qe.of qc (fn:=Tryz.f115) (c:=Tryz.f115.body.getD .skip) (dr:=fun n=>qa 0 [] n) Tryz.func115 rfl (by kernel_rfl) (by kernel_rfl) (by kernel_rfl) ?_
 obtain ⟨f,hf⟩:∃ f,f=zF:=⟨_,rfl⟩
 have hO:qp Tryz.prog (qM [(146,w2 vF (qsF 147) (fun l s=>rI (f l s)) (fun l s=>[LLe l maxLen,qqA s]))]):=by
  subst hf
  exact qb (qE fun l s h=>yg l _ _ _ (fun q _=>Vz q s (h _ (.tail _ (.head _))).out) (h _ (.head _)).out) qd
 obtain ⟨cs,ps,hr⟩:=t
 have h1:cs.length<=maxLen:=h1
 refine SEx.go (X:=XX) qc (fun n=>qa [] [] n) (fun _=>none) hO 60 ?_
 intro M R L N m0 m1 m2 m3 m4 m5
 cases M
 cbv
 repeat' first | refine m1 _ _ ?_ ?_ | refine m2 _ _ fun h=>?_ | refine m3 _ ?_ | (refine m4 _ _ (Hd.out ?_);try first | rw [hks] | rw [hk2] | rw [hk3]) | (refine m5 _ _ ?_;cbv)
 all_goals (clear m1 m2 m3 m4 m5;cases m0;(try clear hks;try clear hk2;try clear hk3);try dsimp only)
 all_goals try simp only [sm] at *
 all_goals first
  | exact ⟨h1⟩
  | exact ⟨hp⟩
  | (subst hf;rfl)
  | trace_state
def KX (f:List qg->Int->Int):Wr:=w2 qP dcI (fun t p=>rI (f t.nodes p)) (fun t p=>[LLe t.nodes maxLen,qqA p])
theorem qc2:qz Tryz.prog 72 (KX zF):=qE fun t p h=>KD t p (h _ (.head _)).out
theorem vO:qz Tryz.prog 115 (KX zF):=qE fun t p h=>YS t p (h _ (.head _)).out (h _ (.tail _ (.head _))).out
end Go.Proofs.YtececadpjelanaaGreat.Ai
namespace Go.Proofs.YtececadpjelanaaGreat.Ai
open Go
set_option maxRecDepth 100000
variable [qi]
def qdW (n:Int):Bool:=decide (-20<=n)&&decide (n<=20)
theorem qlN (n:Int):qe Tryz.prog 139 [aI n] (rB (qdW n)):=by
 refine qe.of qc (fn:=Tryz.f139) (c:=Tryz.f139.body.getD .skip) (dr:=fun n=>qa 0 [] n) Tryz.func139 rfl (by kernel_rfl) (by kernel_rfl) (by kernel_rfl) ?_
 refine SEx.go (X:=XX) qc (fun n=>qa [] [] n) (fun _=>none) qd 60 ?_
 intro M R L N m0 m1 m2 m3 m4 m5
 cases M
 cbv
 repeat' first | refine m1 _ _ ?_ ?_ | refine m2 _ _ fun h=>?_ | refine m3 _ ?_ | (refine m4 _ _ (Hd.out ?_);try first | rw [hks] | rw [hk2] | rw [hk3]) | (refine m5 _ _ ?_;cbv)
 all_goals (clear m1 m2 m3 m4 m5;cases m0;(try clear hks;try clear hk2;try clear hk3);try dsimp only)
 all_goals try simp only [sm] at *
 all_goals simp only [jK,qdW]
 all_goals first
  | (rw [decide_eq_false (show ¬-20<=n by omega)];rfl)
  | (rw [decide_eq_true (show -20<=n by omega),Bool.true_and])
def qqf (f:Int->Bool):Wr:=w1 dcI (fun n=>rB (f n)) (fun _=>[])
theorem qnx:qz Tryz.prog 139 (qqf qdW):=zx fun n _=>qlN n
def Q7 (a b:List Int):Bool:=decide (a.length=b.length)&&qA (fun i x=>x == b.getD i 0) a 0
theorem qgX (a b:List Int)(h1:a.length<=maxLen)(h2:b.length<=maxLen):qe Tryz.prog 85 [aIs a,aIs b] (rB (Q7 a b)):=by
 refine qe.of qc (fn:=Tryz.f85) (c:=Tryz.f85.body.getD .skip) (dr:=fun n=>qa 0 [] n) Tryz.func85 rfl (by kernel_rfl) (by kernel_rfl) (by kernel_rfl) ?_
 unfold maxLen at h1 h2
 rw [show Q7 a b=(decide (a.length=b.length)&&qA (fun i x=>x == b.getD i 0) (a.drop 0) 0) by rw [List.drop_zero];rfl]
 refine SEx.go (X:=XX) qc (fun n=>qa [] [(4,[1,12,13,14])] n) (fun _=>none) qd 60 ?_
 intro M R L N m0 m1 m2 m3 m4 m5
 cases M
 cbv
 repeat' first | refine m1 _ _ ?_ ?_ | refine m2 _ _ fun h=>?_ | refine m3 _ ?_ | (refine m4 _ _ (Hd.out ?_);generalize hks:(List.cons _ _:List K)=ks) | (refine m5 _ _ ?_;cbv)
 all_goals (clear m1 m2 m3 m4 m5;cases m0;try dsimp only)
 all_goals try simp only [sm] at *
 . simp only [jK];rw [decide_eq_false (by omega)];rfl
 have hab:a.length=b.length:=by omega
 rw [decide_eq_true hab,Bool.true_and]
 obtain ⟨m,hm⟩:∃ m,m=a.length:=⟨_,rfl⟩
 refine ⟨SEx.same (SEx.idx m (fun i=>⟨26,[(1,bL (.i b)),(12,bL (.i a)),(13,bI m),(14,bI i)],[]⟩) (fun i=>rB (qA (fun i x=>x == b.getD i 0) (a.drop i) i)) ?_) (by rw [hm];rfl) rfl⟩
 intro i hi ih
 rw [<-hks]
 refine SEx.go (X:=XX) qc (fun n=>qa [] [(4,[1,12,13,14])] n) (fun _=>none) qd 60 ?_
 intro M R L N m0 m1 m2 m3 m4 m5
 cases M
 cbv
 repeat' first | refine m1 _ _ ?_ ?_ | refine m2 _ _ fun h=>?_ | refine m3 _ ?_ | (refine m4 _ _ (Hd.out ?_);try first | rw [hks] | rw [hk2] | rw [hk3]) | (refine m5 _ _ ?_;cbv)
 all_goals (clear m1 m2 m3 m4 m5;cases m0;(try clear hks;try clear hk2;try clear hk3);try dsimp only)
 all_goals try simp only [sm] at *
 all_goals first
  | omega
  | (rw [vm (p:=fun i x=>x == b.getD i 0) (l:=a) (i:=i) (0:Int) (by omega) (beq_eq_false_iff_ne.2 (by assumption))];rfl)
  | (simp only [qh (show i<9223372036854775807 by omega)];exact ⟨(ih (by omega)).same rfl (by rw [wP (p:=fun i x=>x == b.getD i 0) (l:=a) (i:=i) (0:Int) (by omega) (beq_iff_eq.2 (by assumption))])⟩)
  | (rw [List.drop_eq_nil_of_le (by omega)];rfl)
  | trace_state
theorem qlM (a b:List Int)(h1:a.length<=maxLen)(h2:b.length<=maxLen):qe Tryz.prog 89 [aIs a,aIs b] (rB (Q7 a b)):=by
 refine qe.of qc (fn:=Tryz.f89) (c:=Tryz.f89.body.getD .skip) (dr:=fun n=>qa 0 [(6,8)] n) Tryz.func89 rfl (by kernel_rfl) (by kernel_rfl) (by kernel_rfl) ?_
 unfold maxLen at h1 h2
 rw [show Q7 a b=(decide (a.length=b.length)&&qA (fun i x=>x == b.getD i 0) (a.drop 0) 0) by rw [List.drop_zero];rfl]
 refine SEx.go (X:=XX) qc (fun n=>qa [] [(4,[0,1,12,13])] n) (fun _=>none) qd 60 ?_
 intro M R L N m0 m1 m2 m3 m4 m5
 cases M
 cbv
 repeat' first | refine m1 _ _ ?_ ?_ | refine m2 _ _ fun h=>?_ | refine m3 _ ?_ | (refine m4 _ _ (Hd.out ?_);generalize hks:(List.cons _ _:List K)=ks) | (refine m5 _ _ ?_;cbv)
 all_goals (clear m1 m2 m3 m4 m5;cases m0;try dsimp only)
 all_goals try simp only [sm] at *
 . simp only [jK];rw [decide_eq_false (by omega)];rfl
 have hab:a.length=b.length:=by omega
 rw [decide_eq_true hab,Bool.true_and]
 obtain ⟨m,hm⟩:∃ m,m=a.length:=⟨_,rfl⟩
 refine ⟨SEx.same (SEx.idx m (fun i=>⟨26,[(0,bL (.i a)),(1,bL (.i b)),(12,bI m),(13,bI i)],[]⟩) (fun i=>rB (qA (fun i x=>x == b.getD i 0) (a.drop i) i)) ?_) (by rw [hm];rfl) rfl⟩
 intro i hi ih
 rw [<-hks]
 refine SEx.go (X:=XX) qc (fun n=>qa [] [(4,[0,1,12,13])] n) (fun _=>none) qd 60 ?_
 intro M R L N m0 m1 m2 m3 m4 m5
 cases M
 cbv
 repeat' first | refine m1 _ _ ?_ ?_ | refine m2 _ _ fun h=>?_ | refine m3 _ ?_ | (refine m4 _ _ (Hd.out ?_);try first | rw [hks] | rw [hk2] | rw [hk3]) | (refine m5 _ _ ?_;cbv)
 all_goals (clear m1 m2 m3 m4 m5;cases m0;(try clear hks;try clear hk2;try clear hk3);try dsimp only)
 all_goals try simp only [sm] at *
 all_goals first
  | omega
  | (rw [vm (p:=fun i x=>x == b.getD i 0) (l:=a) (i:=i) (0:Int) (by omega) (beq_eq_false_iff_ne.2 (by assumption))];rfl)
  | (simp only [qh (show i<9223372036854775807 by omega)];exact ⟨(ih (by omega)).same rfl (by rw [wP (p:=fun i x=>x == b.getD i 0) (l:=a) (i:=i) (0:Int) (by omega) (beq_iff_eq.2 (by assumption))])⟩)
  | (rw [List.drop_eq_nil_of_le (by omega)];rfl)
  | trace_state
theorem qbn:∀ (a c:List Int) (b:List Int) (k:Nat),c=b.drop k->a.length=c.length->(qA (fun i x=>x == b.getD i 0) a k=decide (a=c))
 | [],[],_,_,_,_=>rfl
 | [],_::_,_,_,_,h=>by simp at h
 | _::_,[],_,_,_,h=>by simp at h
 | x::r,y::s,b,k,hc,hl=>by
   have hk:k<b.length:=by
    apply Decidable.byContradiction;intro h
    rw [List.drop_eq_nil_of_le (by omega)] at hc;cases hc
   rw [List.drop_eq_getElem_cons hk] at hc
   injection hc with h1 h2
   unfold qA
   rw [qbn r s b (k+1) h2 (by simpa using hl),List.getD_eq_getElem?_getD,List.getElem?_eq_getElem hk,Option.getD_some,<-h1]
   rw [Bool.eq_iff_iff];simp
theorem qd9 (a b:List Int):Q7 a b=decide (a=b):=by
 unfold Q7
 by_cases h:a.length=b.length
 . rw [decide_eq_true h,Bool.true_and,qbn a b b 0 rfl h]
 . rw [decide_eq_false h,Bool.false_and,decide_eq_false (fun e=>h (by rw [e]))]
def qcs (f:List Int->List Int->Bool):Wr:=w2 kA kA (fun a b=>rB (f a b)) (fun a b=>[LLe a maxLen,LLe b maxLen])
theorem qjW:qz Tryz.prog 85 (qcs Q7):=qE fun a b h=>qgX a b (h _ (.head _)).out (h _ (.tail _ (.head _))).out
theorem qks:qz Tryz.prog 89 (qcs Q7):=qE fun a b h=>qlM a b (h _ (.head _)).out (h _ (.tail _ (.head _))).out
structure yM (q:qg):Prop where
 name:q.name.size<=maxLen
 len:q.label.length<=maxLen
 all:∀ n∈q.label,inI n
def V8 (f:qg->Bool):Wr:=w1 wi (fun q=>rB (f q)) (fun q=>[yM q])
theorem qdv:qz Tryz.prog 130 (V8 QY):=zx fun q h=>qaI q (h _ (.head _)).name (h _ (.head _)).len (h _ (.head _)).all
theorem qeh:qz Tryz.prog 137 (V8 QY):=zx fun q h=>qaF q (h _ (.head _)).name (h _ (.head _)).len (h _ (.head _)).all
end Go.Proofs.YtececadpjelanaaGreat.Ai
namespace Go.Proofs.YtececadpjelanaaGreat.Ai
open Go
set_option maxRecDepth 100000
variable [qi]
def KZ (l:List Tie)(x:Int):Int:=zV (fun q=>q.free&&q.dst == x) l 0
theorem qfg (t:qm)(x:Int)(h1:t.ties.length<=maxLen):qe Tryz.prog 121 [qQ t,aI x] (rI (KZ t.ties x)):=by
 refine qe.of qc (fn:=Tryz.f121) (c:=Tryz.f121.body.getD .skip) (dr:=fun n=>qa 0 [] n) Tryz.func121 rfl (by kernel_rfl) (by kernel_rfl) (by kernel_rfl) ?_
 obtain ⟨ns,cs,hr⟩:=t
 have h1:cs.length<=maxLen:=h1
 unfold maxLen at h1
 show SEx _ _ _ _ _ _ (rI (zV _ cs 0))
 refine SEx.go (X:=XX) qc (fun n=>qa [] [(2,[1,8,9,10])] n) (fun _=>none) qd 60 ?_
 intro M R L N m0 m1 m2 m3 m4 m5
 cases M
 cbv
 repeat' first | refine m1 _ _ ?_ ?_ | refine m2 _ _ fun h=>?_ | refine m3 _ ?_ | (refine m4 _ _ (Hd.out ?_);generalize hks:(List.cons _ _:List K)=ks) | (refine m5 _ _ ?_;cbv)
 all_goals (clear m1 m2 m3 m4 m5;cases m0;try dsimp only)
 all_goals try simp only [sm] at *
 obtain ⟨n,hn⟩:∃ n,n=cs.length:=⟨_,rfl⟩
 refine ⟨SEx.same (SEx.idx n (fun i=>⟨25,[(1,bI x),(8,bL (.tie cs)),(9,bI n),(10,bI i)],[]⟩) (fun i=>rI (zV (fun q=>q.free&&q.dst == x) (cs.drop i) i)) ?_) (by rw [hn];rfl) rfl⟩
 intro i hi ih
 rw [<-hks]
 refine SEx.go (X:=XX) qc (fun n=>qa [] [(2,[1,8,9,10])] n) (fun _=>none) qd 60 ?_
 intro M R L N m0 m1 m2 m3 m4 m5
 cases M
 cbv
 repeat' first | refine m1 _ _ ?_ ?_ | refine m2 _ _ fun h=>?_ | refine m3 _ ?_ | (refine m4 _ _ (Hd.out ?_);try first | rw [hks] | rw [hk2] | rw [hk3]) | (refine m5 _ _ ?_;cbv)
 all_goals (clear m1 m2 m3 m4 m5;cases m0;(try clear hks;try clear hk2;try clear hk3);try dsimp only)
 all_goals try simp only [sm] at *
 all_goals first
  | omega
  | (rw [Qa (p:=fun q=>q.free&&q.dst == x) (l:=cs) (i:=i) Tie.z (by omega) (by simp_all)];rfl)
  | (rw [Qb (by omega)];rfl)
  | (simp only [qh (show i<9223372036854775807 by omega)];exact ⟨(ih (by omega)).same rfl (by rw [Zb (p:=fun q=>q.free&&q.dst == x) (l:=cs) (i:=i) Tie.z (by omega) (by simp_all)])⟩)
def qf6 (f:List Tie->Int->Int):Wr:=w2 qP dcI (fun t x=>rI (f t.ties x)) (fun t _=>[LLe t.ties maxLen])
theorem qaX:qz Tryz.prog 121 (qf6 KZ):=qE fun t x h=>qfg t x (h _ (.head _)).out
end Go.Proofs.YtececadpjelanaaGreat.Ai
namespace Go.Proofs.YtececadpjelanaaGreat.Ai
open Go
set_option maxRecDepth 100000
variable [qi]
def nd (ns:List qg)(x:Int):qg:=ns.getD x.toNat qg.z
def wv (ns:List qg)(ts:List Tie)(i:Nat)(q:Tie):Bool :=
 decide (0<=q.src/\q.src<=ns.length-1/\0<=q.dst/\q.dst<=ns.length-1/\¬q.src=q.dst/\-20<=q.low/\q.high<=20/\q.low<=q.high)&&(!q.free||(decide (1<=q.low/\¬q.dst=0/\(nd ns q.dst).watch=0)&&Q7 (nd ns q.src).label (nd ns q.dst).label&&decide (KZ ts q.dst=i)))
theorem qid (t:qm)(i:Int)(hi:0<=i/\i<t.ties.length)(h1:t.nodes.length<=maxLen)(h2:t.ties.length<=maxLen)(h3:∀ q∈t.nodes,q.label.length<=maxLen):qe Tryz.prog 103 [qQ t,aI i] (rB (wv t.nodes t.ties i.toNat (t.ties.getD i.toNat Tie.z))):=by
 refine qe.of qc (fn:=Tryz.f103) (c:=Tryz.f103.body.getD .skip) (dr:=fun n=>qa 0 [(5,45)] n) Tryz.func103 rfl (by kernel_rfl) (by kernel_rfl) (by kernel_rfl) ?_
 obtain ⟨f0,hf0⟩:∃ f,f=z8:=⟨_,rfl⟩
 obtain ⟨f1,hf1⟩:∃ f,f=Q7:=⟨_,rfl⟩
 obtain ⟨f2,hf2⟩:∃ f,f=KZ:=⟨_,rfl⟩
 have hO:qp Tryz.prog (qM [(70,Ye f0),(85,qcs f1),(121,qf6 f2)]):=by subst hf0 hf1 hf2;exact qb j8 (qb qjW (qb qaX qd))
 obtain ⟨ns,ts,hr⟩:=t
 have hi:0<=i/\i<ts.length:=hi
 have h1:ns.length<=maxLen:=h1
 have h2:ts.length<=maxLen:=h2
 have h3:∀ q∈ns,q.label.length<=maxLen:=h3
 show SEx _ _ _ _ _ _ (rB (wv ns ts i.toNat (ts.getD i.toNat Tie.z)))
 obtain ⟨n,rfl⟩:∃ n:Nat,i=n:=⟨i.toNat,by omega⟩
 refine SEx.go (X:=XX) qc (fun n=>qa [] [] n) (fun _=>none) hO 60 ?_
 intro M R L N m0 m1 m2 m3 m4 m5
 cases M
 cbv
 repeat' first | refine m1 _ _ ?_ ?_ | refine m2 _ _ fun h=>?_ | refine m3 _ ?_ | (refine m4 _ _ (Hd.out ?_);try first | rw [hks] | rw [hk2] | rw [hk3]) | (refine m5 _ _ ?_;cbv)
 all_goals (clear m1 m2 m3 m4 m5;cases m0;(try clear hks;try clear hk2;try clear hk3);try dsimp only)
 all_goals try simp only [sm] at *
 all_goals (have hQ:=qo (z:=Tie.z) (l:=ts) (i:=n) (by omega);generalize ts.getD n Tie.z=q at *;obtain ⟨x1,x2,x3,x4,x5⟩:=q)
 all_goals (clear hO;subst hf0 hf1 hf2;unfold maxLen at h1 h2;try dsimp only at *)
 all_goals (try simp only [qr (n:=(ns.length:Int)-1) (by omega) (by omega),z8,Bool.and_eq_true,Bool.and_eq_false_iff,decide_eq_true_eq,decide_eq_false_iff_not] at *)
 all_goals first
  | omega
  | exact ⟨h2⟩
  | exact ⟨h3 _ (qo (z:=qg.z) (by omega)).out⟩
  | (simp only [jK];symm;rw [Bool.eq_false_iff];intro h;simp only [wv,Bool.and_eq_true,Bool.or_eq_true,Bool.not_eq_true',decide_eq_true_eq] at h;simp only [nd] at h;first | omega | (simp_all;done) | (simp_all;omega))
  | (simp only [jK];symm;simp only [wv,Bool.and_eq_true,Bool.or_eq_true,Bool.not_eq_true',decide_eq_true_eq];first | (refine ⟨by omega,.inl ?_⟩;assumption) | (refine ⟨by omega,.inr ⟨⟨by omega,?_⟩,?_⟩⟩<;>assumption))
  | (simp only [jK];simp only [wv,nd];rw [Bool.eq_iff_iff];simp only [Bool.and_eq_true,Bool.or_eq_true,Bool.not_eq_true',decide_eq_true_eq,beq_iff_eq];constructor;(· intro h;exact ⟨by omega,.inr ⟨⟨⟨by assumption,by assumption,by assumption⟩,by assumption⟩,h⟩⟩);(· rintro ⟨-,h | h⟩;(· have:=h.symm.trans (by assumption:_=true);cases this);(· exact h.2)))
  | (simp only [jK];rw [Bool.eq_iff_iff];simp only [wv,Bool.and_eq_true,Bool.or_eq_true,Bool.not_eq_true',decide_eq_true_eq,beq_iff_eq];simp only [nd];constructor;(· intro h;exact ⟨by omega,.inr ⟨⟨⟨by assumption,by assumption,by assumption⟩,by assumption⟩,h⟩⟩);(· rintro ⟨-,h | h⟩;(· have:=h.symm.trans (by assumption:_=true);cases this);(· exact h.2)))
def qse {α:Type}(k:Nat)(g:Bool)(d:Dc α)(hg:∀ a,(d.enc a).1=g):Dc α:=⟨fun a=>aF k [.ptr (d.enc a).2],fun | (false,[.fn f [.ptr x]])=>(match nq f k with | true=>d.dec (g,x) | false=>none) | _=>none,by
 intro x a h
 split at h
 . split at h
   . rename_i hk
     obtain rfl:=QW.1 hk
     have:=d.ok _ _ h
     have e:=congrArg Prod.snd this
     simp only [kc] at e
     simp only [kc,D.erL,D.er,aF,e]
   . cases h
 . cases h⟩
theorem qfi (u t:Tie):qe Tryz.prog 140 [yZ u,(false,[.ptr t.d])] (rB (u.free&&u.dst == t.dst)):=by
 refine qe.of qc (fn:=Tryz.f140) (c:=Tryz.f140.body.getD .skip) (dr:=fun n=>qa 0 [] n) Tryz.func140 rfl (by kernel_rfl) (by kernel_rfl) (by kernel_rfl) ?_
 obtain ⟨x1,x2,x3,x4,x5⟩:=u
 obtain ⟨y1,y2,y3,y4,y5⟩:=t
 refine SEx.go (X:=XX) qc (fun n=>qa [] [] n) (fun _=>none) qd 60 ?_
 intro M R L N m0 m1 m2 m3 m4 m5
 cases M
 cbv
 repeat' first | refine m1 _ _ ?_ ?_ | refine m2 _ _ fun h=>?_ | refine m3 _ ?_ | (refine m4 _ _ (Hd.out ?_);try first | rw [hks] | rw [hk2] | rw [hk3]) | (refine m5 _ _ ?_;cbv)
 all_goals (clear m1 m2 m3 m4 m5;cases m0;(try clear hks;try clear hk2;try clear hk3);try dsimp only)
 all_goals try simp only [sm] at *
 all_goals simp only [jK]
 all_goals (rw [show x5=_ by assumption];rfl)
def qsN (k:Nat):Dc Tie:=qse k true qaa fun _=>rfl
def qfe (ns:List qg)(ts:List Tie)(i:Nat)(q:Tie):Bool :=
 decide (0<=q.src/\q.src<=ns.length-1/\0<=q.dst/\q.dst<=ns.length-1/\¬q.src=q.dst/\-20<=q.low/\q.high<=20/\q.low<=q.high)&&(!q.free||(decide (1<=q.low/\¬q.dst=0/\(nd ns q.dst).watch=0)&&Q7 (nd ns q.dst).label (nd ns q.src).label&&!((ts.take i).any fun u=>u.free&&u.dst == q.dst)))
theorem qh0 (t:qm)(h1:t.nodes.length<=maxLen)(h2:t.ties.length<=maxLen)(h3:∀ q∈t.nodes,q.label.length<=maxLen):qe Tryz.prog 110 [qQ t] (rB (qA (qfe t.nodes t.ties) t.ties 0&&decide (t.ties.length<=14))):=by
 refine qe.of qc (fn:=Tryz.f110) (c:=Tryz.f110.body.getD .skip) (dr:=fun n=>qa 0 [(7,33)] n) Tryz.func110 rfl (by kernel_rfl) (by kernel_rfl) (by kernel_rfl) ?_
 obtain ⟨f0,hf0⟩:∃ f,f=vc:=⟨_,rfl⟩
 obtain ⟨f1,hf1⟩:∃ f,f=Q7:=⟨_,rfl⟩
 obtain ⟨f2,hf2⟩:∃ f,f=qdW:=⟨_,rfl⟩
 obtain ⟨f3,hf3⟩:∃ f:List Tie->Tie->Bool,f=fun l q=>l.any fun u=>u.free&&u.dst == q.dst:=⟨_,rfl⟩
 have hO:qp Tryz.prog (qM [(138,qjm f0),(139,qqf f2),(89,qcs f1),(126,w2 K9 (qsN 140) (fun l q=>rB (f3 l q)) (fun l q=>[LLe l maxLen]))]):=by
  subst hf0 hf1 hf2 hf3
  exact qb qgQ (qb qnx (qb qks (qb (qE fun l q h=>KV l _ _ _ (fun u _=>qfi u q) (h _ (.head _)).out) qd)))
 obtain ⟨ns,ts,hr⟩:=t
 have h1:ns.length<=maxLen:=h1
 have h2:ts.length<=maxLen:=h2
 have h3:∀ q∈ns,q.label.length<=maxLen:=h3
 unfold maxLen at h1 h2
 show SEx _ _ _ _ _ _ (rB (qA (qfe ns ts) ts 0&&decide (ts.length<=14)))
 obtain ⟨c,hc⟩:∃ c,c=decide (ts.length<=14):=⟨_,rfl⟩
 obtain ⟨p,hp⟩:∃ p,p=qfe ns ts:=⟨_,rfl⟩
 rw [<-hc,<-hp]
 refine SEx.go (X:=XX) qc (fun n=>qa [] [(2,[1,6,7,8])] n) (fun _=>none) hO 60 ?_
 intro M R L N m0 m1 m2 m3 m4 m5
 cases M
 cbv
 repeat' first | refine m1 _ _ ?_ ?_ | refine m2 _ _ fun h=>?_ | refine m3 _ ?_ | (refine m4 _ _ (Hd.out ?_);generalize hks:(List.cons _ _:List K)=ks) | (refine m5 _ _ ?_;cbv)
 all_goals (clear m1 m2 m3 m4 m5;cases m0;try dsimp only)
 all_goals try simp only [sm] at *
 obtain ⟨m,hm⟩:∃ m,m=ts.length:=⟨_,rfl⟩
 refine ⟨SEx.same (SEx.idx m (fun i=>⟨105,[(1,bP 4096),(6,bL (.tie ts)),(7,bI m),(8,bI i)],[(4096,.obx [.fz (.sl (.node false none ns)),.fz (.sl (.tie ts)),.fz (.int .i64 hr)])]⟩) (fun i=>rB (qA p (ts.drop i) i&&c)) ?_) (by rw [hm];rfl) rfl⟩
 intro i hi ih
 rw [<-hks]
 have hl:i<m->q9 _ _ _:=fun h=>q9.of p ts i c Tie.z (by omega)
 have he:i=m->(qA p (ts.drop i) i&&c)=c:=fun h=>qN (by omega)
 refine SEx.go (X:=XX) qc (fun n=>qa [] [(2,[1,6,7,8])] n) (fun _=>none) hO 60 ?_
 intro M R L N m0 m1 m2 m3 m4 m5
 cases M
 cbv
 repeat' first | refine m1 _ _ ?_ ?_ | refine m2 _ _ fun h=>?_ | refine m3 _ ?_ | (refine m4 _ _ (Hd.out ?_);try first | rw [hks] | rw [hk2] | rw [hk3]) | (refine m5 _ _ ?_;cbv)
 all_goals (clear m1 m2 m3 m4 m5;cases m0;(try clear hks;try clear hk2;try clear hk3);try dsimp only)
 all_goals try simp only [sm] at *
 all_goals (clear hO;subst hf0 hf1 hf2 hf3)
 all_goals (try simp only [qh (show i<9223372036854775807 by omega)])
 all_goals (try refine ⟨(ih (by omega)).same rfl ?_⟩)
 all_goals (clear ih)
 all_goals (generalize ts.getD i Tie.z=q at *;obtain ⟨x1,x2,x3,x4,x5⟩:=q;try dsimp only at *)
 all_goals (try simp only [vc,qdW,Bool.and_eq_true,Bool.and_eq_false_iff,decide_eq_true_eq,decide_eq_false_iff_not] at *)
 all_goals first
  | omega
  | exact ⟨h3 _ (qo (z:=qg.z) (by omega)).out⟩
  | (refine ⟨?_⟩;simp only [List.length_take];omega)
  | (rw [he (by omega),hc];simp only [jK];apply decide_eq_decide.2;omega)
  | (refine (hl (by omega)).stop _ ?_;clear hl he;rw [hp,Bool.eq_false_iff];intro h;simp only [qfe,Bool.and_eq_true,Bool.or_eq_true,Bool.not_eq_true',decide_eq_true_eq] at h;simp only [nd] at h;first | omega | (rcases h with ⟨-,h | h⟩;(· simp_all;done);(· refine absurd h.2 ?_;rw [Bool.not_eq_false];assumption)) | (generalize ns.getD x2.toNat qg.z=r2 at *;generalize ns.getD x1.toNat qg.z=r1 at *;cases r1;cases r2;simp_all;done) | (simp_all;omega))
  | (refine (hl (by omega)).go ?_;clear hl he;rw [hp];simp only [qfe,Bool.and_eq_true,Bool.or_eq_true,Bool.not_eq_true',decide_eq_true_eq];first | (refine ⟨by omega,.inl ?_⟩;assumption) | (refine ⟨by omega,.inr ⟨⟨⟨by omega,by omega,by assumption⟩,?_⟩,?_⟩⟩<;>assumption))
  | trace_state
theorem Jo {α:Type}{p:α->Bool}:∀ {l:List α} {i:Nat} (n:Nat) (z:α),i<l.length->p (l.getD i z)=true->(zV p l n=(n+i:Nat)↔(l.take i).any p=false)
 | [],i,n,z,h,_=>absurd h (Nat.not_lt_zero _)
 | a::r,0,n,z,_,hp=>by simp only [List.getD_cons_zero] at hp;simp [zV,hp]
 | a::r,i+1,n,z,h,hp=>by
   simp only [List.getD_cons_succ] at hp
   simp only [List.length_cons] at h
   have ih:=Jo (l:=r) (i:=i) (n+1) z (by omega) hp
   have hge:=(qdq p r (n+1)).2
   unfold zV
   simp only [List.take_succ_cons,List.any_cons]
   cases ha:p a with
   | true=>simp;omega
   | false =>
     simp only [Bool.false_or,Bool.false_eq_true,if_false]
     rw [<-ih,show n+1+i=n+(i+1) by omega]
theorem qil (a b:List Int):Q7 a b=Q7 b a:=by
 rw [qd9,qd9,Bool.eq_iff_iff]
 simp only [decide_eq_true_eq]
 exact ⟨fun h=>h.symm,fun h=>h.symm⟩
theorem qpd {ns:List qg}{ts:List Tie}{i:Nat}{q:Tie}(h:ts[i]?=some q):qfe ns ts i q=wv ns ts i q:=by
 have hi:i<ts.length:=by rw [List.getElem?_eq_some_iff] at h;exact h.1
 have hq:ts.getD i Tie.z=q:=by rw [List.getD_eq_getElem?_getD,h];rfl
 unfold qfe wv
 cases hf:q.free with
 | false=>rfl
 | true =>
   have e:decide (KZ ts q.dst=i)=!((ts.take i).any fun u=>u.free&&u.dst == q.dst):=by
    have:=Jo (p:=fun u:Tie=>u.free&&u.dst == q.dst) (l:=ts) (i:=i) 0 Tie.z hi (by rw [hq,hf];simp)
    rw [Nat.zero_add] at this
    rw [Bool.eq_iff_iff]
    simp only [decide_eq_true_eq,Bool.not_eq_true']
    exact this
   rw [e,qil]
theorem qpR (ns:List qg)(ts:List Tie):qA (qfe ns ts) ts 0=qA (wv ns ts) ts 0:=wh ts 0 fun i q h=>by rw [Nat.zero_add];exact qpd h
def qrZ (f:List qg->List Tie->Nat->Tie->Bool):Wr:=w2 qP dcI (fun t i=>rB (f t.nodes t.ties i.toNat (t.ties.getD i.toNat Tie.z))) (fun t i=>[InX i t.ties,LLe t.nodes maxLen,LLe t.ties maxLen,WN t.nodes maxLen])
theorem qpP:qz Tryz.prog 103 (qrZ wv):=qE fun t i h=>qid t i (h _ (.head _)).out (h _ (.tail _ (.head _))).out (h _ (.tail _ (.tail _ (.head _)))).out (h _ (.tail _ (.tail _ (.tail _ (.head _))))).out
def qfx (f:List qg->List Tie->Bool):Wr:=w1 qP (fun t=>rB (f t.nodes t.ties)) (fun t=>[LLe t.nodes maxLen,LLe t.ties maxLen,WN t.nodes maxLen])
def JY (ns:List qg)(ts:List Tie):Bool:=qA (wv ns ts) ts 0&&decide (ts.length<=14)
theorem qfP:qz Tryz.prog 110 (qfx JY):=zx fun t h=>by unfold JY;rw [<-qpR];exact qh0 t (h _ (.head _)).out (h _ (.tail _ (.head _))).out (h _ (.tail _ (.tail _ (.head _)))).out
end Go.Proofs.YtececadpjelanaaGreat.Ai
namespace Go.Proofs.YtececadpjelanaaGreat.Ai
open Go
set_option maxRecDepth 100000
variable [qi]
def qkQ (x:Int):Int:=IntKind.i64.wrap (-x)
def Vw (cs:List qg)(x:Int):List Int:=(cs.getD x.toNat qg.z).label
def wdB (cs:List qg)(l:List Int)(x:Int):Bool:=decide (0<=zF cs (zG x))&&(!ZM (Vw cs (zF cs (zG x))) x&&(!ZM (Vw cs (zF cs (zG x))) (qkQ x)&&J4 l (Vw cs (zF cs (zG x)))))
def WU (f:List qg->Int->Int):Wr:=w2 qP dcI (fun t p=>rI (f t.nodes p)) (fun t p=>[LLe t.nodes maxLen])
theorem w6:qz Tryz.prog 72 (WU zF):=qE fun t p h=>KD t p (h _ (.head _)).out
def qom (f:List qg->ByteArray->Int):Wr:=w2 qP dcS (fun t p=>rI (f t.nodes p)) (fun t p=>[LLe t.nodes maxLen])
def qi2 (l:List qg)(s:ByteArray):Int:=zV (fun q=>eqS q.name s) l 0
theorem qkm:qz Tryz.prog 131 (qom qi2):=qE fun t p h=>qcI t p (h _ (.head _)).out
theorem VM (l:List qg)(p:Int):zF l p<l.length/\(0<=zF l p\/zF l p=-1):=by
 unfold zF
 have:=qdq (fun q:qg=>q.watch == p) l 0
 omega
theorem qcB (t:qm)(l:List Int)(x:Int)(h1:t.nodes.length<=maxLen)(h2:∀ q∈t.nodes,Kb q.label)(hl:Kb l)(hx:inI x)(hp:0<zG x):qe Tryz.prog 113 [qQ t,aIs l,aI x] (rB (wdB t.nodes l x)):=by
 refine qe.of qc (fn:=Tryz.f113) (c:=Tryz.f113.body.getD .skip) (dr:=fun n=>qa 0 [(1,3)] n) Tryz.func113 rfl (by kernel_rfl) (by kernel_rfl) (by kernel_rfl) ?_
 obtain ⟨f0,hf0⟩:∃ f,f=zG:=⟨_,rfl⟩
 obtain ⟨f1,hf1⟩:∃ f,f=zF:=⟨_,rfl⟩
 obtain ⟨f2,hf2⟩:∃ f,f=ZM:=⟨_,rfl⟩
 obtain ⟨f3,hf3⟩:∃ f,f=J4:=⟨_,rfl⟩
 have hO:qp Tryz.prog (qM [(142,WX f0),(115,KX f1),(143,qhe f2),(144,w7 f3)]):=by
  subst hf0 hf1 hf2 hf3
  exact qb WO (qb vO (qb qeM (qb qcQ qd)))
 obtain ⟨ns,ts,hr⟩:=t
 have h1:ns.length<=maxLen:=h1
 have h2:∀ q∈ns,Kb q.label:=h2
 show SEx _ _ _ _ _ _ (rB (wdB ns l x))
 rw [<-hf0] at hp
 have hlt:f1 ns (f0 x)<ns.length:=by rw [hf1];exact (VM _ _).1
 refine SEx.go (X:=XX) qc (fun n=>qa [] [] n) (fun _=>none) hO 60 ?_
 intro M R L N m0 m1 m2 m3 m4 m5
 cases M
 cbv
 repeat' first | refine m1 _ _ ?_ ?_ | refine m2 _ _ fun h=>?_ | refine m3 _ ?_ | (refine m4 _ _ (Hd.out ?_);try first | rw [hks] | rw [hk2] | rw [hk3]) | (refine m5 _ _ ?_;cbv)
 all_goals (clear m1 m2 m3 m4 m5;cases m0;(try clear hks;try clear hk2;try clear hk3);try dsimp only)
 all_goals try simp only [sm] at *
 all_goals (clear hO;subst hf0 hf1 hf2 hf3)
 all_goals first
  | exact ⟨hx⟩
  | exact ⟨h1⟩
  | exact ⟨hp⟩
  | exact hl
  | omega
  | exact ⟨(h2 _ (qo (z:=qg.z) (by omega)).out).len⟩
  | exact h2 _ (qo (z:=qg.z) (by omega)).out
  | (simp only [jK];unfold wdB Vw qkQ;delta qg.label;rw [decide_eq_false (by omega)];rfl)
  | (simp only [jK];unfold wdB Vw qkQ;delta qg.label;rw [decide_eq_true (by omega)];simp_all;done)
  | skip
structure qst (x:Int):Prop where out:0<zG x
structure qqE (cs:List qg):Prop where out:∀ q∈cs,Kb q.label
theorem qgr (x:Int)(t:qm)(q:qg)(h1:t.nodes.length<=maxLen)(h2:∀ q∈t.nodes,Kb q.label)(hl:Kb q.label)(hx:inI x)(hp:0<zG x):qe Tryz.prog 112 [aI x,(false,[.ptr t.d]),(false,[.ptr q.d])] (rB (!wdB t.nodes q.label x)):=by
 refine qe.of qc (fn:=Tryz.f112) (c:=Tryz.f112.body.getD .skip) (dr:=fun n=>qa 0 [] n) Tryz.func112 rfl (by kernel_rfl) (by kernel_rfl) (by kernel_rfl) ?_
 obtain ⟨f,hf⟩:∃ f,f=wdB:=⟨_,rfl⟩
 have hO:qp Tryz.prog (qM [(113,w3 qP kA dcI (fun t l x=>rB (f t.nodes l x)) (fun t l x=>[LLe t.nodes maxLen,qqE t.nodes,Kb l,IIn x,qst x]))]):=by
  subst hf
  exact qb (Qe fun t l x h=>qcB t l x (h _ (.head _)).out (h _ (.tail _ (.head _))).out (h _ (.tail _ (.tail _ (.head _)))) (h _ (.tail _ (.tail _ (.tail _ (.head _))))).out (h _ (.tail _ (.tail _ (.tail _ (.tail _ (.head _)))))).out) qd
 obtain ⟨ns,ts,hr⟩:=t
 obtain ⟨x1,x2,x3⟩:=q
 have h1:ns.length<=maxLen:=h1
 have h2:∀ q∈ns,Kb q.label:=h2
 have hl:Kb x2:=hl
 refine SEx.go (X:=XX) qc (fun n=>qa [] [] n) (fun _=>none) hO 60 ?_
 intro M R L N m0 m1 m2 m3 m4 m5
 cases M
 cbv
 repeat' first | refine m1 _ _ ?_ ?_ | refine m2 _ _ fun h=>?_ | refine m3 _ ?_ | (refine m4 _ _ (Hd.out ?_);try first | rw [hks] | rw [hk2] | rw [hk3]) | (refine m5 _ _ ?_;cbv)
 all_goals (clear m1 m2 m3 m4 m5;cases m0;(try clear hks;try clear hk2;try clear hk3);try dsimp only)
 all_goals try simp only [sm] at *
 all_goals first
  | exact ⟨h1⟩
  | exact ⟨h2⟩
  | exact hl
  | exact ⟨hx⟩
  | exact ⟨hp⟩
  | (subst hf;rfl)
def ndP (cs:List qg)(i:Nat)(q:qg):Bool:=QY q&&(decide (qi2 cs q.name=i)&&(decide (q.watch=0)||decide (zF cs q.watch=i)))
def Yt (cs:List qg)(q:qg):Bool:=qA (fun _ x=>wdB cs q.label x) q.label 0
def Qs (cs:List qg):Bool:=decide (1<=(cs.length:Int)/\(cs.length:Int)<=7)&&(decide (((nd cs 0).label.length:Int)<=0)&&decide ((nd cs 0).watch=0))
theorem qc7 (t:qm)(h1:t.nodes.length<=maxLen)(h2:∀ q∈t.nodes,yM q):qe Tryz.prog 102 [qQ t] (rB (Qs t.nodes&&(qA (ndP t.nodes) t.nodes 0&&qA (fun _ q=>Yt t.nodes q) t.nodes 0))):=by
 refine qe.of qc (fn:=Tryz.f102) (c:=Tryz.f102.body.getD .skip) (dr:=fun n=>qa 0 [(15,3),(16,32)] n) Tryz.func102 rfl (by kernel_rfl) (by kernel_rfl) (by kernel_rfl) ?_
 obtain ⟨f0,hf0⟩:∃ f,f=z8:=⟨_,rfl⟩
 obtain ⟨f1,hf1⟩:∃ f,f=QY:=⟨_,rfl⟩
 obtain ⟨f2,hf2⟩:∃ f,f=qi2:=⟨_,rfl⟩
 obtain ⟨f3,hf3⟩:∃ f,f=zF:=⟨_,rfl⟩
 obtain ⟨f4,hf4⟩:∃ f,f=zG:=⟨_,rfl⟩
 obtain ⟨f5,hf5⟩:∃ f,f=ZM:=⟨_,rfl⟩
 obtain ⟨f6,hf6⟩:∃ f,f=J4:=⟨_,rfl⟩
 have hO:qp Tryz.prog (qM [(70,Ye f0),(130,V8 f1),(131,qom f2),(72,WU f3),(132,WX f4),(93,qhe f5),(133,w7 f6)]):=by
  subst hf0 hf1 hf2 hf3 hf4 hf5 hf6
  exact qb j8 (qb qdv (qb qkm (qb w6 (qb Wo (qb YY (qb qcP qd))))))
 obtain ⟨cs,ts,hr⟩:=t
 have h1:cs.length<=maxLen:=h1
 have h2:∀ q∈cs,yM q:=h2
 unfold maxLen at h1
 show SEx _ _ _ _ _ _ (rB (Qs cs&&(qA (ndP cs) cs 0&&qA (fun _ q=>Yt cs q) cs 0)))
 obtain ⟨c,hc⟩:∃ c,c=qA (fun _ q=>Yt cs q) cs 0:=⟨_,rfl⟩
 obtain ⟨p,hp⟩:∃ p,p=ndP cs:=⟨_,rfl⟩
 rw [<-hc,<-hp]
 refine SEx.go (X:=XX) qc (fun n=>qa [] [(4,[1,33,34,35]),(10,[1,66,67,68]),(13,[1,6,66,67,68,73,74,75])] n) (fun _=>none) hO 60 ?_
 intro M R L N m0 m1 m2 m3 m4 m5
 cases M
 cbv
 repeat' first | refine m1 _ _ ?_ ?_ | refine m2 _ _ fun h=>?_ | refine m3 _ ?_ | (refine m4 _ _ (Hd.out ?_);generalize hks:(List.cons _ _:List K)=ks) | (refine m5 _ _ ?_;cbv)
 all_goals (clear m1 m2 m3 m4 m5;cases m0;try dsimp only)
 all_goals try simp only [sm] at *
 all_goals (try simp only [hf0,z8,Bool.and_eq_true,Bool.and_eq_false_iff,decide_eq_true_eq,decide_eq_false_iff_not] at *)
 all_goals first
  | omega
  | (refine qJ ?_ _;unfold Qs nd;delta qg.label qg.watch;rw [decide_eq_false (by omega)];rfl)
  | (refine qJ ?_ _;unfold Qs nd;delta qg.label qg.watch;rw [Bool.and_assoc,decide_eq_true (by omega),Bool.true_and,decide_eq_false (by omega)];rfl)
  | (refine qJ ?_ _;unfold Qs nd;delta qg.label qg.watch;rw [decide_eq_true (by omega),decide_eq_true (by omega),decide_eq_false (by assumption)];rfl)
  | skip
 have hh:Qs cs=true:=by
  unfold Qs nd;delta qg.label qg.watch;rw [decide_eq_true (by omega),decide_eq_true (by omega),decide_eq_true (by assumption)];rfl
 rw [hh,Bool.true_and]
 obtain ⟨m,hm⟩:∃ m,m=cs.length:=⟨_,rfl⟩
 refine ⟨SEx.same (SEx.idx m (fun i=>⟨120,[(1,bP 4096),(33,bL (.node false none cs)),(34,bI m),(35,bI i)],[(4096,.obx [.fz (.sl (.node false none cs)),.fz (.sl (.tie ts)),.fz (.int .i64 hr)])]⟩) (fun i=>rB (qA p (cs.drop i) i&&c)) ?_) (by rw [hm];rfl) rfl⟩
 intro i hi ih
 rw [<-hks]
 have hl:i<m->q9 _ _ _:=fun h=>q9.of p cs i c qg.z (by omega)
 have he:i=m->(qA p (cs.drop i) i&&c)=c:=fun h=>qN (by omega)
 refine SEx.go (X:=XX) qc (fun n=>qa [] [(4,[1,33,34,35]),(10,[1,66,67,68]),(13,[1,6,66,67,68,73,74,75])] n) (fun _=>none) hO 60 ?_
 intro M R L N m0 m1 m2 m3 m4 m5
 cases M
 cbv
 repeat' first | refine m1 _ _ ?_ ?_ | refine m2 _ _ fun h=>?_ | refine m3 _ ?_ | (refine m4 _ _ (Hd.out ?_);first | rw [hks] | generalize hk2:(List.cons _ _:List K)=k2) | (refine m5 _ _ ?_;cbv)
 all_goals (clear m1 m2 m3 m4 m5;cases m0;try dsimp only)
 all_goals try simp only [sm] at *
 all_goals (try simp only [qh (show i<9223372036854775807 by omega)])
 all_goals first
  | omega
  | exact h2 _ (qo (z:=qg.z) (by omega)).out
  | exact ⟨h1⟩
  | (refine (hl (by omega)).stop _ ?_;subst hf1 hf2 hf3;rw [hp];unfold ndP;delta qg.name qg.watch;simp_all;done)
  | (refine ⟨(ih (by omega)).same rfl ((hl (by omega)).go ?_)⟩;clear ih;subst hf1 hf2 hf3;rw [hp];unfold ndP;delta qg.name qg.watch;simp_all;done)
  | skip
 have him:i=m:=by omega
 rw [he him]
 clear ih hl he
 obtain ⟨pl,hpl⟩:∃ pl:Nat->qg->Bool,pl=fun _ q=>Yt cs q:=⟨_,rfl⟩
 rw [<-hpl] at hc
 refine ⟨SEx.same (SEx.idx m (fun i=>⟨120,[(1,bP 4096),(66,bL (.node false none cs)),(67,bI m),(68,bI i)],[(4096,.obx [.fz (.sl (.node false none cs)),.fz (.sl (.tie ts)),.fz (.int .i64 hr)])]⟩) (fun i=>rB (qA pl (cs.drop i) i&&true)) ?_) (by rw [hm];rfl) (by rw [hc,Bool.and_true];rfl)⟩
 intro k hk ih
 rw [<-hk2]
 have hl:k<m->q9 _ _ _:=fun h=>q9.of pl cs k true qg.z (by omega)
 have he:k=m->(qA pl (cs.drop k) k&&true)=true:=fun h=>qN (by omega)
 refine SEx.go (X:=XX) qc (fun n=>qa [] [(4,[1,33,34,35]),(10,[1,66,67,68]),(13,[1,6,66,67,68,73,74,75])] n) (fun _=>none) hO 60 ?_
 intro M R L N m0 m1 m2 m3 m4 m5
 cases M
 cbv
 repeat' first | refine m1 _ _ ?_ ?_ | refine m2 _ _ fun h=>?_ | refine m3 _ ?_ | (refine m4 _ _ (Hd.out ?_);first | rw [hks] | rw [hk2] | generalize hk3:(List.cons _ _:List K)=k3) | (refine m5 _ _ ?_;cbv)
 all_goals (clear m1 m2 m3 m4 m5;cases m0;try dsimp only)
 all_goals try simp only [sm] at *
 all_goals first
  | omega
  | (refine qJ ?_ _;rw [he (by omega)];done)
  | skip
 have hkm:k<m:=by omega
 obtain ⟨q,hq⟩:∃ q,q=cs.getD k qg.z:=⟨_,rfl⟩
 have hnq:yM q:=by rw [hq];exact h2 _ (qo (z:=qg.z) (by omega)).out
 obtain ⟨d,hd⟩:∃ d,d=(qA pl (cs.drop (k+1)) (k+1)&&true):=⟨_,rfl⟩
 have hs:(qA pl (cs.drop k) k&&true)=(qA (fun _ x=>wdB cs q.label x) (q.label.drop 0) 0&&d):=by
  rw [ye qg.z (show k<cs.length by omega),hd,<-hq,hpl,Bool.and_assoc];rfl
 rw [hs]
 rw [<-hd] at ih
 clear hl he hs hd
 obtain ⟨x1,x2,x3⟩:=q
 obtain ⟨w,hw⟩:∃ w,w=x2.length:=⟨_,rfl⟩
 have hlw:=hnq.len
 have hall:=hnq.all
 dsimp only at hlw hall
 unfold maxLen at hlw
 refine ⟨SEx.same (SEx.idx w (fun j=>⟨120,[(1,bP 4096),(6,bP 24576),(66,bL (.node false none cs)),(67,bI m),(68,bI k),(73,bL (.i x2)),(74,bI w),(75,bI j)],[(4096,.obx [.fz (.sl (.node false none cs)),.fz (.sl (.tie ts)),.fz (.int .i64 hr)]),(24576,.obx [.fz (.str x1),.fz (.sl (.i x2)),.fz (.int .i64 x3)])]⟩) (fun j=>rB (qA (fun _ x=>wdB cs x2 x) (x2.drop j) j&&d)) ?_) (by rw [hw,<-hq];rfl) rfl⟩
 intro j hj ihj
 rw [<-hk3]
 have hl:j<w->q9 _ _ _:=fun h=>q9.of (fun _ x=>wdB cs x2 x) x2 j d (0:Int) (by omega)
 have he:j=w->(qA (fun _ x=>wdB cs x2 x) (x2.drop j) j&&d)=d:=fun h=>qN (by omega)
 have hlt:∀ x,f3 cs x<cs.length:=fun x=>by rw [hf3];exact (VM _ _).1
 refine SEx.go (X:=XX) qc (fun n=>qa [] [(4,[1,33,34,35]),(10,[1,66,67,68]),(13,[1,6,66,67,68,73,74,75])] n) (fun _=>none) hO 60 ?_
 intro M R L N m0 m1 m2 m3 m4 m5
 cases M
 cbv
 repeat' first | refine m1 _ _ ?_ ?_ | refine m2 _ _ fun h=>?_ | refine m3 _ ?_ | (refine m4 _ _ (Hd.out ?_);try first | rw [hks] | rw [hk2] | rw [hk3]) | (refine m5 _ _ ?_;cbv)
 all_goals (clear m1 m2 m3 m4 m5;cases m0;(try clear hks;try clear hk2;try clear hk3);try dsimp only)
 all_goals try simp only [sm] at *
 all_goals (try simp only [qh (show j<9223372036854775807 by omega)])
 all_goals (try have h5:=hlt (f4 (x2.getD j 0)))
 all_goals first
  | omega
  | exact ⟨h1⟩
  | exact ⟨hall _ (qo (z:=(0:Int)) (by omega)).out⟩
  | exact ⟨(h2 _ (qo (z:=qg.z) (by omega)).out).len⟩
  | exact ⟨hlw,hall⟩
  | exact ⟨(h2 _ (qo (z:=qg.z) (by omega)).out).len,(h2 _ (qo (z:=qg.z) (by omega)).out).all⟩
  | (have hjw:j=w:=by omega
     rw [he hjw]
     simp only [qh (show k<9223372036854775807 by omega)]
     exact ⟨(ih hkm).same rfl rfl⟩)
  | (refine (hl (by omega)).stop _ ?_;subst hf3 hf4 hf5 hf6;unfold wdB Vw qkQ;delta qg.label;rw [decide_eq_false (by omega)];rfl)
  | (refine (hl (by omega)).stop _ ?_;subst hf3 hf4 hf5 hf6;unfold wdB Vw qkQ;delta qg.label;rw [decide_eq_true (by omega)];simp_all;done)
  | (refine ⟨(ihj (by omega)).same rfl ((hl (by omega)).go ?_)⟩;clear ih ihj;subst hf3 hf4 hf5 hf6;unfold wdB Vw qkQ;delta qg.label;rw [decide_eq_true (by omega)];simp_all;done)
  | skip
def Jf (q m:qg):Bool:=eqS m.name q.name||(decide (¬q.watch=0)&&m.watch == q.watch)
def ndI (cs:List qg)(i:Nat)(q:qg):Bool:=QY q&&qA (fun _ m=>!Jf q m) (cs.take i) 0
theorem qeF (t:qm)(h1:t.nodes.length<=maxLen)(h2:∀ q∈t.nodes,yM q):qe Tryz.prog 109 [qQ t] (rB (Qs t.nodes&&qA (ndI t.nodes) t.nodes 0)):=by
 refine qe.of qc (fn:=Tryz.f109) (c:=Tryz.f109.body.getD .skip) (dr:=fun n=>qa 0 [] n) Tryz.func109 rfl (by kernel_rfl) (by kernel_rfl) (by kernel_rfl) ?_
 obtain ⟨f1,hf1⟩:∃ f,f=QY:=⟨_,rfl⟩
 have hO:qp Tryz.prog (qM [(137,V8 f1)]):=by
  subst hf1
  exact qb qeh qd
 obtain ⟨cs,ts,hr⟩:=t
 have h1:cs.length<=maxLen:=h1
 have h2:∀ q∈cs,yM q:=h2
 unfold maxLen at h1
 show SEx _ _ _ _ _ _ (rB (Qs cs&&qA (ndI cs) cs 0))
 obtain ⟨p,hp⟩:∃ p,p=ndI cs:=⟨_,rfl⟩
 rw [<-hp]
 refine SEx.go (X:=XX) qc (fun n=>qa [] [(4,[1,35,36,37]),(9,[1,4,35,36,37,48,49,50])] n) (fun _=>none) hO 60 ?_
 intro M R L N m0 m1 m2 m3 m4 m5
 cases M
 cbv
 repeat' first | refine m1 _ _ ?_ ?_ | refine m2 _ _ fun h=>?_ | refine m3 _ ?_ | (refine m4 _ _ (Hd.out ?_);generalize hks:(List.cons _ _:List K)=ks) | (refine m5 _ _ ?_;cbv)
 all_goals (clear m1 m2 m3 m4 m5;cases m0;try dsimp only)
 all_goals try simp only [sm] at *
 all_goals first
  | omega
  | (refine qJ ?_ _;unfold Qs nd;delta qg.label qg.watch;rw [decide_eq_false (by omega)];rfl)
  | (refine qJ ?_ _;unfold Qs nd;delta qg.label qg.watch;rw [Bool.and_assoc,decide_eq_true (by omega),Bool.true_and,decide_eq_false (by omega)];rfl)
  | (refine qJ ?_ _;unfold Qs nd;delta qg.label qg.watch;rw [decide_eq_true (by omega),decide_eq_true (by omega),decide_eq_false (by assumption)];rfl)
  | skip
 have hh:Qs cs=true:=by
  unfold Qs nd;delta qg.label qg.watch;rw [decide_eq_true (by omega),decide_eq_true (by omega),decide_eq_true (by assumption)];rfl
 rw [hh,Bool.true_and]
 obtain ⟨m,hm⟩:∃ m,m=cs.length:=⟨_,rfl⟩
 refine ⟨SEx.same (SEx.idx m (fun i=>⟨73,[(1,bP 4096),(35,bL (.node false none cs)),(36,bI m),(37,bI i)],[(4096,.obx [.fz (.sl (.node false none cs)),.fz (.sl (.tie ts)),.fz (.int .i64 hr)])]⟩) (fun i=>rB (qA p (cs.drop i) i&&true)) ?_) (by rw [hm];rfl) (by rw [Bool.and_true];rfl)⟩
 intro i hi ih
 rw [<-hks]
 have hl:i<m->q9 _ _ _:=fun h=>q9.of p cs i true qg.z (by omega)
 have he:i=m->(qA p (cs.drop i) i&&true)=true:=fun h=>qN (by omega)
 refine SEx.go (X:=XX) qc (fun n=>qa [] [(4,[1,35,36,37]),(9,[1,4,35,36,37,48,49,50])] n) (fun _=>none) hO 60 ?_
 intro M R L N m0 m1 m2 m3 m4 m5
 cases M
 cbv
 repeat' first | refine m1 _ _ ?_ ?_ | refine m2 _ _ fun h=>?_ | refine m3 _ ?_ | (refine m4 _ _ (Hd.out ?_);first | rw [hks] | generalize hk2:(List.cons _ _:List K)=k2) | (refine m5 _ _ ?_;cbv)
 all_goals (clear m1 m2 m3 m4 m5;cases m0;try dsimp only)
 all_goals try simp only [sm] at *
 all_goals (try simp only [qh (show i<9223372036854775807 by omega)])
 all_goals first
  | omega
  | exact h2 _ (qo (z:=qg.z) (by omega)).out
  | (refine qJ ?_ _;rw [he (by omega)];done)
  | (refine (hl (by omega)).stop _ ?_;subst hf1;rw [hp];unfold ndI;simp_all;done)
  | skip
 have him:i<m:=by omega
 have hq1:f1 (cs.getD i qg.z)=true:=by assumption
 obtain ⟨q,hq⟩:∃ q,q=cs.getD i qg.z:=⟨_,rfl⟩
 rw [<-hq] at hq1
 obtain ⟨l,hll⟩:∃ l,l=cs.take i:=⟨_,rfl⟩
 obtain ⟨d,hd⟩:∃ d,d=(qA p (cs.drop (i+1)) (i+1)&&true):=⟨_,rfl⟩
 have hs:(qA p (cs.drop i) i&&true)=(qA (fun _ m=>!Jf q m) (l.drop 0) 0&&d):=by
  rw [ye qg.z (show i<cs.length by omega),hd,<-hq,hp,Bool.and_assoc,ndI,<-hf1,hq1,<-hll,Bool.true_and];rfl
 rw [hs]
 rw [<-hd] at ih
 clear hl he hs hd
 obtain ⟨x1,x2,x3⟩:=q
 obtain ⟨w,hw⟩:∃ w,w=l.length:=⟨_,rfl⟩
 have hwl:w<=cs.length:=by rw [hw,hll,List.length_take];omega
 refine ⟨SEx.same (SEx.idx w (fun j=>⟨73,[(1,bP 4096),(4,bP 16384),(35,bL (.node false none cs)),(36,bI m),(37,bI i),(48,bL (.node false none l)),(49,bI w),(50,bI j)],[(4096,.obx [.fz (.sl (.node false none cs)),.fz (.sl (.tie ts)),.fz (.int .i64 hr)]),(16384,.obx [.fz (.str x1),.fz (.sl (.i x2)),.fz (.int .i64 x3)])]⟩) (fun j=>rB (qA (fun _ m=>!Jf ⟨x1,x2,x3⟩ m) (l.drop j) j&&d)) ?_) (by rw [hw,<-hq,hll];rfl) rfl⟩
 intro j hj ihj
 rw [<-hk2]
 have hl:j<w->q9 _ _ _:=fun h=>q9.of (fun _ m=>!Jf ⟨x1,x2,x3⟩ m) l j d qg.z (by omega)
 have he:j=w->(qA (fun _ m=>!Jf ⟨x1,x2,x3⟩ m) (l.drop j) j&&d)=d:=fun h=>qN (by omega)
 refine SEx.go (X:=XX) qc (fun n=>qa [] [(4,[1,35,36,37]),(9,[1,4,35,36,37,48,49,50])] n) (fun _=>none) hO 60 ?_
 intro M R L N m0 m1 m2 m3 m4 m5
 cases M
 cbv
 repeat' first | refine m1 _ _ ?_ ?_ | refine m2 _ _ fun h=>?_ | refine m3 _ ?_ | (refine m4 _ _ (Hd.out ?_);try first | rw [hks] | rw [hk2] | rw [hk3]) | (refine m5 _ _ ?_;cbv)
 all_goals (clear m1 m2 m3 m4 m5;cases m0;(try clear hks;try clear hk2;try clear hk3);try dsimp only)
 all_goals try simp only [sm] at *
 all_goals (try simp only [qh (show j<9223372036854775807 by omega)])
 all_goals first
  | omega
  | (refine (hl (by omega)).stop _ ?_;unfold Jf eqS;delta qg.name qg.watch;simp_all;done)
  | (refine ⟨(ihj (by omega)).same rfl ((hl (by omega)).go ?_)⟩;clear ih ihj;unfold Jf eqS;delta qg.name qg.watch;simp_all;done)
  | (rw [he (by omega)];simp only [qh (show i<9223372036854775807 by omega)];exact ⟨(ih (by omega)).same rfl rfl⟩)
  | skip
theorem qn8 {α:Type}(p q:α->Bool):∀ l:List α,(l.any fun x=>p x||q x)=(l.any p||l.any q)
 | []=>rfl
 | a::r=>by simp only [List.any_cons,qn8 p q r];cases p a<;>cases q a<;>cases r.any p<;>cases r.any q<;>rfl
theorem qjG {α:Type}(c:Bool)(q:α->Bool):∀ l:List α,(l.any fun x=>c&&q x)=(c&&l.any q)
 | []=>by simp
 | a::r=>by simp only [List.any_cons,qjG c q r];cases c<;>rfl
theorem ql6 (s:ByteArray):eqS s s=true:=by unfold eqS;simp
theorem qra {cs:List qg}{i:Nat}{q:qg}(h:cs[i]?=some q):ndI cs i q=ndP cs i q:=by
 have hi:i<cs.length:=by rw [List.getElem?_eq_some_iff] at h;exact h.1
 have hq:cs.getD i qg.z=q:=by rw [List.getD_eq_getElem?_getD,h];rfl
 have e1:decide (qi2 cs q.name=i)=!((cs.take i).any fun r=>eqS r.name q.name):=by
  have:=Jo (p:=fun r:qg=>eqS r.name q.name) (l:=cs) (i:=i) 0 qg.z hi (by rw [hq];exact ql6 _)
  rw [Nat.zero_add] at this
  rw [Bool.eq_iff_iff]
  simp only [decide_eq_true_eq,Bool.not_eq_true']
  exact this
 have e2:decide (zF cs q.watch=i)=!((cs.take i).any fun r=>r.watch == q.watch):=by
  have:=Jo (p:=fun r:qg=>r.watch == q.watch) (l:=cs) (i:=i) 0 qg.z hi (by rw [hq];exact beq_self_eq_true _)
  rw [Nat.zero_add] at this
  rw [Bool.eq_iff_iff]
  simp only [decide_eq_true_eq,Bool.not_eq_true']
  exact this
 have e3:qA (fun _ m=>!Jf q m) (cs.take i) 0=!(((cs.take i).any fun r=>eqS r.name q.name)||(decide (¬q.watch=0)&&(cs.take i).any fun r=>r.watch == q.watch)):=by
  rw [K5,<-qjG,<-qn8,List.not_any_eq_all_not];rfl
 unfold ndI ndP
 rw [e1,e2,e3,Bool.not_or,Bool.not_and,decide_not,Bool.not_not]
theorem qn7 (cs:List qg):qA (ndI cs) cs 0=qA (ndP cs) cs 0:=wh cs 0 fun i q h=>by rw [Nat.zero_add];exact qra h
structure qqr (cs:List qg):Prop where out:∀ q∈cs,yM q
def Qr (cs:List qg):Bool:=Qs cs&&qA (ndP cs) cs 0
def qjD (cs:List qg):Bool:=qA (fun _ q=>Yt cs q) cs 0
def JG (f:List qg->Bool):Wr:=w1 qP (fun t=>rB (f t.nodes)) (fun t=>[LLe t.nodes maxLen,qqr t.nodes])
def nlB (cs:List qg):Bool:=Qr cs&&qjD cs
theorem qaD:qz Tryz.prog 102 (JG nlB):=zx fun t h=>by
 unfold nlB Qr qjD
 rw [Bool.and_assoc]
 exact qc7 t (h _ (.head _)).out (h _ (.tail _ (.head _))).out
theorem qcT:qz Tryz.prog 109 (JG Qr):=zx fun t h=>by
 unfold Qr
 rw [<-qn7]
 exact qeF t (h _ (.head _)).out (h _ (.tail _ (.head _))).out
def qfu (n:Int):Bool:=decide (1<=n)&&decide (n<=10)
def za (t:qm):Bool:=Qr t.nodes&&(qjD t.nodes&&(JY t.nodes t.ties&&qfu t.hor))
structure jY (t:qm):Prop where
 len:t.nodes.length<=maxLen
 tlen:t.ties.length<=maxLen
 nodes:∀ q∈t.nodes,yM q
theorem qaq (t:qm)(ht:jY t):qe Tryz.prog 63 [qQ t] (rB (za t)):=by
 refine qe.of qc (fn:=Tryz.f63) (c:=Tryz.f63.body.getD .skip) (dr:=fun n=>qa 0 [] n) Tryz.func63 rfl (by kernel_rfl) (by kernel_rfl) (by kernel_rfl) ?_
 have h1:=ht.len
 have h2:=ht.tlen
 have h3:=ht.nodes
 clear ht
 obtain ⟨f1,hf1⟩:∃ f,f=nlB:=⟨_,rfl⟩
 obtain ⟨f3,hf3⟩:∃ f,f=z8:=⟨_,rfl⟩
 obtain ⟨f4,hf4⟩:∃ f,f=wv:=⟨_,rfl⟩
 have hO:qp Tryz.prog (qM [(102,JG f1),(70,Ye f3),(103,qrZ f4)]):=by
  subst hf1 hf3 hf4
  exact qb qaD (qb j8 (qb qpP qd))
 obtain ⟨ns,ts,hr⟩:=t
 have h1:ns.length<=maxLen:=h1
 have h2:ts.length<=maxLen:=h2
 have h3:∀ q∈ns,yM q:=h3
 unfold maxLen at h2
 obtain ⟨a,ha⟩:∃ a,a=decide (ts.length<=14):=⟨_,rfl⟩
 obtain ⟨d,hd⟩:∃ a,a=qfu hr:=⟨_,rfl⟩
 obtain ⟨p,hp⟩:∃ p:Nat->Tie->Bool,p=f4 ns ts:=⟨_,rfl⟩
 have hs:za ⟨ns,ts,hr⟩=(f1 ns&&(qA p ts 0&&(a&&d))):=by
  rw [hf1,hp,hf4,ha,hd];unfold za JY nlB;rw [Bool.and_assoc,Bool.and_assoc]
 rw [hs]
 have hdd:f3 hr 1 10=d:=by rw [hf3,hd];rfl
 clear hd hs
 refine SEx.go (X:=XX) qc (fun n=>qa [] [(4,[1,21,22])] n) (fun _=>none) hO 60 ?_
 intro M R L N m0 m1 m2 m3 m4 m5
 cases M
 cbv
 repeat' first | refine m1 _ _ ?_ ?_ | refine m2 _ _ fun h=>?_ | refine m3 _ ?_ | (refine m4 _ _ (Hd.out ?_);generalize hks:(List.cons _ _:List K)=ks) | (refine m5 _ _ ?_;cbv)
 all_goals (clear m1 m2 m3 m4 m5;cases m0;try dsimp only)
 all_goals try simp only [sm] at *
 all_goals (try rw [hdd] at *)
 all_goals first
  | exact ⟨h1⟩
  | exact ⟨h3⟩
  | (refine qJ ?_ _;simp_all;done)
  | (refine qJ ?_ _;rw [ha,decide_eq_false (by omega)];simp;done)
  | skip
 rw [show f1 ns=true by assumption,Bool.true_and,show a=true by rw [ha];exact decide_eq_true (by omega),show d=true by assumption,Bool.true_and]
 obtain ⟨m,hm⟩:∃ m,m=ts.length:=⟨_,rfl⟩
 refine ⟨SEx.same (SEx.idx m (fun i=>⟨30,[(1,bP 4096),(21,bI m),(22,bI i)],[(4096,.obx [.fz (.sl (.node false none ns)),.fz (.sl (.tie ts)),.fz (.int .i64 hr)])]⟩) (fun i=>rB (qA p (ts.drop i) i&&true)) ?_) (by rw [hm];rfl) rfl⟩
 intro i hi ih
 rw [<-hks]
 have hl:i<m->q9 _ _ _:=fun h=>q9.of p ts i true Tie.z (by omega)
 have he:i=m->(qA p (ts.drop i) i&&true)=true:=fun h=>qN (by omega)
 refine SEx.go (X:=XX) qc (fun n=>qa [] [(4,[1,21,22])] n) (fun _=>none) hO 60 ?_
 intro M R L N m0 m1 m2 m3 m4 m5
 cases M
 cbv
 repeat' first | refine m1 _ _ ?_ ?_ | refine m2 _ _ fun h=>?_ | refine m3 _ ?_ | (refine m4 _ _ (Hd.out ?_);try first | rw [hks] | rw [hk2] | rw [hk3]) | (refine m5 _ _ ?_;cbv)
 all_goals (clear m1 m2 m3 m4 m5;cases m0;(try clear hks;try clear hk2;try clear hk3);try dsimp only)
 all_goals try simp only [sm] at *
 all_goals (try simp only [qh (show i<9223372036854775807 by omega)])
 all_goals first
  | omega
  | exact ⟨h1⟩
  | exact ⟨h2⟩
  | exact ⟨fun q hq=>(h3 q hq).len⟩
  | exact ⟨⟨by omega,by omega⟩⟩
  | (refine qJ ?_ _;rw [he (by omega)];done)
  | (refine (hl (by omega)).stop _ ?_;rw [hp];assumption)
  | (refine ⟨(ih (by omega)).same rfl ((hl (by omega)).go ?_)⟩;rw [hp];assumption)
  | skip
end Go.Proofs.YtececadpjelanaaGreat.Ai
namespace Go.Proofs.YtececadpjelanaaGreat.Ai
open Go
set_option maxRecDepth 100000
variable [qi]
def qrK {α β:Type}(k:Nat)(g h:Bool)(d:Dc α)(e:Dc β):Dc (α×β):=⟨fun a=>aF k [.ptr (d.enc a.1).2,.ptr (e.enc a.2).2],fun | (false,[.fn f [.ptr x,.ptr y]])=>(match nq f k with | true=>(match d.dec (g,x),e.dec (h,y) with | some a,some b=>some (a,b) | _,_=>none) | false=>none) | _=>none,by
 intro x a hh
 split at hh
 . split at hh
   . rename_i hk
     obtain rfl:=QW.1 hk
     split at hh
     . rename_i a' b' ha hb
       simp only [Option.some.injEq] at hh
       subst hh
       have e1:=congrArg Prod.snd (d.ok _ _ ha)
       have e2:=congrArg Prod.snd (e.ok _ _ hb)
       simp only [kc] at e1 e2
       simp only [kc,D.erL,D.er,aF,e1,e2]
     . cases hh
   . cases hh
 . cases hh⟩
structure qrS (l:List Int):Prop where out:∀ x∈l,inI x/\0<zG x
theorem WM {x:Int}(h0:¬x=0)(h1:-3<=x)(h2:x<=3):0<zG x:=by
 unfold zG
 split
 . rw [qr (by omega) (by omega)];omega
 . omega
theorem YO {x:Int}(h1:-3<=x)(h2:x<=3):zG x<=3:=by
 unfold zG
 split
 . rw [qr (by omega) (by omega)];omega
 . omega
theorem ZZ {l:List Int}(h:qW l=true){x:Int}(hx:x∈l):¬x=0/\-3<=x/\x<=3:=by
 obtain ⟨i,hi,rfl⟩:=List.mem_iff_getElem.1 hx
 have:=of_decide_eq_true (Jg h i hi)
 rw [zm hi] at this
 exact ⟨this.1,this.2.1,this.2.2.1⟩
theorem Wm {l:List Int}(h:qW l=true):∀ x∈l,inI x/\0<zG x:=fun x hx=>by
 have ⟨h1,h2,h3⟩:=ZZ h hx
 exact ⟨by rw [je];omega,WM h1 h2 h3⟩
theorem Q3 {α:Type}{p:Nat->α->Bool}:∀ {l:List α} {n:Nat} {q:α},qA p l n=true->q∈l->∃ i,p i q=true
 | a::r,n,q,h,hq=>by
   unfold qA at h
   rw [Bool.and_eq_true] at h
   rcases List.mem_cons.1 hq with rfl | hq
   . exact ⟨n,h.1⟩
   . exact Q3 h.2 hq
theorem W7 {cs:List qg}(h:Qr cs=true){q:qg}(hq:q∈cs):QY q=true:=by
 unfold Qr at h
 rw [Bool.and_eq_true] at h
 obtain ⟨i,hi⟩:=Q3 h.2 hq
 unfold ndP at hi
 rw [Bool.and_eq_true] at hi
 exact hi.1
theorem Vj {q:qg}(h:QY q=true):qW q.label=true:=by
 unfold QY at h
 simp only [Bool.and_eq_true] at h
 exact h.1.2
def qsz (l:List Int)(t:qm)(q:qg):Bool:=l.any fun x=>!wdB t.nodes q.label x
theorem qav (t:qm)(ht:jY t):qe Tryz.prog 76 [qQ t] (rB (za t)):=by
 refine qe.of qc (fn:=Tryz.f76) (c:=Tryz.f76.body.getD .skip) (dr:=fun n=>qa 0 [] n) Tryz.func76 rfl (by kernel_rfl) (by kernel_rfl) (by kernel_rfl) ?_
 have h1:=ht.len
 have h2:=ht.tlen
 have h3:=ht.nodes
 clear ht
 obtain ⟨f1,hf1⟩:∃ f,f=Qr:=⟨_,rfl⟩
 obtain ⟨f2,hf2⟩:∃ f,f=JY:=⟨_,rfl⟩
 obtain ⟨f3,hf3⟩:∃ f,f=qsz:=⟨_,rfl⟩
 have hO:qp Tryz.prog (qM [(109,JG f1),(110,qfx f2),(111,w2 kA (qrK 112 true true qP wi) (fun l x=>rB (f3 l x.1 x.2)) (fun l x=>[LLe l maxLen,qrS l,LLe x.1.nodes maxLen,qqr x.1.nodes,yM x.2]))]):=by
  subst hf1 hf2 hf3
  exact qb qcT (qb qfP (qb (qE fun l x h=>by
   have g1:=(h _ (.head _)).out
   have g2:=(h _ (.tail _ (.head _))).out
   have g3:=(h _ (.tail _ (.tail _ (.head _)))).out
   have g4:=(h _ (.tail _ (.tail _ (.tail _ (.head _))))).out
   have g5:=h _ (.tail _ (.tail _ (.tail _ (.tail _ (.head _)))))
   exact Z6 l _ _ _ (fun y hy=>qgr y x.1 x.2 g3 (fun q hq=>⟨(g4 q hq).len,(g4 q hq).all⟩) ⟨g5.len,g5.all⟩ (g2 y hy).1 (g2 y hy).2) g1) qd))
 obtain ⟨ns,ts,hr⟩:=t
 have h1:ns.length<=maxLen:=h1
 have h2:ts.length<=maxLen:=h2
 have h3:∀ q∈ns,yM q:=h3
 have h1':=h1
 unfold maxLen at h1'
 obtain ⟨d,hd⟩:∃ a,a=qfu hr:=⟨_,rfl⟩
 obtain ⟨p,hp⟩:∃ p:Nat->qg->Bool,p=fun _ q=>Yt ns q:=⟨_,rfl⟩
 have hs:za ⟨ns,ts,hr⟩=(f1 ns&&(f2 ns ts&&(d&&qA p ns 0))):=by
  rw [hf1,hp,hf2,hd];unfold za qjD;dsimp only
  generalize qA (fun _ q=>Yt ns q) ns 0=a
  generalize JY ns ts=b
  generalize qfu hr=c
  generalize Qr ns=e
  revert a b c e;decide
 rw [hs]
 clear hs
 refine SEx.go (X:=XX) qc (fun n=>qa [] [(4,[1,24,25,26])] n) (fun _=>none) hO 60 ?_
 intro M R L N m0 m1 m2 m3 m4 m5
 cases M
 cbv
 repeat' first | refine m1 _ _ ?_ ?_ | refine m2 _ _ fun h=>?_ | refine m3 _ ?_ | (refine m4 _ _ (Hd.out ?_);generalize hks:(List.cons _ _:List K)=ks) | (refine m5 _ _ ?_;cbv)
 all_goals (clear m1 m2 m3 m4 m5;cases m0;try dsimp only)
 all_goals try simp only [sm] at *
 all_goals first
  | exact ⟨h1⟩
  | exact ⟨h2⟩
  | exact ⟨h3⟩
  | exact ⟨fun q hq=>(h3 q hq).len⟩
  | (refine qJ ?_ _;rw [show f1 ns=false by assumption];rfl)
  | (refine qJ ?_ _;rw [show f2 ns ts=false by assumption];simp;done)
  | (refine qJ ?_ _;rw [hd,qfu,decide_eq_false (by omega)];simp;done)
  | (refine qJ ?_ _;rw [hd,qfu,decide_eq_false (show ¬hr<=10 by omega)];simp;done)
  | skip
 have hn1:Qr ns=true:=by rw [<-hf1];assumption
 rw [show f1 ns=true by assumption,show f2 ns ts=true by assumption,show d=true by rw [hd,qfu,decide_eq_true (by omega),decide_eq_true (by omega)];rfl,Bool.true_and,Bool.true_and,Bool.true_and]
 obtain ⟨m,hm⟩:∃ m,m=ns.length:=⟨_,rfl⟩
 refine ⟨SEx.same (SEx.idx m (fun i=>⟨35,[(1,bP 4096),(24,bL (.node false none ns)),(25,bI m),(26,bI i)],[(4096,.obx [.fz (.sl (.node false none ns)),.fz (.sl (.tie ts)),.fz (.int .i64 hr)])]⟩) (fun i=>rB (qA p (ns.drop i) i&&true)) ?_) (by rw [hm];rfl) (by rw [Bool.and_true];rfl)⟩
 intro i hi ih
 rw [<-hks]
 have hl:i<m->q9 _ _ _:=fun h=>q9.of p ns i true qg.z (by omega)
 have he:i=m->(qA p (ns.drop i) i&&true)=true:=fun h=>qN (by omega)
 have hmem:i<m->Mem (ns.getD i qg.z) ns:=fun h=>qo (by omega)
 have hps:∀ q:qg,f3 q.label ⟨ns,ts,hr⟩ q=!p i q:=fun q=>by
  rw [hf3,hp];show (q.label.any fun x=>!wdB ns q.label x)=!qA (fun _ x=>wdB ns q.label x) q.label 0;rw [K5,List.not_all_eq_any_not]
 refine SEx.go (X:=XX) qc (fun n=>qa [] [(4,[1,24,25,26])] n) (fun _=>none) hO 60 ?_
 intro M R L N m0 m1 m2 m3 m4 m5
 cases M
 cbv
 repeat' first | refine m1 _ _ ?_ ?_ | refine m2 _ _ fun h=>?_ | refine m3 _ ?_ | (refine m4 _ _ (Hd.out ?_);try first | rw [hks] | rw [hk2] | rw [hk3]) | (refine m5 _ _ ?_;cbv)
 all_goals (clear m1 m2 m3 m4 m5;cases m0;(try clear hks;try clear hk2;try clear hk3);try dsimp only)
 all_goals try simp only [sm] at *
 all_goals (try simp only [qh (show i<9223372036854775807 by omega)])
 all_goals first
  | omega
  | exact ⟨h1⟩
  | exact ⟨h3⟩
  | exact ⟨(h3 _ (hmem (by omega)).out).len⟩
  | exact ⟨Wm (Vj (W7 hn1 (hmem (by omega)).out))⟩
  | exact h3 _ (hmem (by omega)).out
  | (refine qJ ?_ _;rw [he (by omega)];done)
  | (refine (hl (by omega)).stop _ ?_;have hx:=hps (ns.getD i qg.z);simp_all;done)
  | (refine ⟨(ih (by omega)).same rfl ((hl (by omega)).go ?_)⟩;clear ih;have hx:=hps (ns.getD i qg.z);simp_all;done)
  | skip
def wL (f:qm->Bool):Wr:=w1 qP (fun t=>rB (f t)) (fun t=>[jY t])
theorem W6:qz Tryz.prog 63 (wL za):=zx fun t h=>qaq t (h _ (.head _))
theorem qdG:qz Tryz.prog 76 (wL za):=zx fun t h=>qav t (h _ (.head _))
theorem zo {t:qm}(h:za t=true):1<=t.hor/\t.hor<=10:=by
 unfold za qfu at h
 simp only [Bool.and_eq_true,decide_eq_true_eq] at h
 exact h.2.2.2
theorem qL {t:qm}(h:za t=true):1<=t.nodes.length/\t.nodes.length<=7:=by
 unfold za Qr Qs at h
 simp only [Bool.and_eq_true,decide_eq_true_eq] at h
 omega
theorem zU {t:qm}(h:za t=true):t.ties.length<=14:=by
 unfold za JY at h
 simp only [Bool.and_eq_true,decide_eq_true_eq] at h
 exact h.2.2.1.2
theorem kK {t:qm}(h:za t=true){q:qg}(hq:q∈t.nodes):qW q.label=true:=by
 unfold za at h
 rw [Bool.and_eq_true] at h
 exact Vj (W7 h.1 hq)
end Go.Proofs.YtececadpjelanaaGreat.Ai
namespace Go.Proofs.YtececadpjelanaaGreat.Ai
open Go
set_option maxRecDepth 100000
variable [qi]
def jr (times:List Int)(w:Int):Bool:=decide (0<=w)&&decide (¬times.getD w.toNat 0=-1)
def Q2 (now:Int)(i:Nat)(n:Int):Bool:=decide ((i=0->n=0)/\(0<i->-1<=n/\n<=now-1))
def qeS (cs:List qg)(times:List Int)(i:Nat)(v:Int):Bool:=decide (¬v=0) == jr times (zF cs ((i:Int)+1))
def jT (t:qm)(x:qf):Bool:=decide (0<=x.now/\x.now<=t.hor+1/\x.times.length=t.nodes.length)&&(qR x.vals&&(qA (Q2 x.now) x.times 0&&qA (qeS t.nodes x.times) x.vals 0))
structure Za (x:qf):Prop where
 now:inI x.now
 tlen:x.times.length<=maxLen
 vlen:x.vals.length<=maxLen
theorem qX {l:List Int}(h:qR l=true):l.length=3:=by
 unfold qR at h
 simp only [Bool.and_eq_true,decide_eq_true_eq] at h
 exact h.2
theorem KA (a b:Int):decide (¬a=b)=!(a == b):=by by_cases h:a=b<;>simp [h]
theorem qig (t:qm)(x:qf)(ht:za t=true)(hx:Za x):qe Tryz.prog 77 [qQ t,qI x] (rB (jT t x)):=by
 refine qe.of qc (fn:=Tryz.f77) (c:=Tryz.f77.body.getD .skip) (dr:=fun n=>qa 0 [] n) Tryz.func77 rfl (by kernel_rfl) (by kernel_rfl) (by kernel_rfl) ?_
 have hh:=zo ht
 have hn:=qL ht
 have h2:=hx.tlen
 have h3:=hx.vlen
 have h4:=hx.now
 clear ht hx
 rw [je] at h4
 obtain ⟨f1,hf1⟩:∃ f,f=qR:=⟨_,rfl⟩
 obtain ⟨f2,hf2⟩:∃ f,f=zF:=⟨_,rfl⟩
 have hO:qp Tryz.prog (qM [(114,ZP f1),(115,KX f2)]):=by
  subst hf1 hf2
  exact qb J0 (qb vO qd)
 obtain ⟨ns,ts,hr⟩:=t
 obtain ⟨now,times,vals⟩:=x
 dsimp only at hh hn h2 h3 h4
 unfold maxLen at h2 h3
 obtain ⟨p,hp⟩:∃ p,p=Q2 now:=⟨_,rfl⟩
 obtain ⟨q,hq⟩:∃ q,q=qeS ns times:=⟨_,rfl⟩
 obtain ⟨d,hd⟩:∃ d,d=qA q vals 0:=⟨_,rfl⟩
 have hs:jT ⟨ns,ts,hr⟩ ⟨now,times,vals⟩=(decide (0<=now/\now<=hr+1/\times.length=ns.length)&&(f1 vals&&(qA p times 0&&d))):=by
  rw [hf1,hp,hd,hq];rfl
 rw [hs]
 clear hs
 obtain ⟨r,hrr⟩:∃ r,r=(decide (0<=now/\now<=hr+1/\times.length=ns.length)&&(f1 vals&&(qA p times 0&&d))):=⟨_,rfl⟩
 rw [<-hrr]
 have h1r:IntKind.i64.wrap (hr+1)=hr+1:=qr (by omega) (by omega)
 refine SEx.go (X:=XX) qc (fun n=>qa [] [(4,[2,3,37,38,39]),(10,[2,3,67,68,69])] n) (fun _=>none) hO 60 ?_
 intro M R L N m0 m1 m2 m3 m4 m5
 cases M
 cbv
 repeat' first | refine m1 _ _ ?_ ?_ | refine m2 _ _ fun h=>?_ | refine m3 _ ?_ | (refine m4 _ _ (Hd.out ?_);generalize hks:(List.cons _ _:List K)=ks) | (refine m5 _ _ ?_;cbv)
 all_goals (clear m1 m2 m3 m4 m5;cases m0;try dsimp only)
 all_goals try simp only [sm] at *
 all_goals (try rw [h1r] at *)
 all_goals first
  | omega
  | exact ⟨h3⟩
  | (refine qJ ?_ _;rw [hrr,decide_eq_false (by omega)];rfl)
  | (refine qJ ?_ _;rw [hrr,show f1 vals=false by assumption];simp;done)
  | skip
 rw [show f1 vals=true by assumption,decide_eq_true (by omega),Bool.true_and,Bool.true_and] at hrr
 rw [hrr]
 clear hrr
 have hv3:vals.length=3:=by apply qX;rw [<-hf1];assumption
 obtain ⟨m,hm⟩:∃ m,m=times.length:=⟨_,rfl⟩
 refine ⟨SEx.same (SEx.idx m (fun i=>⟨92,[(2,bP 8192),(3,bP 12288),(37,bL (.i times)),(38,bI m),(39,bI i)],[(8192,.obx [.fz (.sl (.node false none ns)),.fz (.sl (.tie ts)),.fz (.int .i64 hr)]),(12288,.obx [.fz (.int .i64 now),.fz (.sl (.i times)),.fz (.sl (.i vals))])]⟩) (fun i=>rB (qA p (times.drop i) i&&d)) ?_) (by rw [hm];rfl) rfl⟩
 intro i hi ih
 rw [<-hks]
 have hl:i<m->q9 _ _ _:=fun h=>q9.of p times i d (0:Int) (by omega)
 have he:i=m->(qA p (times.drop i) i&&d)=d:=fun h=>qN (by omega)
 have h1n:IntKind.i64.wrap (now-1)=now-1:=qr (by omega) (by omega)
 refine SEx.go (X:=XX) qc (fun n=>qa [] [(4,[2,3,37,38,39]),(10,[2,3,67,68,69])] n) (fun _=>none) hO 60 ?_
 intro M R L N m0 m1 m2 m3 m4 m5
 cases M
 cbv
 repeat' first | refine m1 _ _ ?_ ?_ | refine m2 _ _ fun h=>?_ | refine m3 _ ?_ | (refine m4 _ _ (Hd.out ?_);first | rw [hks] | generalize hk2:(List.cons _ _:List K)=k2) | (refine m5 _ _ ?_;cbv)
 all_goals (clear m1 m2 m3 m4 m5;cases m0;try dsimp only)
 all_goals try simp only [sm] at *
 all_goals (try simp only [qh (show i<9223372036854775807 by omega),h1n] at *)
 all_goals first
  | omega
  | (refine (hl (by omega)).stop _ ?_;rw [hp,Q2];apply decide_eq_false;omega)
  | (refine ⟨(ih (by omega)).same rfl ((hl (by omega)).go ?_)⟩;rw [hp,Q2];apply decide_eq_true;omega)
  | skip
 have him:i=m:=by omega
 rw [he him]
 clear ih hl he
 rw [hd]
 clear hd
 refine ⟨SEx.same (SEx.idx 3 (fun i=>⟨92,[(2,bP 8192),(3,bP 12288),(67,bL (.i vals)),(68,bI 3),(69,bI i)],[(8192,.obx [.fz (.sl (.node false none ns)),.fz (.sl (.tie ts)),.fz (.int .i64 hr)]),(12288,.obx [.fz (.int .i64 now),.fz (.sl (.i times)),.fz (.sl (.i vals))])]⟩) (fun i=>rB (qA q (vals.drop i) i&&true)) ?_) (by rw [hv3];rfl) (by rw [Bool.and_true];rfl)⟩
 intro k hk ih
 rw [<-hk2]
 have hl:k<3->q9 _ _ _:=fun h=>q9.of q vals k true (0:Int) (by omega)
 have he:k=3->(qA q (vals.drop k) k&&true)=true:=fun h=>qN (by omega)
 have hlt:∀ x,f2 ns x<ns.length:=fun x=>by rw [hf2];exact (VM _ _).1
 have hqk:q k (vals.getD k 0)=(decide (¬vals.getD k 0=0) == jr times (f2 ns ((k+1:Nat):Int))):=by
  rw [hq,hf2];rfl
 have h5:=hlt ((k+1:Nat):Int)
 refine SEx.go (X:=XX) qc (fun n=>qa [] [(4,[2,3,37,38,39]),(10,[2,3,67,68,69])] n) (fun _=>none) hO 60 ?_
 intro M R L N m0 m1 m2 m3 m4 m5
 cases M
 cbv
 repeat' first | refine m1 _ _ ?_ ?_ | refine m2 _ _ fun h=>?_ | refine m3 _ ?_ | (refine m4 _ _ (Hd.out ?_);try first | rw [hks] | rw [hk2] | rw [hk3]) | (refine m5 _ _ ?_;cbv)
 all_goals (clear m1 m2 m3 m4 m5;cases m0;(try clear hks;try clear hk2;try clear hk3);try dsimp only)
 all_goals try simp only [sm] at *
 all_goals (try simp only [qh (show k<9223372036854775807 by omega)] at *)
 all_goals first
  | omega
  | exact ⟨by omega⟩
  | (refine qJ ?_ _;rw [he (by omega)];done)
  | (refine (hl (by omega)).stop _ ?_;rw [hqk];unfold jr;clear hqk hl he ih;generalize f2 ns ((k+1:Nat):Int)=w at *;rw [decide_eq_true (show 0<=w by assumption)];generalize times.getD w.toNat 0=b at *;generalize vals.getD k 0=a at *;rw [KA,KA];generalize (a == 0)=u at *;generalize (b == -1)=v at *;cases u<;>cases v<;>simp_all;done)
  | (refine (hl (by omega)).stop _ ?_;rw [hqk];unfold jr;clear hqk hl he ih;generalize f2 ns ((k+1:Nat):Int)=w at *;rw [decide_eq_false (show ¬0<=w by omega)];generalize vals.getD k 0=a at *;by_cases ha:a=0<;>simp_all;done)
  | (refine ⟨(ih (by omega)).same rfl ((hl (by omega)).go ?_)⟩;rw [hqk];unfold jr;clear hqk hl he ih;generalize f2 ns ((k+1:Nat):Int)=w at *;rw [decide_eq_true (show 0<=w by assumption)];generalize times.getD w.toNat 0=b at *;generalize vals.getD k 0=a at *;rw [KA,KA];generalize (a == 0)=u at *;generalize (b == -1)=v at *;cases u<;>cases v<;>simp_all;done)
  | (refine ⟨(ih (by omega)).same rfl ((hl (by omega)).go ?_)⟩;rw [hqk];unfold jr;clear hqk hl he ih;generalize f2 ns ((k+1:Nat):Int)=w at *;rw [decide_eq_false (show ¬0<=w by omega)];generalize vals.getD k 0=a at *;by_cases ha:a=0<;>simp_all;done)
  | skip
def qek (t:qm)(x:qf):Bool:=za t&&jT t x
theorem yA (t:qm)(x:qf)(ht:jY t)(hx:Za x):qe Tryz.prog 40 [qQ t,qI x] (rB (qek t x)):=by
 refine qe.of qc (fn:=Tryz.f40) (c:=Tryz.f40.body.getD .skip) (dr:=fun n=>qa 0 [(13,17)] n) Tryz.func40 rfl (by kernel_rfl) (by kernel_rfl) (by kernel_rfl) ?_
 have h2:=hx.tlen
 have h3:=hx.vlen
 have h4:=hx.now
 clear hx
 rw [je] at h4
 obtain ⟨f0,hf0⟩:∃ f,f=z8:=⟨_,rfl⟩
 obtain ⟨f1,hf1⟩:∃ f,f=qR:=⟨_,rfl⟩
 obtain ⟨f2,hf2⟩:∃ f,f=zF:=⟨_,rfl⟩
 obtain ⟨f3,hf3⟩:∃ f,f=za:=⟨_,rfl⟩
 have hO:qp Tryz.prog (qM [(63,wL f3),(70,Ye f0),(71,ZP f1),(72,WU f2)]):=by
  subst hf0 hf1 hf2 hf3
  exact qb W6 (qb j8 (qb qaA (qb w6 qd)))
 have hsh:f3 t=true->(1<=t.hor/\t.hor<=10)/\1<=t.nodes.length/\t.nodes.length<=7:=fun h=>by rw [hf3] at h;exact ⟨zo h,qL h⟩
 obtain ⟨ns,ts,hr⟩:=t
 obtain ⟨now,times,vals⟩:=x
 dsimp only at hsh h2 h3 h4
 unfold maxLen at h2 h3
 have h1:ns.length<=maxLen:=ht.len
 obtain ⟨p,hp⟩:∃ p,p=Q2 now:=⟨_,rfl⟩
 obtain ⟨q,hq⟩:∃ q,q=qeS ns times:=⟨_,rfl⟩
 obtain ⟨d,hd⟩:∃ d,d=qA q vals 0:=⟨_,rfl⟩
 obtain ⟨r,hrr⟩:∃ r,r=(f3 ⟨ns,ts,hr⟩&&(decide (0<=now/\now<=hr+1/\times.length=ns.length)&&(f1 vals&&(qA p times 0&&d)))):=⟨_,rfl⟩
 have hs:qek ⟨ns,ts,hr⟩ ⟨now,times,vals⟩=r:=by
  rw [hrr,hf1,hp,hd,hq,hf3];rfl
 rw [hs]
 clear hs
 have h1r:f3 ⟨ns,ts,hr⟩=true->f0 now 0 (IntKind.i64.wrap (hr+1))=(decide (0<=now)&&decide (now<=hr+1)):=fun h=>by have:=hsh h;rw [qr (by omega) (by omega),hf0];rfl
 have hz:¬times.getD (Int.toNat 0) 0=0->0<times.length->qA p times 0=false:=fun h h5=>by
  rw [show times=times.drop 0 by rfl]
  refine vm (0:Int) h5 ?_
  rw [hp,Q2]
  apply decide_eq_false
  intro h6
  exact h (h6.1 rfl)
 refine SEx.go (X:=XX) qc (fun n=>qa [] [(4,[2,3,44,45,46]),(10,[2,3,7])] n) (fun _=>none) hO 60 ?_
 intro M R L N m0 m1 m2 m3 m4 m5
 cases M
 cbv
 repeat' first | refine m1 _ _ ?_ ?_ | refine m2 _ _ fun h=>?_ | refine m3 _ ?_ | (refine m4 _ _ (Hd.out ?_);generalize hks:(List.cons _ _:List K)=ks) | (refine m5 _ _ ?_;cbv)
 all_goals (clear m1 m2 m3 m4 m5;cases m0;try dsimp only)
 all_goals try simp only [sm] at *
 all_goals (try (have h7:=hsh (by assumption)))
 all_goals (try (rw [h1r (by assumption)] at *))
 all_goals (try simp only [Bool.and_eq_true,Bool.and_eq_false_iff,decide_eq_true_eq,decide_eq_false_iff_not] at *)
 all_goals first
  | omega
  | exact ht
  | exact ⟨by omega⟩
  | (refine qJ ?_ _;rw [hrr,show f3 ⟨ns,ts,hr⟩=false by assumption];rfl)
  | (refine qJ ?_ _;rw [hrr,decide_eq_false (by omega)];simp;done)
  | (refine qJ ?_ _;rw [hrr,hz (by assumption) (by omega)];simp;done)
  | (refine qJ ?_ _;rw [hrr,show f1 vals=false by assumption];simp;done)
  | skip
 have h7:=hsh (by assumption)
 rw [show f3 ⟨ns,ts,hr⟩=true by assumption,show f1 vals=true by assumption,decide_eq_true (by omega),Bool.true_and,Bool.true_and,Bool.true_and] at hrr
 rw [hrr]
 clear hrr hz h1r
 have hv3:vals.length=3:=by apply qX;rw [<-hf1];assumption
 obtain ⟨m,hm⟩:∃ m,m=times.length:=⟨_,rfl⟩
 refine ⟨SEx.same (SEx.idx m (fun i=>⟨87,[(2,bP 8192),(3,bP 12288),(44,bL (.i times)),(45,bI m),(46,bI i)],[(8192,.obx [.fz (.sl (.node false none ns)),.fz (.sl (.tie ts)),.fz (.int .i64 hr)]),(12288,.obx [.fz (.int .i64 now),.fz (.sl (.i times)),.fz (.sl (.i vals))])]⟩) (fun i=>rB (qA p (times.drop i) i&&d)) ?_) (by rw [hm];rfl) rfl⟩
 intro i hi ih
 rw [<-hks]
 have hl:i<m->q9 _ _ _:=fun h=>q9.of p times i d (0:Int) (by omega)
 have he:i=m->(qA p (times.drop i) i&&d)=d:=fun h=>qN (by omega)
 have h1n:IntKind.i64.wrap (now-1)=now-1:=qr (by omega) (by omega)
 have h0t:i=0->times.getD i 0=0:=fun h=>by subst h;assumption
 have hin:f0 (times.getD i 0) (-1) (IntKind.i64.wrap (now-1))=(decide (-1<=times.getD i 0)&&decide (times.getD i 0<=now-1)):=by rw [h1n,hf0];rfl
 refine SEx.go (X:=XX) qc (fun n=>qa [] [(4,[2,3,44,45,46]),(10,[2,3,7])] n) (fun _=>none) hO 60 ?_
 intro M R L N m0 m1 m2 m3 m4 m5
 cases M
 cbv
 repeat' first | refine m1 _ _ ?_ ?_ | refine m2 _ _ fun h=>?_ | refine m3 _ ?_ | (refine m4 _ _ (Hd.out ?_);first | rw [hks] | generalize hk2:(List.cons _ _:List K)=k2) | (refine m5 _ _ ?_;cbv)
 all_goals (clear m1 m2 m3 m4 m5;cases m0;try dsimp only)
 all_goals try simp only [sm] at *
 all_goals (try simp only [qh (show i<9223372036854775807 by omega)] at *)
 all_goals (try rw [hin] at *)
 all_goals (try simp only [Bool.and_eq_true,Bool.and_eq_false_iff,decide_eq_true_eq,decide_eq_false_iff_not] at *)
 all_goals first
  | omega
  | (refine (hl (by omega)).stop _ ?_;rw [hp,Q2];apply decide_eq_false;omega)
  | (refine ⟨(ih (by omega)).same rfl ((hl (by omega)).go ?_)⟩;rw [hp,Q2];apply decide_eq_true;omega)
  | skip
 have him:i=m:=by omega
 rw [he him]
 clear ih hl he hin h0t h1n
 rw [hd]
 clear hd
 refine ⟨SEx.same (SEx.idx 3 (fun i=>⟨87,[(2,bP 8192),(3,bP 12288),(7,bI (i+1:Nat))],[(8192,.obx [.fz (.sl (.node false none ns)),.fz (.sl (.tie ts)),.fz (.int .i64 hr)]),(12288,.obx [.fz (.int .i64 now),.fz (.sl (.i times)),.fz (.sl (.i vals))])]⟩) (fun i=>rB (qA q (vals.drop i) i&&true)) ?_) rfl (by rw [Bool.and_true];rfl)⟩
 intro k hk ih
 rw [<-hk2]
 have hl:k<3->q9 _ _ _:=fun h=>q9.of q vals k true (0:Int) (by omega)
 have he:k=3->(qA q (vals.drop k) k&&true)=true:=fun h=>qN (by omega)
 have hlt:∀ x,f2 ns x<ns.length:=fun x=>by rw [hf2];exact (VM _ _).1
 have h5:=hlt ((k+1:Nat):Int)
 have hwk:IntKind.i64.wrap (((k+1:Nat):Int)-1)=k:=by rw [qr (by omega) (by omega)];omega
 obtain ⟨kk,hkk⟩:∃ kk:Nat,kk=k+1:=⟨_,rfl⟩
 rw [<-hkk] at hwk h5 ⊢
 have hqk:q k (vals.getD k 0)=(decide (¬vals.getD k 0=0) == jr times (f2 ns kk)):=by
  rw [hq,hf2,hkk];rfl
 refine SEx.go (X:=XX) qc (fun n=>qa [] [(4,[2,3,44,45,46]),(10,[2,3,7])] n) (fun _=>none) hO 60 ?_
 intro M R L N m0 m1 m2 m3 m4 m5
 cases M
 cbv
 repeat' first | refine m1 _ _ ?_ ?_ | refine m2 _ _ fun h=>?_ | refine m3 _ ?_ | (refine m4 _ _ (Hd.out ?_);try first | rw [hks] | rw [hk2] | rw [hk3]) | (refine m5 _ _ ?_;cbv)
 all_goals (clear m1 m2 m3 m4 m5;cases m0;(try clear hks;try clear hk2;try clear hk3);try dsimp only)
 all_goals try simp only [sm] at *
 all_goals (try simp only [hwk,Int.toNat_natCast,qh (show kk<9223372036854775807 by omega)] at *)
 all_goals first
  | omega
  | exact ⟨h1⟩
  | (refine qJ ?_ _;rw [he (by omega)];done)
  | (refine (hl (by omega)).stop _ ?_;rw [hqk];unfold jr;clear hqk hl he ih;generalize f2 ns (kk:Int)=w at *;rw [decide_eq_true (show 0<=w by assumption)];generalize times.getD w.toNat 0=b at *;generalize vals.getD k 0=a at *;rw [KA,KA];generalize (a == 0)=u at *;generalize (b == -1)=v at *;cases u<;>cases v<;>simp_all;done)
  | (refine (hl (by omega)).stop _ ?_;rw [hqk];unfold jr;clear hqk hl he ih;generalize f2 ns (kk:Int)=w at *;rw [decide_eq_false (show ¬0<=w by omega)];generalize vals.getD k 0=a at *;by_cases ha:a=0<;>simp_all;done)
  | (subst hkk;refine ⟨(ih (by omega)).same rfl ((hl (by omega)).go ?_)⟩;rw [hqk];unfold jr;clear hqk hl he ih;generalize f2 ns ((k+1:Nat):Int)=w at *;rw [decide_eq_true (show 0<=w by assumption)];generalize times.getD w.toNat 0=b at *;generalize vals.getD k 0=a at *;rw [KA,KA];generalize (a == 0)=u at *;generalize (b == -1)=v at *;cases u<;>cases v<;>simp_all;done)
  | (subst hkk;refine ⟨(ih (by omega)).same rfl ((hl (by omega)).go ?_)⟩;rw [hqk];unfold jr;clear hqk hl he ih;generalize f2 ns ((k+1:Nat):Int)=w at *;rw [decide_eq_false (show ¬0<=w by omega)];generalize vals.getD k 0=a at *;by_cases ha:a=0<;>simp_all;done)
  | skip
structure qrY (t:qm):Prop where out:za t=true
def qd4 (f:qm->qf->Bool):Wr:=w2 qP qG (fun t x=>rB (f t x)) (fun t x=>[qrY t,Za x])
theorem qdD:qz Tryz.prog 77 (qd4 jT):=qE fun t x h=>qig t x (h _ (.head _)).out (h _ (.tail _ (.head _)))
def qe4 (f:qm->qf->Bool):Wr:=w2 qP qG (fun t x=>rB (f t x)) (fun t x=>[jY t,Za x])
theorem qdr:qz Tryz.prog 40 (qe4 qek):=qE fun t x h=>yA t x (h _ (.head _)) (h _ (.tail _ (.head _)))
end Go.Proofs.YtececadpjelanaaGreat.Ai
namespace Go.Proofs.YtececadpjelanaaGreat.Ai
open Go
set_option maxRecDepth 100000
variable [qi]
def K0 (v:List Int)(x:Int):Int:=if x<0 then -(v.getD (zG x-1).toNat 0) else v.getD (zG x-1).toNat 0
def ZQ (v:List Int):List Int->Int->Int
 | [],s=>s
 | x::r,s=>ZQ v r (min s (K0 v x))
theorem Wu {v l:List Int}{i:Nat}{s:Int}(h:i<l.length):ZQ v (l.drop i) s=ZQ v (l.drop (i+1)) (min s (K0 v (l.getD i 0))):=by
 rw [List.drop_eq_getElem_cons h,zm h]
 rfl
theorem QM {v:List Int}(h:qR v=true)(i:Nat):-1<=v.getD i 0/\v.getD i 0<=1:=by
 unfold qR at h
 rw [Bool.and_eq_true] at h
 by_cases hi:i<v.length
 . obtain ⟨j,hj⟩:=Q3 h.1 (qo (z:=(0:Int)) hi).out
   simpa [vf] using hj
 . rw [List.getD_eq_getElem?_getD,List.getElem?_eq_none (by omega)]
   exact ⟨by decide,by decide⟩
theorem qjs {v:List Int}(h:qR v=true)(x:Int):-1<=K0 v x/\K0 v x<=1:=by
 unfold K0
 have:=QM h (zG x-1).toNat
 split<;>omega
theorem qi6 {v:List Int}(h:qR v=true):∀ (l:List Int) (s:Int),-1<=s->s<=1->-1<=ZQ v l s/\ZQ v l s<=1
 | [],s,h1,h2=>⟨h1,h2⟩
 | x::r,s,h1,h2=>qi6 h r _ (by have:=qjs h x;omega) (by omega)
structure qsI (l:List Int):Prop where out:qW l=true
structure qr8 (l:List Int):Prop where out:qR l=true
theorem qfM {l:List Int}(h:qW l=true):l.length<=3:=by
 have key:∀ n,n<=l.length->∀ j,j<n->(j:Int)+1<=zG (l.getD j 0):=by
  intro n hn j hj
  induction j with
  | zero =>
    have:=(Wm h _ (qo (z:=(0:Int)) (show 0<l.length by omega)).out).2
    omega
  | succ j ih =>
    have h1:=ih (by omega)
    have h2:=(of_decide_eq_true (Jg h (j+1) (by omega))).2.2.2 (by omega)
    rw [Nat.add_sub_cancel] at h2
    omega
 apply Decidable.byContradiction
 intro hn
 have h1:=key l.length (Nat.le_refl _) 3 (by omega)
 have h2:=ZZ h (qo (z:=(0:Int)) (show 3<l.length by omega)).out
 have h3:=YO h2.2.1 h2.2.2
 omega
theorem qoo (a s:Int):(if a<s then a else s)=min s a:=by rw [Int.min_def];split<;>split<;>omega
theorem VH (l v:List Int)(hl:qW l=true)(hv:qR v=true):qe Tryz.prog 122 [aIs l,aIs v] (rI (ZQ v l 1)):=by
 refine qe.of qc (fn:=Tryz.f122) (c:=Tryz.f122.body.getD .skip) (dr:=fun n=>qa 0 [] n) Tryz.func122 rfl (by kernel_rfl) (by kernel_rfl) (by kernel_rfl) ?_
 obtain ⟨f,hf⟩:∃ f,f=zG:=⟨_,rfl⟩
 have hO:qp Tryz.prog (qM [(132,WX f)]):=by subst hf;exact qb Wo qd
 have h3:=qfM hl
 have hv3:=qX hv
 rw [show ZQ v l 1=ZQ v (l.drop 0) 1 by rw [List.drop_zero]]
 refine SEx.go (X:=XX) qc (fun n=>qa [] [(3,[1,5,9,10,11])] n) (fun _=>none) hO 60 ?_
 intro M R L N m0 m1 m2 m3 m4 m5
 cases M
 cbv
 repeat' first | refine m1 _ _ ?_ ?_ | refine m2 _ _ fun h=>?_ | refine m3 _ ?_ | (refine m4 _ _ (Hd.out ?_);generalize hks:(List.cons _ _:List K)=ks) | (refine m5 _ _ ?_;cbv)
 all_goals (clear m1 m2 m3 m4 m5;cases m0;try dsimp only)
 all_goals try simp only [sm] at *
 obtain ⟨m,hm⟩:∃ m,m=l.length:=⟨_,rfl⟩
 refine ⟨SEx.same (SEx.idxS m (fun i (s:Int)=>⟨30,[(1,bL (.i v)),(5,bI s),(9,bL (.i l)),(10,bI m),(11,bI i)],[]⟩) (fun i s=>rI (ZQ v (l.drop i) s)) (fun _ _=>True) 1 trivial ?_) (by rw [hm];rfl) rfl⟩
 intro i s hi _ ih
 rw [<-hks]
 have hp:i<m->0<f (l.getD i 0)/\f (l.getD i 0)<=3:=fun h=>by
  have h2:=ZZ hl (qo (z:=(0:Int)) (show i<l.length by omega)).out
  rw [hf]
  exact ⟨WM h2.1 h2.2.1 h2.2.2,YO h2.2.1 h2.2.2⟩
 have hw:i<m->IntKind.i64.wrap (f (l.getD i 0)-1)=f (l.getD i 0)-1:=fun h=>by have:=hp h;exact qr (by omega) (by omega)
 refine SEx.go (X:=XX) qc (fun n=>qa [] [(3,[1,5,9,10,11])] n) (fun _=>none) hO 60 ?_
 intro M R L N m0 m1 m2 m3 m4 m5
 cases M
 cbv
 repeat' first | refine m1 _ _ ?_ ?_ | refine m2 _ _ fun h=>?_ | refine m3 _ ?_ | (refine m4 _ _ (Hd.out ?_);try first | rw [hks] | rw [hk2] | rw [hk3]) | (refine m5 _ _ ?_;cbv)
 all_goals (clear m1 m2 m3 m4 m5;cases m0;(try clear hks;try clear hk2;try clear hk3);try dsimp only)
 all_goals try simp only [sm] at *
 all_goals (try (have h7:=hp (by omega)))
 all_goals (try rw [hw (by omega)] at *)
 all_goals (have hvr:=QM hv (f (l.getD i 0)-1).toNat;try rw [qr (n:=0-v.getD (f (l.getD i 0)-1).toNat 0) (by omega) (by omega)])
 all_goals (try simp only [qh (show i<9223372036854775807 by omega),qoo])
 all_goals first
  | omega
  | exact ⟨(Wm hl _ (qo (z:=(0:Int)) (by omega)).out).1⟩
  | (refine ⟨(ih _ (by omega) trivial).same rfl ?_⟩;rw [Wu (show i<l.length by omega),K0,if_pos (by assumption),hf,Int.zero_sub];done)
  | (refine ⟨(ih _ (by omega) trivial).same rfl ?_⟩;rw [Wu (show i<l.length by omega),K0,if_neg (by omega),hf];done)
  | (rw [List.drop_eq_nil_of_le (by omega)];rfl)
  | skip
theorem qcw (x:Int)(v:List Int)(hx:¬x=0/\-3<=x/\x<=3)(hv:qR v=true):qe Tryz.prog 179 [aI x,aIs v] (rI (K0 v x)):=by
 refine qe.of qc (fn:=Tryz.f179) (c:=Tryz.f179.body.getD .skip) (dr:=fun n=>qa 0 [] n) Tryz.func179 rfl (by kernel_rfl) (by kernel_rfl) (by kernel_rfl) ?_
 obtain ⟨f,hf⟩:∃ f,f=zG:=⟨_,rfl⟩
 have hO:qp Tryz.prog (qM [(142,WX f)]):=by subst hf;exact qb WO qd
 have hv3:=qX hv
 have hp:0<f x/\f x<=3:=by rw [hf];exact ⟨WM hx.1 hx.2.1 hx.2.2,YO hx.2.1 hx.2.2⟩
 have hw:IntKind.i64.wrap (f x-1)=f x-1:=qr (by omega) (by omega)
 refine SEx.go (X:=XX) qc (fun n=>qa [] [] n) (fun _=>none) hO 60 ?_
 intro M R L N m0 m1 m2 m3 m4 m5
 cases M
 cbv
 repeat' first | refine m1 _ _ ?_ ?_ | refine m2 _ _ fun h=>?_ | refine m3 _ ?_ | (refine m4 _ _ (Hd.out ?_);try first | rw [hks] | rw [hk2] | rw [hk3]) | (refine m5 _ _ ?_;cbv)
 all_goals (clear m1 m2 m3 m4 m5;cases m0;(try clear hks;try clear hk2;try clear hk3);try dsimp only)
 all_goals try simp only [sm] at *
 all_goals (try rw [hw] at *)
 all_goals (have hvr:=QM hv (f x-1).toNat;try rw [qr (n:=0-v.getD (f x-1).toNat 0) (by omega) (by omega)])
 all_goals first
  | omega
  | (refine ⟨?_⟩;rw [je];omega)
  | (simp only [Kk];rw [K0,if_pos (by assumption),hf,Int.zero_sub];done)
  | (simp only [Kk];rw [K0,if_neg (by omega),hf];done)
  | skip
structure qsq (x:Int):Prop where out:¬x=0/\-3<=x/\x<=3
def qme (f:List Int->Int->Int):Wr:=w2 dcI kA (fun x v=>rI (f v x)) (fun x v=>[qsq x,qr8 v])
theorem qlR:qz Tryz.prog 179 (qme K0):=qE fun x v h=>qcw x v (h _ (.head _)).out (h _ (.tail _ (.head _))).out
theorem Ks (l v:List Int)(hl:Kb l)(hv:v.length<=maxLen):qe Tryz.prog 163 [aIs l,aIs v] (rI (if qW l=true/\qR v=true then ZQ v l 1 else -1)):=by
 refine qe.of qc (fn:=Tryz.f163) (c:=Tryz.f163.body.getD .skip) (dr:=fun n=>qa 0 [] n) Tryz.func163 rfl (by kernel_rfl) (by kernel_rfl) (by kernel_rfl) ?_
 obtain ⟨f,hf⟩:∃ f,f=K0:=⟨_,rfl⟩
 obtain ⟨f1,hf1⟩:∃ f,f=qW:=⟨_,rfl⟩
 obtain ⟨f2,hf2⟩:∃ f,f=qR:=⟨_,rfl⟩
 have hO:qp Tryz.prog (qM [(169,QX f1),(114,ZP f2),(179,qme f)]):=by subst hf hf1 hf2;exact qb Kj (qb J0 (qb qlR qd))
 rw [<-hf1,<-hf2]
 refine SEx.go (X:=XX) qc (fun n=>qa [] [(5,[1,5,16,17,18])] n) (fun _=>none) hO 60 ?_
 intro M R L N m0 m1 m2 m3 m4 m5
 cases M
 cbv
 repeat' first | refine m1 _ _ ?_ ?_ | refine m2 _ _ fun h=>?_ | refine m3 _ ?_ | (refine m4 _ _ (Hd.out ?_);generalize hks:(List.cons _ _:List K)=ks) | (refine m5 _ _ ?_;cbv)
 all_goals (clear m1 m2 m3 m4 m5;cases m0;try dsimp only)
 all_goals try simp only [sm] at *
 all_goals first
  | exact hl
  | exact ⟨hv⟩
  | (simp only [Kk];rw [if_neg];rintro ⟨h1,h2⟩;simp_all;done)
  | skip
 rw [if_pos ⟨by assumption,by assumption⟩]
 have hlb:qW l=true:=by rw [<-hf1];assumption
 have hvb:qR v=true:=by rw [<-hf2];assumption
 have h3:=qfM hlb
 obtain ⟨m,hm⟩:∃ m,m=l.length:=⟨_,rfl⟩
 refine ⟨SEx.same (SEx.idxS m (fun i (s:Int)=>⟨29,[(1,bL (.i v)),(5,bI s),(16,bL (.i l)),(17,bI m),(18,bI i)],[]⟩) (fun i s=>rI (ZQ v (l.drop i) s)) (fun _ _=>True) 1 trivial ?_) (by rw [hm];rfl) rfl⟩
 intro i s hi _ ih
 rw [<-hks]
 refine SEx.go (X:=XX) qc (fun n=>qa [] [(5,[1,5,16,17,18])] n) (fun _=>none) hO 60 ?_
 intro M R L N m0 m1 m2 m3 m4 m5
 cases M
 cbv
 repeat' first | refine m1 _ _ ?_ ?_ | refine m2 _ _ fun h=>?_ | refine m3 _ ?_ | (refine m4 _ _ (Hd.out ?_);try first | rw [hks] | rw [hk2] | rw [hk3]) | (refine m5 _ _ ?_;cbv)
 all_goals (clear m1 m2 m3 m4 m5;cases m0;(try clear hks;try clear hk2;try clear hk3);try dsimp only)
 all_goals try simp only [sm] at *
 all_goals (try simp only [qh (show i<9223372036854775807 by omega),qoo])
 all_goals first
  | omega
  | exact ⟨ZZ hlb (qo (z:=(0:Int)) (by omega)).out⟩
  | exact ⟨hvb⟩
  | (refine ⟨(ih _ (by omega) trivial).same rfl ?_⟩;rw [Wu (show i<l.length by omega),hf];done)
  | (rw [List.drop_eq_nil_of_le (by omega)];rfl)
  | skip
def nsI (t:qm)(x:qf)(i:Int):Int:=ZQ x.vals (nd t.nodes i).label 1
structure StT (t:qm)(x:qf):Prop where
 sh:za t=true
 st:jT t x=true
theorem StT.vals {t:qm}{x:qf}(h:StT t x):qR x.vals=true:=by
 have:=h.st
 unfold jT at this
 rw [Bool.and_eq_true,Bool.and_eq_true] at this
 exact this.2.1
theorem StT.now {t:qm}{x:qf}(h:StT t x):0<=x.now/\x.now<=t.hor+1/\x.times.length=t.nodes.length:=by
 have:=h.st
 unfold jT at this
 rw [Bool.and_eq_true,decide_eq_true_eq] at this
 exact this.1
theorem Wh {α:Type}{p:Nat->α->Bool}:∀ {l:List α} {n i:Nat} (z:α),qA p l n=true->i<l.length->p (n+i) (l.getD i z)=true
 | a::r,n,0,z,h,_=>by
   unfold qA at h
   rw [Bool.and_eq_true] at h
   simpa using h.1
 | a::r,n,i+1,z,h,hi=>by
   unfold qA at h
   rw [Bool.and_eq_true] at h
   have:=Wh z h.2 (show i<r.length by simpa using hi)
   rw [List.getD_cons_succ,show n+(i+1)=n+1+i by omega]
   exact this
theorem StT.time {t:qm}{x:qf}(h:StT t x)(i:Nat):-1<=x.times.getD i 0/\x.times.getD i 0<=10:=by
 have hn:=h.now
 have hh:=zo h.sh
 have:=h.st
 unfold jT at this
 rw [Bool.and_eq_true,Bool.and_eq_true,Bool.and_eq_true] at this
 by_cases hi:i<x.times.length
 . have h1:=Wh (0:Int) this.2.2.1 hi
   rw [Nat.zero_add,Q2,decide_eq_true_eq] at h1
   by_cases h0:i=0
   . have:=h1.1 h0;omega
   . have:=h1.2 (by omega);omega
 . rw [List.getD_eq_getElem?_getD,List.getElem?_eq_none (by omega)]
   exact ⟨by decide,by decide⟩
structure kB (t:qm)(x:qf):Prop where
 sh:jY t
 st:Za x
theorem qcZ (t:qm)(x:qf)(i:Int)(hs:kB t x)(h:StT t x)(hi:0<=i/\i<t.nodes.length):qe Tryz.prog 129 [qQ t,qI x,aI i] (rI (nsI t x i)):=by
 refine qe.of qc (fn:=Tryz.f129) (c:=Tryz.f129.body.getD .skip) (dr:=fun n=>qa 0 [(1,8)] n) Tryz.func129 rfl (by kernel_rfl) (by kernel_rfl) (by kernel_rfl) ?_
 have h1:=kK h.sh (qo (z:=qg.z) (show i.toNat<t.nodes.length by omega)).out
 have h2:=h.vals
 have h3:=hs.sh.nodes _ (qo (z:=qg.z) (show i.toNat<t.nodes.length by omega)).out
 have h4:=hs.st.vlen
 unfold nsI nd
 obtain ⟨f,hf⟩:∃ f:List Int->List Int->Int,f=fun l v=>if qW l=true/\qR v=true then ZQ v l 1 else -1:=⟨_,rfl⟩
 have hO:qp Tryz.prog (qM [(163,w2 kA kA (fun l v=>rI (f l v)) (fun l v=>[Kb l,LLe v maxLen]))]):=by
  subst hf
  exact qb (qE fun l v h=>Ks l v (h _ (.head _)) (h _ (.tail _ (.head _))).out) qd
 have he:f (t.nodes.getD i.toNat qg.z).label x.vals=ZQ x.vals (t.nodes.getD i.toNat qg.z).label 1:=by rw [hf];exact if_pos ⟨h1,h2⟩
 rw [<-he]
 clear hs h hf he
 obtain ⟨ns,ts,hr⟩:=t
 obtain ⟨now,times,vals⟩:=x
 dsimp only at hi h1 h2 h3 h4
 refine SEx.go (X:=XX) qc (fun n=>qa [] [] n) (fun _=>none) hO 60 ?_
 intro M R L N m0 m1 m2 m3 m4 m5
 cases M
 cbv
 repeat' first | refine m1 _ _ ?_ ?_ | refine m2 _ _ fun h=>?_ | refine m3 _ ?_ | (refine m4 _ _ (Hd.out ?_);try first | rw [hks] | rw [hk2] | rw [hk3]) | (refine m5 _ _ ?_;cbv)
 all_goals (clear m1 m2 m3 m4 m5;cases m0;(try clear hks;try clear hk2;try clear hk3);try dsimp only)
 all_goals try simp only [sm] at *
 all_goals first
  | omega
  | exact ⟨h3.len,h3.all⟩
  | exact ⟨h4⟩
  | rfl
  | skip
end Go.Proofs.YtececadpjelanaaGreat.Ai
namespace Go.Proofs.YtececadpjelanaaGreat.Ai
open Go
set_option maxRecDepth 100000
variable [qi]
def qkv (l v:List Int):Int:=ZQ v l 1
def QL (f:List Int->List Int->Int):Wr:=w2 kA kA (fun l v=>rI (f l v)) (fun l v=>[qsI l,qr8 v])
theorem jA:qz Tryz.prog 122 (QL qkv):=qE fun l v h=>VH l v (h _ (.head _)).out (h _ (.tail _ (.head _))).out
def wB (f:qm->qf->Int->Int):Wr:=w3 qP qG dcI (fun t x i=>rI (f t x i)) (fun t x i=>[kB t x,StT t x,InX i t.nodes])
theorem JW:qz Tryz.prog 129 (wB nsI):=Qe fun t x i h=>qcZ t x i (h _ (.head _)) (h _ (.tail _ (.head _))) (h _ (.tail _ (.tail _ (.head _)))).out
structure Q5 (t:qm)(q:Tie):Prop where
 src:0<=q.src/\q.src<t.nodes.length
 dst:0<=q.dst/\q.dst<t.nodes.length
theorem kF {t:qm}(h:za t=true){q:Tie}(hq:q∈t.ties):Q5 t q:=by
 have hn:=qL h
 unfold za JY at h
 simp only [Bool.and_eq_true] at h
 obtain ⟨i,hi⟩:=Q3 h.2.2.1.1 hq
 unfold wv at hi
 rw [Bool.and_eq_true,decide_eq_true_eq] at hi
 exact ⟨by omega,by omega⟩
def KL (t:qm)(x:qf)(q:Tie):Bool :=
 if ¬x.times.getD q.src.toNat 0=-1/\¬x.times.getD q.dst.toNat 0=-1 then !(decide (q.low<=x.times.getD q.dst.toNat 0-x.times.getD q.src.toNat 0)&&decide (x.times.getD q.dst.toNat 0-x.times.getD q.src.toNat 0<=q.high))
 else if q.free=true then false
 else if ¬x.times.getD q.src.toNat 0=-1 then decide (nsI t x q.dst=1)&&decide (q.high<x.now-x.times.getD q.src.toNat 0)
 else if ¬x.times.getD q.dst.toNat 0=-1 then decide (nsI t x q.src=1)&&decide (x.times.getD q.dst.toNat 0-x.now<q.low)
 else false
theorem qdZ (t:qm)(x:qf)(q:Tie)(h:StT t x)(hq:Q5 t q):qe Tryz.prog 124 [qQ t,qI x,yZ q] (rB (KL t x q)):=by
 refine qe.of qc (fn:=Tryz.f124) (c:=Tryz.f124.body.getD .skip) (dr:=fun n=>qa 0 [(8,18),(10,18)] n) Tryz.func124 rfl (by kernel_rfl) (by kernel_rfl) (by kernel_rfl) ?_
 obtain ⟨f0,hf0⟩:∃ f,f=z8:=⟨_,rfl⟩
 obtain ⟨f1,hf1⟩:∃ f,f=qkv:=⟨_,rfl⟩
 have hO:qp Tryz.prog (qM [(70,Ye f0),(122,QL f1)]):=by
  subst hf0 hf1
  exact qb j8 (qb jA qd)
 have hv:=h.vals
 have hn:=h.now
 have hh:=zo h.sh
 have ht:=h.time
 have hl:∀ n∈t.nodes,qW n.label=true:=fun n hn=>kK h.sh hn
 have h5:=hq.src
 have h6:=hq.dst
 have hr:KL t x q=if ¬x.times.getD q.src.toNat 0=-1/\¬x.times.getD q.dst.toNat 0=-1 then !(f0 (x.times.getD q.dst.toNat 0-x.times.getD q.src.toNat 0) q.low q.high)
  else if q.free=true then false
  else if ¬x.times.getD q.src.toNat 0=-1 then decide (f1 (t.nodes.getD q.dst.toNat qg.z).label x.vals=1)&&decide (q.high<x.now-x.times.getD q.src.toNat 0)
  else if ¬x.times.getD q.dst.toNat 0=-1 then decide (f1 (t.nodes.getD q.src.toNat qg.z).label x.vals=1)&&decide (x.times.getD q.dst.toNat 0-x.now<q.low)
  else false:=by rw [hf0,hf1];rfl
 rw [hr]
 clear h hq hr
 obtain ⟨ns,ts,hr⟩:=t
 obtain ⟨now,times,vals⟩:=x
 obtain ⟨x1,x2,x3,x4,x5⟩:=q
 dsimp only at hv hn hh ht h5 h6 hl ⊢
 have hta:=ht x1.toNat
 have htb:=ht x2.toNat
 have hw1:IntKind.i64.wrap (times.getD x2.toNat 0-times.getD x1.toNat 0)=times.getD x2.toNat 0-times.getD x1.toNat 0:=qr (by omega) (by omega)
 have hw2:IntKind.i64.wrap (now-times.getD x1.toNat 0)=now-times.getD x1.toNat 0:=qr (by omega) (by omega)
 have hw3:IntKind.i64.wrap (times.getD x2.toNat 0-now)=times.getD x2.toNat 0-now:=qr (by omega) (by omega)
 refine SEx.go (X:=XX) qc (fun n=>qa [] [] n) (fun _=>none) hO 60 ?_
 intro M R L N m0 m1 m2 m3 m4 m5
 cases M
 cbv
 repeat' first | refine m1 _ _ ?_ ?_ | refine m2 _ _ fun h=>?_ | refine m3 _ ?_ | (refine m4 _ _ (Hd.out ?_);try first | rw [hks] | rw [hk2] | rw [hk3]) | (refine m5 _ _ ?_;cbv)
 all_goals (clear m1 m2 m3 m4 m5;cases m0;(try clear hks;try clear hk2;try clear hk3);try dsimp only)
 all_goals try simp only [sm] at *
 all_goals (clear hO ht)
 all_goals (try simp only [hw1,hw2,hw3] at *)
 all_goals first
  | omega
  | contradiction
  | exact ⟨hv⟩
  | exact ⟨hl _ (qo (z:=qg.z) (by omega)).out⟩
  | (refine qJ ?_ _;delta qg.label at *;clear hl;simp_all;done)
  | skip
theorem qjA {α:Type}{p:Nat->α->Bool}(z:α):∀ (l:List α) (n:Nat),qA p l n=Vy (fun i=>p (n+i) (l.getD i z)) l.length
 | [],n=>rfl
 | a::r,n=>by
   unfold qA Vy
   rw [List.length_cons,List.range_succ_eq_map,List.all_cons,List.all_map,qjA z r (n+1)]
   show (p n a&&_)=(p n a&&_)
   congr 1
   unfold Vy
   congr 1
   funext i
   show p (n+1+i) _=p (n+(i+1)) _
   rw [show n+1+i=n+(i+1) by omega]
   rfl
theorem Wx {α:Type}{p:Nat->α->Bool}(z:α)(l:List α):qA p l 0=Vy (fun i=>p i (l.getD i z)) l.length:=by
 rw [qjA z l 0];simp only [Nat.zero_add]
def qnL (t:qm)(x:qf)(i:Nat):Bool:=!(decide (x.times.getD i 0=-1)&&decide (0<=nsI t x i))
def ju (t:qm)(x:qf):Bool:=Vy (qnL t x) t.nodes.length
def z6 (t:qm)(x:qf):Bool:=!(qA (fun _ q=>!KL t x q) t.ties 0&&(decide (x.now<=t.hor)||ju t x))
theorem qdy (t:qm)(x:qf)(hs:jY t)(h:StT t x):qe Tryz.prog 96 [qQ t,qI x] (rB (ju t x)):=by
 refine qe.of qc (fn:=Tryz.f96) (c:=Tryz.f96.body.getD .skip) (dr:=fun n=>qa 0 [] n) Tryz.func96 rfl (by kernel_rfl) (by kernel_rfl) (by kernel_rfl) ?_
 obtain ⟨f1,hf1⟩:∃ f,f=qkv:=⟨_,rfl⟩
 have hO:qp Tryz.prog (qM [(122,QL f1)]):=by
  subst hf1
  exact qb jA qd
 have hv:=h.vals
 have hn:=h.now
 have h1:=qL h.sh
 have hl:∀ n∈t.nodes,qW n.label=true:=fun n hn=>kK h.sh hn
 obtain ⟨p,hp⟩:∃ p:Nat->qg->Bool,p=fun i q=>!(decide (x.times.getD i 0=-1)&&decide (0<=f1 q.label x.vals)):=⟨_,rfl⟩
 have hr:ju t x=(qA p t.nodes 0&&true):=by
  rw [Bool.and_true,Wx qg.z,hp,hf1];rfl
 rw [hr]
 clear h hs hr
 obtain ⟨ns,ts,hr⟩:=t
 obtain ⟨now,times,vals⟩:=x
 dsimp only at hv hn h1 hl hp ⊢
 refine SEx.go (X:=XX) qc (fun n=>qa [] [(2,[3,8,9,10])] n) (fun _=>none) hO 60 ?_
 intro M R L N m0 m1 m2 m3 m4 m5
 cases M
 cbv
 repeat' first | refine m1 _ _ ?_ ?_ | refine m2 _ _ fun h=>?_ | refine m3 _ ?_ | (refine m4 _ _ (Hd.out ?_);generalize hks:(List.cons _ _:List K)=ks) | (refine m5 _ _ ?_;cbv)
 all_goals (clear m1 m2 m3 m4 m5;cases m0;try dsimp only)
 all_goals try simp only [sm] at *
 obtain ⟨m,hm⟩:∃ m,m=ns.length:=⟨_,rfl⟩
 refine ⟨SEx.same (SEx.idx m (fun i=>⟨30,[(3,bP 12288),(8,bL (.node false none ns)),(9,bI m),(10,bI i)],[(12288,.obx [.fz (.int .i64 now),.fz (.sl (.i times)),.fz (.sl (.i vals))])]⟩) (fun i=>rB (qA p (ns.drop i) i&&true)) ?_) (by rw [hm];rfl) rfl⟩
 intro i hi ih
 rw [<-hks]
 have hl2:i<m->q9 _ _ _:=fun h=>q9.of p ns i true qg.z (by omega)
 have he:i=m->(qA p (ns.drop i) i&&true)=true:=fun h=>qN (by omega)
 refine SEx.go (X:=XX) qc (fun n=>qa [] [(2,[3,8,9,10])] n) (fun _=>none) hO 60 ?_
 intro M R L N m0 m1 m2 m3 m4 m5
 cases M
 cbv
 repeat' first | refine m1 _ _ ?_ ?_ | refine m2 _ _ fun h=>?_ | refine m3 _ ?_ | (refine m4 _ _ (Hd.out ?_);try first | rw [hks] | rw [hk2] | rw [hk3]) | (refine m5 _ _ ?_;cbv)
 all_goals (clear m1 m2 m3 m4 m5;cases m0;(try clear hks;try clear hk2;try clear hk3);try dsimp only)
 all_goals try simp only [sm] at *
 all_goals (try simp only [qh (show i<9223372036854775807 by omega)] at *)
 all_goals first
  | omega
  | exact ⟨hv⟩
  | exact ⟨hl _ (qo (z:=qg.z) (by omega)).out⟩
  | (refine qJ ?_ _;rw [he (by omega)];done)
  | (refine (hl2 (by omega)).stop _ ?_;rw [hp];delta qg.label at *;clear hl2 he ih hl;simp_all;done)
  | (refine ⟨(ih (by omega)).same rfl ((hl2 (by omega)).go ?_)⟩;rw [hp];delta qg.label at *;clear hl2 he ih hl;simp_all;done)
  | skip
theorem qar (t:qm)(x:qf)(hs:jY t)(h:StT t x):qe Tryz.prog 95 [qQ t,qI x] (rB (z6 t x)):=by
 refine qe.of qc (fn:=Tryz.f95) (c:=Tryz.f95.body.getD .skip) (dr:=fun n=>qa 0 [] n) Tryz.func95 rfl (by kernel_rfl) (by kernel_rfl) (by kernel_rfl) ?_
 obtain ⟨f1,hf1⟩:∃ f,f=qkv:=⟨_,rfl⟩
 obtain ⟨f2,hf2⟩:∃ f,f=KL:=⟨_,rfl⟩
 have hO:qp Tryz.prog (qM [(122,QL f1),(124,w3 qP qG qaa (fun t x q=>rB (f2 t x q)) (fun t x q=>[StT t x,Q5 t q]))]):=by
  subst hf1 hf2
  exact qb jA (qb (Qe fun t x q h=>qdZ t x q (h _ (.head _)) (h _ (.tail _ (.head _)))) qd)
 have hv:=h.vals
 have hn:=h.now
 have h1:=qL h.sh
 have h2:=zU h.sh
 have hl:∀ n∈t.nodes,qW n.label=true:=fun n hn=>kK h.sh hn
 have ht:∀ q∈t.ties,Q5 t q:=fun q hq=>kF h.sh hq
 obtain ⟨p,hp⟩:∃ p:Nat->qg->Bool,p=fun i q=>!(decide (t.hor<x.now)&&(decide (x.times.getD i 0=-1)&&decide (0<=f1 q.label x.vals))):=⟨_,rfl⟩
 obtain ⟨pt,hpt⟩:∃ p:Nat->Tie->Bool,p=fun _ q=>!f2 t x q:=⟨_,rfl⟩
 have e:qA p t.nodes 0=(decide (x.now<=t.hor)||ju t x):=by
  rw [Wx qg.z,hp,hf1]
  by_cases hc:t.hor<x.now
  . rw [decide_eq_true hc,decide_eq_false (show ¬x.now<=t.hor by omega),Bool.false_or];rfl
  . rw [decide_eq_false hc,decide_eq_true (show x.now<=t.hor by omega),Bool.true_or]
    exact ZC fun j hj=>rfl
 obtain ⟨d,hd⟩:∃ d,d=qA p t.nodes 0:=⟨_,rfl⟩
 have hr:z6 t x=!(qA pt t.ties 0&&d):=by
  rw [hd,e,hpt,hf2];rfl
 rw [hr]
 clear hs hr e
 obtain ⟨ns,ts,hr⟩:=t
 obtain ⟨now,times,vals⟩:=x
 dsimp only at hv hn h1 h2 hl hp hd ht ⊢
 refine SEx.go (X:=XX) qc (fun n=>qa [] [(2,[2,3,10,11,12]),(8,[2,3,22,23,24])] n) (fun _=>none) hO 60 ?_
 intro M R L N m0 m1 m2 m3 m4 m5
 cases M
 cbv
 repeat' first | refine m1 _ _ ?_ ?_ | refine m2 _ _ fun h=>?_ | refine m3 _ ?_ | (refine m4 _ _ (Hd.out ?_);generalize hks:(List.cons _ _:List K)=ks) | (refine m5 _ _ ?_;cbv)
 all_goals (clear m1 m2 m3 m4 m5;cases m0;try dsimp only)
 all_goals try simp only [sm] at *
 obtain ⟨m,hm⟩:∃ m,m=ts.length:=⟨_,rfl⟩
 refine ⟨SEx.same (SEx.idx m (fun i=>⟨51,[(2,bP 8192),(3,bP 12288),(10,bL (.tie ts)),(11,bI m),(12,bI i)],[(8192,.obx [.fz (.sl (.node false none ns)),.fz (.sl (.tie ts)),.fz (.int .i64 hr)]),(12288,.obx [.fz (.int .i64 now),.fz (.sl (.i times)),.fz (.sl (.i vals))])]⟩) (fun i=>rB (!(qA pt (ts.drop i) i&&d))) ?_) (by rw [hm];rfl) rfl⟩
 intro i hi ih
 rw [<-hks]
 have hl2:i<m->q9 _ _ _:=fun h=>q9.of pt ts i d Tie.z (by omega)
 have he:i=m->(qA pt (ts.drop i) i&&d)=d:=fun h=>qN (by omega)
 refine SEx.go (X:=XX) qc (fun n=>qa [] [(2,[2,3,10,11,12]),(8,[2,3,22,23,24])] n) (fun _=>none) hO 60 ?_
 intro M R L N m0 m1 m2 m3 m4 m5
 cases M
 cbv
 repeat' first | refine m1 _ _ ?_ ?_ | refine m2 _ _ fun h=>?_ | refine m3 _ ?_ | (refine m4 _ _ (Hd.out ?_);first | rw [hks] | generalize hk2:(List.cons _ _:List K)=k2) | (refine m5 _ _ ?_;cbv)
 all_goals (clear m1 m2 m3 m4 m5;cases m0;try dsimp only)
 all_goals try simp only [sm] at *
 all_goals (try simp only [qh (show i<9223372036854775807 by omega)] at *)
 all_goals first
  | omega
  | exact h
  | exact ht _ (qo (z:=Tie.z) (by omega)).out
  | (refine (hl2 (by omega)).stopN _ ?_;rw [hpt];clear hl2 he ih hl ht;simp_all;done)
  | (refine ⟨(ih (by omega)).same rfl ((hl2 (by omega)).goN ?_)⟩;rw [hpt];clear hl2 he ih hl ht;simp_all;done)
  | skip
 have him:i=m:=by omega
 rw [he him,hd]
 clear ih hl2 he hd
 obtain ⟨w,hw⟩:∃ w,w=ns.length:=⟨_,rfl⟩
 refine ⟨SEx.same (SEx.idx w (fun i=>⟨51,[(2,bP 8192),(3,bP 12288),(22,bL (.node false none ns)),(23,bI w),(24,bI i)],[(8192,.obx [.fz (.sl (.node false none ns)),.fz (.sl (.tie ts)),.fz (.int .i64 hr)]),(12288,.obx [.fz (.int .i64 now),.fz (.sl (.i times)),.fz (.sl (.i vals))])]⟩) (fun i=>rB (!(qA p (ns.drop i) i&&true))) ?_) (by rw [hw];rfl) (by rw [Bool.and_true];rfl)⟩
 intro k hk ih
 rw [<-hk2]
 have hl2:k<w->q9 _ _ _:=fun h=>q9.of p ns k true qg.z (by omega)
 have he:k=w->(qA p (ns.drop k) k&&true)=true:=fun h=>qN (by omega)
 refine SEx.go (X:=XX) qc (fun n=>qa [] [(2,[2,3,10,11,12]),(8,[2,3,22,23,24])] n) (fun _=>none) hO 60 ?_
 intro M R L N m0 m1 m2 m3 m4 m5
 cases M
 cbv
 repeat' first | refine m1 _ _ ?_ ?_ | refine m2 _ _ fun h=>?_ | refine m3 _ ?_ | (refine m4 _ _ (Hd.out ?_);try first | rw [hks] | rw [hk2] | rw [hk3]) | (refine m5 _ _ ?_;cbv)
 all_goals (clear m1 m2 m3 m4 m5;cases m0;(try clear hks;try clear hk2;try clear hk3);try dsimp only)
 all_goals try simp only [sm] at *
 all_goals (try simp only [qh (show k<9223372036854775807 by omega)] at *)
 all_goals first
  | omega
  | exact ⟨hv⟩
  | exact ⟨hl _ (qo (z:=qg.z) (by omega)).out⟩
  | (refine qJ ?_ _;rw [he (by omega)];rfl)
  | (refine (hl2 (by omega)).stopN _ ?_;rw [hp];delta qg.label at *;clear hl2 he ih hl ht;simp_all;done)
  | (refine ⟨(ih (by omega)).same rfl ((hl2 (by omega)).goN ?_)⟩;rw [hp];delta qg.label at *;clear hl2 he ih hl ht;simp_all;done)
  | (refine ⟨(ih (by omega)).same rfl ((hl2 (by omega)).goN ?_)⟩;rw [hp];dsimp only;rw [decide_eq_false (show ¬hr<now by omega)];rfl)
  | skip
end Go.Proofs.YtececadpjelanaaGreat.Ai
namespace Go.Proofs.YtececadpjelanaaGreat.Ai
open Go
set_option maxRecDepth 100000
variable [qi]
theorem qac (t:qm)(x:qf)(q:Tie)(hs:kB t x)(hst:StT t x)(hq:Q5 t q):qe Tryz.prog 128 [qQ t,qI x,yZ q] (rB (KL t x q)):=by
 refine qe.of qc (fn:=Tryz.f128) (c:=Tryz.f128.body.getD .skip) (dr:=fun n=>qa 0 [(1,14)] n) Tryz.func128 rfl (by kernel_rfl) (by kernel_rfl) (by kernel_rfl) ?_
 obtain ⟨f1,hf1⟩:∃ f,f=nsI:=⟨_,rfl⟩
 have hO:qp Tryz.prog (qM [(129,wB f1)]):=by
  subst hf1
  exact qb JW qd
 have hn:=hst.now
 have hh:=zo hst.sh
 have ht:=hst.time
 have h5:=hq.src
 have h6:=hq.dst
 have hr:KL t x q=if ¬x.times.getD q.src.toNat 0=-1/\¬x.times.getD q.dst.toNat 0=-1 then !(decide (q.low<=x.times.getD q.dst.toNat 0-x.times.getD q.src.toNat 0)&&decide (x.times.getD q.dst.toNat 0-x.times.getD q.src.toNat 0<=q.high))
  else if q.free=true then false
  else if ¬x.times.getD q.src.toNat 0=-1 then decide (f1 t x q.dst=1)&&decide (q.high<x.now-x.times.getD q.src.toNat 0)
  else if ¬x.times.getD q.dst.toNat 0=-1 then decide (f1 t x q.src=1)&&decide (x.times.getD q.dst.toNat 0-x.now<q.low)
  else false:=by rw [hf1];rfl
 rw [hr]
 clear hq hr
 obtain ⟨ns,ts,hr⟩:=t
 obtain ⟨now,times,vals⟩:=x
 obtain ⟨x1,x2,x3,x4,x5⟩:=q
 dsimp only at hn hh ht h5 h6 ⊢
 have hta:=ht x1.toNat
 have htb:=ht x2.toNat
 have hw1:IntKind.i64.wrap (times.getD x2.toNat 0-times.getD x1.toNat 0)=times.getD x2.toNat 0-times.getD x1.toNat 0:=qr (by omega) (by omega)
 have hw2:IntKind.i64.wrap (now-times.getD x1.toNat 0)=now-times.getD x1.toNat 0:=qr (by omega) (by omega)
 have hw3:IntKind.i64.wrap (times.getD x2.toNat 0-now)=times.getD x2.toNat 0-now:=qr (by omega) (by omega)
 refine SEx.go (X:=XX) qc (fun n=>qa [] [] n) (fun _=>none) hO 60 ?_
 intro M R L N m0 m1 m2 m3 m4 m5
 cases M
 cbv
 repeat' first | refine m1 _ _ ?_ ?_ | refine m2 _ _ fun h=>?_ | refine m3 _ ?_ | (refine m4 _ _ (Hd.out ?_);try first | rw [hks] | rw [hk2] | rw [hk3]) | (refine m5 _ _ ?_;cbv)
 all_goals (clear m1 m2 m3 m4 m5;cases m0;(try clear hks;try clear hk2;try clear hk3);try dsimp only)
 all_goals try simp only [sm] at *
 all_goals (clear hO ht)
 all_goals (try simp only [hw1,hw2,hw3] at *)
 all_goals first
  | omega
  | contradiction
  | exact hs
  | exact hst
  | exact ⟨h5⟩
  | exact ⟨h6⟩
  | (refine qJ ?_ _;clear hs hst hw1 hw2 hw3;simp_all;done)
  | (refine qJ ?_ _;clear hs hst hw1 hw2 hw3;rw [if_pos ⟨by assumption,by assumption⟩];first | (rw [decide_eq_false (show ¬_ by omega)];rfl) | (rw [decide_eq_true (show x3<=_ by omega),Bool.true_and,Bool.eq_iff_iff];simp;done))
  | skip
def qmu (f:qm->qf->Tie->Bool):Wr:=w3 qP qG qaa (fun t x q=>rB (f t x q)) (fun t x q=>[kB t x,StT t x,Q5 t q])
theorem qke:qz Tryz.prog 128 (qmu KL):=Qe fun t x q h=>qac t x q (h _ (.head _)) (h _ (.tail _ (.head _))) (h _ (.tail _ (.tail _ (.head _))))
theorem qcc (q:Tie)(t:qm)(x:qf)(hs:kB t x)(hst:StT t x)(hq:Q5 t q):qe Tryz.prog 127 [yZ q,(false,[.ptr t.d]),(false,[.ptr x.d])] (rB (KL t x q)):=by
 refine qe.of qc (fn:=Tryz.f127) (c:=Tryz.f127.body.getD .skip) (dr:=fun n=>qa 0 [] n) Tryz.func127 rfl (by kernel_rfl) (by kernel_rfl) (by kernel_rfl) ?_
 obtain ⟨f,hf⟩:∃ f,f=KL:=⟨_,rfl⟩
 have hO:qp Tryz.prog (qM [(128,qmu f)]):=by subst hf;exact qb qke qd
 rw [<-hf]
 obtain ⟨ns,ts,hr⟩:=t
 obtain ⟨now,times,vals⟩:=x
 obtain ⟨x1,x2,x3,x4,x5⟩:=q
 refine SEx.go (X:=XX) qc (fun n=>qa [] [] n) (fun _=>none) hO 60 ?_
 intro M R L N m0 m1 m2 m3 m4 m5
 cases M
 cbv
 repeat' first | refine m1 _ _ ?_ ?_ | refine m2 _ _ fun h=>?_ | refine m3 _ ?_ | (refine m4 _ _ (Hd.out ?_);try first | rw [hks] | rw [hk2] | rw [hk3]) | (refine m5 _ _ ?_;cbv)
 all_goals (clear m1 m2 m3 m4 m5;cases m0;(try clear hks;try clear hk2;try clear hk3);try dsimp only)
 all_goals try simp only [sm] at *
 all_goals first
  | exact hs
  | exact hst
  | exact hq
  | rfl
  | skip
theorem qgH (t:qm)(x:qf)(hs:kB t x)(hst:StT t x):qe Tryz.prog 100 [qQ t,qI x] (rB (ju t x)):=by
 refine qe.of qc (fn:=Tryz.f100) (c:=Tryz.f100.body.getD .skip) (dr:=fun n=>qa 0 [] n) Tryz.func100 rfl (by kernel_rfl) (by kernel_rfl) (by kernel_rfl) ?_
 obtain ⟨f,hf⟩:∃ f,f=nsI:=⟨_,rfl⟩
 have hO:qp Tryz.prog (qM [(129,wB f)]):=by subst hf;exact qb JW qd
 have hn:=hst.now
 have h1:=qL hst.sh
 have hge:∀ i,-1<=f t x i:=fun i=>by rw [hf];unfold nsI;exact (qi6 hst.vals _ 1 (by decide) (by decide)).1
 obtain ⟨p,hp⟩:∃ p:Nat->Int->Bool,p=fun (i:Nat) (n:Int)=>!(decide (n=-1)&&!decide (f t x (i:Int)=-1)):=⟨_,rfl⟩
 have hr:ju t x=(qA p x.times 0&&true):=by
  rw [Bool.and_true,Wx (0:Int),hn.2.2,hp]
  unfold ju
  congr 1
  funext i
  unfold qnL
  have:=hge i
  rw [hf] at this
  rw [hf,show decide (0<=nsI t x i)=!decide (nsI t x i=-1) by rw [<-decide_not];exact decide_eq_decide.2 (by omega)]
 rw [hr]
 clear hr hf
 obtain ⟨ns,ts,hr⟩:=t
 obtain ⟨now,times,vals⟩:=x
 dsimp only at hn h1 hp ⊢
 refine SEx.go (X:=XX) qc (fun n=>qa [] [(2,[2,3,8,9,10])] n) (fun _=>none) hO 60 ?_
 intro M R L N m0 m1 m2 m3 m4 m5
 cases M
 cbv
 repeat' first | refine m1 _ _ ?_ ?_ | refine m2 _ _ fun h=>?_ | refine m3 _ ?_ | (refine m4 _ _ (Hd.out ?_);generalize hks:(List.cons _ _:List K)=ks) | (refine m5 _ _ ?_;cbv)
 all_goals (clear m1 m2 m3 m4 m5;cases m0;try dsimp only)
 all_goals try simp only [sm] at *
 obtain ⟨m,hm⟩:∃ m,m=times.length:=⟨_,rfl⟩
 refine ⟨SEx.same (SEx.idx m (fun i=>⟨25,[(2,bP 8192),(3,bP 12288),(8,bL (.i times)),(9,bI m),(10,bI i)],[(8192,.obx [.fz (.sl (.node false none ns)),.fz (.sl (.tie ts)),.fz (.int .i64 hr)]),(12288,.obx [.fz (.int .i64 now),.fz (.sl (.i times)),.fz (.sl (.i vals))])]⟩) (fun i=>rB (qA p (times.drop i) i&&true)) ?_) (by rw [hm];rfl) rfl⟩
 intro i hi ih
 rw [<-hks]
 have hl2:i<m->q9 _ _ _:=fun h=>q9.of p times i true (0:Int) (by omega)
 have he:i=m->(qA p (times.drop i) i&&true)=true:=fun h=>qN (by omega)
 refine SEx.go (X:=XX) qc (fun n=>qa [] [(2,[2,3,8,9,10])] n) (fun _=>none) hO 60 ?_
 intro M R L N m0 m1 m2 m3 m4 m5
 cases M
 cbv
 repeat' first | refine m1 _ _ ?_ ?_ | refine m2 _ _ fun h=>?_ | refine m3 _ ?_ | (refine m4 _ _ (Hd.out ?_);try first | rw [hks] | rw [hk2] | rw [hk3]) | (refine m5 _ _ ?_;cbv)
 all_goals (clear m1 m2 m3 m4 m5;cases m0;(try clear hks;try clear hk2;try clear hk3);try dsimp only)
 all_goals try simp only [sm] at *
 all_goals (try simp only [qh (show i<9223372036854775807 by omega)] at *)
 all_goals first
  | omega
  | exact hs
  | exact hst
  | exact ⟨⟨by omega,by omega⟩⟩
  | (refine qJ ?_ _;rw [he (by omega)];done)
  | (refine (hl2 (by omega)).stop _ ?_;rw [hp];dsimp only;rw [decide_eq_true (by assumption),decide_eq_false (by assumption)];rfl)
  | (refine ⟨(ih (by omega)).same rfl ((hl2 (by omega)).go ?_)⟩;rw [hp];dsimp only;rw [decide_eq_false (by assumption)];rfl)
  | (refine ⟨(ih (by omega)).same rfl ((hl2 (by omega)).go ?_)⟩;rw [hp];dsimp only;rw [decide_eq_true (by assumption),decide_eq_true (by assumption)];rfl)
  | skip
def jx (f:qm->qf->Bool):Wr:=w2 qP qG (fun t x=>rB (f t x)) (fun t x=>[kB t x,StT t x])
theorem WV:qz Tryz.prog 100 (jx ju):=qE fun t x h=>qgH t x (h _ (.head _)) (h _ (.tail _ (.head _)))
theorem qnt:qz Tryz.prog 96 (jx ju):=qE fun t x h=>qdy t x (h _ (.head _)).sh (h _ (.tail _ (.head _)))
theorem qe5:qz Tryz.prog 95 (jx z6):=qE fun t x h=>qar t x (h _ (.head _)).sh (h _ (.tail _ (.head _)))
structure qr7 (t:qm)(l:List Tie):Prop where out:∀ q∈l,Q5 t q
def qjr (l:List Tie)(t:qm)(x:qf):Bool:=l.any fun q=>KL t x q
theorem qeD (t:qm)(x:qf)(hs:kB t x)(hst:StT t x):qe Tryz.prog 99 [qQ t,qI x] (rB (z6 t x)):=by
 refine qe.of qc (fn:=Tryz.f99) (c:=Tryz.f99.body.getD .skip) (dr:=fun n=>qa 0 [] n) Tryz.func99 rfl (by kernel_rfl) (by kernel_rfl) (by kernel_rfl) ?_
 obtain ⟨f,hf⟩:∃ f,f=qjr:=⟨_,rfl⟩
 obtain ⟨g,hg⟩:∃ f,f=ju:=⟨_,rfl⟩
 have hO:qp Tryz.prog (qM [(100,jx g),(126,w2 K9 (qrK 127 true true qP qG) (fun l x=>rB (f l x.1 x.2)) (fun l x=>[LLe l maxLen,qr7 x.1 l,kB x.1 x.2,StT x.1 x.2]))]):=by
  subst hf hg
  exact qb WV (qb (qE fun l x h=>by
   have g1:=(h _ (.head _)).out
   have g2:=(h _ (.tail _ (.head _))).out
   have g3:=h _ (.tail _ (.tail _ (.head _)))
   have g4:=h _ (.tail _ (.tail _ (.tail _ (.head _))))
   exact KV l _ _ _ (fun y hy=>qcc y x.1 x.2 g3 g4 (g2 y hy)) g1) qd)
 have hr:z6 t x=(f t.ties t x||(decide (t.hor<x.now)&&!g t x)):=by
  rw [hf,hg]
  unfold z6 qjr
  rw [K5,Bool.not_and,List.not_all_eq_any_not,Bool.not_or]
  simp only [Bool.not_not]
  congr 2
  rw [<-decide_not]
  exact decide_eq_decide.2 (by omega)
 have h1:=hs.sh.tlen
 have h2:∀ q∈t.ties,Q5 t q:=fun q hq=>kF hst.sh hq
 rw [hr]
 clear hr hf hg
 obtain ⟨ns,ts,hr⟩:=t
 obtain ⟨now,times,vals⟩:=x
 dsimp only at h1 h2 ⊢
 refine SEx.go (X:=XX) qc (fun n=>qa [] [] n) (fun _=>none) hO 60 ?_
 intro M R L N m0 m1 m2 m3 m4 m5
 cases M
 cbv
 repeat' first | refine m1 _ _ ?_ ?_ | refine m2 _ _ fun h=>?_ | refine m3 _ ?_ | (refine m4 _ _ (Hd.out ?_);try first | rw [hks] | rw [hk2] | rw [hk3]) | (refine m5 _ _ ?_;cbv)
 all_goals (clear m1 m2 m3 m4 m5;cases m0;(try clear hks;try clear hk2;try clear hk3);try dsimp only)
 all_goals try simp only [sm] at *
 all_goals first
  | exact ⟨h1⟩
  | exact ⟨h2⟩
  | exact hs
  | exact hst
  | (refine qJ ?_ _;clear hs hst;simp_all;done)
  | (refine qJ ?_ _;rw [decide_eq_false (show ¬hr<now by omega)];simp_all;done)
  | skip
theorem qeK:qz Tryz.prog 99 (jx z6):=qE fun t x h=>qeD t x (h _ (.head _)) (h _ (.tail _ (.head _)))
end Go.Proofs.YtececadpjelanaaGreat.Ai
namespace Go.Proofs.YtececadpjelanaaGreat.Ai
open Go
set_option maxRecDepth 100000
variable [qi]
theorem qbL.le {t:qm}(h:qbL t):jY t:=⟨h.len,h.tlen,fun q hq=>⟨(h.nodes q hq).name,(h.nodes q hq).len,(h.nodes q hq).label⟩⟩
theorem V6.le {x:qf}(h:V6 x):Za x:=⟨h.now,h.len,h.vlen⟩
structure qie (t:qm)(n:Int):Prop where
 len:t.nodes.length<=1048576
 tlen:t.ties.length<=1048576
 labs:∀ q∈t.nodes,q.label.length<=1048576
 le:n<=1048576
theorem qqN {t:qm}(h:0<=jH t 1048576):qie t (jH t 1048576):=by
 have:=qla (n:=1048576) (by decide) h
 exact ⟨by omega,by omega,fun q hq=>by have:=(this.2.2.1 q hq).2;omega,this.2.2.2⟩
structure qiB (x:qf):Prop where
 tlen:x.times.length<=1048576
 vlen:x.vals.length<=1048576
theorem qpn {x:qf}{n:Int}(h0:0<=n)(h1:n<=1048576)(h:0<=jD x n):qiB x:=by
 have:=qhl h0 h
 exact ⟨by omega,by omega⟩
end Go.Proofs.YtececadpjelanaaGreat.Ai
namespace Go.Proofs.YtececadpjelanaaGreat.Ai
open Go
set_option maxRecDepth 100000
variable [qi]
theorem qdz (x:qf)(h1:x.times.length<=1048576)(h2:x.vals.length<=1048576):qe Tryz.prog 86 [qI x] (kU x):=by
 refine qe.of qc (fn:=Tryz.f86) (c:=Tryz.f86.body.getD .skip) (dr:=fun n=>qa 0 [(1,10)] n) Tryz.func86 rfl (by kernel_rfl) (by kernel_rfl) (by kernel_rfl) ?_
 obtain ⟨now,times,vals⟩:=x
 dsimp only at h1 h2
 refine SEx.go (X:=XX) qc (fun n=>qa [] [] n) (fun _=>none) qd 60 ?_
 intro M R L N m0 m1 m2 m3 m4 m5
 cases M
 cbv
 repeat' first | refine m1 _ _ ?_ ?_ | refine m2 _ _ fun h=>?_ | refine m3 _ ?_ | (refine m4 _ _ (Hd.out ?_);try first | rw [hks] | rw [hk2] | rw [hk3]) | (refine m5 _ _ ?_;cbv)
 all_goals (clear m1 m2 m3 m4 m5;cases m0;(try clear hks;try clear hk2;try clear hk3);try dsimp only)
 all_goals try simp only [sm] at *
 all_goals first
  | (have:=zz;omega)
  | rfl
structure KT (x:qf):Prop where
 tlen:x.times.length<=1048576
 vlen:x.vals.length<=1048576
def ZB:Wr:=w1 qG kU (fun x=>[KT x])
theorem QD:qz Tryz.prog 86 ZB:=zx fun x h=>qdz x (h _ (.head _)).tlen (h _ (.head _)).vlen
def Wz (n:Int):Int:=max (-1000000) (min n 1000000)
theorem qn0 (n:Int):qe Tryz.prog 107 [aI n] (rI (Wz n)):=by
 refine qe.of qc (fn:=Tryz.f107) (c:=Tryz.f107.body.getD .skip) (dr:=fun n=>qa 0 [] n) Tryz.func107 rfl (by kernel_rfl) (by kernel_rfl) (by kernel_rfl) ?_
 refine SEx.go (X:=XX) qc (fun n=>qa [] [] n) (fun _=>none) qd 60 ?_
 intro M R L N m0 m1 m2 m3 m4 m5
 cases M
 cbv
 repeat' first | refine m1 _ _ ?_ ?_ | refine m2 _ _ fun h=>?_ | refine m3 _ ?_ | (refine m4 _ _ (Hd.out ?_);try first | rw [hks] | rw [hk2] | rw [hk3]) | (refine m5 _ _ ?_;cbv)
 all_goals (clear m1 m2 m3 m4 m5;cases m0;(try clear hks;try clear hk2;try clear hk3);try dsimp only)
 all_goals try simp only [sm] at *
 all_goals simp only [Kk,Wz]
 all_goals (try rw [Int.max_def,Int.min_def])
 all_goals (repeat' split)
 all_goals omega
def qnu (f:Int->Int):Wr:=w1 dcI (fun n=>rI (f n)) (fun _=>[])
theorem qls:qz Tryz.prog 107 (qnu Wz):=zx fun n _=>qn0 n
def jp (t:qm)(x:qf):Bool:=za t&&(decide (0<=x.now)&&(decide (x.now<=t.hor)&&jT t ⟨x.now+1,x.times,x.vals⟩))
theorem qaz (t:qm)(x:qf)(hs:kB t x)(hz:KT x):qe Tryz.prog 91 [qQ t,qI x] (rB (jp t x)):=by
 refine qe.of qc (fn:=Tryz.f91) (c:=Tryz.f91.body.getD .skip) (dr:=fun n=>qa 0 [] n) Tryz.func91 rfl (by kernel_rfl) (by kernel_rfl) (by kernel_rfl) ?_
 obtain ⟨f,hf⟩:∃ f,f=za:=⟨_,rfl⟩
 obtain ⟨g,hg⟩:∃ f,f=qek:=⟨_,rfl⟩
 obtain ⟨k,hk⟩:∃ f,f=z8:=⟨_,rfl⟩
 have hO:qp Tryz.prog (qM [(70,Ye k),(63,wL f),(86,ZB),(40,qe4 g)]):=by subst hf hg hk;exact qb j8 (qb W6 (qb QD (qb qdr qd)))
 have h1:=hs.sh
 have h2:=hs.st
 have h4:=h2.now
 rw [je] at h4
 obtain ⟨r,hr⟩:∃ r,r=jp t x:=⟨_,rfl⟩
 rw [<-hr]
 have hsh:f t=true->1<=t.hor/\t.hor<=10:=fun h=>by rw [hf] at h;exact zo h
 have hk0:k x.now 0 10=(decide (0<=x.now)&&decide (x.now<=10)):=by rw [hk];rfl
 have hr1:f t=true->¬(0<=x.now/\x.now<=t.hor)->r=false:=fun h h'=>by
  rw [hr];unfold jp
  by_cases h0:0<=x.now
  . rw [decide_eq_false (show ¬x.now<=t.hor by omega)];simp
  . rw [decide_eq_false h0];simp
 have hr2:f t=false->r=false:=fun h=>by rw [hr];unfold jp;rw [<-hf,h];rfl
 have hr0:¬(0<=x.now/\x.now<=10)->r=false:=fun h=>by
  cases h5:f t with
  | true=>have:=hsh h5;exact hr1 h5 (by omega)
  | false=>exact hr2 h5
 have hr3:f t=true->0<=x.now->x.now<=t.hor->r=g t ⟨x.now+1,x.times,x.vals⟩:=fun h h5 h6=>by
  rw [hr];unfold jp;rw [hg,decide_eq_true h5,decide_eq_true h6];unfold qek;rw [<-hf,h];rfl
 clear hr hf hg hk hs
 obtain ⟨ns,ts,hr⟩:=t
 obtain ⟨now,times,vals⟩:=x
 dsimp only at hr1 hr3 hr0 hk0 hsh h4
 refine SEx.go (X:=XX) qc (fun n=>qa [] [] n) (fun _=>none) hO 60 ?_
 intro M R L N m0 m1 m2 m3 m4 m5
 cases M
 cbv
 repeat' first | refine m1 _ _ ?_ ?_ | refine m2 _ _ fun h=>?_ | refine m3 _ ?_ | (refine m4 _ _ (Hd.out ?_);try first | rw [hks] | rw [hk2] | rw [hk3]) | (refine m5 _ _ ?_;cbv)
 all_goals (clear m1 m2 m3 m4 m5;cases m0;(try clear hks;try clear hk2;try clear hk3);try dsimp only)
 all_goals try simp only [sm] at *
 all_goals (try rw [hk0] at *)
 all_goals (try simp only [Bool.and_eq_true,Bool.and_eq_false_iff,decide_eq_true_eq,decide_eq_false_iff_not] at *)
 all_goals first
  | exact h1
  | exact hz
  | (rw [qr (by omega) (by omega)];exact ⟨by rw [je];dsimp only;omega,h2.tlen,h2.vlen⟩)
  | (refine qJ ?_ _;rw [hr0 (by omega)];done)
  | (refine qJ ?_ _;rw [hr2 (by assumption)];done)
  | (refine qJ ?_ _;rw [hr1 (by assumption) (by omega)];done)
  | (rw [qr (by omega) (by omega)];refine qJ ?_ _;rw [hr3 (by assumption) (by omega) (by assumption)];done)
  | skip
end Go.Proofs.YtececadpjelanaaGreat.Ai
