/- The law's proof, part 5 of 10: what of its author's texts it needs; no condition. -/
import Derived.Test.YtifnopmkdempdaaGreatProg
import Derived.KernelRfl
import Derived.Test.YtifnopmkdempdaaGreatZaD
set_option linter.unusedSectionVars false
set_option linter.unusedSimpArgs false
set_option linter.unusedVariables false
namespace Go.Proofs.YtifnopmkdempdaaGreat.Ai
open Go
set_option maxRecDepth 100000
variable [qg]
def tr3:Ty:={ kind:=TK.int IntKind.i64,agg:=false,size:=1,bytes:=8,zero:=[C.int IntKind.i64 (Int.ofNat 0)] }
theorem ty3:kL Tryz.prog 3=some tr3:=by kernel_rfl
def tr4:Ty:={ kind:=TK.bool,agg:=false,size:=1,bytes:=1,zero:=[C.bool false] }
theorem ty4:kL Tryz.prog 4=some tr4:=by kernel_rfl
def tr5:Ty:={ kind:=TK.int IntKind.u8,agg:=false,size:=1,bytes:=1,zero:=[C.int IntKind.u8 (Int.ofNat 0)] }
theorem ty5:kL Tryz.prog 5=some tr5:=by kernel_rfl
def tr9:Ty:={ kind:=TK.str,agg:=false,size:=1,bytes:=16,zero:=[C.str { data:={ toList:=[] } }] }
theorem ty9:kL Tryz.prog 9=some tr9:=by kernel_rfl
def tr22:Ty:={ kind:=TK.sl 82,agg:=false,size:=1,bytes:=24,zero:=[C.nilsl] }
theorem ty22:kL Tryz.prog 22=some tr22:=by kernel_rfl
def tr23:Ty:={ kind:=TK.sl 92,agg:=false,size:=1,bytes:=24,zero:=[C.nilsl] }
theorem ty23:kL Tryz.prog 23=some tr23:=by kernel_rfl
def tr25:Ty:={ kind:=TK.st [(0,1,false),(1,1,false),(2,1,false)],agg:=true,size:=3,bytes:=56,zero:=[C.nilsl,C.nilsl,C.int IntKind.i64 (Int.ofNat 0)] }
theorem ty25:kL Tryz.prog 25=some tr25:=by kernel_rfl
def tr26:Ty:={ kind:=TK.sl 3,agg:=false,size:=1,bytes:=24,zero:=[C.nilsl] }
theorem ty26:kL Tryz.prog 26=some tr26:=by kernel_rfl
def tr28:Ty:={ kind:=TK.st [(0,1,false),(1,1,false),(2,1,false)],agg:=true,size:=3,bytes:=56,zero:=[C.int IntKind.i64 (Int.ofNat 0),C.nilsl,C.nilsl] }
theorem ty28:kL Tryz.prog 28=some tr28:=by kernel_rfl
def tr32:Ty:={ kind:=TK.sl 87,agg:=false,size:=1,bytes:=24,zero:=[C.nilsl] }
theorem ty32:kL Tryz.prog 32=some tr32:=by kernel_rfl
def tr33:Ty:={ kind:=TK.sl 90,agg:=false,size:=1,bytes:=24,zero:=[C.nilsl] }
theorem ty33:kL Tryz.prog 33=some tr33:=by kernel_rfl
def tr35:Ty:={ kind:=TK.st [(0,1,false),(1,1,false),(2,1,false)],agg:=true,size:=3,bytes:=56,zero:=[C.nilsl,C.nilsl,C.int IntKind.i64 (Int.ofNat 0)] }
theorem ty35:kL Tryz.prog 35=some tr35:=by kernel_rfl
def tr37:Ty:={ kind:=TK.st [(0,1,false),(1,1,false),(2,1,false)],agg:=true,size:=3,bytes:=56,zero:=[C.int IntKind.i64 (Int.ofNat 0),C.nilsl,C.nilsl] }
theorem ty37:kL Tryz.prog 37=some tr37:=by kernel_rfl
def tr55:Ty:={ kind:=TK.sl 26,agg:=false,size:=1,bytes:=24,zero:=[C.nilsl] }
theorem ty55:kL Tryz.prog 55=some tr55:=by kernel_rfl
def tr59:Ty:={ kind:=TK.oth,agg:=false,size:=1,bytes:=8,zero:=[C.un] }
theorem ty59:kL Tryz.prog 59=some tr59:=by kernel_rfl
def tr82:Ty:={ kind:=TK.st [(0,1,false),(1,1,false),(2,1,false)],agg:=true,size:=3,bytes:=48,zero:=[C.str { data:={ toList:=[] } },C.nilsl,C.int IntKind.i64 (Int.ofNat 0)] }
theorem ty82:kL Tryz.prog 82=some tr82:=by kernel_rfl
def tr83:Ty:={ kind:=TK.int IntKind.u64,agg:=false,size:=1,bytes:=8,zero:=[C.int IntKind.u64 (Int.ofNat 0)] }
theorem ty83:kL Tryz.prog 83=some tr83:=by kernel_rfl
def tr87:Ty:={ kind:=TK.st [(0,1,false),(1,1,false),(2,1,false)],agg:=true,size:=3,bytes:=48,zero:=[C.str { data:={ toList:=[] } },C.nilsl,C.int IntKind.i64 (Int.ofNat 0)] }
theorem ty87:kL Tryz.prog 87=some tr87:=by kernel_rfl
def tr90:Ty:={ kind:=TK.st [(0,1,false),(1,1,false),(2,1,false),(3,1,false),(4,1,false)],agg:=true,size:=5,bytes:=40,zero:=[C.int IntKind.i64 (Int.ofNat 0),C.int IntKind.i64 (Int.ofNat 0),C.int IntKind.i64 (Int.ofNat 0),C.int IntKind.i64 (Int.ofNat 0),C.bool false] }
theorem ty90:kL Tryz.prog 90=some tr90:=by kernel_rfl
def tr92:Ty:={ kind:=TK.st [(0,1,false),(1,1,false),(2,1,false),(3,1,false),(4,1,false)],agg:=true,size:=5,bytes:=40,zero:=[C.int IntKind.i64 (Int.ofNat 0),C.int IntKind.i64 (Int.ofNat 0),C.int IntKind.i64 (Int.ofNat 0),C.int IntKind.i64 (Int.ofNat 0),C.bool false] }
theorem ty92:kL Tryz.prog 92=some tr92:=by kernel_rfl
def tr93:Ty:={ kind:=TK.mp 9 4,agg:=false,size:=1,bytes:=8,zero:=[C.un] }
theorem ty93:kL Tryz.prog 93=some tr93:=by kernel_rfl
def tr95:Ty:={ kind:=TK.st [(0,3,true),(3,1,false)],agg:=true,size:=4,bytes:=64,zero:=[C.nilsl,C.nilsl,C.int IntKind.i64 (Int.ofNat 0),C.un] }
theorem ty95:kL Tryz.prog 95=some tr95:=by kernel_rfl
def tr116:Ty:={ kind:=TK.sl 5,agg:=false,size:=1,bytes:=24,zero:=[C.nilsl] }
theorem ty116:kL Tryz.prog 116=some tr116:=by kernel_rfl
def tr122:Ty:={ kind:=TK.sl 4,agg:=false,size:=1,bytes:=24,zero:=[C.nilsl] }
theorem ty122:kL Tryz.prog 122=some tr122:=by kernel_rfl
def tr135:Ty:={ kind:=TK.int IntKind.i64,agg:=false,size:=1,bytes:=8,zero:=[C.int IntKind.i64 (Int.ofNat 0)] }
theorem ty135:kL Tryz.prog 135=some tr135:=by kernel_rfl
def tr143:Ty:={ kind:=TK.int IntKind.u32,agg:=false,size:=1,bytes:=4,zero:=[C.int IntKind.u32 (Int.ofNat 0)] }
theorem ty143:kL Tryz.prog 143=some tr143:=by kernel_rfl
def tr145:Ty:={ kind:=TK.int IntKind.u64,agg:=false,size:=1,bytes:=8,zero:=[C.int IntKind.u64 (Int.ofNat 0)] }
theorem ty145:kL Tryz.prog 145=some tr145:=by kernel_rfl
def tr148:Ty:={ kind:=TK.int IntKind.u64,agg:=false,size:=1,bytes:=8,zero:=[C.int IntKind.u64 (Int.ofNat 0)] }
theorem ty148:kL Tryz.prog 148=some tr148:=by kernel_rfl
def TT:List (Nat×Option Ty):=[(3,some tr3),(26,some tr26),(35,some tr35),(37,some tr37),(87,some tr87),(90,some tr90),(32,some tr32),(55,some tr55),(4,some tr4),(33,some tr33),(9,some tr9),(83,some tr83),(25,some tr25),(28,some tr28),(95,some tr95),(82,some tr82),(5,some tr5),(92,some tr92),(22,some tr22),(23,some tr23),(93,some tr93),(59,some tr59),(116,some tr116),(122,some tr122),(143,some tr143),(148,some tr148),(135,some tr135),(145,some tr145)]
def XX:SX:={ T:=qa none TT,K:=fun t=>qa none [(3,some .i),(26,some .ii),(87,some .node),(90,some .tie),(4,some .b),(9,some .s),(82,some .node),(5,some .u),(92,some .tie),(135,some .i)] t }
theorem qc:kv Tryz.prog XX.T:=qls (by simp only [TT,List.mem_cons,List.not_mem_nil,or_false,forall_eq_or_imp,forall_eq,ty3,ty26,ty35,ty37,ty87,ty90,ty32,ty55,ty4,ty33,ty9,ty83,ty25,ty28,ty95,ty82,ty5,ty92,ty22,ty23,ty93,ty59,ty116,ty122,ty143,ty148,ty135,ty145];simp)
def qsj:List (Nat×Option (List Nat)):=[(2,some [0]),(3,some [1]),(4,some [1,2]),(5,some [1,2,3]),(6,some [1,2,3,4]),(7,some [1,2,3,5]),(8,some [1,2,3,6]),(9,some [1,2,3]),(10,some [1,2,3,8]),(11,some [1,2,3,9]),(12,some [1,2,3,10]),(13,some [1,2,3]),(14,some [2,3,12]),(15,some [2,3,13]),(16,some [2,3])]
def qrX:List (Nat×Option (List Nat)):=[(2,some [0]),(3,some [1]),(4,some [1,2]),(5,some [1,2,3]),(6,some [1,2,3,4]),(7,some [1,2,3,5]),(8,some [1,2,3]),(9,some [1,2,3,7]),(10,some [1,2,3,8]),(11,some [1,2,3,9]),(12,some [1,2,3]),(13,some [2,3,11]),(14,some [2,3,12]),(15,some [2,3,13]),(16,some [2,3])]
end Go.Proofs.YtifnopmkdempdaaGreat.Ai
namespace Go.Proofs.YtifnopmkdempdaaGreat.Ai
open Go
set_option maxRecDepth 100000
variable [qg]
def bI (n:Int):TV B:=.v (false,[.fz (.int .i64 n)])
def bS (s:ByteArray):TV B:=.v (false,[.fz (.str s)])
def bL (x:LL):TV B:=.v (false,[.fz (.sl x)])
def bR (r len:Nat):TV B:=.v (false,[.rf (r,[]) true 0 len])
def bP (r:Nat):TV B:=.v (false,[.pp (r,[]) (true,0) 0])
theorem sm:type_of% (Bool.not_eq_true')/\type_of% (Bool.not_eq_false')/\type_of% (@decide_eq_true_eq)/\type_of% (@decide_eq_false_iff_not)/\type_of% (@Int.not_le)/\type_of% (@Int.not_lt)/\type_of% (@beq_iff_eq.{0})/\type_of% (@beq_eq_false_iff_ne.{0})/\type_of% (@ne_eq.{1})/\type_of% (@Int.ofNat_eq_natCast)/\type_of% (@Int.toNat_natCast)/\type_of% (@List.length_replicate.{0})/\type_of% (@qdg)/\type_of% (@Nat.sub_zero)/\type_of% (@List.drop_zero.{0})/\type_of% (@Cue.eta)/\type_of% (@Tie.eta)/\type_of% (@Edge.eta)/\type_of% (@Qg.eta)/\type_of% (@qi.eta):=⟨Bool.not_eq_true',Bool.not_eq_false',@decide_eq_true_eq,@decide_eq_false_iff_not,@Int.not_le,@Int.not_lt,@beq_iff_eq.{0},@beq_eq_false_iff_ne.{0},@ne_eq.{1},@Int.ofNat_eq_natCast,@Int.toNat_natCast,@List.length_replicate.{0},@qdg,@Nat.sub_zero,@List.drop_zero.{0},@Cue.eta,@Tie.eta,@Edge.eta,@Qg.eta,@qi.eta⟩
theorem SEx.idx {P:Program}{T:Nat->Option Ty}{dr:Nat->Nat}{rs:Array ResultVar}{ks:List K}(n:Nat)(f:Nat->SF)(R:Nat->TV W)
 (step:∀ i,i<=n->(i<n->SEx P T dr rs ks (f (i+1)) (R (i+1)))->SEx P T dr rs ks (f i) (R i)):SEx P T dr rs ks (f 0) (R 0) :=
 SEx.ind f R (fun i=>i<=n) (fun i=>n-i) 0 (Nat.zero_le _) fun i hi ih=>step i hi fun h=>ih (i+1) (by omega) (by omega)
theorem SEx.idxS {P:Program}{T:Nat->Option Ty}{dr:Nat->Nat}{rs:Array ResultVar}{ks:List K}{α:Type}(n:Nat)(f:Nat->α->SF)(R:Nat->α->TV W)(Inv:Nat->α->Prop)(s0:α)(h0:Inv 0 s0)
 (step:∀ i s,i<=n->Inv i s->(∀ s',i<n->Inv (i+1) s'->SEx P T dr rs ks (f (i+1) s') (R (i+1) s'))->SEx P T dr rs ks (f i s) (R i s)):SEx P T dr rs ks (f 0 s0) (R 0 s0) :=
 SEx.ind (fun x:Nat×α=>f x.1 x.2) (fun x=>R x.1 x.2) (fun x=>x.1<=n/\Inv x.1 x.2) (fun x=>n-x.1) (0,s0) ⟨Nat.zero_le _,h0⟩ fun x hx ih=>step x.1 x.2 hx.1 hx.2 fun s' h hI=>ih (x.1+1,s') ⟨by show x.1+1<=n;omega,hI⟩ (by show n-(x.1+1)<n-x.1;omega)
structure vS {α:Type}(a b:α):Prop where out:a=b
structure LLe {α:Type}(l:List α)(n:Nat):Prop where out:l.length<=n
theorem qv {n:Int}(h1:-9223372036854775808<=n)(h2:n<=9223372036854775807):IntKind.i64.wrap n=n:=IntWalk.i64_in n ⟨h1,h2⟩
theorem qh {i:Nat}(h:i<9223372036854775807):IntKind.i64.wrap ((i:Int)+1)=((i+1:Nat):Int):=by
 rw [qv (by omega) (by omega)];rfl
structure qr4 (s:ByteArray):Prop where out:s.size<=maxLen
structure qf9 (n:Int):Prop where out:0<=n/\n<=9223372036854775807
structure Hd (p:Prop):Prop where out:p
theorem zx:(1048576:Int)<=lim:=by decide
theorem zB {α:Type}{l:List α}{i:Nat}{z:α}(h:i<l.length):l.getD i z=l[i]:=by rw [List.getD_eq_getElem?_getD,List.getElem?_eq_getElem h,Option.getD_some]
def eqS (a b:ByteArray):Bool:=a.toList == b.toList
def zK {α:Type}(p:α->Bool):List α->Nat->Int
 | [],_=>-1
 | a::r,n=>if p a=true then n else zK p r (n+1)
theorem qiN {α:Type}{p:α->Bool}{l:List α}{i n:Nat}(z:α)(h:i<l.length):zK p (l.drop i) n=if p (l.getD i z)=true then (n:Int) else zK p (l.drop (i+1)) (n+1):=by
 rw [List.drop_eq_getElem_cons h,List.getD_eq_getElem?_getD,List.getElem?_eq_getElem h,Option.getD_some];rfl
theorem jv {α:Type}{p:α->Bool}{l:List α}{i n:Nat}(z:α)(h:i<l.length)(hp:p (l.getD i z)=true):zK p (l.drop i) n=n:=by rw [qiN z h,if_pos hp]
theorem QE {α:Type}{p:α->Bool}{l:List α}{i n:Nat}(z:α)(h:i<l.length)(hp:p (l.getD i z)=false):zK p (l.drop i) n=zK p (l.drop (i+1)) (n+1):=by rw [qiN z h,hp];rfl
theorem ji {α:Type}{p:α->Bool}{l:List α}{i n:Nat}(h:l.length<=i):zK p (l.drop i) n=-1:=by rw [List.drop_eq_nil_of_le h];rfl
def qsl (k:Nat):Dc ByteArray:=⟨fun s=>aF k [.ptr [.str s]],fun | (false,[.fn f [.ptr [.str s]]])=>(match nq f k with | true=>some s | false=>none) | _=>none,by
 intro x a h
 split at h
 . split at h
   . rename_i hk
     obtain rfl:=QQ.1 hk
     simp only [Option.some.injEq] at h;subst h;rfl
   . cases h
 . cases h⟩
structure ql0 (g' g:FuncId)(r:List (V1 D))(caps:List D):Prop where
 fn:g'=g
 caps:r=jO caps
structure Mem {α:Type}(x:α)(l:List α):Prop where out:x∈l
theorem qo {α:Type}{l:List α}{i:Nat}{z:α}(h:i<l.length):Mem (l.getD i z) l:=⟨by rw [List.getD_eq_getElem?_getD,List.getElem?_eq_getElem h,Option.getD_some];exact List.getElem_mem _⟩
def qjJ {α:Type}(d:Dc α)(g:FuncId)(caps:List D)(l:List α)(p:α->Bool):Qo:=fun g' as'=>match as' with
 | x::r=>(match d.dec x with
   | some q=>some ([ql0 g' g r caps,Mem q l],rB (p q))
   | none=>none)
 | []=>none
theorem VS {P:Program}{α:Type}{d:Dc α}{g:FuncId}{caps:List D}{l:List α}{p:α->Bool}(hp:∀ q∈l,qe P g (d.enc q::jO caps) (rB (p q))):qp P (qjJ d g caps l p):=by
 intro g' as'
 unfold qjJ
 split
 . split
   . rename_i hx
     refine R.Sim.mk fun hq=>?_
     obtain ⟨rfl,rfl⟩:=hq _ (.head _)
     exact (hp _ (hq _ (.tail _ (.head _))).out).er (by simp only [qx,d.ok _ _ hx]) rfl
   . exact R.Sim.none'
 . exact R.Sim.none'
theorem Ku {α:Type}(p:α->Bool):∀ (l:List α) (n:Nat),decide (0<=zK p l n)=l.any p
 | [],n=>rfl
 | a::r,n=>by
   unfold zK
   rw [List.any_cons]
   cases h:p a with
   | true=>rw [if_pos rfl];simp
   | false=>rw [if_neg (by simp)];exact Ku p r (n+1)
def qz {α:Type}(p:Nat->α->Bool):List α->Nat->Bool
 | [],_=>true
 | a::r,n=>p n a&&qz p r (n+1)
theorem VI {α:Type}{p:Nat->α->Bool}{l:List α}{i n:Nat}(z:α)(h:i<l.length):qz p (l.drop i) n=(p n (l.getD i z)&&qz p (l.drop (i+1)) (n+1)):=by
 rw [List.drop_eq_getElem_cons h,List.getD_eq_getElem?_getD,List.getElem?_eq_getElem h,Option.getD_some];rfl
theorem vb {α:Type}{p:Nat->α->Bool}{l:List α}{i n:Nat}(z:α)(h:i<l.length)(hp:p n (l.getD i z)=true):qz p (l.drop i) n=qz p (l.drop (i+1)) (n+1):=by rw [VI z h,hp];rfl
theorem vh {α:Type}{p:Nat->α->Bool}{l:List α}{i n:Nat}(z:α)(h:i<l.length)(hp:p n (l.getD i z)=false):qz p (l.drop i) n=false:=by rw [VI z h,hp];rfl
theorem qmQ {α:Type}{p:Nat->α->Bool}{l:List α}{i n:Nat}(h:l.length<=i):qz p (l.drop i) n=true:=by rw [List.drop_eq_nil_of_le h];rfl
theorem wj {α:Type}{p q:Nat->α->Bool}:∀ (l:List α) (n:Nat),(∀ i a,l[i]?=some a->p (n+i) a=q (n+i) a)->qz p l n=qz q l n
 | [],_,_=>rfl
 | a::r,n,h=>by
   have h1:qz p r (n+1)=qz q r (n+1):=wj r (n+1) fun i b hi=>by
    have:=h (i+1) b (by simpa using hi)
    rwa [show n+(i+1)=n+1+i by omega] at this
   show (p n a&&qz p r (n+1))=(q n a&&qz q r (n+1))
   rw [h1,show p n a=q n a from h 0 a rfl]
def wCl {α:Type}(d:Dc α)(g:FuncId)(caps:List D)(f:α->TV W)(p:α->List Prop):Wr
 | [x,(false,[.fn g' caps'])]=>(match d.dec x with | some l=>some (vS g' g::vS caps' caps::p l,f l) | none=>none)
 | _=>none
theorem Y7 {P:Program}{k:FuncId}{α:Type}{d:Dc α}{g:FuncId}{caps:List D}{f:α->TV W}{p:α->List Prop}(h:∀ l,Holds (p l)->qe P k [d.enc l,aF g caps] (f l)):qy P k (wCl d g caps f p):=by
 intro xs
 unfold wCl
 split
 . split
   . rename_i hx
     refine R.Sim.mk fun hq=>?_
     obtain ⟨rfl⟩:=hq _ (.head _)
     obtain ⟨rfl⟩:=hq _ (.tail _ (.head _))
     exact (h _ fun r hr=>hq r (.tail _ (.tail _ hr))).er (by simp only [qx,d.ok _ _ hx];rfl) rfl
   . exact R.Sim.none'
 . exact R.Sim.none'
theorem wB {α:Type}{p:Nat->α->Bool}{l:List α}{i:Nat}{c:Bool}(z:α)(h:i<l.length)(hp:p i (l.getD i z)=true):(qz p (l.drop i) i&&c)=(qz p (l.drop (i+1)) (i+1)&&c):=by rw [vb z h hp]
theorem Vf {α:Type}{p:Nat->α->Bool}{l:List α}{i:Nat}{c:Bool}(z:α)(h:i<l.length)(hp:p i (l.getD i z)=false):(qz p (l.drop i) i&&c)=false:=by rw [vh z h hp];rfl
theorem qN {α:Type}{p:Nat->α->Bool}{l:List α}{i:Nat}{c:Bool}(h:l.length<=i):(qz p (l.drop i) i&&c)=c:=by rw [qmQ h];rfl
theorem qcw {α:Type}(p:α->Bool):∀ (l:List α) (n:Nat),zK p l n<n+l.length/\(zK p l n=-1\/(n:Int)<=zK p l n)
 | [],n=>by simp [zK];omega
 | a::r,n=>by
   have:=qcw p r (n+1)
   unfold zK
   simp only [List.length_cons]
   split<;>omega
theorem qI {a b:Bool}(h:b=a)(k:Bool):eR (.v (false,[.fz (.bool k a)]))=eR (rB b):=by rw [jg];exact h.symm
structure q9 (p A B:Bool):Prop where
 yes:p=true->A=B
 no:p=false->A=false
theorem q9.of {α:Type}(p:Nat->α->Bool)(l:List α)(i:Nat)(c:Bool)(z:α)(h:i<l.length):q9 (p i (l.getD i z)) (qz p (l.drop i) i&&c) (qz p (l.drop (i+1)) (i+1)&&c):=⟨wB z h,Vf z h⟩
theorem q9.stop {p A B:Bool}(h:q9 p A B)(k:Bool)(hp:p=false):eR (.v (false,[.fz (.bool k false)]))=eR (rB A):=qI (h.no hp) k
theorem q9.go {p A B:Bool}(h:q9 p A B)(hp:p=true):eR (rB B)=eR (rB A):=by rw [h.yes hp]
theorem q9.stopN {p A B:Bool}(h:q9 p A B)(k:Bool)(hp:p=false):eR (.v (false,[.fz (.bool k true)]))=eR (rB (!A)):=qI (by rw [h.no hp];rfl) k
theorem q9.goN {p A B:Bool}(h:q9 p A B)(hp:p=true):eR (rB (!B))=eR (rB (!A)):=by rw [h.yes hp]
end Go.Proofs.YtifnopmkdempdaaGreat.Ai
namespace Go.Proofs.YtifnopmkdempdaaGreat.Ai
open Go
set_option maxRecDepth 100000
variable [qg]
theorem W2 (l:List Int)(g:FuncId)(caps:List D)(p:Int->Bool)(hp:∀ q∈l,qe Tryz.prog g (aI q::jO caps) (rB (p q)))(h1:l.length<=maxLen):qe Tryz.prog 90 [aIs l,aF g caps] (rI (zK p l 0)):=by
 refine qe.of qc (fn:=Tryz.f90) (c:=Tryz.f90.body.getD .skip) (dr:=fun n=>qa 0 [] n) Tryz.func90 rfl (by kernel_rfl) (by kernel_rfl) (by kernel_rfl) ?_
 unfold maxLen at h1
 have hO:qp Tryz.prog (qjJ dcI g caps l p):=VS hp
 refine SEx.go (X:=XX) qc (fun n=>qa [] [(2,[0,1,7,8])] n) (fun _=>none) hO 60 ?_
 intro M R L N m0 m1 m2 m3 m4 m5
 cases M
 cbv
 repeat' first | refine m1 _ _ ?_ ?_ | refine m2 _ _ fun h=>?_ | refine m3 _ ?_ | (refine m4 _ _ (Hd.out ?_);generalize hks:(List.cons _ _:List K)=ks) | (refine m5 _ _ ?_;cbv)
 all_goals (clear m1 m2 m3 m4 m5;cases m0;try dsimp only)
 all_goals try simp only [sm] at *
 obtain ⟨n,hn⟩:∃ n,n=l.length:=⟨_,rfl⟩
 refine ⟨SEx.same (SEx.idx n (fun i=>⟨19,[(0,bL (.i l)),(1,.v (false,[.fz (.fn g caps)])),(7,bI n),(8,bI i)],[]⟩) (fun i=>rI (zK p (l.drop i) i)) ?_) (by rw [hn];rfl) rfl⟩
 intro i hi ih
 rw [<-hks]
 refine SEx.go (X:=XX) qc (fun n=>qa [] [(2,[0,1,7,8])] n) (fun _=>none) hO 60 ?_
 intro M R L N m0 m1 m2 m3 m4 m5
 cases M
 cbv
 repeat' first | refine m1 _ _ ?_ ?_ | refine m2 _ _ fun h=>?_ | refine m3 _ ?_ | (refine m4 _ _ (Hd.out ?_);try first | rw [hks] | rw [hk2] | rw [hk3]) | (refine m5 _ _ ?_;cbv)
 all_goals (clear m1 m2 m3 m4 m5;cases m0;(try clear hks;try clear hk2;try clear hk3);try dsimp only)
 all_goals try simp only [sm] at *
 all_goals first
  | omega
  | exact ⟨rfl,by cases caps<;>rfl⟩
  | exact ⟨rfl,rfl⟩
  | exact qo (z:=(0:Int)) (by omega)
  | (rw [jv (p:=p) (l:=l) (i:=i) (0:Int) (by omega) (by first | assumption | exact beq_iff_eq.2 (by assumption))];rfl)
  | (rw [ji (by omega)];rfl)
  | (simp only [qh (show i<9223372036854775807 by omega)];exact ⟨(ih (by omega)).same rfl (by rw [QE (p:=p) (l:=l) (i:=i) (0:Int) (by omega) (by first | assumption | exact beq_eq_false_iff_ne.2 (by assumption) | (simp_all;done))])⟩)
theorem ZR (l:List Int)(g:FuncId)(caps:List D)(p:Int->Bool)(hp:∀ q∈l,qe Tryz.prog g (aI q::jO caps) (rB (p q)))(h1:l.length<=maxLen):qe Tryz.prog 117 [aIs l,aF g caps] (rB (l.any p)):=by
 refine qe.of qc (fn:=Tryz.f117) (c:=Tryz.f117.body.getD .skip) (dr:=fun n=>qa 0 [] n) Tryz.func117 rfl (by kernel_rfl) (by kernel_rfl) (by kernel_rfl) ?_
 obtain ⟨f,hf⟩:∃ f:List Int->Int,f=fun l=>zK p l 0:=⟨_,rfl⟩
 have hO:qp Tryz.prog (qK [(90,wCl z8 g caps (fun l=>rI (f l)) (fun m=>[vS m l]))]):=by subst hf;exact qb (Y7 fun m h=>by obtain rfl:=(h _ (.head _)).out;exact W2 m g caps p hp h1) qd
 refine SEx.go (X:=XX) qc (fun n=>qa [] [] n) (fun _=>none) hO 60 ?_
 intro M R L N m0 m1 m2 m3 m4 m5
 cases M
 cbv
 repeat' first | refine m1 _ _ ?_ ?_ | refine m2 _ _ fun h=>?_ | refine m3 _ ?_ | (refine m4 _ _ (Hd.out ?_);try first | rw [hks] | rw [hk2] | rw [hk3]) | (refine m5 _ _ ?_;cbv)
 all_goals (clear m1 m2 m3 m4 m5;cases m0;(try clear hks;try clear hk2;try clear hk3);try dsimp only)
 all_goals try simp only [sm] at *
 all_goals first
  | exact ⟨rfl⟩
  | (rw [<-Ku p l 0,hf];rfl)
theorem JM (l:List Tie)(g:FuncId)(caps:List D)(p:Tie->Bool)(hp:∀ q∈l,qe Tryz.prog g (YO q::jO caps) (rB (p q)))(h1:l.length<=maxLen):qe Tryz.prog 148 [yJ l,aF g caps] (rI (zK p l 0)):=by
 refine qe.of qc (fn:=Tryz.f148) (c:=Tryz.f148.body.getD .skip) (dr:=fun n=>qa 0 [] n) Tryz.func148 rfl (by kernel_rfl) (by kernel_rfl) (by kernel_rfl) ?_
 unfold maxLen at h1
 have hO:qp Tryz.prog (qjJ Yz g caps l p):=VS hp
 refine SEx.go (X:=XX) qc (fun n=>qa [] [(2,[0,1,7,8])] n) (fun _=>none) hO 60 ?_
 intro M R L N m0 m1 m2 m3 m4 m5
 cases M
 cbv
 repeat' first | refine m1 _ _ ?_ ?_ | refine m2 _ _ fun h=>?_ | refine m3 _ ?_ | (refine m4 _ _ (Hd.out ?_);generalize hks:(List.cons _ _:List K)=ks) | (refine m5 _ _ ?_;cbv)
 all_goals (clear m1 m2 m3 m4 m5;cases m0;try dsimp only)
 all_goals try simp only [sm] at *
 obtain ⟨n,hn⟩:∃ n,n=l.length:=⟨_,rfl⟩
 refine ⟨SEx.same (SEx.idx n (fun i=>⟨19,[(0,bL (.tie l)),(1,.v (false,[.fz (.fn g caps)])),(7,bI n),(8,bI i)],[]⟩) (fun i=>rI (zK p (l.drop i) i)) ?_) (by rw [hn];rfl) rfl⟩
 intro i hi ih
 rw [<-hks]
 refine SEx.go (X:=XX) qc (fun n=>qa [] [(2,[0,1,7,8])] n) (fun _=>none) hO 60 ?_
 intro M R L N m0 m1 m2 m3 m4 m5
 cases M
 cbv
 repeat' first | refine m1 _ _ ?_ ?_ | refine m2 _ _ fun h=>?_ | refine m3 _ ?_ | (refine m4 _ _ (Hd.out ?_);try first | rw [hks] | rw [hk2] | rw [hk3]) | (refine m5 _ _ ?_;cbv)
 all_goals (clear m1 m2 m3 m4 m5;cases m0;(try clear hks;try clear hk2;try clear hk3);try dsimp only)
 all_goals try simp only [sm] at *
 all_goals first
  | omega
  | exact ⟨rfl,by cases caps<;>rfl⟩
  | exact ⟨rfl,rfl⟩
  | exact qo (z:=Tie.z) (by omega)
  | (rw [jv (p:=p) (l:=l) (i:=i) Tie.z (by omega) (by first | assumption | exact beq_iff_eq.2 (by assumption))];rfl)
  | (rw [ji (by omega)];rfl)
  | (simp only [qh (show i<9223372036854775807 by omega)];exact ⟨(ih (by omega)).same rfl (by rw [QE (p:=p) (l:=l) (i:=i) Tie.z (by omega) (by first | assumption | exact beq_eq_false_iff_ne.2 (by assumption) | (simp_all;done))])⟩)
theorem Kv (l:List Tie)(g:FuncId)(caps:List D)(p:Tie->Bool)(hp:∀ q∈l,qe Tryz.prog g (YO q::jO caps) (rB (p q)))(h1:l.length<=maxLen):qe Tryz.prog 125 [yJ l,aF g caps] (rB (l.any p)):=by
 refine qe.of qc (fn:=Tryz.f125) (c:=Tryz.f125.body.getD .skip) (dr:=fun n=>qa 0 [] n) Tryz.func125 rfl (by kernel_rfl) (by kernel_rfl) (by kernel_rfl) ?_
 obtain ⟨f,hf⟩:∃ f:List Tie->Int,f=fun l=>zK p l 0:=⟨_,rfl⟩
 have hO:qp Tryz.prog (qK [(148,wCl KL g caps (fun l=>rI (f l)) (fun m=>[vS m l]))]):=by subst hf;exact qb (Y7 fun m h=>by obtain rfl:=(h _ (.head _)).out;exact JM m g caps p hp h1) qd
 refine SEx.go (X:=XX) qc (fun n=>qa [] [] n) (fun _=>none) hO 60 ?_
 intro M R L N m0 m1 m2 m3 m4 m5
 cases M
 cbv
 repeat' first | refine m1 _ _ ?_ ?_ | refine m2 _ _ fun h=>?_ | refine m3 _ ?_ | (refine m4 _ _ (Hd.out ?_);try first | rw [hks] | rw [hk2] | rw [hk3]) | (refine m5 _ _ ?_;cbv)
 all_goals (clear m1 m2 m3 m4 m5;cases m0;(try clear hks;try clear hk2;try clear hk3);try dsimp only)
 all_goals try simp only [sm] at *
 all_goals first
  | exact ⟨rfl⟩
  | (rw [<-Ku p l 0,hf];rfl)
theorem V7 (l:List qi)(g:FuncId)(caps:List D)(p:qi->Bool)(hp:∀ q∈l,qe Tryz.prog g (vu q::jO caps) (rB (p q)))(h1:l.length<=maxLen):qe Tryz.prog 146 [Ws l,aF g caps] (rI (zK p l 0)):=by
 refine qe.of qc (fn:=Tryz.f146) (c:=Tryz.f146.body.getD .skip) (dr:=fun n=>qa 0 [] n) Tryz.func146 rfl (by kernel_rfl) (by kernel_rfl) (by kernel_rfl) ?_
 unfold maxLen at h1
 have hO:qp Tryz.prog (qjJ JY g caps l p):=VS hp
 refine SEx.go (X:=XX) qc (fun n=>qa [] [(2,[0,1,7,8])] n) (fun _=>none) hO 60 ?_
 intro M R L N m0 m1 m2 m3 m4 m5
 cases M
 cbv
 repeat' first | refine m1 _ _ ?_ ?_ | refine m2 _ _ fun h=>?_ | refine m3 _ ?_ | (refine m4 _ _ (Hd.out ?_);generalize hks:(List.cons _ _:List K)=ks) | (refine m5 _ _ ?_;cbv)
 all_goals (clear m1 m2 m3 m4 m5;cases m0;try dsimp only)
 all_goals try simp only [sm] at *
 obtain ⟨n,hn⟩:∃ n,n=l.length:=⟨_,rfl⟩
 refine ⟨SEx.same (SEx.idx n (fun i=>⟨19,[(0,bL (.node false none l)),(1,.v (false,[.fz (.fn g caps)])),(7,bI n),(8,bI i)],[]⟩) (fun i=>rI (zK p (l.drop i) i)) ?_) (by rw [hn];rfl) rfl⟩
 intro i hi ih
 rw [<-hks]
 refine SEx.go (X:=XX) qc (fun n=>qa [] [(2,[0,1,7,8])] n) (fun _=>none) hO 60 ?_
 intro M R L N m0 m1 m2 m3 m4 m5
 cases M
 cbv
 repeat' first | refine m1 _ _ ?_ ?_ | refine m2 _ _ fun h=>?_ | refine m3 _ ?_ | (refine m4 _ _ (Hd.out ?_);try first | rw [hks] | rw [hk2] | rw [hk3]) | (refine m5 _ _ ?_;cbv)
 all_goals (clear m1 m2 m3 m4 m5;cases m0;(try clear hks;try clear hk2;try clear hk3);try dsimp only)
 all_goals try simp only [sm] at *
 all_goals first
  | omega
  | exact ⟨rfl,by cases caps<;>rfl⟩
  | exact ⟨rfl,rfl⟩
  | exact qo (z:=qi.z) (by omega)
  | (rw [jv (p:=p) (l:=l) (i:=i) qi.z (by omega) (by first | assumption | exact beq_iff_eq.2 (by assumption))];rfl)
  | (rw [ji (by omega)];rfl)
  | (simp only [qh (show i<9223372036854775807 by omega)];exact ⟨(ih (by omega)).same rfl (by rw [QE (p:=p) (l:=l) (i:=i) qi.z (by omega) (by first | assumption | exact beq_eq_false_iff_ne.2 (by assumption) | (simp_all;done))])⟩)
theorem qcC (l:List (List Int))(g:FuncId)(caps:List D)(p:(List Int)->Bool)(hp:∀ q∈l,qe Tryz.prog g (aIs q::jO caps) (rB (p q)))(h1:l.length<=maxLen):qe Tryz.prog 91 [qkd l,aF g caps] (rI (zK p l 0)):=by
 refine qe.of qc (fn:=Tryz.f91) (c:=Tryz.f91.body.getD .skip) (dr:=fun n=>qa 0 [] n) Tryz.func91 rfl (by kernel_rfl) (by kernel_rfl) (by kernel_rfl) ?_
 unfold maxLen at h1
 have hO:qp Tryz.prog (qjJ z8 g caps l p):=VS hp
 refine SEx.go (X:=XX) qc (fun n=>qa [] [(2,[0,1,7,8])] n) (fun _=>none) hO 60 ?_
 intro M R L N m0 m1 m2 m3 m4 m5
 cases M
 cbv
 repeat' first | refine m1 _ _ ?_ ?_ | refine m2 _ _ fun h=>?_ | refine m3 _ ?_ | (refine m4 _ _ (Hd.out ?_);generalize hks:(List.cons _ _:List K)=ks) | (refine m5 _ _ ?_;cbv)
 all_goals (clear m1 m2 m3 m4 m5;cases m0;try dsimp only)
 all_goals try simp only [sm] at *
 obtain ⟨n,hn⟩:∃ n,n=l.length:=⟨_,rfl⟩
 refine ⟨SEx.same (SEx.idx n (fun i=>⟨19,[(0,bL (.ii false none l)),(1,.v (false,[.fz (.fn g caps)])),(7,bI n),(8,bI i)],[]⟩) (fun i=>rI (zK p (l.drop i) i)) ?_) (by rw [hn];rfl) rfl⟩
 intro i hi ih
 rw [<-hks]
 refine SEx.go (X:=XX) qc (fun n=>qa [] [(2,[0,1,7,8])] n) (fun _=>none) hO 60 ?_
 intro M R L N m0 m1 m2 m3 m4 m5
 cases M
 cbv
 repeat' first | refine m1 _ _ ?_ ?_ | refine m2 _ _ fun h=>?_ | refine m3 _ ?_ | (refine m4 _ _ (Hd.out ?_);try first | rw [hks] | rw [hk2] | rw [hk3]) | (refine m5 _ _ ?_;cbv)
 all_goals (clear m1 m2 m3 m4 m5;cases m0;(try clear hks;try clear hk2;try clear hk3);try dsimp only)
 all_goals try simp only [sm] at *
 all_goals first
  | omega
  | exact ⟨rfl,by cases caps<;>rfl⟩
  | exact ⟨rfl,rfl⟩
  | exact qo (z:=([]:List Int)) (by omega)
  | (rw [jv (p:=p) (l:=l) (i:=i) ([]:List Int) (by omega) (by first | assumption | exact beq_iff_eq.2 (by assumption))];rfl)
  | (rw [ji (by omega)];rfl)
  | (simp only [qh (show i<9223372036854775807 by omega)];exact ⟨(ih (by omega)).same rfl (by rw [QE (p:=p) (l:=l) (i:=i) ([]:List Int) (by omega) (by first | assumption | exact beq_eq_false_iff_ne.2 (by assumption) | (simp_all;done))])⟩)
theorem qac (l:List (List Int))(g:FuncId)(caps:List D)(p:(List Int)->Bool)(hp:∀ q∈l,qe Tryz.prog g (aIs q::jO caps) (rB (p q)))(h1:l.length<=maxLen):qe Tryz.prog 52 [qkd l,aF g caps] (rB (l.any p)):=by
 refine qe.of qc (fn:=Tryz.f52) (c:=Tryz.f52.body.getD .skip) (dr:=fun n=>qa 0 [] n) Tryz.func52 rfl (by kernel_rfl) (by kernel_rfl) (by kernel_rfl) ?_
 obtain ⟨f,hf⟩:∃ f:List (List Int)->Int,f=fun l=>zK p l 0:=⟨_,rfl⟩
 have hO:qp Tryz.prog (qK [(91,wCl qiK g caps (fun l=>rI (f l)) (fun m=>[vS m l]))]):=by subst hf;exact qb (Y7 fun m h=>by obtain rfl:=(h _ (.head _)).out;exact qcC m g caps p hp h1) qd
 refine SEx.go (X:=XX) qc (fun n=>qa [] [] n) (fun _=>none) hO 60 ?_
 intro M R L N m0 m1 m2 m3 m4 m5
 cases M
 cbv
 repeat' first | refine m1 _ _ ?_ ?_ | refine m2 _ _ fun h=>?_ | refine m3 _ ?_ | (refine m4 _ _ (Hd.out ?_);try first | rw [hks] | rw [hk2] | rw [hk3]) | (refine m5 _ _ ?_;cbv)
 all_goals (clear m1 m2 m3 m4 m5;cases m0;(try clear hks;try clear hk2;try clear hk3);try dsimp only)
 all_goals try simp only [sm] at *
 all_goals first
  | exact ⟨rfl⟩
  | (rw [<-Ku p l 0,hf];rfl)
theorem qkz (l:List Int)(v:Int)(h1:l.length<=maxLen):qe Tryz.prog 92 [aIs l,aI v] (rI (zK (fun x=>v == x) l 0)):=by
 refine qe.of qc (fn:=Tryz.f92) (c:=Tryz.f92.body.getD .skip) (dr:=fun n=>qa 0 [] n) Tryz.func92 rfl (by kernel_rfl) (by kernel_rfl) (by kernel_rfl) ?_
 unfold maxLen at h1
 refine SEx.go (X:=XX) qc (fun n=>qa [] [(2,[0,1,7,8])] n) (fun _=>none) qd 60 ?_
 intro M R L N m0 m1 m2 m3 m4 m5
 cases M
 cbv
 repeat' first | refine m1 _ _ ?_ ?_ | refine m2 _ _ fun h=>?_ | refine m3 _ ?_ | (refine m4 _ _ (Hd.out ?_);generalize hks:(List.cons _ _:List K)=ks) | (refine m5 _ _ ?_;cbv)
 all_goals (clear m1 m2 m3 m4 m5;cases m0;try dsimp only)
 all_goals try simp only [sm] at *
 obtain ⟨n,hn⟩:∃ n,n=l.length:=⟨_,rfl⟩
 refine ⟨SEx.same (SEx.idx n (fun i=>⟨19,[(0,bL (.i l)),(1,bI v),(7,bI n),(8,bI i)],[]⟩) (fun i=>rI (zK (fun x=>v == x) (l.drop i) i)) ?_) (by rw [hn];rfl) rfl⟩
 intro i hi ih
 rw [<-hks]
 refine SEx.go (X:=XX) qc (fun n=>qa [] [(2,[0,1,7,8])] n) (fun _=>none) qd 60 ?_
 intro M R L N m0 m1 m2 m3 m4 m5
 cases M
 cbv
 repeat' first | refine m1 _ _ ?_ ?_ | refine m2 _ _ fun h=>?_ | refine m3 _ ?_ | (refine m4 _ _ (Hd.out ?_);try first | rw [hks] | rw [hk2] | rw [hk3]) | (refine m5 _ _ ?_;cbv)
 all_goals (clear m1 m2 m3 m4 m5;cases m0;(try clear hks;try clear hk2;try clear hk3);try dsimp only)
 all_goals try simp only [sm] at *
 all_goals first
  | omega
  | exact ⟨rfl,by cases caps<;>rfl⟩
  | exact ⟨rfl,rfl⟩
  | exact qo (z:=(0:Int)) (by omega)
  | (rw [jv (p:=fun x=>v == x) (l:=l) (i:=i) (0:Int) (by omega) (by first | assumption | exact beq_iff_eq.2 (by assumption))];rfl)
  | (rw [ji (by omega)];rfl)
  | (simp only [qh (show i<9223372036854775807 by omega)];exact ⟨(ih (by omega)).same rfl (by rw [QE (p:=fun x=>v == x) (l:=l) (i:=i) (0:Int) (by omega) (by first | assumption | exact beq_eq_false_iff_ne.2 (by assumption) | (simp_all;done))])⟩)
def qh1 (f:List Int->Int->Int):Wr:=w2 z8 dcI (fun l v=>rI (f l v)) (fun l _=>[LLe l maxLen])
theorem qfS:qy Tryz.prog 92 (qh1 fun l v=>zK (fun x=>v == x) l 0):=qE fun l v h=>qkz l v (h _ (.head _)).out
end Go.Proofs.YtifnopmkdempdaaGreat.Ai
namespace Go.Proofs.YtifnopmkdempdaaGreat.Ai
open Go
set_option maxRecDepth 100000
variable [qg]
def inB (n lo hi:Int):Bool:=decide (lo<=n/\n<=hi)
def bt (s:ByteArray)(i:Nat):Int:=(s[i]?.getD 0).toNat
def qjc (s:ByteArray)(i:Nat):Bool:=decide (97<=bt s i/\bt s i<=122\/i≠0/\48<=bt s i/\bt s i<=57)
def Qa (s:ByteArray)(i:Nat):Bool:=(List.range' i (s.size-i)).all (qjc s)&&decide (1<=s.size/\s.size<=8)
theorem qdS {s:ByteArray}{i:Nat}(h:i<s.size):Qa s i=(qjc s i&&Qa s (i+1)):=by
 unfold Qa
 rw [show s.size-i=(s.size-(i+1))+1 by omega,List.range'_succ,List.all_cons,Bool.and_assoc]
theorem qey {s:ByteArray}{i:Nat}(h:i<s.size)(hc:¬(97<=bt s i/\bt s i<=122\/i≠0/\48<=bt s i/\bt s i<=57)):Qa s i=false:=by
 rw [qdS h,qjc,decide_eq_false hc,Bool.false_and]
theorem qaP {s:ByteArray}{i:Nat}(h:i<s.size)(hc:97<=bt s i/\bt s i<=122\/i≠0/\48<=bt s i/\bt s i<=57):Qa s i=Qa s (i+1):=by
 rw [qdS h,qjc,decide_eq_true hc,Bool.true_and]
theorem qfA {s:ByteArray}{i:Nat}(h:s.size<=i):Qa s i=decide (1<=s.size/\s.size<=8):=by
 unfold Qa
 rw [show s.size-i=0 by omega]
 simp
theorem qnT (a b c:Int):qe Tryz.prog 104 [aI a,aI b,aI c] (rB (inB a b c)):=by
 refine qe.of qc (fn:=Tryz.f104) (c:=Tryz.f104.body.getD .skip) (dr:=fun n=>qa 0 [] n) Tryz.func104 rfl (by kernel_rfl) (by kernel_rfl) (by kernel_rfl) ?_
 refine SEx.walk (X:=XX) qc (fun n=>qa [] [] n) qd 100 ?_
 intro M R L N hM hR hL hN
 cases M
 cbv
 cases hM
 try dsimp only
 repeat' first | apply And.intro | (intro h;try simp only [Bool.not_eq_true',Bool.not_eq_false',decide_eq_true_eq,decide_eq_false_iff_not,Int.not_le,Int.not_lt,beq_iff_eq,beq_eq_false_iff_ne,ne_eq,Int.ofNat_eq_natCast,Int.toNat_natCast,List.length_replicate,qdg,Nat.sub_zero,List.drop_zero,Cue.eta,Tie.eta,Edge.eta,Qg.eta,qi.eta] at h) | (refine hR _ ?_) | (refine hL _ _ (Hd.out ?_)) | (refine hN _ _ (Hd.out ?_))
 all_goals simp only [jg,inB]
 all_goals (rw [Bool.eq_iff_iff];simp;try omega)
def qrH (f:Int->Int->Int->Bool):Wr:=w3 dcI dcI dcI (fun x y z=>rB (f x y z)) (fun _ _ _=>[])
theorem qoU:qy Tryz.prog 104 (qrH inB):=jo fun x y z _=>qnT x y z
theorem qaf (s:ByteArray)(hs:s.size<=maxLen):qe Tryz.prog 170 [aS s] (rB (Qa s 0)):=by
 refine qe.of qc (fn:=Tryz.f170) (c:=Tryz.f170.body.getD .skip) (dr:=fun n=>qa 0 [] n) Tryz.func170 rfl (by kernel_rfl) (by kernel_rfl) (by kernel_rfl) ?_
 obtain ⟨f,hf⟩:∃ f,f=inB:=⟨_,rfl⟩
 have hO:qp Tryz.prog (qK [(104,qrH f)]):=by subst hf;exact qb qoU qd
 unfold maxLen at hs
 refine SEx.walk (X:=XX) qc (fun n=>qa [] [(2,[0,3])] n) hO 100 ?_
 intro M R L N hM hR hL hN
 cases M
 cbv
 cases hM
 try dsimp only
 refine hL _ _ ?_
 clear hR hL hN R L N
 generalize hks:(List.cons _ _:List K)=ks
 refine SEx.same (SEx.ind (fun i:Nat=>⟨42,[(0,.v (false,[.fz (.str s)])),(3,.v (false,[.fz (.int .i64 i)]))],[]⟩) (fun i=>rB (Qa s i)) (fun i=>i<=s.size) (fun i=>s.size-i) 0 (Nat.zero_le _) ?_) rfl rfl
 intro i hi ih
 rw [<-hks]
 refine SEx.walk (X:=XX) qc (fun n=>qa [] [(2,[0,3])] n) hO 100 ?_
 intro M R L N hM hR hL hN
 cases M
 cbv
 cases hM
 try dsimp only
 repeat' first | apply And.intro | (intro h;try simp only [Bool.not_eq_true',Bool.not_eq_false',decide_eq_true_eq,decide_eq_false_iff_not,Int.not_le,Int.not_lt,beq_iff_eq,beq_eq_false_iff_ne,ne_eq,Int.ofNat_eq_natCast,Int.toNat_natCast,List.length_replicate,qdg,Nat.sub_zero,List.drop_zero,Cue.eta,Tie.eta,Edge.eta,Qg.eta,qi.eta] at h) | (refine hR _ ?_) | (refine hL _ _ (Hd.out ?_)) | (refine hN _ _ (Hd.out ?_))
 all_goals simp only [Int.ofNat_eq_natCast,hks,jg]
 all_goals (try simp only [qh (show i<9223372036854775807 by omega)])
 all_goals first
  | omega
  | (rw [qey]<;>(try unfold bt)<;>omega)
  | (rw [qaP (by omega) (by unfold bt;omega)];exact ⟨ih (i+1) (by omega) (by omega)⟩)
  | (rw [hf,qfA (by omega)];unfold inB;rw [Bool.eq_iff_iff];simp only [decide_eq_true_eq];omega)
theorem qar (s:ByteArray)(hs:s.size<=maxLen):qe Tryz.prog 166 [aS s] (rB (Qa s 0)):=by
 refine qe.of qc (fn:=Tryz.f166) (c:=Tryz.f166.body.getD .skip) (dr:=fun n=>qa 0 [(4,22)] n) Tryz.func166 rfl (by kernel_rfl) (by kernel_rfl) (by kernel_rfl) ?_
 unfold maxLen at hs
 refine SEx.walk (X:=XX) qc (fun n=>qa [] [(2,[0,3])] n) qd 100 ?_
 intro M R L N hM hR hL hN
 cases M
 cbv
 cases hM
 try dsimp only
 refine hL _ _ ?_
 clear hR hL hN R L N
 generalize hks:(List.cons _ _:List K)=ks
 refine SEx.same (SEx.ind (fun i:Nat=>⟨50,[(0,.v (false,[.fz (.str s)])),(3,.v (false,[.fz (.int .i64 i)]))],[]⟩) (fun i=>rB (Qa s i)) (fun i=>i<=s.size) (fun i=>s.size-i) 0 (Nat.zero_le _) ?_) rfl rfl
 intro i hi ih
 rw [<-hks]
 refine SEx.walk (X:=XX) qc (fun n=>qa [] [(2,[0,3])] n) qd 100 ?_
 intro M R L N hM hR hL hN
 cases M
 cbv
 cases hM
 try dsimp only
 repeat' first | apply And.intro | (intro h;try simp only [Bool.not_eq_true',Bool.not_eq_false',decide_eq_true_eq,decide_eq_false_iff_not,Int.not_le,Int.not_lt,beq_iff_eq,beq_eq_false_iff_ne,ne_eq,Int.ofNat_eq_natCast,Int.toNat_natCast,List.length_replicate,qdg,Nat.sub_zero,List.drop_zero,Cue.eta,Tie.eta,Edge.eta,Qg.eta,qi.eta] at h) | (refine hR _ ?_) | (refine hL _ _ (Hd.out ?_)) | (refine hN _ _ (Hd.out ?_))
 all_goals simp only [Int.ofNat_eq_natCast,hks,jg]
 all_goals (try simp only [qh (show i<9223372036854775807 by omega)])
 all_goals first
  | omega
  | (rw [qey]<;>(try unfold bt)<;>omega)
  | (rw [qaP (by omega) (by unfold bt;omega)];exact ⟨ih (i+1) (by omega) (by omega)⟩)
  | (rw [qfA (by omega),Bool.eq_iff_iff];simp only [decide_eq_true_eq,Bool.false_eq_true,false_iff];omega)
def qci (f:ByteArray->Bool):Wr:=w1 dcS (fun x=>rB (f x)) (fun x=>[qr4 x])
theorem qlt:qy Tryz.prog 170 (qci (Qa · 0)):=zH fun x h=>qaf x (h _ List.mem_cons_self).out
theorem qjX:qy Tryz.prog 166 (qci (Qa · 0)):=zH fun x h=>qar x (h _ List.mem_cons_self).out
end Go.Proofs.YtifnopmkdempdaaGreat.Ai
namespace Go.Proofs.YtifnopmkdempdaaGreat.Ai
open Go
set_option maxRecDepth 100000
variable [qg]
def szL {α:Type}(l:List α)(n:Int):Int:=if n<l.length then -1 else n-l.length
theorem qka (l:List Int)(n:Int)(hs:l.length<=maxLen)(hn:0<=n/\n<=9223372036854775807):qe Tryz.prog 32 [aIs l,aI n] (rI (szL l n)):=by
 refine qe.of qc (fn:=Tryz.f32) (c:=Tryz.f32.body.getD .skip) (dr:=fun n=>qa 0 [] n) Tryz.func32 rfl (by kernel_rfl) (by kernel_rfl) (by kernel_rfl) ?_
 unfold maxLen at hs
 refine SEx.go (X:=XX) qc (fun n=>qa [] [] n) (fun _=>none) qd 60 ?_
 intro M R L N m0 m1 m2 m3 m4 m5
 cases M
 cbv
 repeat' first | refine m1 _ _ ?_ ?_ | refine m2 _ _ fun h=>?_ | refine m3 _ ?_ | (refine m4 _ _ (Hd.out ?_);try first | rw [hks] | rw [hk2] | rw [hk3]) | (refine m5 _ _ ?_;cbv)
 all_goals (clear m1 m2 m3 m4 m5;cases m0;(try clear hks;try clear hk2;try clear hk3);try dsimp only)
 all_goals try simp only [sm] at *
 all_goals rw [qv (by omega) (by omega)] at *
 all_goals simp only [Z4,szL]
 all_goals split<;>omega
def ZA {α:Type}(z:α)(l:List α)(n i:Nat):List α:=l.take i++List.replicate (n-i) z
theorem Wx {α:Type}{z:α}{l:List α}{n i:Nat}(h:l.length=n)(hi:i<=n):(ZA z l n i).length=n:=by simp [ZA];omega
theorem wl {α:Type}{z d:α}{l:List α}{n i:Nat}(h:l.length=n)(hi:i<n):(ZA z l n i).set i (l.getD i d)=ZA z l n (i+1):=by
 have hl:i<l.length:=by omega
 unfold ZA
 rw [show n-i=(n-(i+1))+1 by omega,List.replicate_succ,List.set_append_right _ _ (by simp;omega)]
 rw [show i-(l.take i).length=0 by simp;omega,List.set_cons_zero,List.take_add_one,List.getElem?_eq_getElem hl]
 simp only [Option.toList_some,List.append_assoc,List.singleton_append,List.getD_eq_getElem?_getD,List.getElem?_eq_getElem hl,Option.getD_some]
theorem WJ {α:Type}{z:α}{l:List α}{n:Nat}(h:l.length=n):ZA z l n n=l:=by simp [ZA,<-h]
theorem qlE (l:List Int)(hs:l.length<=1048576):qe Tryz.prog 13 [aIs l] (rIs l):=by
 refine qe.of qc (fn:=Tryz.f13) (c:=Tryz.f13.body.getD .skip) (dr:=fun n=>qa 0 [] n) Tryz.func13 rfl (by kernel_rfl) (by kernel_rfl) (by kernel_rfl) ?_
 refine SEx.go (X:=XX) qc (fun n=>qa [] [(3,[0,3,4])] n) (fun _=>none) qd 60 ?_
 intro M R L N m0 m1 m2 m3 m4 m5
 cases M
 cbv
 repeat' first | refine m1 _ _ ?_ ?_ | refine m2 _ _ fun h=>?_ | refine m3 _ ?_ | (refine m4 _ _ (Hd.out ?_);generalize hks:(List.cons _ _:List K)=ks) | (refine m5 _ _ ?_;cbv)
 all_goals (clear m1 m2 m3 m4 m5;cases m0;try dsimp only)
 all_goals try simp only [sm] at *
 . have:=zx;omega
 generalize hn:l.length=n at *
 refine ⟨SEx.same (SEx.ind (fun i:Nat=>⟨22,[(0,.v (false,[.fz (.sl (.i l))])),(3,.v (false,[.rf (12288,[]) true 0 n])),(4,.v (false,[.fz (.int .i64 i)]))],[(12288,.osl (.i (ZA 0 l n i)))]⟩) (fun _=>rIs l) (fun i=>i<=n) (fun i=>n-i) 0 (Nat.zero_le _) ?_) rfl rfl⟩
 intro i hi ih
 rw [<-hks]
 obtain ⟨fl,hfl⟩:∃ x,x=ZA 0 l n i:=⟨_,rfl⟩
 have hf:=Wx (z:=(0:Int)) hn hi
 rw [<-hfl] at hf ⊢
 refine SEx.go (X:=XX) qc (fun n=>qa [] [(3,[0,3,4])] n) (fun _=>none) qd 60 ?_
 intro M R L N m0 m1 m2 m3 m4 m5
 cases M
 cbv
 repeat' first | refine m1 _ _ ?_ ?_ | refine m2 _ _ fun h=>?_ | refine m3 _ ?_ | (refine m4 _ _ (Hd.out ?_);try first | rw [hks] | rw [hk2] | rw [hk3]) | (refine m5 _ _ ?_;cbv)
 all_goals (clear m1 m2 m3 m4 m5;cases m0;(try clear hks;try clear hk2;try clear hk3);try dsimp only)
 all_goals try simp only [sm] at *
 all_goals first
  | omega
  | (simp only [qh (show i<9223372036854775807 by omega),hfl,wl hn (show i<n by omega)];exact ⟨ih (i+1) (by omega) (by omega)⟩)
  | (obtain rfl:i=n:=by omega
     rw [hfl,WJ hn];rfl)
def VP:Wr:=w1 z8 rIs (fun l=>[LLe l 1048576])
theorem wg:qy Tryz.prog 13 VP:=zH fun l h=>qlE l (h _ (.head _)).out
def qoz:Wr:=w2 z8 dcI (fun l n=>rI (szL l n)) (fun l n=>[LLe l maxLen,qf9 n])
theorem qgj:qy Tryz.prog 32 qoz:=qE fun l n h=>qka l n (h _ (.head _)).out (h _ (.tail _ (.head _))).out
theorem qkh (l:List Int)(hs:l.length<=maxLen):qe Tryz.prog 17 [aIs l,aIs l] (rB true):=by
 refine qe.of qc (fn:=Tryz.f17) (c:=Tryz.f17.body.getD .skip) (dr:=fun n=>qa 0 [(6,8)] n) Tryz.func17 rfl (by kernel_rfl) (by kernel_rfl) (by kernel_rfl) ?_
 unfold maxLen at hs
 refine SEx.go (X:=XX) qc (fun n=>qa [] [(4,[0,1,5])] n) (fun _=>none) qd 60 ?_
 intro M R L N m0 m1 m2 m3 m4 m5
 cases M
 cbv
 repeat' first | refine m1 _ _ ?_ ?_ | refine m2 _ _ fun h=>?_ | refine m3 _ ?_ | (refine m4 _ _ (Hd.out ?_);generalize hks:(List.cons _ _:List K)=ks) | (refine m5 _ _ ?_;cbv)
 all_goals (clear m1 m2 m3 m4 m5;cases m0;try dsimp only)
 all_goals try simp only [sm] at *
 . exact absurd trivial (by assumption)
 generalize hn:l.length=n at *
 refine ⟨SEx.same (SEx.ind (fun i:Nat=>⟨26,[(0,.v (false,[.fz (.sl (.i l))])),(1,.v (false,[.fz (.sl (.i l))])),(5,.v (false,[.fz (.int .i64 i)]))],[]⟩) (fun _=>rB true) (fun i=>i<=n) (fun i=>n-i) 0 (Nat.zero_le _) ?_) rfl rfl⟩
 intro i hi ih
 rw [<-hks]
 refine SEx.go (X:=XX) qc (fun n=>qa [] [(4,[0,1,5])] n) (fun _=>none) qd 60 ?_
 intro M R L N m0 m1 m2 m3 m4 m5
 cases M
 cbv
 repeat' first | refine m1 _ _ ?_ ?_ | refine m2 _ _ fun h=>?_ | refine m3 _ ?_ | (refine m4 _ _ (Hd.out ?_);try first | rw [hks] | rw [hk2] | rw [hk3]) | (refine m5 _ _ ?_;cbv)
 all_goals (clear m1 m2 m3 m4 m5;cases m0;(try clear hks;try clear hk2;try clear hk3);try dsimp only)
 all_goals try simp only [sm] at *
 all_goals first
  | omega
  | exact absurd trivial (by assumption)
  | rfl
  | (simp only [qh (show i<9223372036854775807 by omega)];exact ⟨ih (i+1) (by omega) (by omega)⟩)
def VK:Wr:=w2 z8 z8 (fun _ _=>rB true) (fun l m=>[vS l m,LLe l maxLen])
theorem wn:qy Tryz.prog 17 VK:=qE fun l m h=>by
 obtain rfl:=(h _ (.head _)).out
 exact qkh l (h _ (.tail _ (.head _))).out
end Go.Proofs.YtifnopmkdempdaaGreat.Ai
namespace Go.Proofs.YtifnopmkdempdaaGreat.Ai
open Go
set_option maxRecDepth 100000
variable [qg]
def wR (n:Nat):V1 B:=(false,[.rf (lrt 0,[]) true 0 n])
end Go.Proofs.YtifnopmkdempdaaGreat.Ai
namespace Go.Proofs.YtifnopmkdempdaaGreat.Ai
open Go
set_option maxRecDepth 100000
variable [qg]
def pI (l:List Int)(i:Nat):Bool:=decide (1<=l.getD i 0/\l.getD i 0<=3/\(0<i->l.getD (i-1) 0<l.getD i 0))
def okP (l:List Int):Bool:=(List.range l.length).all (pI l)
theorem qnJ {l:List Int}{i:Nat}(hi:i<l.length)(h:pI l i=false):okP l=false:=by
 unfold okP
 rw [List.all_eq_false]
 exact ⟨i,List.mem_range.2 hi,by rw [h];simp⟩
theorem qcZ {l:List Int}(h:∀ j,j<l.length->pI l j=true):okP l=true:=by
 unfold okP
 rw [List.all_eq_true]
 exact fun j hj=>h j (List.mem_range.1 hj)
theorem qp6 {l:List Int}{n:Nat}(h:∀ j,j<n->pI l j=true):∀ j,j<n->(j:Int)+1<=l.getD j 0
 | 0,hj=>by have:=of_decide_eq_true (h 0 hj);omega
 | j+1,hj=>by
   have h1:=of_decide_eq_true (h (j+1) hj)
   have h2:=qp6 h j (by omega)
   have h3:=h1.2.2 (by omega)
   rw [Nat.add_sub_cancel] at h3
   omega
theorem yg {l:List Int}{n:Nat}(h:∀ j,j<n->pI l j=true):n<=3:=by
 apply Decidable.byContradiction
 intro hn
 have h1:=qp6 h 3 (by omega)
 have h2:=of_decide_eq_true (h 3 (by omega))
 omega
theorem qlJ {l:List Int}{i:Nat}(h1:1<=l.getD i 0)(h2:l.getD i 0<=3)(h3:0<i->l.getD (i-1) 0<l.getD i 0):pI l i=true:=decide_eq_true ⟨h1,h2,h3⟩
def z6 (a b c:Int):Bool:=decide (b<=a)&&decide (a<=c)
theorem qpv (a b c:Int):qe Tryz.prog 104 [aI a,aI b,aI c] (rB (z6 a b c)):=by
 refine qe.of qc (fn:=Tryz.f104) (c:=Tryz.f104.body.getD .skip) (dr:=fun n=>qa 0 [] n) Tryz.func104 rfl (by kernel_rfl) (by kernel_rfl) (by kernel_rfl) ?_
 refine SEx.go (X:=XX) qc (fun n=>qa [] [] n) (fun _=>none) qd 60 ?_
 intro M R L N m0 m1 m2 m3 m4 m5
 cases M
 cbv
 repeat' first | refine m1 _ _ ?_ ?_ | refine m2 _ _ fun h=>?_ | refine m3 _ ?_ | (refine m4 _ _ (Hd.out ?_);try first | rw [hks] | rw [hk2] | rw [hk3]) | (refine m5 _ _ ?_;cbv)
 all_goals (clear m1 m2 m3 m4 m5;cases m0;(try clear hks;try clear hk2;try clear hk3);try dsimp only)
 all_goals try simp only [sm] at *
 . simp only [jg,z6]
   rw [decide_eq_true (show b<=a by assumption),Bool.true_and]
 . simp only [jg,z6]
   rw [decide_eq_false (show ¬b<=a by omega),Bool.false_and]
theorem Qc {n:Nat}(h:n<18446744073709551616):IntKind.u64.wrap (n:Int)=(n:Int):=by
 simp [IntKind.wrap,IntKind.bits,IntKind.signed];omega
theorem qeq {m:Nat}(h:m<=3):IntKind.i64.wrap (1 * 2 ^ min m IntKind.i64.bits)=((2 ^ m:Nat):Int):=by
 have:m=0\/m=1\/m=2\/m=3:=by omega
 rcases this with rfl | rfl | rfl | rfl<;>decide
theorem WC {m:Nat}(h:m<=3):2 ^ m<=8:=by
 have:m=0\/m=1\/m=2\/m=3:=by omega
 rcases this with rfl | rfl | rfl | rfl<;>decide
def qk6 (n i:Nat):Int:=IntKind.i64.wrap (1-IntKind.i64.wrap (2 * IntKind.i64.wrap (((BitVec.ofInt IntKind.i64.bits ((n:Int).fdiv (2 ^ min i IntKind.i64.bits)) &&& BitVec.ofInt IntKind.i64.bits 1).toNat:Nat):Int)))
def v8 (n i:Nat):List Int:=(List.range i).map (qk6 n)
def wH (m n:Nat):List (List Int):=(List.range n).map fun n=>v8 n m
theorem qbg (n i:Nat):v8 n (i+1)=v8 n i++[qk6 n i]:=by simp [v8,List.range_succ]
theorem qbh (m n:Nat):wH m (n+1)=wH m n++[v8 n m]:=by simp [wH,List.range_succ]
theorem KY (n i:Nat):(v8 n i).length=i:=by simp [v8]
theorem y9 (m n:Nat):(wH m n).length=n:=by simp [wH]
def QF (l:List Int):List (List Int):=if okP l then wH l.length (2 ^ l.length) else []
def yv (f:Int->Int->Int->Bool):Wr:=w3 dcI dcI dcI (fun a b c=>rB (f a b c)) (fun _ _ _=>[])
theorem jY:qy Tryz.prog 104 (yv z6):=jo fun a b c _=>qpv a b c
theorem qhI (l:List Int)(h1:l.length<=1048576):qe Tryz.prog 79 [aIs l] (QW (QF l)):=by
 refine qe.of qc (fn:=Tryz.f79) (c:=Tryz.f79.body.getD .skip) (dr:=fun n=>qa 0 [] n) Tryz.func79 rfl (by kernel_rfl) (by kernel_rfl) (by kernel_rfl) ?_
 obtain ⟨m,hm⟩:∃ m,m=l.length:=⟨_,rfl⟩
 obtain ⟨r,hr⟩:∃ r,r=QF l:=⟨_,rfl⟩
 rw [<-hr]
 refine SEx.go (X:=XX) qc (fun n=>qa [] [(2,[0,9,10,11]),(9,[0,5,6]),(13,[0,5,6,7,44,45])] n) (fun _=>none) qd 60 ?_
 intro M R L N m0 m1 m2 m3 m4 m5
 cases M
 cbv
 repeat' first | refine m1 _ _ ?_ ?_ | refine m2 _ _ fun h=>?_ | refine m3 _ ?_ | (refine m4 _ _ (Hd.out ?_);generalize hks:(List.cons _ _:List K)=ks) | (refine m5 _ _ ?_;cbv)
 all_goals (clear m1 m2 m3 m4 m5;cases m0;try dsimp only)
 all_goals try simp only [sm] at *
 refine ⟨SEx.same (SEx.ind (α:=Nat) (fun i=>⟨63,[(0,bL (.i l)),(9,bL (.i l)),(10,bI m),(11,bI i)],[]⟩) (fun _=>QW r) (fun i=>i<=m/\∀ j,j<i->pI l j=true) (fun i=>m-i) 0 ⟨by omega,fun j h=>by omega⟩ ?_) (by rw [hm];rfl) rfl⟩
 rintro i ⟨hi,hj⟩ ih
 rw [<-hks]
 have hw:0<(i:Int)->IntKind.i64.wrap ((i:Int)-1)=((i-1:Nat):Int):=fun h=>by rw [qv (by omega) (by omega)];omega
 have hbad:i<l.length->pI l i=false->r=[]:=fun h h2=>by rw [hr,QF,qnJ h h2];rfl
 have hgo:∀ (h:i<m) (h2:pI l i=true),i+1<=m/\∀ j,j<i+1->pI l j=true:=fun h h2=>⟨h,fun j hj'=>by
  by_cases e:j=i
  . rw [e];exact h2
  . exact hj j (by omega)⟩
 refine SEx.go (X:=XX) qc (fun n=>qa [] [(2,[0,9,10,11]),(9,[0,5,6]),(13,[0,5,6,7,44,45])] n) (fun _=>none) qd 60 ?_
 intro M R L N m0 m1 m2 m3 m4 m5
 cases M
 cbv
 repeat' first | refine m1 _ _ ?_ ?_ | refine m2 _ _ fun h=>?_ | refine m3 _ ?_ | (refine m4 _ _ (Hd.out ?_);first | rw [hks] | generalize hk2:(List.cons _ _:List K)=k2) | (refine m5 _ _ ?_;cbv)
 all_goals (clear m1 m2 m3 m4 m5;cases m0;try dsimp only)
 all_goals try simp only [sm] at *
 all_goals (try rw [hw (by omega)] at *)
 all_goals (try simp only [Int.toNat_natCast] at *)
 all_goals first
  | omega
  | (have hb:=hbad (by omega) (decide_eq_false (by rintro ⟨h1,h2,h3⟩;first | omega | (have:=h3 (by omega);omega)))
     rw [hb];rfl)
  | (have hp:=qlJ (l:=l) (i:=i) (by assumption) (by assumption) (fun h=>by first | assumption | (exfalso;omega))
     simp only [qh (show i<9223372036854775807 by omega)]
     exact ⟨(ih (i+1) (hgo (by omega) hp) (by omega)).same rfl rfl⟩)
  | skip
 clear ih hbad hgo hw
 have him:i=m:=by omega
 subst him
 have hm3:i<=3:=yg hj
 have hrr:r=wH i (2 ^ i):=by rw [hr,QF,if_pos (qcZ (by rw [<-hm];exact hj)),<-hm]
 clear hr hj
 refine ⟨SEx.same (SEx.idx (2 ^ i) (fun n=>⟨63,[(0,bL (.i l)),(5,bR 20480 n),(6,bI n)],[(20480,.osl (.ii true none (wH i n)))]⟩) (fun _=>QW r) ?_) rfl rfl⟩
 intro n hn ih
 rw [<-hk2]
 obtain ⟨o,ho⟩:∃ o,o=wH i n:=⟨_,rfl⟩
 have hol:o.length=n:=by rw [ho,y9]
 rw [<-ho]
 have hs:IntKind.i64.wrap (1 * 2 ^ min l.length IntKind.i64.bits)=((2 ^ i:Nat):Int):=by rw [<-hm];exact qeq hm3
 have hp:=WC hm3
 obtain ⟨p,hpp⟩:∃ p,p=2 ^ i:=⟨_,rfl⟩
 rw [<-hpp] at hs hp hn ih hrr
 refine SEx.go (X:=XX) qc (fun n=>qa [] [(2,[0,9,10,11]),(9,[0,5,6]),(13,[0,5,6,7,44,45])] n) (fun _=>none) qd 60 ?_
 intro M R L N m0 m1 m2 m3 m4 m5
 cases M
 cbv
 repeat' first | refine m1 _ _ ?_ ?_ | refine m2 _ _ fun h=>?_ | refine m3 _ ?_ | (refine m4 _ _ (Hd.out ?_);first | rw [hks] | rw [hk2] | generalize hk3:(List.cons _ _:List K)=k3) | (refine m5 _ _ ?_;cbv)
 all_goals (clear m1 m2 m3 m4 m5;cases m0;try dsimp only)
 all_goals try simp only [sm] at *
 all_goals (try rw [hs] at *)
 all_goals first
  | omega
  | (have hnp:n=p:=by omega
     subst hnp
     rw [ho,hrr];rfl)
  | skip
 have hm0:=hm
 obtain ⟨m,hmm⟩:∃ m,m=l.length:=⟨_,rfl⟩
 rw [<-hmm] at hm0 ⊢
 refine ⟨SEx.same (SEx.idx m (fun j=>⟨63,[(0,bL (.i l)),(5,bR 20480 n),(6,bI n),(7,bR 28672 j),(44,bI m),(45,bI j)],[(20480,.osl (.ii true none o)),(28672,.osl (.i (v8 n j)))]⟩) (fun _=>QW r) ?_) rfl rfl⟩
 intro j hj ihj
 rw [<-hk3]
 obtain ⟨w,hw⟩:∃ w,w=v8 n j:=⟨_,rfl⟩
 have hwl:w.length=j:=by rw [hw,KY]
 rw [<-hw]
 refine SEx.go (X:=XX) qc (fun n=>qa [] [(2,[0,9,10,11]),(9,[0,5,6]),(13,[0,5,6,7,44,45])] n) (fun _=>none) qd 60 ?_
 intro M R L N m0 m1 m2 m3 m4 m5
 cases M
 cbv
 repeat' first | refine m1 _ _ ?_ ?_ | refine m2 _ _ fun h=>?_ | refine m3 _ ?_ | (refine m4 _ _ (Hd.out ?_);try first | rw [hks] | rw [hk2] | rw [hk3]) | (refine m5 _ _ ?_;cbv)
 all_goals (clear m1 m2 m3 m4 m5;cases m0;(try clear hks;try clear hk2;try clear hk3);try dsimp only)
 all_goals try simp only [sm] at *
 all_goals first
  | omega
  | rfl
  | (have:=zx;simp only [List.length_cons,List.length_nil];omega)
  | (have ihj':=ihj (by omega)
     simp only [qh (show j<9223372036854775807 by omega)]
     rw [qbg,<-hw] at ihj'
     simp only [List.length_append,List.length_cons,List.length_nil,hwl]
     exact ⟨ihj'.same rfl rfl⟩)
  | (have hjm:j=m:=by omega
     have ih':=ih (by omega)
     simp only [qh (show n<9223372036854775807 by omega)]
     rw [qbh,<-ho,hm0,<-hjm,<-hw] at ih'
     simp only [List.length_append,List.length_cons,List.length_nil,hol]
     exact ⟨ih'.same rfl rfl⟩)
theorem qga (l:List Int)(h1:l.length<=1048576):qe Tryz.prog 63 [aIs l] (QW (QF l)):=by
 refine qe.of qc (fn:=Tryz.f63) (c:=Tryz.f63.body.getD .skip) (dr:=fun n=>qa 0 [] n) Tryz.func63 rfl (by kernel_rfl) (by kernel_rfl) (by kernel_rfl) ?_
 obtain ⟨f0,hf0⟩:∃ f,f=z6:=⟨_,rfl⟩
 have hO:qp Tryz.prog (qK [(104,yv f0)]):=by subst hf0;exact qb jY qd
 obtain ⟨m,hm⟩:∃ m,m=l.length:=⟨_,rfl⟩
 obtain ⟨r,hr⟩:∃ r,r=QF l:=⟨_,rfl⟩
 rw [<-hr]
 refine SEx.go (X:=XX) qc (fun n=>qa [] [(2,[0,9,10,11]),(9,[0,5,6]),(13,[0,5,6,7,44,45])] n) (fun _=>none) hO 60 ?_
 intro M R L N m0 m1 m2 m3 m4 m5
 cases M
 cbv
 repeat' first | refine m1 _ _ ?_ ?_ | refine m2 _ _ fun h=>?_ | refine m3 _ ?_ | (refine m4 _ _ (Hd.out ?_);generalize hks:(List.cons _ _:List K)=ks) | (refine m5 _ _ ?_;cbv)
 all_goals (clear m1 m2 m3 m4 m5;cases m0;try dsimp only)
 all_goals try simp only [sm] at *
 refine ⟨SEx.same (SEx.ind (α:=Nat) (fun i=>⟨64,[(0,bL (.i l)),(9,bL (.i l)),(10,bI m),(11,bI i)],[]⟩) (fun _=>QW r) (fun i=>i<=m/\∀ j,j<i->pI l j=true) (fun i=>m-i) 0 ⟨by omega,fun j h=>by omega⟩ ?_) (by rw [hm];rfl) rfl⟩
 rintro i ⟨hi,hj⟩ ih
 rw [<-hks]
 have hw:0<(i:Int)->IntKind.i64.wrap ((i:Int)-1)=((i-1:Nat):Int):=fun h=>by rw [qv (by omega) (by omega)];omega
 have hbad:i<l.length->pI l i=false->r=[]:=fun h h2=>by rw [hr,QF,qnJ h h2];rfl
 have hgo:∀ (h:i<m) (h2:pI l i=true),i+1<=m/\∀ j,j<i+1->pI l j=true:=fun h h2=>⟨h,fun j hj'=>by
  by_cases e:j=i
  . rw [e];exact h2
  . exact hj j (by omega)⟩
 have hft:f0 (l.getD i 0) 1 3=true->1<=l.getD i 0/\l.getD i 0<=3:=by subst hf0;intro h;simpa [z6] using h
 have hff:f0 (l.getD i 0) 1 3=false->¬(1<=l.getD i 0/\l.getD i 0<=3):=by subst hf0;intro h h2;simp only [z6,decide_eq_true h2.1,decide_eq_true h2.2] at h;cases h
 refine SEx.go (X:=XX) qc (fun n=>qa [] [(2,[0,9,10,11]),(9,[0,5,6]),(13,[0,5,6,7,44,45])] n) (fun _=>none) hO 60 ?_
 intro M R L N m0 m1 m2 m3 m4 m5
 cases M
 cbv
 repeat' first | refine m1 _ _ ?_ ?_ | refine m2 _ _ fun h=>?_ | refine m3 _ ?_ | (refine m4 _ _ (Hd.out ?_);first | rw [hks] | generalize hk2:(List.cons _ _:List K)=k2) | (refine m5 _ _ ?_;cbv)
 all_goals (clear m1 m2 m3 m4 m5;cases m0;try dsimp only)
 all_goals try simp only [sm] at *
 all_goals (try (have hA:=hft (by assumption);have hA1:=hA.1;have hA2:=hA.2))
 all_goals (try have hB:=hff (by assumption))
 all_goals (try rw [hw (by omega)] at *)
 all_goals (try simp only [Int.toNat_natCast] at *)
 all_goals first
  | omega
  | (have hb:=hbad (by omega) (decide_eq_false (by rintro ⟨h1,h2,h3⟩;first | omega | (have:=h3 (by omega);omega)))
     rw [hb];rfl)
  | (have hp:=qlJ (l:=l) (i:=i) (by assumption) (by assumption) (fun h=>by first | assumption | (exfalso;omega))
     simp only [qh (show i<9223372036854775807 by omega)]
     exact ⟨(ih (i+1) (hgo (by omega) hp) (by omega)).same rfl rfl⟩)
  | skip
 clear ih hbad hgo hw hft hff
 have him:i=m:=by omega
 subst him
 have hm3:i<=3:=yg hj
 have hrr:r=wH i (2 ^ i):=by rw [hr,QF,if_pos (qcZ (by rw [<-hm];exact hj)),<-hm]
 clear hr hj
 refine ⟨SEx.same (SEx.idx (2 ^ i) (fun n=>⟨64,[(0,bL (.i l)),(5,bR 20480 n),(6,bI n)],[(20480,.osl (.ii true none (wH i n)))]⟩) (fun _=>QW r) ?_) rfl rfl⟩
 intro n hn ih
 rw [<-hk2]
 obtain ⟨o,ho⟩:∃ o,o=wH i n:=⟨_,rfl⟩
 have hol:o.length=n:=by rw [ho,y9]
 rw [<-ho]
 have hs:IntKind.i64.wrap (1 * 2 ^ min l.length IntKind.i64.bits)=((2 ^ i:Nat):Int):=by rw [<-hm];exact qeq hm3
 have hp:=WC hm3
 obtain ⟨p,hpp⟩:∃ p,p=2 ^ i:=⟨_,rfl⟩
 rw [<-hpp] at hs hp hn ih hrr
 have hu:IntKind.u64.wrap (l.length:Int)=(l.length:Int):=Qc (by omega)
 refine SEx.go (X:=XX) qc (fun n=>qa [] [(2,[0,9,10,11]),(9,[0,5,6]),(13,[0,5,6,7,44,45])] n) (fun _=>none) hO 60 ?_
 intro M R L N m0 m1 m2 m3 m4 m5
 cases M
 cbv
 repeat' first | refine m1 _ _ ?_ ?_ | refine m2 _ _ fun h=>?_ | refine m3 _ ?_ | (refine m4 _ _ (Hd.out ?_);first | rw [hks] | rw [hk2] | generalize hk3:(List.cons _ _:List K)=k3) | (refine m5 _ _ ?_;cbv)
 all_goals (clear m1 m2 m3 m4 m5;cases m0;try dsimp only)
 all_goals try simp only [sm] at *
 all_goals (try simp only [hu,Int.toNat_natCast] at *)
 all_goals (try rw [hs] at *)
 all_goals first
  | omega
  | (have hnp:n=p:=by omega
     subst hnp
     rw [ho,hrr];rfl)
  | skip
 have hm0:=hm
 obtain ⟨m,hmm⟩:∃ m,m=l.length:=⟨_,rfl⟩
 rw [<-hmm] at hm0 ⊢
 refine ⟨SEx.same (SEx.idx m (fun j=>⟨64,[(0,bL (.i l)),(5,bR 20480 n),(6,bI n),(7,bR 28672 j),(44,bI m),(45,bI j)],[(20480,.osl (.ii true none o)),(28672,.osl (.i (v8 n j)))]⟩) (fun _=>QW r) ?_) rfl rfl⟩
 intro j hj ihj
 rw [<-hk3]
 obtain ⟨w,hw⟩:∃ w,w=v8 n j:=⟨_,rfl⟩
 have hwl:w.length=j:=by rw [hw,KY]
 rw [<-hw]
 have hv:j<m->IntKind.u64.wrap (j:Int)=(j:Int):=fun h=>Qc (by omega)
 refine SEx.go (X:=XX) qc (fun n=>qa [] [(2,[0,9,10,11]),(9,[0,5,6]),(13,[0,5,6,7,44,45])] n) (fun _=>none) hO 60 ?_
 intro M R L N m0 m1 m2 m3 m4 m5
 cases M
 cbv
 repeat' first | refine m1 _ _ ?_ ?_ | refine m2 _ _ fun h=>?_ | refine m3 _ ?_ | (refine m4 _ _ (Hd.out ?_);try first | rw [hks] | rw [hk2] | rw [hk3]) | (refine m5 _ _ ?_;cbv)
 all_goals (clear m1 m2 m3 m4 m5;cases m0;(try clear hks;try clear hk2;try clear hk3);try dsimp only)
 all_goals try simp only [sm] at *
 all_goals (try rw [hv (by omega)] at *)
 all_goals (try simp only [Int.toNat_natCast] at *)
 all_goals first
  | omega
  | rfl
  | trivial
  | (have:=zx;simp only [List.length_cons,List.length_nil];omega)
  | (have ihj':=ihj (by omega)
     simp only [qh (show j<9223372036854775807 by omega)]
     rw [qbg,<-hw] at ihj'
     simp only [List.length_append,List.length_cons,List.length_nil,hwl]
     exact ⟨ihj'.same rfl rfl⟩)
  | (have hjm:j=m:=by omega
     have ih':=ih (by omega)
     simp only [qh (show n<9223372036854775807 by omega)]
     rw [qbh,<-ho,hm0,<-hjm,<-hw] at ih'
     simp only [List.length_append,List.length_cons,List.length_nil,hol]
     exact ⟨ih'.same rfl rfl⟩)
theorem Y1 (l:List Int):(QF l).length<=8/\∀ x∈QF l,x.length<=3:=by
 unfold QF
 split
 . rename_i h
   have h3:l.length<=3:=by
    unfold okP at h
    rw [List.all_eq_true] at h
    exact yg (fun j hj=>h j (List.mem_range.2 hj))
   refine ⟨by rw [y9];exact WC h3,fun x hx=>?_⟩
   simp only [wH,List.mem_map] at hx
   obtain ⟨n,_,rfl⟩:=hx
   rw [KY];exact h3
 . exact ⟨by simp,fun x hx=>by cases hx⟩
def qoL (f:List Int->List (List Int)):Wr:=w1 z8 (fun l=>QW (f l)) (fun l=>[LLe l 1048576])
theorem qlS:qy Tryz.prog 63 (qoL QF):=zH fun l h=>qga l (h _ (.head _)).out
theorem qlZ:qy Tryz.prog 79 (qoL QF):=zH fun l h=>qhI l (h _ (.head _)).out
end Go.Proofs.YtifnopmkdempdaaGreat.Ai
namespace Go.Proofs.YtifnopmkdempdaaGreat.Ai
open Go
set_option maxRecDepth 100000
variable [qg]
def rUs (l:List Int):TV W:=.v (false,[.osl (.i l)])
end Go.Proofs.YtifnopmkdempdaaGreat.Ai
namespace Go.Proofs.YtifnopmkdempdaaGreat.Ai
open Go
set_option maxRecDepth 100000
variable [qg]
structure InX {α:Type}(c:Int)(l:List α):Prop where out:0<=c/\c<l.length
def vE (n x:Int):Bool:=decide (0<=x/\x<n)
theorem qkn (n m:Int):qe Tryz.prog 140 [aI n,aI m] (rB (vE n m)):=by
 refine qe.of qc (fn:=Tryz.f140) (c:=Tryz.f140.body.getD .skip) (dr:=fun n=>qa 0 [] n) Tryz.func140 rfl (by kernel_rfl) (by kernel_rfl) (by kernel_rfl) ?_
 refine SEx.go (X:=XX) qc (fun n=>qa [] [] n) (fun _=>none) qd 60 ?_
 intro M R L N m0 m1 m2 m3 m4 m5
 cases M
 cbv
 repeat' first | refine m1 _ _ ?_ ?_ | refine m2 _ _ fun h=>?_ | refine m3 _ ?_ | (refine m4 _ _ (Hd.out ?_);try first | rw [hks] | rw [hk2] | rw [hk3]) | (refine m5 _ _ ?_;cbv)
 all_goals (clear m1 m2 m3 m4 m5;cases m0;(try clear hks;try clear hk2;try clear hk3);try dsimp only)
 all_goals try simp only [sm] at *
 all_goals simp only [jg,vE]
 all_goals (first | (rw [decide_eq_false (by omega)];done) | (symm;apply decide_eq_decide.2;omega) | (rw [Bool.eq_iff_iff];simp;omega))
def qji (f:Int->Int->Bool):Wr:=w2 dcI dcI (fun x y=>rB (f x y)) (fun _ _=>[])
theorem qho:qy Tryz.prog 140 (qji vE):=qE fun x y _=>qkn x y
end Go.Proofs.YtifnopmkdempdaaGreat.Ai
namespace Go.Proofs.YtifnopmkdempdaaGreat.Ai
open Go
set_option maxRecDepth 100000
variable [qg]
theorem qkp (l:List Tie)(n:Int)(hs:l.length<=maxLen)(hn:0<=n/\n<=9223372036854775807):qe Tryz.prog 31 [yJ l,aI n] (rI (szL l n)):=by
 refine qe.of qc (fn:=Tryz.f31) (c:=Tryz.f31.body.getD .skip) (dr:=fun n=>qa 0 [] n) Tryz.func31 rfl (by kernel_rfl) (by kernel_rfl) (by kernel_rfl) ?_
 unfold maxLen at hs
 refine SEx.go (X:=XX) qc (fun n=>qa [] [] n) (fun _=>none) qd 60 ?_
 intro M R L N m0 m1 m2 m3 m4 m5
 cases M
 cbv
 repeat' first | refine m1 _ _ ?_ ?_ | refine m2 _ _ fun h=>?_ | refine m3 _ ?_ | (refine m4 _ _ (Hd.out ?_);try first | rw [hks] | rw [hk2] | rw [hk3]) | (refine m5 _ _ ?_;cbv)
 all_goals (clear m1 m2 m3 m4 m5;cases m0;(try clear hks;try clear hk2;try clear hk3);try dsimp only)
 all_goals try simp only [sm] at *
 all_goals rw [qv (by omega) (by omega)] at *
 all_goals simp only [Z4,szL]
 all_goals split<;>omega
def qh5 (f:List Tie->Int->Int):Wr:=w2 KL dcI (fun l n=>rI (f l n)) (fun l n=>[LLe l maxLen,qf9 n])
theorem qgT:qy Tryz.prog 31 (qh5 szL):=qE fun l n h=>qkp l n (h _ (.head _)).out (h _ (.tail _ (.head _))).out
theorem ql3 (q:Tie):qe Tryz.prog 74 [YO q] (qrK q):=by
 refine qe.of qc (fn:=Tryz.f74) (c:=Tryz.f74.body.getD .skip) (dr:=fun n=>qa 0 [] n) Tryz.func74 rfl (by kernel_rfl) (by kernel_rfl) (by kernel_rfl) ?_
 obtain ⟨x1,x2,x3,x4,x5⟩:=q
 refine SEx.go (X:=XX) qc (fun n=>qa [] [] n) (fun _=>none) qd 60 ?_
 intro M R L N m0 m1 m2 m3 m4 m5
 cases M
 cbv
 repeat' first | refine m1 _ _ ?_ ?_ | refine m2 _ _ fun h=>?_ | refine m3 _ ?_ | (refine m4 _ _ (Hd.out ?_);try first | rw [hks] | rw [hk2] | rw [hk3]) | (refine m5 _ _ ?_;cbv)
 all_goals (clear m1 m2 m3 m4 m5;cases m0;(try clear hks;try clear hk2;try clear hk3);try dsimp only)
 all_goals try simp only [sm] at *
 all_goals rfl
def qlX:Wr:=w1 Yz qrK (fun _=>[])
theorem qkG:qy Tryz.prog 74 qlX:=zH fun q _=>ql3 q
theorem qkI (l:List Tie)(hs:l.length<=1048576):qe Tryz.prog 37 [yJ l] (qmE l):=by
 refine qe.of qc (fn:=Tryz.f37) (c:=Tryz.f37.body.getD .skip) (dr:=fun n=>qa 0 [] n) Tryz.func37 rfl (by kernel_rfl) (by kernel_rfl) (by kernel_rfl) ?_
 have hO:qp Tryz.prog (qK [(74,qlX)]):=qb qkG qd
 refine SEx.go (X:=XX) qc (fun n=>qa [] [(3,[0,3,4])] n) (fun _=>none) hO 60 ?_
 intro M R L N m0 m1 m2 m3 m4 m5
 cases M
 cbv
 repeat' first | refine m1 _ _ ?_ ?_ | refine m2 _ _ fun h=>?_ | refine m3 _ ?_ | (refine m4 _ _ (Hd.out ?_);generalize hks:(List.cons _ _:List K)=ks) | (refine m5 _ _ ?_;cbv)
 all_goals (clear m1 m2 m3 m4 m5;cases m0;try dsimp only)
 all_goals try simp only [sm] at *
 . have:=zx;omega
 generalize hn:l.length=n at *
 refine ⟨SEx.same (SEx.idx n (fun i:Nat=>⟨23,[(0,bL (.tie l)),(3,bR 12288 n),(4,bI i)],[(12288,.osl (.tie (ZA ⟨0,0,0,0,false⟩ l n i)))]⟩) (fun _=>qmE l) ?_) rfl rfl⟩
 intro i hi ih
 rw [<-hks]
 obtain ⟨fl,hfl⟩:∃ x,x=ZA (⟨0,0,0,0,false⟩:Tie) l n i:=⟨_,rfl⟩
 have hf:=Wx (z:=(⟨0,0,0,0,false⟩:Tie)) hn hi
 rw [<-hfl] at hf ⊢
 refine SEx.go (X:=XX) qc (fun n=>qa [] [(3,[0,3,4])] n) (fun _=>none) hO 60 ?_
 intro M R L N m0 m1 m2 m3 m4 m5
 cases M
 cbv
 repeat' first | refine m1 _ _ ?_ ?_ | refine m2 _ _ fun h=>?_ | refine m3 _ ?_ | (refine m4 _ _ (Hd.out ?_);try first | rw [hks] | rw [hk2] | rw [hk3]) | (refine m5 _ _ ?_;cbv)
 all_goals (clear m1 m2 m3 m4 m5;cases m0;(try clear hks;try clear hk2;try clear hk3);try dsimp only)
 all_goals try simp only [sm] at *
 all_goals (try simp only [Vb] at *)
 all_goals (try omega)
 . simp only [qh (show i<9223372036854775807 by omega),qkM,qg0,hfl]
   have e:=wl (z:=(⟨0,0,0,0,false⟩:Tie)) (d:=Tie.z) hn (show i<n by omega)
   have ih':=ih (by omega)
   rw [<-e] at ih'
   exact ⟨ih'⟩
 . obtain rfl:i=n:=by omega
   rw [hfl,WJ hn];rfl
def qjo:Wr:=w1 KL qmE (fun l=>[LLe l 1048576])
theorem qgl:qy Tryz.prog 37 qjo:=zH fun l h=>qkI l (h _ (.head _)).out
theorem qnr (q:Tie):qe Tryz.prog 83 [YO q,YO q] (rB true):=by
 refine qe.of qc (fn:=Tryz.f83) (c:=Tryz.f83.body.getD .skip) (dr:=fun n=>qa 0 [] n) Tryz.func83 rfl (by kernel_rfl) (by kernel_rfl) (by kernel_rfl) ?_
 obtain ⟨x1,x2,x3,x4,x5⟩:=q
 refine SEx.go (X:=XX) qc (fun n=>qa [] [] n) (fun _=>none) qd 60 ?_
 intro M R L N m0 m1 m2 m3 m4 m5
 cases M
 cbv
 repeat' first | refine m1 _ _ ?_ ?_ | refine m2 _ _ fun h=>?_ | refine m3 _ ?_ | (refine m4 _ _ (Hd.out ?_);try first | rw [hks] | rw [hk2] | rw [hk3]) | (refine m5 _ _ ?_;cbv)
 all_goals (clear m1 m2 m3 m4 m5;cases m0;(try clear hks;try clear hk2;try clear hk3);try dsimp only)
 all_goals try simp only [sm] at *
 all_goals first
  | exact absurd trivial (by assumption)
  | rfl
  | (exfalso;simp_all;done)
def ql6:Wr:=w2 Yz Yz (fun _ _=>rB true) (fun q r=>[vS q r])
theorem qlA:qy Tryz.prog 83 ql6:=qE fun q r h=>by
 obtain rfl:=(h _ (.head _)).out
 exact qnr q
theorem qkk (l:List Tie)(hs:l.length<=maxLen):qe Tryz.prog 43 [yJ l,yJ l] (rB true):=by
 refine qe.of qc (fn:=Tryz.f43) (c:=Tryz.f43.body.getD .skip) (dr:=fun n=>qa 0 [(6,8)] n) Tryz.func43 rfl (by kernel_rfl) (by kernel_rfl) (by kernel_rfl) ?_
 unfold maxLen at hs
 have hO:qp Tryz.prog (qK [(83,ql6)]):=qb qlA qd
 refine SEx.go (X:=XX) qc (fun n=>qa [] [(4,[0,1,5])] n) (fun _=>none) hO 60 ?_
 intro M R L N m0 m1 m2 m3 m4 m5
 cases M
 cbv
 repeat' first | refine m1 _ _ ?_ ?_ | refine m2 _ _ fun h=>?_ | refine m3 _ ?_ | (refine m4 _ _ (Hd.out ?_);generalize hks:(List.cons _ _:List K)=ks) | (refine m5 _ _ ?_;cbv)
 all_goals (clear m1 m2 m3 m4 m5;cases m0;try dsimp only)
 all_goals try simp only [sm] at *
 . exact absurd trivial (by assumption)
 generalize hn:l.length=n at *
 refine ⟨SEx.same (SEx.idx n (fun i:Nat=>⟨27,[(0,bL (.tie l)),(1,bL (.tie l)),(5,bI i)],[]⟩) (fun _=>rB true) ?_) rfl rfl⟩
 intro i hi ih
 rw [<-hks]
 refine SEx.go (X:=XX) qc (fun n=>qa [] [(4,[0,1,5])] n) (fun _=>none) hO 60 ?_
 intro M R L N m0 m1 m2 m3 m4 m5
 cases M
 cbv
 repeat' first | refine m1 _ _ ?_ ?_ | refine m2 _ _ fun h=>?_ | refine m3 _ ?_ | (refine m4 _ _ (Hd.out ?_);try first | rw [hks] | rw [hk2] | rw [hk3]) | (refine m5 _ _ ?_;cbv)
 all_goals (clear m1 m2 m3 m4 m5;cases m0;(try clear hks;try clear hk2;try clear hk3);try dsimp only)
 all_goals try simp only [sm] at *
 all_goals first
  | omega
  | exact absurd trivial (by assumption)
  | rfl
  | exact ⟨rfl⟩
  | contradiction
  | (simp only [qh (show i<9223372036854775807 by omega)];exact ⟨ih (by omega)⟩)
def qh2:Wr:=w2 KL KL (fun _ _=>rB true) (fun l m=>[vS l m,LLe l maxLen])
theorem qhJ:qy Tryz.prog 43 qh2:=qE fun l m h=>by
 obtain rfl:=(h _ (.head _)).out
 exact qkk l (h _ (.tail _ (.head _))).out
end Go.Proofs.YtifnopmkdempdaaGreat.Ai
namespace Go.Proofs.YtifnopmkdempdaaGreat.Ai
open Go
set_option maxRecDepth 100000
variable [qg]
def zw (q:qi)(n:Int):Int:=if n<q.name.size then -1 else szL q.label (n-q.name.size)
def YL (g:List Int->Int->Int):Wr:=w2 z8 dcI (fun l n=>rI (g l n)) (fun l n=>[LLe l maxLen,qf9 n])
theorem W9:qy Tryz.prog 32 (YL szL):=qgj
theorem qg3 {α:Type}(l:List α){n:Int}(h:0<=n):szL l n<=n:=by unfold szL;split<;>omega
theorem qlw (q:qi)(n:Int)(hs:q.name.size<=maxLen)(hl:q.label.length<=maxLen)(hn:0<=n/\n<=9223372036854775807):qe Tryz.prog 67 [vu q,aI n] (rI (zw q n)):=by
 refine qe.of qc (fn:=Tryz.f67) (c:=Tryz.f67.body.getD .skip) (dr:=fun n=>qa 0 [] n) Tryz.func67 rfl (by kernel_rfl) (by kernel_rfl) (by kernel_rfl) ?_
 unfold maxLen at hs
 obtain ⟨g,hg⟩:∃ g:List Int->Int->Int,g=szL:=⟨_,rfl⟩
 have hO:qp Tryz.prog (qK [(32,YL g)]):=by subst hg;exact qb W9 qd
 obtain ⟨x1,x2,x3⟩:=q
 have hs:x1.size<=2 ^ 63-1:=hs
 have hl:x2.length<=maxLen:=hl
 refine SEx.go (X:=XX) qc (fun n=>qa [] [] n) (fun _=>none) hO 60 ?_
 intro M R L N m0 m1 m2 m3 m4 m5
 cases M
 cbv
 repeat' first | refine m1 _ _ ?_ ?_ | refine m2 _ _ fun h=>?_ | refine m3 _ ?_ | (refine m4 _ _ (Hd.out ?_);try first | rw [hks] | rw [hk2] | rw [hk3]) | (refine m5 _ _ ?_;cbv)
 all_goals (clear m1 m2 m3 m4 m5;cases m0;(try clear hks;try clear hk2;try clear hk3);try dsimp only)
 all_goals try simp only [sm] at *
 all_goals (try rw [qv (by omega) (by omega)] at *)
 all_goals first
  | exact ⟨hl⟩
  | exact ⟨⟨by omega,by omega⟩⟩
  | (simp only [Z4,zw];rw [if_pos (by omega)];done)
  | (subst hg;simp only [Z4,zw];rw [if_neg (by omega)];done)
  | (subst hg;simp only [Z4,zw];rw [if_neg (by omega)];unfold szL at *;split<;>omega)
theorem yc (q:qi){n:Int}(h:0<=n):zw q n<=n:=by
 unfold zw
 split
 . omega
 . have:=qg3 q.label (n:=n-q.name.size) (by omega)
   omega
structure Wz (q:qi)(n:Nat):Prop where
 name:q.name.size<=n
 label:q.label.length<=n
theorem qhO {q:qi}{n:Int}(h:0<=zw q n):(q.name.size:Int)<=n/\(q.label.length:Int)<=n:=by
 unfold zw szL at h
 split at h
 . omega
 . split at h<;>omega
def qiA (f:qi->Int->Int):Wr:=w2 JY dcI (fun q n=>rI (f q n)) (fun q n=>[Wz q maxLen,qf9 n])
theorem qhE:qy Tryz.prog 67 (qiA zw):=qE fun q n h=>qlw q n (h _ (.head _)).name (h _ (.head _)).label (h _ (.tail _ (.head _))).out
def szF {α:Type}(f:α->Int->Int):List α->Int->Int
 | [],n=>n
 | q::r,n=>if f q n<0 then -1 else szF f r (f q n)
theorem qel {α:Type}{f:α->Int->Int}{l:List α}{i:Nat}{m:Int}(z:α)(h:i<l.length):szF f (l.drop i) m=if f (l.getD i z) m<0 then -1 else szF f (l.drop (i+1)) (f (l.getD i z) m):=by
 rw [List.drop_eq_getElem_cons h,zB h]
 rfl
def kf (l:List qi)(n:Int):Int:=if n<l.length then -1 else szF zw l (n-l.length)
theorem qf8 (l:List qi)(n:Int)(hs:l.length<=maxLen)(hq:∀ q∈l,Wz q maxLen)(hn:0<=n/\n<=9223372036854775807):qe Tryz.prog 30 [Ws l,aI n] (rI (kf l n)):=by
 refine qe.of qc (fn:=Tryz.f30) (c:=Tryz.f30.body.getD .skip) (dr:=fun n=>qa 0 [] n) Tryz.func30 rfl (by kernel_rfl) (by kernel_rfl) (by kernel_rfl) ?_
 unfold maxLen at hs
 obtain ⟨g,hg⟩:∃ g,g=zw:=⟨_,rfl⟩
 have hO:qp Tryz.prog (qK [(67,qiA g)]):=by subst hg;exact qb qhE qd
 refine SEx.go (X:=XX) qc (fun n=>qa [] [(5,[0,1,5])] n) (fun _=>none) hO 60 ?_
 intro M R L N m0 m1 m2 m3 m4 m5
 cases M
 cbv
 repeat' first | refine m1 _ _ ?_ ?_ | refine m2 _ _ fun h=>?_ | refine m3 _ ?_ | (refine m4 _ _ (Hd.out ?_);generalize hks:(List.cons _ _:List K)=ks) | (refine m5 _ _ ?_;cbv)
 all_goals (clear m1 m2 m3 m4 m5;cases m0;try dsimp only)
 all_goals try simp only [sm] at *
 . rw [qv (by omega) (by omega)] at *
   simp only [Z4,kf]
   split<;>omega
 rw [qv (by omega) (by omega)] at *
 have h0:0<=n-l.length:=by assumption
 rw [show kf l n=szF zw (l.drop 0) (n-l.length) by unfold kf;rw [if_neg (by omega)];rfl]
 refine ⟨SEx.same (SEx.ind (fun x:Nat×Int=>⟨27,[(0,bL (.node false none l)),(1,.v (false,[.fz (.int .i64 x.2)])),(5,bI x.1)],[]⟩) (fun x=>rI (szF zw (l.drop x.1) x.2)) (fun x=>x.1<=l.length/\0<=x.2/\x.2<=n) (fun x=>l.length-x.1) (0,n-l.length) ⟨by omega,h0,by omega⟩ ?_) rfl rfl⟩
 rintro ⟨i,m⟩ ⟨hi,hm1,hm2⟩ ih
 dsimp only at hi hm1 hm2 ih ⊢
 rw [<-hks]
 refine SEx.go (X:=XX) qc (fun n=>qa [] [(5,[0,1,5])] n) (fun _=>none) hO 60 ?_
 intro M R L N m0 m1 m2 m3 m4 m5
 cases M
 cbv
 repeat' first | refine m1 _ _ ?_ ?_ | refine m2 _ _ fun h=>?_ | refine m3 _ ?_ | (refine m4 _ _ (Hd.out ?_);try first | rw [hks] | rw [hk2] | rw [hk3]) | (refine m5 _ _ ?_;cbv)
 all_goals (clear m1 m2 m3 m4 m5;cases m0;(try clear hks;try clear hk2;try clear hk3);try dsimp only)
 all_goals try simp only [sm] at *
 all_goals first
  | omega
  | exact hq _ (qo (z:=qi.z) (by omega)).out
  | exact ⟨⟨hm1,by omega⟩⟩
  | (subst hg
     have hi':i<l.length:=by omega
     rw [qel qi.z hi',if_pos (by assumption)]
     rfl)
  | (subst hg
     have hi':i<l.length:=by omega
     have h2:0<=zw (l.getD i qi.z) m:=by assumption
     have h3:=yc (l.getD i qi.z) hm1
     simp only [qh (show i<9223372036854775807 by omega)]
     exact ⟨(ih (i+1,zw (l.getD i qi.z) m) ⟨by show i+1<=l.length;omega,h2,by show zw _ m<=n;omega⟩ (by show l.length-(i+1)<_;omega)).same rfl (by rw [qel qi.z hi',if_neg (by omega)])⟩)
  | (obtain rfl:i=l.length:=by omega
     rw [List.drop_length]
     rfl)
  | trace_state
theorem qld (q:qi)(hl:q.label.length<=1048576):qe Tryz.prog 73 [vu q] (qpS q):=by
 refine qe.of qc (fn:=Tryz.f73) (c:=Tryz.f73.body.getD .skip) (dr:=fun n=>qa 0 [] n) Tryz.func73 rfl (by kernel_rfl) (by kernel_rfl) (by kernel_rfl) ?_
 have hO:qp Tryz.prog (qK [(13,VP)]):=qb wg qd
 obtain ⟨x1,x2,x3⟩:=q
 have hl:x2.length<=1048576:=hl
 refine SEx.go (X:=XX) qc (fun n=>qa [] [] n) (fun _=>none) hO 60 ?_
 intro M R L N m0 m1 m2 m3 m4 m5
 cases M
 cbv
 repeat' first | refine m1 _ _ ?_ ?_ | refine m2 _ _ fun h=>?_ | refine m3 _ ?_ | (refine m4 _ _ (Hd.out ?_);try first | rw [hks] | rw [hk2] | rw [hk3]) | (refine m5 _ _ ?_;cbv)
 all_goals (clear m1 m2 m3 m4 m5;cases m0;(try clear hks;try clear hk2;try clear hk3);try dsimp only)
 all_goals try simp only [sm] at *
 all_goals first
  | rfl
  | exact ⟨hl⟩
theorem qku (q:qi)(hl:q.label.length<=maxLen):qe Tryz.prog 82 [vu q,vu q] (rB true):=by
 refine qe.of qc (fn:=Tryz.f82) (c:=Tryz.f82.body.getD .skip) (dr:=fun n=>qa 0 [] n) Tryz.func82 rfl (by kernel_rfl) (by kernel_rfl) (by kernel_rfl) ?_
 have hO:qp Tryz.prog (qK [(17,VK)]):=qb wn qd
 obtain ⟨x1,x2,x3⟩:=q
 have hl:x2.length<=maxLen:=hl
 refine SEx.go (X:=XX) qc (fun n=>qa [] [] n) (fun _=>none) hO 60 ?_
 intro M R L N m0 m1 m2 m3 m4 m5
 cases M
 cbv
 repeat' first | refine m1 _ _ ?_ ?_ | refine m2 _ _ fun h=>?_ | refine m3 _ ?_ | (refine m4 _ _ (Hd.out ?_);try first | rw [hks] | rw [hk2] | rw [hk3]) | (refine m5 _ _ ?_;cbv)
 all_goals (clear m1 m2 m3 m4 m5;cases m0;(try clear hks;try clear hk2;try clear hk3);try dsimp only)
 all_goals try simp only [sm] at *
 all_goals first
  | exact absurd trivial (by assumption)
  | rfl
  | exact ⟨rfl⟩
  | exact ⟨hl⟩
  | (exfalso;simp_all;done)
structure qqc (q:qi)(n:Nat):Prop where out:q.label.length<=n
def qir:Wr:=w1 JY qpS (fun q=>[qqc q 1048576])
theorem qfY:qy Tryz.prog 73 qir:=zH fun q h=>qld q (h _ (.head _)).out
def qi0:Wr:=w2 JY JY (fun _ _=>rB true) (fun q r=>[vS q r,qqc q maxLen])
theorem qfG:qy Tryz.prog 82 qi0:=qE fun q r h=>by
 obtain rfl:=(h _ (.head _)).out
 exact qku q (h _ (.tail _ (.head _))).out
theorem qkJ {fl:List qi}{i:Nat}(h:i<fl.length)(s:ByteArray)(lab:List Int)(w:Int) :
 vI qi.z ((fl.set i ⟨s,(fl.getD i qi.z).2,(fl.getD i qi.z).3⟩).set i ⟨((fl.set i ⟨s,(fl.getD i qi.z).2,(fl.getD i qi.z).3⟩).getD i qi.z).1,lab,((fl.set i ⟨s,(fl.getD i qi.z).2,(fl.getD i qi.z).3⟩).getD i qi.z).3⟩) i (fun q=>⟨q.name,q.label,w⟩)=fl.set i ⟨s,lab,w⟩:=by
 simp [vI,List.getD_eq_getElem?_getD,h]
theorem qhQ (l:List qi)(hs:l.length<=1048576)(hl:∀ q∈l,q.label.length<=1048576):qe Tryz.prog 36 [Ws l] (qhr l):=by
 refine qe.of qc (fn:=Tryz.f36) (c:=Tryz.f36.body.getD .skip) (dr:=fun n=>qa 0 [] n) Tryz.func36 rfl (by kernel_rfl) (by kernel_rfl) (by kernel_rfl) ?_
 have hO:qp Tryz.prog (qK [(73,qir)]):=qb qfY qd
 refine SEx.go (X:=XX) qc (fun n=>qa [] [(3,[0,3,4])] n) (fun _=>none) hO 60 ?_
 intro M R L N m0 m1 m2 m3 m4 m5
 cases M
 cbv
 repeat' first | refine m1 _ _ ?_ ?_ | refine m2 _ _ fun h=>?_ | refine m3 _ ?_ | (refine m4 _ _ (Hd.out ?_);generalize hks:(List.cons _ _:List K)=ks) | (refine m5 _ _ ?_;cbv)
 all_goals (clear m1 m2 m3 m4 m5;cases m0;try dsimp only)
 all_goals try simp only [sm] at *
 . have:=zx;omega
 generalize hn:l.length=n at *
 refine ⟨SEx.same (SEx.idx n (fun i:Nat=>⟨23,[(0,bL (.node false none l)),(3,bR 12288 n),(4,bI i)],[(12288,.osl (.node true none (ZA ⟨⟨#[]⟩,[],0⟩ l n i)))]⟩) (fun _=>qhr l) ?_) rfl rfl⟩
 intro i hi ih
 rw [<-hks]
 obtain ⟨fl,hfl⟩:∃ x,x=ZA (⟨⟨#[]⟩,[],0⟩:qi) l n i:=⟨_,rfl⟩
 have hf:=Wx (z:=(⟨⟨#[]⟩,[],0⟩:qi)) hn hi
 rw [<-hfl] at hf ⊢
 refine SEx.go (X:=XX) qc (fun n=>qa [] [(3,[0,3,4])] n) (fun _=>none) hO 60 ?_
 intro M R L N m0 m1 m2 m3 m4 m5
 cases M
 cbv
 repeat' first | refine m1 _ _ ?_ ?_ | refine m2 _ _ fun h=>?_ | refine m3 _ ?_ | (refine m4 _ _ (Hd.out ?_);try first | rw [hks] | rw [hk2] | rw [hk3]) | (refine m5 _ _ ?_;cbv)
 all_goals (clear m1 m2 m3 m4 m5;cases m0;(try clear hks;try clear hk2;try clear hk3);try dsimp only)
 all_goals try simp only [sm] at *
 all_goals (try simp only [List.length_set,Vb])
 all_goals (try omega)
 . exact ⟨hl _ (qo (z:=qi.z) (by omega)).out⟩
 . simp only [qh (show i<9223372036854775807 by omega)]
   have e:=wl (z:=(⟨⟨#[]⟩,[],0⟩:qi)) (d:=qi.z) hn (show i<n by omega)
   have ih':=ih (by omega)
   rw [<-e,<-hfl] at ih'
   refine ⟨ih'.same ?_ rfl⟩
   rw [qkJ (by omega)]
   rfl
 . obtain rfl:i=n:=by omega
   rw [hfl,WJ hn];rfl
theorem qf2 (l:List qi)(hs:l.length<=maxLen)(hl:∀ q∈l,q.label.length<=maxLen):qe Tryz.prog 42 [Ws l,Ws l] (rB true):=by
 refine qe.of qc (fn:=Tryz.f42) (c:=Tryz.f42.body.getD .skip) (dr:=fun n=>qa 0 [(6,8)] n) Tryz.func42 rfl (by kernel_rfl) (by kernel_rfl) (by kernel_rfl) ?_
 unfold maxLen at hs
 have hO:qp Tryz.prog (qK [(82,qi0)]):=qb qfG qd
 refine SEx.go (X:=XX) qc (fun n=>qa [] [(4,[0,1,5])] n) (fun _=>none) hO 60 ?_
 intro M R L N m0 m1 m2 m3 m4 m5
 cases M
 cbv
 repeat' first | refine m1 _ _ ?_ ?_ | refine m2 _ _ fun h=>?_ | refine m3 _ ?_ | (refine m4 _ _ (Hd.out ?_);generalize hks:(List.cons _ _:List K)=ks) | (refine m5 _ _ ?_;cbv)
 all_goals (clear m1 m2 m3 m4 m5;cases m0;try dsimp only)
 all_goals try simp only [sm] at *
 . exact absurd trivial (by assumption)
 generalize hn:l.length=n at *
 refine ⟨SEx.same (SEx.idx n (fun i:Nat=>⟨27,[(0,bL (.node false none l)),(1,bL (.node false none l)),(5,bI i)],[]⟩) (fun _=>rB true) ?_) rfl rfl⟩
 intro i hi ih
 rw [<-hks]
 refine SEx.go (X:=XX) qc (fun n=>qa [] [(4,[0,1,5])] n) (fun _=>none) hO 60 ?_
 intro M R L N m0 m1 m2 m3 m4 m5
 cases M
 cbv
 repeat' first | refine m1 _ _ ?_ ?_ | refine m2 _ _ fun h=>?_ | refine m3 _ ?_ | (refine m4 _ _ (Hd.out ?_);try first | rw [hks] | rw [hk2] | rw [hk3]) | (refine m5 _ _ ?_;cbv)
 all_goals (clear m1 m2 m3 m4 m5;cases m0;(try clear hks;try clear hk2;try clear hk3);try dsimp only)
 all_goals try simp only [sm] at *
 all_goals first
  | omega
  | exact absurd trivial (by assumption)
  | rfl
  | exact ⟨rfl⟩
  | contradiction
  | exact ⟨hl _ (qo (z:=qi.z) (by omega)).out⟩
  | (simp only [qh (show i<9223372036854775807 by omega)];exact ⟨ih (by omega)⟩)
structure Wn (l:List qi)(n:Nat):Prop where out:∀ q∈l,q.label.length<=n
structure qib (l:List qi)(n:Nat):Prop where out:∀ q∈l,Wz q n
def qet (f:List qi->Int->Int):Wr:=w2 vA dcI (fun l n=>rI (f l n)) (fun l n=>[LLe l maxLen,qib l maxLen,qf9 n])
theorem qe5:qy Tryz.prog 30 (qet kf):=qE fun l n h=>qf8 l n (h _ (.head _)).out (h _ (.tail _ (.head _))).out (h _ (.tail _ (.tail _ (.head _)))).out
def qdU:Wr:=w1 vA qhr (fun l=>[LLe l 1048576,Wn l 1048576])
theorem qfm:qy Tryz.prog 36 qdU:=zH fun l h=>qhQ l (h _ (.head _)).out (h _ (.tail _ (.head _))).out
def qd8:Wr:=w2 vA vA (fun _ _=>rB true) (fun l m=>[vS l m,LLe l maxLen,Wn l maxLen])
theorem qeU:qy Tryz.prog 42 qd8:=qE fun l m h=>by
 obtain rfl:=(h _ (.head _)).out
 exact qf2 l (h _ (.tail _ (.head _))).out (h _ (.tail _ (.tail _ (.head _)))).out
end Go.Proofs.YtifnopmkdempdaaGreat.Ai
namespace Go.Proofs.YtifnopmkdempdaaGreat.Ai
open Go
set_option maxRecDepth 100000
variable [qg]
def jh (t:qm)(n:Int):Int:=if kf t.nodes n<0 then -1 else if szL t.ties (kf t.nodes n)<0 then -1 else szL t.ties (kf t.nodes n)
def jr (t:qf)(n:Int):Int:=if szL t.times n<0 then -1 else if szL t.vals (szL t.times n)<0 then -1 else szL t.vals (szL t.times n)
theorem qnL:∀ (l:List qi) (n:Int),0<=n->szF zw l n<=n/\(0<=szF zw l n->∀ q∈l,(q.name.size:Int)<=n/\(q.label.length:Int)<=n)
 | [],n,h=>⟨Int.le_refl _,fun _ q hq=>by cases hq⟩
 | q::r,n,h=>by
   have h0:=yc q h
   unfold szF
   by_cases hn:zw q n<0
   . rw [if_pos hn];exact ⟨by omega,fun h=>by omega⟩
   . rw [if_neg hn]
     have ih:=qnL r (zw q n) (by omega)
     refine ⟨by omega,fun h1 x hx=>?_⟩
     rcases List.mem_cons.1 hx with rfl | hx
     . exact qhO (by omega)
     . have:=ih.2 h1 x hx;omega
theorem W4 {l:List qi}{n:Int}(h:0<=n):kf l n<=n/\(0<=kf l n->(l.length:Int)<=n/\∀ q∈l,(q.name.size:Int)<=n/\(q.label.length:Int)<=n):=by
 unfold kf
 split
 . exact ⟨by omega,fun h=>by omega⟩
 . have:=qnL l (n-l.length) (by omega)
   refine ⟨by omega,fun h1=>⟨by omega,fun q hq=>?_⟩⟩
   have:=this.2 h1 q hq
   omega
theorem qjP (t:qm)(n:Int)(h1:t.nodes.length<=maxLen)(h2:t.ties.length<=maxLen)(h3:∀ q∈t.nodes,Wz q maxLen)(hn:0<=n/\n<=9223372036854775807):qe Tryz.prog 8 [qQ t,aI n] (rI (jh t n)):=by
 refine qe.of qc (fn:=Tryz.f8) (c:=Tryz.f8.body.getD .skip) (dr:=fun n=>qa 0 [] n) Tryz.func8 rfl (by kernel_rfl) (by kernel_rfl) (by kernel_rfl) ?_
 obtain ⟨f,hf⟩:∃ f,f=kf:=⟨_,rfl⟩
 obtain ⟨g,hg⟩:∃ g:List Tie->Int->Int,g=szL:=⟨_,rfl⟩
 have hO:qp Tryz.prog (qK [(30,qet f),(31,qh5 g)]):=by subst hf hg;exact qb qe5 (qb qgT qd)
 obtain ⟨cs,ps,hr⟩:=t
 have h1:cs.length<=maxLen:=h1
 have h2:ps.length<=maxLen:=h2
 have h3:∀ q∈cs,Wz q maxLen:=h3
 have h4:f cs n<=n:=by rw [hf];exact (W4 hn.1).1
 refine SEx.go (X:=XX) qc (fun n=>qa [] [] n) (fun _=>none) hO 60 ?_
 intro M R L N m0 m1 m2 m3 m4 m5
 cases M
 cbv
 repeat' first | refine m1 _ _ ?_ ?_ | refine m2 _ _ fun h=>?_ | refine m3 _ ?_ | (refine m4 _ _ (Hd.out ?_);try first | rw [hks] | rw [hk2] | rw [hk3]) | (refine m5 _ _ ?_;cbv)
 all_goals (clear m1 m2 m3 m4 m5;cases m0;(try clear hks;try clear hk2;try clear hk3);try dsimp only)
 all_goals try simp only [sm] at *
 all_goals first
  | exact ⟨h1⟩
  | exact ⟨h2⟩
  | exact ⟨h3⟩
  | exact ⟨hn⟩
  | exact ⟨⟨by omega,by omega⟩⟩
  | (subst hf hg;simp only [Z4,jh];rw [if_pos (by assumption)];done)
  | (subst hf hg;simp only [Z4,jh];rw [if_neg (by omega),if_pos (by assumption)];done)
  | (subst hf hg;simp only [Z4,jh];rw [if_neg (by omega),if_neg (by omega)];done)
  | trace_state
theorem qgF (t:qf)(n:Int)(h1:t.times.length<=maxLen)(h2:t.vals.length<=maxLen)(hn:0<=n/\n<=9223372036854775807):qe Tryz.prog 9 [qH t,aI n] (rI (jr t n)):=by
 refine qe.of qc (fn:=Tryz.f9) (c:=Tryz.f9.body.getD .skip) (dr:=fun n=>qa 0 [] n) Tryz.func9 rfl (by kernel_rfl) (by kernel_rfl) (by kernel_rfl) ?_
 obtain ⟨g,hg⟩:∃ g:List Int->Int->Int,g=szL:=⟨_,rfl⟩
 have hO:qp Tryz.prog (qK [(32,YL g)]):=by subst hg;exact qb W9 qd
 obtain ⟨nw,cs,ps⟩:=t
 have h1:cs.length<=maxLen:=h1
 have h2:ps.length<=maxLen:=h2
 have h4:g cs n<=n:=by rw [hg];exact qg3 _ hn.1
 refine SEx.go (X:=XX) qc (fun n=>qa [] [] n) (fun _=>none) hO 60 ?_
 intro M R L N m0 m1 m2 m3 m4 m5
 cases M
 cbv
 repeat' first | refine m1 _ _ ?_ ?_ | refine m2 _ _ fun h=>?_ | refine m3 _ ?_ | (refine m4 _ _ (Hd.out ?_);try first | rw [hks] | rw [hk2] | rw [hk3]) | (refine m5 _ _ ?_;cbv)
 all_goals (clear m1 m2 m3 m4 m5;cases m0;(try clear hks;try clear hk2;try clear hk3);try dsimp only)
 all_goals try simp only [sm] at *
 all_goals first
  | exact ⟨h1⟩
  | exact ⟨h2⟩
  | exact ⟨hn⟩
  | exact ⟨⟨by omega,by omega⟩⟩
  | (subst hg;simp only [Z4,jr];rw [if_pos (by assumption)];done)
  | (subst hg;simp only [Z4,jr];rw [if_neg (by omega),if_pos (by assumption)];done)
  | (subst hg;simp only [Z4,jr];rw [if_neg (by omega),if_neg (by omega)];done)
  | trace_state
theorem qk0 (t:qm)(h1:t.nodes.length<=1048576)(h2:t.ties.length<=1048576)(h3:∀ q∈t.nodes,q.label.length<=1048576):qe Tryz.prog 11 [qQ t] (qpN t):=by
 refine qe.of qc (fn:=Tryz.f11) (c:=Tryz.f11.body.getD .skip) (dr:=fun n=>qa 0 [] n) Tryz.func11 rfl (by kernel_rfl) (by kernel_rfl) (by kernel_rfl) ?_
 have hO:qp Tryz.prog (qK [(36,qdU),(37,qjo)]):=qb qfm (qb qgl qd)
 obtain ⟨cs,ps,hr⟩:=t
 have h1:cs.length<=1048576:=h1
 have h2:ps.length<=1048576:=h2
 have h3:∀ q∈cs,q.label.length<=1048576:=h3
 refine SEx.go (X:=XX) qc (fun n=>qa [] [] n) (fun n=>qa none qsj n) hO 8 ?_
 intro M R L N m0 m1 m2 m3 m4 m5
 cases M
 cbv
 repeat' first | refine m1 _ _ ?_ ?_ | refine m2 _ _ fun h=>?_ | refine m3 _ ?_ | (refine m4 _ _ (Hd.out ?_);try first | rw [hks] | rw [hk2] | rw [hk3]) | (refine m5 _ _ ?_;cbv)
 all_goals (clear m1 m2 m3 m4 m5;cases m0;(try clear hks;try clear hk2;try clear hk3);try dsimp only)
 all_goals try simp only [sm] at *
 all_goals first
  | exact ⟨h1⟩
  | exact ⟨h2⟩
  | exact ⟨h3⟩
  | rfl
  | trace_state
theorem qgv (t:qf)(h1:t.times.length<=1048576)(h2:t.vals.length<=1048576):qe Tryz.prog 12 [qH t] (kR t):=by
 refine qe.of qc (fn:=Tryz.f12) (c:=Tryz.f12.body.getD .skip) (dr:=fun n=>qa 0 [] n) Tryz.func12 rfl (by kernel_rfl) (by kernel_rfl) (by kernel_rfl) ?_
 have hO:qp Tryz.prog (qK [(13,VP)]):=qb wg qd
 obtain ⟨nw,cs,ps⟩:=t
 have h1:cs.length<=1048576:=h1
 have h2:ps.length<=1048576:=h2
 refine SEx.go (X:=XX) qc (fun n=>qa [] [] n) (fun n=>qa none qrX n) hO 8 ?_
 intro M R L N m0 m1 m2 m3 m4 m5
 cases M
 cbv
 repeat' first | refine m1 _ _ ?_ ?_ | refine m2 _ _ fun h=>?_ | refine m3 _ ?_ | (refine m4 _ _ (Hd.out ?_);try first | rw [hks] | rw [hk2] | rw [hk3]) | (refine m5 _ _ ?_;cbv)
 all_goals (clear m1 m2 m3 m4 m5;cases m0;(try clear hks;try clear hk2;try clear hk3);try dsimp only)
 all_goals try simp only [sm] at *
 all_goals first
  | exact ⟨h1⟩
  | exact ⟨h2⟩
  | rfl
  | trace_state
theorem qj8 (t:qm)(h1:t.nodes.length<=maxLen)(h2:t.ties.length<=maxLen)(h3:∀ q∈t.nodes,q.label.length<=maxLen):qe Tryz.prog 15 [qQ t,qQ t] (rB true):=by
 refine qe.of qc (fn:=Tryz.f15) (c:=Tryz.f15.body.getD .skip) (dr:=fun n=>qa 0 [] n) Tryz.func15 rfl (by kernel_rfl) (by kernel_rfl) (by kernel_rfl) ?_
 have hO:qp Tryz.prog (qK [(42,qd8),(43,qh2)]):=qb qeU (qb qhJ qd)
 obtain ⟨cs,ps,hr⟩:=t
 have h1:cs.length<=maxLen:=h1
 have h2:ps.length<=maxLen:=h2
 have h3:∀ q∈cs,q.label.length<=maxLen:=h3
 refine SEx.go (X:=XX) qc (fun n=>qa [] [] n) (fun _=>none) hO 60 ?_
 intro M R L N m0 m1 m2 m3 m4 m5
 cases M
 cbv
 repeat' first | refine m1 _ _ ?_ ?_ | refine m2 _ _ fun h=>?_ | refine m3 _ ?_ | (refine m4 _ _ (Hd.out ?_);try first | rw [hks] | rw [hk2] | rw [hk3]) | (refine m5 _ _ ?_;cbv)
 all_goals (clear m1 m2 m3 m4 m5;cases m0;(try clear hks;try clear hk2;try clear hk3);try dsimp only)
 all_goals try simp only [sm] at *
 all_goals first
  | exact ⟨h1⟩
  | exact ⟨h2⟩
  | exact ⟨h3⟩
  | exact ⟨rfl⟩
  | rfl
  | contradiction
  | exact absurd trivial (by assumption)
  | trace_state
theorem qhw (t:qf)(h1:t.times.length<=maxLen)(h2:t.vals.length<=maxLen):qe Tryz.prog 16 [qH t,qH t] (rB true):=by
 refine qe.of qc (fn:=Tryz.f16) (c:=Tryz.f16.body.getD .skip) (dr:=fun n=>qa 0 [] n) Tryz.func16 rfl (by kernel_rfl) (by kernel_rfl) (by kernel_rfl) ?_
 have hO:qp Tryz.prog (qK [(17,VK)]):=qb wn qd
 obtain ⟨nw,cs,ps⟩:=t
 have h1:cs.length<=maxLen:=h1
 have h2:ps.length<=maxLen:=h2
 refine SEx.go (X:=XX) qc (fun n=>qa [] [] n) (fun _=>none) hO 60 ?_
 intro M R L N m0 m1 m2 m3 m4 m5
 cases M
 cbv
 repeat' first | refine m1 _ _ ?_ ?_ | refine m2 _ _ fun h=>?_ | refine m3 _ ?_ | (refine m4 _ _ (Hd.out ?_);try first | rw [hks] | rw [hk2] | rw [hk3]) | (refine m5 _ _ ?_;cbv)
 all_goals (clear m1 m2 m3 m4 m5;cases m0;(try clear hks;try clear hk2;try clear hk3);try dsimp only)
 all_goals try simp only [sm] at *
 all_goals first
  | exact ⟨h1⟩
  | exact ⟨h2⟩
  | exact ⟨rfl⟩
  | rfl
  | contradiction
  | exact absurd trivial (by assumption)
  | trace_state
def qiD (f:qm->Int->Int):Wr:=w2 qP dcI (fun t n=>rI (f t n)) (fun t n=>[LLe t.nodes maxLen,LLe t.ties maxLen,qib t.nodes maxLen,qf9 n])
theorem qg4:qy Tryz.prog 8 (qiD jh):=qE fun t n h=>qjP t n (h _ (.head _)).out (h _ (.tail _ (.head _))).out (h _ (.tail _ (.tail _ (.head _)))).out (h _ (.tail _ (.tail _ (.tail _ (.head _))))).out
def qdl (f:qf->Int->Int):Wr:=w2 qG dcI (fun t n=>rI (f t n)) (fun t n=>[LLe t.times maxLen,LLe t.vals maxLen,qf9 n])
theorem qdK:qy Tryz.prog 9 (qdl jr):=qE fun t n h=>qgF t n (h _ (.head _)).out (h _ (.tail _ (.head _))).out (h _ (.tail _ (.tail _ (.head _)))).out
def qjp:Wr:=w1 qP qpN (fun t=>[LLe t.nodes 1048576,LLe t.ties 1048576,Wn t.nodes 1048576])
theorem qgN:qy Tryz.prog 11 qjp:=zH fun t h=>qk0 t (h _ (.head _)).out (h _ (.tail _ (.head _))).out (h _ (.tail _ (.tail _ (.head _)))).out
def qe8:Wr:=w1 qG kR (fun t=>[LLe t.times 1048576,LLe t.vals 1048576])
theorem qeI:qy Tryz.prog 12 qe8:=zH fun t h=>qgv t (h _ (.head _)).out (h _ (.tail _ (.head _))).out
def qih:Wr:=w2 qP qP (fun _ _=>rB true) (fun t u=>[vS t u,LLe t.nodes maxLen,LLe t.ties maxLen,Wn t.nodes maxLen])
theorem qhS:qy Tryz.prog 15 qih:=qE fun t u h=>by
 obtain rfl:=(h _ (.head _)).out
 exact qj8 t (h _ (.tail _ (.head _))).out (h _ (.tail _ (.tail _ (.head _)))).out (h _ (.tail _ (.tail _ (.tail _ (.head _))))).out
def qdF:Wr:=w2 qG qG (fun _ _=>rB true) (fun t u=>[vS t u,LLe t.times maxLen,LLe t.vals maxLen])
theorem qek:qy Tryz.prog 16 qdF:=qE fun t u h=>by
 obtain rfl:=(h _ (.head _)).out
 exact qhw t (h _ (.tail _ (.head _))).out (h _ (.tail _ (.tail _ (.head _)))).out
theorem qkt {t:qm}{n:Int}(h0:0<=n)(h:0<=jh t n):(t.nodes.length:Int)<=n/\(t.ties.length:Int)<=n/\(∀ q∈t.nodes,(q.name.size:Int)<=n/\(q.label.length:Int)<=n)/\jh t n<=n:=by
 unfold jh at h ⊢
 have h1:=W4 (l:=t.nodes) h0
 split at h
 . omega
 . rename_i ha
   rw [if_neg ha]
   split at h
   . omega
   . rename_i hb
     rw [if_neg hb]
     have h2:=h1.2 (by omega)
     have h3:=qg3 t.ties (n:=kf t.nodes n) (by omega)
     refine ⟨h2.1,?_,h2.2,by omega⟩
     unfold szL at hb
     split at hb<;>omega
theorem qgV {t:qf}{n:Int}(h0:0<=n)(h:0<=jr t n):(t.times.length:Int)<=n/\(t.vals.length:Int)<=n:=by
 unfold jr at h
 split at h
 . omega
 . rename_i ha
   split at h
   . omega
   . rename_i hb
     unfold szL at ha hb
     constructor
     . split at ha<;>omega
     . split at hb
       . omega
       . split at ha<;>split at hb<;>omega
end Go.Proofs.YtifnopmkdempdaaGreat.Ai
namespace Go.Proofs.YtifnopmkdempdaaGreat.Ai
open Go
set_option maxRecDepth 100000
variable [qg]
def Vx (p:Nat->Bool)(n:Nat):Bool:=(List.range n).all p
theorem qjm {p:Nat->Bool}{n i:Nat}(hi:i<n)(h:p i=false):Vx p n=false:=by
 unfold Vx
 rw [List.all_eq_false]
 exact ⟨i,List.mem_range.2 hi,by rw [h];simp⟩
theorem ZI {p:Nat->Bool}{n:Nat}(h:∀ j,j<n->p j=true):Vx p n=true:=by
 unfold Vx
 rw [List.all_eq_true]
 exact fun j hj=>h j (List.mem_range.1 hj)
theorem KQ {p:Nat->Bool}{n:Nat}(h:Vx p n=true):∀ j,j<n->p j=true:=by
 unfold Vx at h
 rw [List.all_eq_true] at h
 exact fun j hj=>h j (List.mem_range.2 hj)
structure IIn (n:Int):Prop where out:inI n
def zF (n:Int):Int:=if n<0 then IntKind.i64.wrap (-n) else n
theorem qmR {n:Int}(h:inI n):IntKind.i64.wrap (-n)=if n=-9223372036854775808 then n else -n:=by
 rw [kW] at h
 split
 . rename_i e;subst e;decide
 . exact qv (by omega) (by omega)
theorem qdE (n:Int):qe Tryz.prog 134 [aI n] (rI (zF n)):=by
 refine qe.of qc (fn:=Tryz.f134) (c:=Tryz.f134.body.getD .skip) (dr:=fun n=>qa 0 [] n) Tryz.func134 rfl (by kernel_rfl) (by kernel_rfl) (by kernel_rfl) ?_
 refine SEx.go (X:=XX) qc (fun n=>qa [] [] n) (fun _=>none) qd 60 ?_
 intro M R L N m0 m1 m2 m3 m4 m5
 cases M
 cbv
 repeat' first | refine m1 _ _ ?_ ?_ | refine m2 _ _ fun h=>?_ | refine m3 _ ?_ | (refine m4 _ _ (Hd.out ?_);try first | rw [hks] | rw [hk2] | rw [hk3]) | (refine m5 _ _ ?_;cbv)
 all_goals (clear m1 m2 m3 m4 m5;cases m0;(try clear hks;try clear hk2;try clear hk3);try dsimp only)
 all_goals try simp only [sm] at *
 . simp only [Z4,zF];rw [if_pos (by assumption),Int.zero_sub]
 . simp only [Z4,zF];rw [if_neg (by omega)]
theorem qfj (n:Int)(h:inI n):qe Tryz.prog 143 [aI n] (rI (zF n)):=by
 refine qe.of qc (fn:=Tryz.f143) (c:=Tryz.f143.body.getD .skip) (dr:=fun n=>qa 0 [] n) Tryz.func143 rfl (by kernel_rfl) (by kernel_rfl) (by kernel_rfl) ?_
 refine SEx.go (X:=XX) qc (fun n=>qa [] [] n) (fun _=>none) qd 60 ?_
 intro M R L N m0 m1 m2 m3 m4 m5
 cases M
 cbv
 repeat' first | refine m1 _ _ ?_ ?_ | refine m2 _ _ fun h=>?_ | refine m3 _ ?_ | (refine m4 _ _ (Hd.out ?_);try first | rw [hks] | rw [hk2] | rw [hk3]) | (refine m5 _ _ ?_;cbv)
 all_goals (clear m1 m2 m3 m4 m5;cases m0;(try clear hks;try clear hk2;try clear hk3);try dsimp only)
 all_goals try simp only [sm] at *
 all_goals simp only [Z4,zF,Int.zero_sub]
 all_goals rw [qmR h]
 all_goals rw [kW] at h
 all_goals (split<;>split<;>(try split at *)<;>omega)
def Vk (f:Int->Int):Wr:=w1 dcI (fun n=>rI (f n)) (fun n=>[IIn n])
theorem Wv:qy Tryz.prog 134 (Vk zF):=zH fun n _=>qdE n
theorem vJ:qy Tryz.prog 143 (Vk zF):=zH fun n h=>qfj n (h _ (.head _)).out
def lP (l:List Int)(i:Nat):Bool:=decide (¬l.getD i 0=0/\-3<=l.getD i 0/\l.getD i 0<=3/\(0<i->zF (l.getD (i-1) 0)<zF (l.getD i 0)))
def qX (l:List Int):Bool:=Vx (lP l) l.length
theorem y7 (l:List Int)(h1:l.length<=maxLen)(hx:∀ n∈l,inI n):qe Tryz.prog 167 [aIs l] (rB (qX l)):=by
 refine qe.of qc (fn:=Tryz.f167) (c:=Tryz.f167.body.getD .skip) (dr:=fun n=>qa 0 [] n) Tryz.func167 rfl (by kernel_rfl) (by kernel_rfl) (by kernel_rfl) ?_
 obtain ⟨m,hm⟩:∃ m,m=l.length:=⟨_,rfl⟩
 obtain ⟨r,hr⟩:∃ r,r=qX l:=⟨_,rfl⟩
 obtain ⟨f,hf⟩:∃ f,f=zF:=⟨_,rfl⟩
 have hO:qp Tryz.prog (qK [(143,Vk f)]):=by subst hf;exact qb vJ qd
 unfold maxLen at h1
 rw [<-hr]
 refine SEx.go (X:=XX) qc (fun n=>qa [] [(2,[0,5,6,7])] n) (fun _=>none) hO 60 ?_
 intro M R L N m0 m1 m2 m3 m4 m5
 cases M
 cbv
 repeat' first | refine m1 _ _ ?_ ?_ | refine m2 _ _ fun h=>?_ | refine m3 _ ?_ | (refine m4 _ _ (Hd.out ?_);generalize hks:(List.cons _ _:List K)=ks) | (refine m5 _ _ ?_;cbv)
 all_goals (clear m1 m2 m3 m4 m5;cases m0;try dsimp only)
 all_goals try simp only [sm] at *
 refine ⟨SEx.same (SEx.ind (α:=Nat) (fun i=>⟨38,[(0,bL (.i l)),(5,bL (.i l)),(6,bI m),(7,bI i)],[]⟩) (fun _=>rB r) (fun i=>i<=m/\∀ j,j<i->lP l j=true) (fun i=>m-i) 0 ⟨by omega,fun j h=>by omega⟩ ?_) (by rw [hm];rfl) rfl⟩
 rintro i ⟨hi,hj⟩ ih
 rw [<-hks]
 have hw:0<(i:Int)->IntKind.i64.wrap ((i:Int)-1)=((i-1:Nat):Int):=fun h=>by rw [qv (by omega) (by omega)];omega
 have hbad:i<l.length->lP l i=false->r=false:=fun h h2=>by rw [hr,qX,qjm h h2]
 have hgo:∀ (h:i<m) (h2:lP l i=true),i+1<=m/\∀ j,j<i+1->lP l j=true:=fun h h2=>⟨h,fun j hj'=>by
  by_cases e:j=i
  . rw [e];exact h2
  . exact hj j (by omega)⟩
 refine SEx.go (X:=XX) qc (fun n=>qa [] [(2,[0,5,6,7])] n) (fun _=>none) hO 60 ?_
 intro M R L N m0 m1 m2 m3 m4 m5
 cases M
 cbv
 repeat' first | refine m1 _ _ ?_ ?_ | refine m2 _ _ fun h=>?_ | refine m3 _ ?_ | (refine m4 _ _ (Hd.out ?_);try first | rw [hks] | rw [hk2] | rw [hk3]) | (refine m5 _ _ ?_;cbv)
 all_goals (clear m1 m2 m3 m4 m5;cases m0;(try clear hks;try clear hk2;try clear hk3);try dsimp only)
 all_goals try simp only [sm] at *
 all_goals (try rw [hw (by omega)] at *)
 all_goals (try simp only [Int.toNat_natCast] at *)
 all_goals (clear hO;subst hf)
 all_goals first
  | omega
  | exact ⟨hx _ (qo (z:=(0:Int)) (by omega)).out⟩
  | (have hb:=hbad (by omega) (decide_eq_false (by rintro ⟨h1,h2,h3,h4⟩;first | contradiction | omega | (have:=h4 (by omega);omega)))
     rw [hb];rfl)
  | (have hp:lP l i=true:=decide_eq_true ⟨by assumption,by assumption,by assumption,fun h=>by first | assumption | (exfalso;omega)⟩
     simp only [qh (show i<9223372036854775807 by omega)]
     exact ⟨(ih (i+1) (hgo (by omega) hp) (by omega)).same rfl rfl⟩)
  | (have hee:i=m:=by omega
     subst hee
     rw [hr,qX,ZI (by rw [<-hm];exact hj)];rfl)
theorem yw (l:List Int)(h1:l.length<=maxLen)(hx:∀ n∈l,inI n):qe Tryz.prog 171 [aIs l] (rB (qX l)):=by
 refine qe.of qc (fn:=Tryz.f171) (c:=Tryz.f171.body.getD .skip) (dr:=fun n=>qa 0 [] n) Tryz.func171 rfl (by kernel_rfl) (by kernel_rfl) (by kernel_rfl) ?_
 obtain ⟨m,hm⟩:∃ m,m=l.length:=⟨_,rfl⟩
 obtain ⟨r,hr⟩:∃ r,r=qX l:=⟨_,rfl⟩
 obtain ⟨f0,hf0⟩:∃ f,f=z6:=⟨_,rfl⟩
 obtain ⟨f,hf⟩:∃ f,f=zF:=⟨_,rfl⟩
 have hO:qp Tryz.prog (qK [(104,yv f0),(134,Vk f)]):=by subst hf hf0;exact qb jY (qb Wv qd)
 unfold maxLen at h1
 rw [<-hr]
 refine SEx.go (X:=XX) qc (fun n=>qa [] [(2,[0,5,6,7])] n) (fun _=>none) hO 60 ?_
 intro M R L N m0 m1 m2 m3 m4 m5
 cases M
 cbv
 repeat' first | refine m1 _ _ ?_ ?_ | refine m2 _ _ fun h=>?_ | refine m3 _ ?_ | (refine m4 _ _ (Hd.out ?_);generalize hks:(List.cons _ _:List K)=ks) | (refine m5 _ _ ?_;cbv)
 all_goals (clear m1 m2 m3 m4 m5;cases m0;try dsimp only)
 all_goals try simp only [sm] at *
 refine ⟨SEx.same (SEx.ind (α:=Nat) (fun i=>⟨35,[(0,bL (.i l)),(5,bL (.i l)),(6,bI m),(7,bI i)],[]⟩) (fun _=>rB r) (fun i=>i<=m/\∀ j,j<i->lP l j=true) (fun i=>m-i) 0 ⟨by omega,fun j h=>by omega⟩ ?_) (by rw [hm];rfl) rfl⟩
 rintro i ⟨hi,hj⟩ ih
 rw [<-hks]
 have hw:0<(i:Int)->IntKind.i64.wrap ((i:Int)-1)=((i-1:Nat):Int):=fun h=>by rw [qv (by omega) (by omega)];omega
 have hbad:i<l.length->lP l i=false->r=false:=fun h h2=>by rw [hr,qX,qjm h h2]
 have hgo:∀ (h:i<m) (h2:lP l i=true),i+1<=m/\∀ j,j<i+1->lP l j=true:=fun h h2=>⟨h,fun j hj'=>by
  by_cases e:j=i
  . rw [e];exact h2
  . exact hj j (by omega)⟩
 have hft:f0 (l.getD i 0) (-3) 3=true->-3<=l.getD i 0/\l.getD i 0<=3:=by subst hf0;intro h;simpa [z6] using h
 have hff:f0 (l.getD i 0) (-3) 3=false->¬(-3<=l.getD i 0/\l.getD i 0<=3):=by subst hf0;intro h h2;simp only [z6,decide_eq_true h2.1,decide_eq_true h2.2] at h;cases h
 refine SEx.go (X:=XX) qc (fun n=>qa [] [(2,[0,5,6,7])] n) (fun _=>none) hO 60 ?_
 intro M R L N m0 m1 m2 m3 m4 m5
 cases M
 cbv
 repeat' first | refine m1 _ _ ?_ ?_ | refine m2 _ _ fun h=>?_ | refine m3 _ ?_ | (refine m4 _ _ (Hd.out ?_);try first | rw [hks] | rw [hk2] | rw [hk3]) | (refine m5 _ _ ?_;cbv)
 all_goals (clear m1 m2 m3 m4 m5;cases m0;(try clear hks;try clear hk2;try clear hk3);try dsimp only)
 all_goals try simp only [sm] at *
 all_goals (try (have hA:=hft (by assumption);have hA1:=hA.1;have hA2:=hA.2))
 all_goals (try have hB:=hff (by assumption))
 all_goals (try rw [hw (by omega)] at *)
 all_goals (try simp only [Int.toNat_natCast] at *)
 all_goals (clear hO;subst hf)
 all_goals first
  | omega
  | exact ⟨hx _ (qo (z:=(0:Int)) (by omega)).out⟩
  | (have hb:=hbad (by omega) (decide_eq_false (by rintro ⟨h1,h2,h3,h4⟩;first | contradiction | omega | (have:=h4 (by omega);omega)))
     rw [hb];rfl)
  | (have hp:lP l i=true:=decide_eq_true ⟨by assumption,by assumption,by assumption,fun h=>by first | assumption | (exfalso;omega)⟩
     simp only [qh (show i<9223372036854775807 by omega)]
     exact ⟨(ih (i+1) (hgo (by omega) hp) (by omega)).same rfl rfl⟩)
  | (have hee:i=m:=by omega
     subst hee
     rw [hr,qX,ZI (by rw [<-hm];exact hj)];rfl)
structure Kb (l:List Int):Prop where
 len:l.length<=maxLen
 all:∀ n∈l,inI n
def QK (f:List Int->Bool):Wr:=w1 z8 (fun l=>rB (f l)) (fun l=>[Kb l])
theorem vk:qy Tryz.prog 171 (QK qX):=zH fun l h=>yw l (h _ (.head _)).len (h _ (.head _)).all
theorem Z1:qy Tryz.prog 167 (QK qX):=zH fun l h=>y7 l (h _ (.head _)).len (h _ (.head _)).all
end Go.Proofs.YtifnopmkdempdaaGreat.Ai
namespace Go.Proofs.YtifnopmkdempdaaGreat.Ai
open Go
set_option maxRecDepth 100000
variable [qg]
def ZP (l:List Int)(v:Int):Bool:=decide (0<=zK (fun x=>v == x) l 0)
theorem qn7 (l:List Int)(v:Int)(h1:l.length<=maxLen):qe Tryz.prog 54 [aIs l,aI v] (rB (ZP l v)):=by
 refine qe.of qc (fn:=Tryz.f54) (c:=Tryz.f54.body.getD .skip) (dr:=fun n=>qa 0 [] n) Tryz.func54 rfl (by kernel_rfl) (by kernel_rfl) (by kernel_rfl) ?_
 obtain ⟨f,hf⟩:∃ f:List Int->Int->Int,f=fun l v=>zK (fun x=>v == x) l 0:=⟨_,rfl⟩
 have hO:qp Tryz.prog (qK [(92,qh1 f)]):=by subst hf;exact qb qfS qd
 refine SEx.go (X:=XX) qc (fun n=>qa [] [] n) (fun _=>none) hO 60 ?_
 intro M R L N m0 m1 m2 m3 m4 m5
 cases M
 cbv
 repeat' first | refine m1 _ _ ?_ ?_ | refine m2 _ _ fun h=>?_ | refine m3 _ ?_ | (refine m4 _ _ (Hd.out ?_);try first | rw [hks] | rw [hk2] | rw [hk3]) | (refine m5 _ _ ?_;cbv)
 all_goals (clear m1 m2 m3 m4 m5;cases m0;(try clear hks;try clear hk2;try clear hk3);try dsimp only)
 all_goals try simp only [sm] at *
 all_goals first
  | exact ⟨h1⟩
  | (subst hf;rfl)
theorem qq9 (l:List Int)(v:Int)(h1:l.length<=maxLen):qe Tryz.prog 48 [aIs l,aI v] (rB (ZP l v)):=by
 refine qe.of qc (fn:=Tryz.f48) (c:=Tryz.f48.body.getD .skip) (dr:=fun n=>qa 0 [] n) Tryz.func48 rfl (by kernel_rfl) (by kernel_rfl) (by kernel_rfl) ?_
 unfold maxLen at h1
 obtain ⟨g,hg⟩:∃ g:Nat->Bool,g=fun i=>decide (0<=zK (fun x=>v == x) (l.drop i) i):=⟨_,rfl⟩
 rw [show ZP l v=g 0 by rw [hg];rfl]
 refine SEx.go (X:=XX) qc (fun n=>qa [] [(2,[1,7,8,9])] n) (fun _=>none) qd 60 ?_
 intro M R L N m0 m1 m2 m3 m4 m5
 cases M
 cbv
 repeat' first | refine m1 _ _ ?_ ?_ | refine m2 _ _ fun h=>?_ | refine m3 _ ?_ | (refine m4 _ _ (Hd.out ?_);generalize hks:(List.cons _ _:List K)=ks) | (refine m5 _ _ ?_;cbv)
 all_goals (clear m1 m2 m3 m4 m5;cases m0;try dsimp only)
 all_goals try simp only [sm] at *
 obtain ⟨m,hm⟩:∃ m,m=l.length:=⟨_,rfl⟩
 refine ⟨SEx.same (SEx.idx m (fun i=>⟨17,[(1,bI v),(7,bL (.i l)),(8,bI m),(9,bI i)],[]⟩) (fun i=>rB (g i)) ?_) (by rw [hm];rfl) rfl⟩
 intro i hi ih
 rw [<-hks]
 refine SEx.go (X:=XX) qc (fun n=>qa [] [(2,[1,7,8,9])] n) (fun _=>none) qd 60 ?_
 intro M R L N m0 m1 m2 m3 m4 m5
 cases M
 cbv
 repeat' first | refine m1 _ _ ?_ ?_ | refine m2 _ _ fun h=>?_ | refine m3 _ ?_ | (refine m4 _ _ (Hd.out ?_);try first | rw [hks] | rw [hk2] | rw [hk3]) | (refine m5 _ _ ?_;cbv)
 all_goals (clear m1 m2 m3 m4 m5;cases m0;(try clear hks;try clear hk2;try clear hk3);try dsimp only)
 all_goals try simp only [sm] at *
 all_goals first
  | omega
  | (have hh:l.getD i 0=v:=by assumption
     rw [hg];simp only [jg];rw [jv (z:=(0:Int)) (by omega) (by rw [hh];simp),decide_eq_true (by omega)])
  | (have hh:¬l.getD i 0=v:=by assumption
     simp only [qh (show i<9223372036854775807 by omega)]
     have e:g i=g (i+1):=by rw [hg];simp only;rw [QE (z:=(0:Int)) (by omega) (beq_eq_false_iff_ne.2 (fun e=>hh e.symm))]
     exact ⟨(ih (by omega)).same rfl (by rw [e])⟩)
  | (rw [hg];simp only [jg];rw [ji (by omega)];rfl)
  | trace_state
def qgP (f:List Int->Int->Bool):Wr:=w2 z8 dcI (fun l v=>rB (f l v)) (fun l _=>[LLe l maxLen])
theorem yP:qy Tryz.prog 48 (qgP ZP):=qE fun l v h=>qq9 l v (h _ (.head _)).out
theorem qfl:qy Tryz.prog 54 (qgP ZP):=qE fun l v h=>qn7 l v (h _ (.head _)).out
def QS (q:qi):Bool:=Qa q.name 0&&qX q.label&&(decide (0<=q.watch)&&decide (q.watch<=3))
theorem qaj (q:qi)(hs:q.name.size<=maxLen)(hl:q.label.length<=maxLen)(hx:∀ n∈q.label,inI n):qe Tryz.prog 151 [vu q] (rB (QS q)):=by
 refine qe.of qc (fn:=Tryz.f151) (c:=Tryz.f151.body.getD .skip) (dr:=fun n=>qa 0 [] n) Tryz.func151 rfl (by kernel_rfl) (by kernel_rfl) (by kernel_rfl) ?_
 obtain ⟨f0,hf0⟩:∃ f,f=z6:=⟨_,rfl⟩
 obtain ⟨f1,hf1⟩:∃ f,f=(Qa · 0):=⟨_,rfl⟩
 obtain ⟨f2,hf2⟩:∃ f,f=qX:=⟨_,rfl⟩
 have hO:qp Tryz.prog (qK [(170,qci f1),(171,QK f2),(104,yv f0)]):=by subst hf0 hf1 hf2;exact qb qlt (qb vk (qb jY qd))
 obtain ⟨x1,x2,x3⟩:=q
 refine SEx.go (X:=XX) qc (fun n=>qa [] [] n) (fun _=>none) hO 60 ?_
 intro M R L N m0 m1 m2 m3 m4 m5
 cases M
 cbv
 repeat' first | refine m1 _ _ ?_ ?_ | refine m2 _ _ fun h=>?_ | refine m3 _ ?_ | (refine m4 _ _ (Hd.out ?_);try first | rw [hks] | rw [hk2] | rw [hk3]) | (refine m5 _ _ ?_;cbv)
 all_goals (clear m1 m2 m3 m4 m5;cases m0;(try clear hks;try clear hk2;try clear hk3);try dsimp only)
 all_goals try simp only [sm] at *
 all_goals first
  | exact ⟨hs⟩
  | exact ⟨hl,hx⟩
  | (subst hf0 hf1 hf2;simp only [jg,QS];simp_all [z6];done)
  | trace_state
theorem qax (q:qi)(hs:q.name.size<=maxLen)(hl:q.label.length<=maxLen)(hx:∀ n∈q.label,inI n):qe Tryz.prog 139 [vu q] (rB (QS q)):=by
 refine qe.of qc (fn:=Tryz.f139) (c:=Tryz.f139.body.getD .skip) (dr:=fun n=>qa 0 [] n) Tryz.func139 rfl (by kernel_rfl) (by kernel_rfl) (by kernel_rfl) ?_
 obtain ⟨f1,hf1⟩:∃ f,f=(Qa · 0):=⟨_,rfl⟩
 obtain ⟨f2,hf2⟩:∃ f,f=qX:=⟨_,rfl⟩
 have hO:qp Tryz.prog (qK [(166,qci f1),(167,QK f2)]):=by subst hf1 hf2;exact qb qjX (qb Z1 qd)
 obtain ⟨x1,x2,x3⟩:=q
 refine SEx.go (X:=XX) qc (fun n=>qa [] [] n) (fun _=>none) hO 60 ?_
 intro M R L N m0 m1 m2 m3 m4 m5
 cases M
 cbv
 repeat' first | refine m1 _ _ ?_ ?_ | refine m2 _ _ fun h=>?_ | refine m3 _ ?_ | (refine m4 _ _ (Hd.out ?_);try first | rw [hks] | rw [hk2] | rw [hk3]) | (refine m5 _ _ ?_;cbv)
 all_goals (clear m1 m2 m3 m4 m5;cases m0;(try clear hks;try clear hk2;try clear hk3);try dsimp only)
 all_goals try simp only [sm] at *
 all_goals first
  | exact ⟨hs⟩
  | exact ⟨hl,hx⟩
  | (subst hf1 hf2;simp only [jg,QS];simp_all;done)
  | (subst hf1 hf2;simp only [jg,QS];rw [decide_eq_false (by omega)];simp;done)
  | trace_state
end Go.Proofs.YtifnopmkdempdaaGreat.Ai
namespace Go.Proofs.YtifnopmkdempdaaGreat.Ai
open Go
set_option maxRecDepth 100000
variable [qg]
def wV (x:Int):Bool:=decide (-1<=x)&&decide (x<=1)
def qR (l:List Int):Bool:=qz (fun _ x=>wV x) l 0&&decide (l.length=3)
theorem Vp (l:List Int)(h1:l.length<=maxLen):qe Tryz.prog 122 [aIs l] (rB (qR l)):=by
 refine qe.of qc (fn:=Tryz.f122) (c:=Tryz.f122.body.getD .skip) (dr:=fun n=>qa 0 [] n) Tryz.func122 rfl (by kernel_rfl) (by kernel_rfl) (by kernel_rfl) ?_
 unfold maxLen at h1
 obtain ⟨f0,hf0⟩:∃ f,f=z6:=⟨_,rfl⟩
 have hO:qp Tryz.prog (qK [(104,yv f0)]):=by subst hf0;exact qb jY qd
 have hv:∀ x,f0 x (-1) 1=wV x:=by intro x;rw [hf0];rfl
 obtain ⟨c,hc⟩:∃ c,c=decide (l.length=3):=⟨_,rfl⟩
 rw [show qR l=(qz (fun _ x=>wV x) (l.drop 0) 0&&c) by rw [hc];rfl]
 clear hf0
 refine SEx.go (X:=XX) qc (fun n=>qa [] [(2,[0,5,6,7])] n) (fun _=>none) hO 60 ?_
 intro M R L N m0 m1 m2 m3 m4 m5
 cases M
 cbv
 repeat' first | refine m1 _ _ ?_ ?_ | refine m2 _ _ fun h=>?_ | refine m3 _ ?_ | (refine m4 _ _ (Hd.out ?_);generalize hks:(List.cons _ _:List K)=ks) | (refine m5 _ _ ?_;cbv)
 all_goals (clear m1 m2 m3 m4 m5;cases m0;try dsimp only)
 all_goals try simp only [sm] at *
 obtain ⟨m,hm⟩:∃ m,m=l.length:=⟨_,rfl⟩
 refine ⟨SEx.same (SEx.idx m (fun i=>⟨18,[(0,bL (.i l)),(5,bL (.i l)),(6,bI m),(7,bI i)],[]⟩) (fun i=>rB (qz (fun _ x=>wV x) (l.drop i) i&&c)) ?_) (by rw [hm];rfl) rfl⟩
 intro i hi ih
 rw [<-hks]
 refine SEx.go (X:=XX) qc (fun n=>qa [] [(2,[0,5,6,7])] n) (fun _=>none) hO 60 ?_
 intro M R L N m0 m1 m2 m3 m4 m5
 cases M
 cbv
 repeat' first | refine m1 _ _ ?_ ?_ | refine m2 _ _ fun h=>?_ | refine m3 _ ?_ | (refine m4 _ _ (Hd.out ?_);try first | rw [hks] | rw [hk2] | rw [hk3]) | (refine m5 _ _ ?_;cbv)
 all_goals (clear m1 m2 m3 m4 m5;cases m0;(try clear hks;try clear hk2;try clear hk3);try dsimp only)
 all_goals try simp only [sm] at *
 all_goals first
  | omega
  | exact qo (z:=(0:Int)) (by omega)
  | exact ⟨rfl⟩
  | exact ⟨by omega⟩
  | (rw [Vf (p:=fun _ x=>wV x) (l:=l) (i:=i) (0:Int) (by omega) (by rw [<-hv];assumption)];rfl)
  | (simp only [qh (show i<9223372036854775807 by omega)];exact ⟨(ih (by omega)).same rfl (by rw [wB (p:=fun _ x=>wV x) (l:=l) (i:=i) (0:Int) (by omega) (by rw [<-hv];assumption)])⟩)
  | skip
 all_goals first
  | (rw [qN (l:=l) (by omega),hc];simp only [jg,Bool.true_and];apply decide_eq_decide.2;omega)
theorem yZ (n:Int):qe Tryz.prog 145 [aI n] (rB (!wV n)):=by
 refine qe.of qc (fn:=Tryz.f145) (c:=Tryz.f145.body.getD .skip) (dr:=fun n=>qa 0 [] n) Tryz.func145 rfl (by kernel_rfl) (by kernel_rfl) (by kernel_rfl) ?_
 refine SEx.go (X:=XX) qc (fun n=>qa [] [] n) (fun _=>none) qd 60 ?_
 intro M R L N m0 m1 m2 m3 m4 m5
 cases M
 cbv
 repeat' first | refine m1 _ _ ?_ ?_ | refine m2 _ _ fun h=>?_ | refine m3 _ ?_ | (refine m4 _ _ (Hd.out ?_);try first | rw [hks] | rw [hk2] | rw [hk3]) | (refine m5 _ _ ?_;cbv)
 all_goals (clear m1 m2 m3 m4 m5;cases m0;(try clear hks;try clear hk2;try clear hk3);try dsimp only)
 all_goals try simp only [sm] at *
 all_goals simp only [jg,wV]
 all_goals first
  | (rw [decide_eq_false (show ¬-1<=n by omega)];rfl)
  | (rw [decide_eq_true (show -1<=n by omega)];rw [Bool.eq_iff_iff];simp;done)
theorem Vw (l:List Int)(h1:l.length<=maxLen):qe Tryz.prog 120 [aIs l] (rB (qR l)):=by
 refine qe.of qc (fn:=Tryz.f120) (c:=Tryz.f120.body.getD .skip) (dr:=fun n=>qa 0 [] n) Tryz.func120 rfl (by kernel_rfl) (by kernel_rfl) (by kernel_rfl) ?_
 obtain ⟨f,hf⟩:∃ f:List Int->Bool,f=fun l=>l.any (fun n=>!wV n):=⟨_,rfl⟩
 have hO:qp Tryz.prog (qK [(117,wCl z8 145 [] (fun l=>rB (f l)) (fun l=>[LLe l maxLen]))]):=by
  subst hf
  exact qb (Y7 fun l h=>ZR l _ _ _ (fun q _=>yZ q) (h _ (.head _)).out) qd
 have ha:qz (fun _ x=>wV x) l 0=!f l:=by
  rw [hf,show (!List.any l fun n=>!wV n)=l.all wV by rw [List.not_any_eq_all_not];simp]
  generalize 0=k
  induction l generalizing k with
  | nil=>rfl
  | cons x r ih=>simp only [qz,List.all_cons];rw [ih (by simp at h1;omega)]
 rw [show qR l=(!f l&&decide (l.length=3)) by unfold qR;rw [ha]]
 clear ha hf
 refine SEx.go (X:=XX) qc (fun n=>qa [] [] n) (fun _=>none) hO 60 ?_
 intro M R L N m0 m1 m2 m3 m4 m5
 cases M
 cbv
 repeat' first | refine m1 _ _ ?_ ?_ | refine m2 _ _ fun h=>?_ | refine m3 _ ?_ | (refine m4 _ _ (Hd.out ?_);try first | rw [hks] | rw [hk2] | rw [hk3]) | (refine m5 _ _ ?_;cbv)
 all_goals (clear m1 m2 m3 m4 m5;cases m0;(try clear hks;try clear hk2;try clear hk3);try dsimp only)
 all_goals try simp only [sm] at *
 all_goals first
  | exact ⟨rfl⟩
  | exact ⟨h1⟩
  | (simp only [jg];rw [decide_eq_true (by omega),Bool.and_true];done)
  | (simp only [jg];rw [decide_eq_false (by omega),Bool.and_false];done)
def ZB (f:List Int->Bool):Wr:=w1 z8 (fun l=>rB (f l)) (fun l=>[LLe l maxLen])
theorem qas:qy Tryz.prog 122 (ZB qR):=zH fun l h=>Vp l (h _ (.head _)).out
theorem JV:qy Tryz.prog 120 (ZB qR):=zH fun l h=>Vw l (h _ (.head _)).out
theorem qbD (t:qm)(s:ByteArray)(h1:t.nodes.length<=maxLen):qe Tryz.prog 152 [qQ t,aS s] (rI (zK (fun q=>eqS q.name s) t.nodes 0)):=by
 refine qe.of qc (fn:=Tryz.f152) (c:=Tryz.f152.body.getD .skip) (dr:=fun n=>qa 0 [] n) Tryz.func152 rfl (by kernel_rfl) (by kernel_rfl) (by kernel_rfl) ?_
 obtain ⟨cs,ps,hr⟩:=t
 have h1:cs.length<=maxLen:=h1
 unfold maxLen at h1
 show SEx _ _ _ _ _ _ (rI (zK _ cs 0))
 refine SEx.go (X:=XX) qc (fun n=>qa [] [(2,[1,8,9,10])] n) (fun _=>none) qd 60 ?_
 intro M R L N m0 m1 m2 m3 m4 m5
 cases M
 cbv
 repeat' first | refine m1 _ _ ?_ ?_ | refine m2 _ _ fun h=>?_ | refine m3 _ ?_ | (refine m4 _ _ (Hd.out ?_);generalize hks:(List.cons _ _:List K)=ks) | (refine m5 _ _ ?_;cbv)
 all_goals (clear m1 m2 m3 m4 m5;cases m0;try dsimp only)
 all_goals try simp only [sm] at *
 obtain ⟨n,hn⟩:∃ n,n=cs.length:=⟨_,rfl⟩
 refine ⟨SEx.same (SEx.idx n (fun i=>⟨21,[(1,bS s),(8,bL (.node false none cs)),(9,bI n),(10,bI i)],[]⟩) (fun i=>rI (zK (fun q=>eqS q.name s) (cs.drop i) i)) ?_) (by rw [hn];rfl) rfl⟩
 intro i hi ih
 rw [<-hks]
 refine SEx.go (X:=XX) qc (fun n=>qa [] [(2,[1,8,9,10])] n) (fun _=>none) qd 60 ?_
 intro M R L N m0 m1 m2 m3 m4 m5
 cases M
 cbv
 repeat' first | refine m1 _ _ ?_ ?_ | refine m2 _ _ fun h=>?_ | refine m3 _ ?_ | (refine m4 _ _ (Hd.out ?_);try first | rw [hks] | rw [hk2] | rw [hk3]) | (refine m5 _ _ ?_;cbv)
 all_goals (clear m1 m2 m3 m4 m5;cases m0;(try clear hks;try clear hk2;try clear hk3);try dsimp only)
 all_goals try simp only [sm] at *
 all_goals first
  | omega
  | exact ⟨rfl,by cases caps<;>rfl⟩
  | exact ⟨rfl,rfl⟩
  | exact qo (z:=qi.z) (by omega)
  | (rw [jv (p:=fun q=>eqS q.name s) (l:=cs) (i:=i) qi.z (by omega) (by first | assumption | exact beq_iff_eq.2 (by assumption))];rfl)
  | (rw [ji (by omega)];rfl)
  | (simp only [qh (show i<9223372036854775807 by omega)];exact ⟨(ih (by omega)).same rfl (by rw [QE (p:=fun q=>eqS q.name s) (l:=cs) (i:=i) qi.z (by omega) (by first | assumption | exact beq_eq_false_iff_ne.2 (by assumption) | (simp_all;done))])⟩)
def qri (k:Nat):Dc (List Int):=⟨fun s=>aF k [.ptr [.sl (.i s)]],fun | (false,[.fn f [.ptr [.sl (.i s)]]])=>(match nq f k with | true=>some s | false=>none) | _=>none,by
 intro x a h
 split at h
 . split at h
   . rename_i hk
     obtain rfl:=QQ.1 hk
     simp only [Option.some.injEq] at h;subst h;rfl
   . cases h
 . cases h⟩
def JN (a b:List Int):Bool:=qX a&&qX b&&b.all (ZP a)
theorem KR {α:Type}(p:α->Bool):∀ (l:List α) (k:Nat),qz (fun _ x=>p x) l k=l.all p
 | [],_=>rfl
 | a::r,k=>by simp only [qz,List.all_cons,KR p r]
theorem Vv (x:Int)(a:List Int)(h1:a.length<=maxLen):qe Tryz.prog 168 [aI x,(false,[.ptr [.sl (.i a)]])] (rB (!ZP a x)):=by
 refine qe.of qc (fn:=Tryz.f168) (c:=Tryz.f168.body.getD .skip) (dr:=fun n=>qa 0 [] n) Tryz.func168 rfl (by kernel_rfl) (by kernel_rfl) (by kernel_rfl) ?_
 obtain ⟨f,hf⟩:∃ f,f=ZP:=⟨_,rfl⟩
 have hO:qp Tryz.prog (qK [(54,qgP f)]):=by subst hf;exact qb qfl qd
 rw [<-hf]
 refine SEx.go (X:=XX) qc (fun n=>qa [] [] n) (fun _=>none) hO 60 ?_
 intro M R L N m0 m1 m2 m3 m4 m5
 cases M
 cbv
 repeat' first | refine m1 _ _ ?_ ?_ | refine m2 _ _ fun h=>?_ | refine m3 _ ?_ | (refine m4 _ _ (Hd.out ?_);try first | rw [hks] | rw [hk2] | rw [hk3]) | (refine m5 _ _ ?_;cbv)
 all_goals (clear m1 m2 m3 m4 m5;cases m0;(try clear hks;try clear hk2;try clear hk3);try dsimp only)
 all_goals try simp only [sm] at *
 all_goals first
  | exact ⟨h1⟩
  | rfl
theorem Y6 (a b:List Int)(ha:Kb a)(hb:Kb b):qe Tryz.prog 144 [aIs a,aIs b] (rB (JN a b)):=by
 refine qe.of qc (fn:=Tryz.f144) (c:=Tryz.f144.body.getD .skip) (dr:=fun n=>qa 0 [] n) Tryz.func144 rfl (by kernel_rfl) (by kernel_rfl) (by kernel_rfl) ?_
 obtain ⟨f,hf⟩:∃ f,f=qX:=⟨_,rfl⟩
 obtain ⟨g,hg⟩:∃ g:List Int->List Int->Bool,g=fun l a=>l.any (fun x=>!ZP a x):=⟨_,rfl⟩
 have hO:qp Tryz.prog (qK [(167,QK f),(117,w2 z8 (qri 168) (fun l s=>rB (g l s)) (fun l s=>[LLe l maxLen,LLe s maxLen]))]):=by
  subst hf hg
  exact qb Z1 (qb (qE fun l s h=>ZR l _ _ _ (fun q _=>Vv q s (h _ (.tail _ (.head _))).out) (h _ (.head _)).out) qd)
 rw [show JN a b=(f a&&f b&&!g b a) by rw [hf,hg];unfold JN;rw [show (!List.any b fun x=>!ZP a x)=b.all (ZP a) by rw [List.not_any_eq_all_not];simp]]
 clear hf hg
 refine SEx.go (X:=XX) qc (fun n=>qa [] [] n) (fun _=>none) hO 60 ?_
 intro M R L N m0 m1 m2 m3 m4 m5
 cases M
 cbv
 repeat' first | refine m1 _ _ ?_ ?_ | refine m2 _ _ fun h=>?_ | refine m3 _ ?_ | (refine m4 _ _ (Hd.out ?_);try first | rw [hks] | rw [hk2] | rw [hk3]) | (refine m5 _ _ ?_;cbv)
 all_goals (clear m1 m2 m3 m4 m5;cases m0;(try clear hks;try clear hk2;try clear hk3);try dsimp only)
 all_goals try simp only [sm] at *
 all_goals first
  | exact ha
  | exact hb
  | exact ⟨rfl⟩
  | exact ⟨ha.len⟩
  | exact ⟨hb.len⟩
  | (simp only [jg];simp_all;done)
  | trace_state
theorem V5 (a b:List Int)(ha:Kb a)(hb:Kb b):qe Tryz.prog 153 [aIs a,aIs b] (rB (JN a b)):=by
 refine qe.of qc (fn:=Tryz.f153) (c:=Tryz.f153.body.getD .skip) (dr:=fun n=>qa 0 [] n) Tryz.func153 rfl (by kernel_rfl) (by kernel_rfl) (by kernel_rfl) ?_
 obtain ⟨f,hf⟩:∃ f,f=qX:=⟨_,rfl⟩
 obtain ⟨g,hg⟩:∃ f,f=ZP:=⟨_,rfl⟩
 have hO:qp Tryz.prog (qK [(171,QK f),(48,qgP g)]):=by subst hf hg;exact qb vk (qb yP qd)
 rw [show JN a b=(f a&&f b&&qz (fun _ x=>g a x) (b.drop 0) 0) by rw [hf,hg,List.drop_zero,KR];rfl]
 clear hf hg
 have hal:=ha.len
 have hbl:=hb.len
 unfold maxLen at hbl
 refine SEx.go (X:=XX) qc (fun n=>qa [] [(4,[0,15,16,17])] n) (fun _=>none) hO 60 ?_
 intro M R L N m0 m1 m2 m3 m4 m5
 cases M
 cbv
 repeat' first | refine m1 _ _ ?_ ?_ | refine m2 _ _ fun h=>?_ | refine m3 _ ?_ | (refine m4 _ _ (Hd.out ?_);generalize hks:(List.cons _ _:List K)=ks) | (refine m5 _ _ ?_;cbv)
 all_goals (clear m1 m2 m3 m4 m5;cases m0;try dsimp only)
 all_goals try simp only [sm] at *
 all_goals first
  | exact ha
  | exact hb
  | (simp only [jg];simp_all;done)
  | skip
 rw [show f a=true by assumption,show f b=true by assumption,Bool.true_and,Bool.true_and]
 obtain ⟨m,hm⟩:∃ m,m=b.length:=⟨_,rfl⟩
 refine ⟨SEx.same (SEx.idx m (fun i=>⟨26,[(0,bL (.i a)),(15,bL (.i b)),(16,bI m),(17,bI i)],[]⟩) (fun i=>rB (qz (fun _ x=>g a x) (b.drop i) i)) ?_) (by rw [hm];rfl) rfl⟩
 intro i hi ih
 rw [<-hks]
 refine SEx.go (X:=XX) qc (fun n=>qa [] [(4,[0,15,16,17])] n) (fun _=>none) hO 60 ?_
 intro M R L N m0 m1 m2 m3 m4 m5
 cases M
 cbv
 repeat' first | refine m1 _ _ ?_ ?_ | refine m2 _ _ fun h=>?_ | refine m3 _ ?_ | (refine m4 _ _ (Hd.out ?_);try first | rw [hks] | rw [hk2] | rw [hk3]) | (refine m5 _ _ ?_;cbv)
 all_goals (clear m1 m2 m3 m4 m5;cases m0;(try clear hks;try clear hk2;try clear hk3);try dsimp only)
 all_goals try simp only [sm] at *
 all_goals first
  | omega
  | exact ⟨hal⟩
  | (rw [vh (p:=fun _ x=>g a x) (l:=b) (i:=i) (0:Int) (by omega) (by assumption)];rfl)
  | (simp only [qh (show i<9223372036854775807 by omega)];exact ⟨(ih (by omega)).same rfl (by rw [vb (p:=fun _ x=>g a x) (l:=b) (i:=i) (0:Int) (by omega) (by assumption)])⟩)
  | (rw [List.drop_eq_nil_of_le (by omega)];rfl)
  | trace_state
def wM (f:List Int->List Int->Bool):Wr:=w2 z8 z8 (fun a b=>rB (f a b)) (fun a b=>[Kb a,Kb b])
theorem qce:qy Tryz.prog 153 (wM JN):=qE fun a b h=>V5 a b (h _ (.head _)) (h _ (.tail _ (.head _)))
theorem qcK:qy Tryz.prog 144 (wM JN):=qE fun a b h=>Y6 a b (h _ (.head _)) (h _ (.tail _ (.head _)))
end Go.Proofs.YtifnopmkdempdaaGreat.Ai
namespace Go.Proofs.YtifnopmkdempdaaGreat.Ai
open Go
set_option maxRecDepth 100000
variable [qg]
structure qp7 (p:Int):Prop where out:0<p
def zG (l:List qi)(p:Int):Int:=zK (fun q=>q.watch == p) l 0
theorem K3 (t:qm)(p:Int)(h1:t.nodes.length<=maxLen):qe Tryz.prog 109 [qQ t,aI p] (rI (zG t.nodes p)):=by
 refine qe.of qc (fn:=Tryz.f109) (c:=Tryz.f109.body.getD .skip) (dr:=fun n=>qa 0 [] n) Tryz.func109 rfl (by kernel_rfl) (by kernel_rfl) (by kernel_rfl) ?_
 obtain ⟨cs,ps,hr⟩:=t
 have h1:cs.length<=maxLen:=h1
 unfold maxLen at h1
 show SEx _ _ _ _ _ _ (rI (zK _ cs 0))
 refine SEx.go (X:=XX) qc (fun n=>qa [] [(2,[1,8,9,10])] n) (fun _=>none) qd 60 ?_
 intro M R L N m0 m1 m2 m3 m4 m5
 cases M
 cbv
 repeat' first | refine m1 _ _ ?_ ?_ | refine m2 _ _ fun h=>?_ | refine m3 _ ?_ | (refine m4 _ _ (Hd.out ?_);generalize hks:(List.cons _ _:List K)=ks) | (refine m5 _ _ ?_;cbv)
 all_goals (clear m1 m2 m3 m4 m5;cases m0;try dsimp only)
 all_goals try simp only [sm] at *
 obtain ⟨n,hn⟩:∃ n,n=cs.length:=⟨_,rfl⟩
 refine ⟨SEx.same (SEx.idx n (fun i=>⟨21,[(1,bI p),(8,bL (.node false none cs)),(9,bI n),(10,bI i)],[]⟩) (fun i=>rI (zK (fun q=>q.watch == p) (cs.drop i) i)) ?_) (by rw [hn];rfl) rfl⟩
 intro i hi ih
 rw [<-hks]
 refine SEx.go (X:=XX) qc (fun n=>qa [] [(2,[1,8,9,10])] n) (fun _=>none) qd 60 ?_
 intro M R L N m0 m1 m2 m3 m4 m5
 cases M
 cbv
 repeat' first | refine m1 _ _ ?_ ?_ | refine m2 _ _ fun h=>?_ | refine m3 _ ?_ | (refine m4 _ _ (Hd.out ?_);try first | rw [hks] | rw [hk2] | rw [hk3]) | (refine m5 _ _ ?_;cbv)
 all_goals (clear m1 m2 m3 m4 m5;cases m0;(try clear hks;try clear hk2;try clear hk3);try dsimp only)
 all_goals try simp only [sm] at *
 all_goals first
  | omega
  | exact ⟨rfl,by cases caps<;>rfl⟩
  | exact ⟨rfl,rfl⟩
  | exact qo (z:=qi.z) (by omega)
  | (rw [jv (p:=fun q=>q.watch == p) (l:=cs) (i:=i) qi.z (by omega) (by first | assumption | exact beq_iff_eq.2 (by assumption))];rfl)
  | (rw [ji (by omega)];rfl)
  | (simp only [qh (show i<9223372036854775807 by omega)];exact ⟨(ih (by omega)).same rfl (by rw [QE (p:=fun q=>q.watch == p) (l:=cs) (i:=i) qi.z (by omega) (by first | assumption | exact beq_eq_false_iff_ne.2 (by assumption) | (simp_all;done))])⟩)
 all_goals trace_state
def qsc (k:Nat):Dc Int:=⟨fun s=>aF k [.ptr [.int .i64 s]],fun | (false,[.fn f [.ptr [.int .i64 s]]])=>(match nq f k with | true=>some s | false=>none) | _=>none,by
 intro x a h
 split at h
 . split at h
   . rename_i hk
     obtain rfl:=QQ.1 hk
     simp only [Option.some.injEq] at h;subst h;rfl
   . cases h
 . cases h⟩
theorem Vo (q:qi)(p:Int)(hp:0<p):qe Tryz.prog 147 [vu q,(false,[.ptr [.int .i64 p]])] (rB (q.watch == p)):=by
 refine qe.of qc (fn:=Tryz.f147) (c:=Tryz.f147.body.getD .skip) (dr:=fun n=>qa 0 [] n) Tryz.func147 rfl (by kernel_rfl) (by kernel_rfl) (by kernel_rfl) ?_
 obtain ⟨x1,x2,x3⟩:=q
 refine SEx.go (X:=XX) qc (fun n=>qa [] [] n) (fun _=>none) qd 60 ?_
 intro M R L N m0 m1 m2 m3 m4 m5
 cases M
 cbv
 repeat' first | refine m1 _ _ ?_ ?_ | refine m2 _ _ fun h=>?_ | refine m3 _ ?_ | (refine m4 _ _ (Hd.out ?_);try first | rw [hks] | rw [hk2] | rw [hk3]) | (refine m5 _ _ ?_;cbv)
 all_goals (clear m1 m2 m3 m4 m5;cases m0;(try clear hks;try clear hk2;try clear hk3);try dsimp only)
 all_goals try simp only [sm] at *
 all_goals first
  | rfl
  | (exfalso;omega)
  | trace_state
theorem Yb (t:qm)(p:Int)(h1:t.nodes.length<=maxLen)(hp:0<p):qe Tryz.prog 121 [qQ t,aI p] (rI (zG t.nodes p)):=by
 refine qe.of qc (fn:=Tryz.f121) (c:=Tryz.f121.body.getD .skip) (dr:=fun n=>qa 0 [] n) Tryz.func121 rfl (by kernel_rfl) (by kernel_rfl) (by kernel_rfl) ?_
 obtain ⟨f,hf⟩:∃ f,f=zG:=⟨_,rfl⟩
 have hO:qp Tryz.prog (qK [(146,w2 vA (qsc 147) (fun l s=>rI (f l s)) (fun l s=>[LLe l maxLen,qp7 s]))]):=by
  subst hf
  exact qb (qE fun l s h=>V7 l _ _ _ (fun q _=>Vo q s (h _ (.tail _ (.head _))).out) (h _ (.head _)).out) qd
 obtain ⟨cs,ps,hr⟩:=t
 have h1:cs.length<=maxLen:=h1
 refine SEx.go (X:=XX) qc (fun n=>qa [] [] n) (fun _=>none) hO 60 ?_
 intro M R L N m0 m1 m2 m3 m4 m5
 cases M
 cbv
 repeat' first | refine m1 _ _ ?_ ?_ | refine m2 _ _ fun h=>?_ | refine m3 _ ?_ | (refine m4 _ _ (Hd.out ?_);try first | rw [hks] | rw [hk2] | rw [hk3]) | (refine m5 _ _ ?_;cbv)
 all_goals (clear m1 m2 m3 m4 m5;cases m0;(try clear hks;try clear hk2;try clear hk3);try dsimp only)
 all_goals try simp only [sm] at *
 all_goals first
  | exact ⟨h1⟩
  | exact ⟨hp⟩
  | (subst hf;rfl)
  | trace_state
def KP (f:List qi->Int->Int):Wr:=w2 qP dcI (fun t p=>rI (f t.nodes p)) (fun t p=>[LLe t.nodes maxLen,qp7 p])
theorem qb2:qy Tryz.prog 109 (KP zG):=qE fun t p h=>K3 t p (h _ (.head _)).out
theorem wD:qy Tryz.prog 121 (KP zG):=qE fun t p h=>Yb t p (h _ (.head _)).out (h _ (.tail _ (.head _))).out
end Go.Proofs.YtifnopmkdempdaaGreat.Ai
namespace Go.Proofs.YtifnopmkdempdaaGreat.Ai
open Go
set_option maxRecDepth 100000
variable [qg]
def qew (n:Int):Bool:=decide (-20<=n)&&decide (n<=20)
theorem qjY (n:Int):qe Tryz.prog 141 [aI n] (rB (qew n)):=by
 refine qe.of qc (fn:=Tryz.f141) (c:=Tryz.f141.body.getD .skip) (dr:=fun n=>qa 0 [] n) Tryz.func141 rfl (by kernel_rfl) (by kernel_rfl) (by kernel_rfl) ?_
 refine SEx.go (X:=XX) qc (fun n=>qa [] [] n) (fun _=>none) qd 60 ?_
 intro M R L N m0 m1 m2 m3 m4 m5
 cases M
 cbv
 repeat' first | refine m1 _ _ ?_ ?_ | refine m2 _ _ fun h=>?_ | refine m3 _ ?_ | (refine m4 _ _ (Hd.out ?_);try first | rw [hks] | rw [hk2] | rw [hk3]) | (refine m5 _ _ ?_;cbv)
 all_goals (clear m1 m2 m3 m4 m5;cases m0;(try clear hks;try clear hk2;try clear hk3);try dsimp only)
 all_goals try simp only [sm] at *
 all_goals simp only [jg,qew]
 all_goals first
  | (rw [decide_eq_false (show ¬-20<=n by omega)];rfl)
  | (rw [decide_eq_true (show -20<=n by omega),Bool.true_and])
def qp8 (f:Int->Bool):Wr:=w1 dcI (fun n=>rB (f n)) (fun _=>[])
theorem qnf:qy Tryz.prog 141 (qp8 qew):=zH fun n _=>qjY n
def jC (a b:List Int):Bool:=decide (a.length=b.length)&&qz (fun i x=>x == b.getD i 0) a 0
theorem qhu (a b:List Int)(h1:a.length<=maxLen)(h2:b.length<=maxLen):qe Tryz.prog 68 [aIs a,aIs b] (rB (jC a b)):=by
 refine qe.of qc (fn:=Tryz.f68) (c:=Tryz.f68.body.getD .skip) (dr:=fun n=>qa 0 [] n) Tryz.func68 rfl (by kernel_rfl) (by kernel_rfl) (by kernel_rfl) ?_
 unfold maxLen at h1 h2
 rw [show jC a b=(decide (a.length=b.length)&&qz (fun i x=>x == b.getD i 0) (a.drop 0) 0) by rw [List.drop_zero];rfl]
 refine SEx.go (X:=XX) qc (fun n=>qa [] [(4,[1,12,13,14])] n) (fun _=>none) qd 60 ?_
 intro M R L N m0 m1 m2 m3 m4 m5
 cases M
 cbv
 repeat' first | refine m1 _ _ ?_ ?_ | refine m2 _ _ fun h=>?_ | refine m3 _ ?_ | (refine m4 _ _ (Hd.out ?_);generalize hks:(List.cons _ _:List K)=ks) | (refine m5 _ _ ?_;cbv)
 all_goals (clear m1 m2 m3 m4 m5;cases m0;try dsimp only)
 all_goals try simp only [sm] at *
 . simp only [jg];rw [decide_eq_false (by omega)];rfl
 have hab:a.length=b.length:=by omega
 rw [decide_eq_true hab,Bool.true_and]
 obtain ⟨m,hm⟩:∃ m,m=a.length:=⟨_,rfl⟩
 refine ⟨SEx.same (SEx.idx m (fun i=>⟨26,[(1,bL (.i b)),(12,bL (.i a)),(13,bI m),(14,bI i)],[]⟩) (fun i=>rB (qz (fun i x=>x == b.getD i 0) (a.drop i) i)) ?_) (by rw [hm];rfl) rfl⟩
 intro i hi ih
 rw [<-hks]
 refine SEx.go (X:=XX) qc (fun n=>qa [] [(4,[1,12,13,14])] n) (fun _=>none) qd 60 ?_
 intro M R L N m0 m1 m2 m3 m4 m5
 cases M
 cbv
 repeat' first | refine m1 _ _ ?_ ?_ | refine m2 _ _ fun h=>?_ | refine m3 _ ?_ | (refine m4 _ _ (Hd.out ?_);try first | rw [hks] | rw [hk2] | rw [hk3]) | (refine m5 _ _ ?_;cbv)
 all_goals (clear m1 m2 m3 m4 m5;cases m0;(try clear hks;try clear hk2;try clear hk3);try dsimp only)
 all_goals try simp only [sm] at *
 all_goals first
  | omega
  | (rw [vh (p:=fun i x=>x == b.getD i 0) (l:=a) (i:=i) (0:Int) (by omega) (beq_eq_false_iff_ne.2 (by assumption))];rfl)
  | (simp only [qh (show i<9223372036854775807 by omega)];exact ⟨(ih (by omega)).same rfl (by rw [vb (p:=fun i x=>x == b.getD i 0) (l:=a) (i:=i) (0:Int) (by omega) (beq_iff_eq.2 (by assumption))])⟩)
  | (rw [List.drop_eq_nil_of_le (by omega)];rfl)
  | trace_state
theorem qlk (a b:List Int)(h1:a.length<=maxLen)(h2:b.length<=maxLen):qe Tryz.prog 76 [aIs a,aIs b] (rB (jC a b)):=by
 refine qe.of qc (fn:=Tryz.f76) (c:=Tryz.f76.body.getD .skip) (dr:=fun n=>qa 0 [(6,8)] n) Tryz.func76 rfl (by kernel_rfl) (by kernel_rfl) (by kernel_rfl) ?_
 unfold maxLen at h1 h2
 rw [show jC a b=(decide (a.length=b.length)&&qz (fun i x=>x == b.getD i 0) (a.drop 0) 0) by rw [List.drop_zero];rfl]
 refine SEx.go (X:=XX) qc (fun n=>qa [] [(4,[0,1,12,13])] n) (fun _=>none) qd 60 ?_
 intro M R L N m0 m1 m2 m3 m4 m5
 cases M
 cbv
 repeat' first | refine m1 _ _ ?_ ?_ | refine m2 _ _ fun h=>?_ | refine m3 _ ?_ | (refine m4 _ _ (Hd.out ?_);generalize hks:(List.cons _ _:List K)=ks) | (refine m5 _ _ ?_;cbv)
 all_goals (clear m1 m2 m3 m4 m5;cases m0;try dsimp only)
 all_goals try simp only [sm] at *
 . simp only [jg];rw [decide_eq_false (by omega)];rfl
 have hab:a.length=b.length:=by omega
 rw [decide_eq_true hab,Bool.true_and]
 obtain ⟨m,hm⟩:∃ m,m=a.length:=⟨_,rfl⟩
 refine ⟨SEx.same (SEx.idx m (fun i=>⟨26,[(0,bL (.i a)),(1,bL (.i b)),(12,bI m),(13,bI i)],[]⟩) (fun i=>rB (qz (fun i x=>x == b.getD i 0) (a.drop i) i)) ?_) (by rw [hm];rfl) rfl⟩
 intro i hi ih
 rw [<-hks]
 refine SEx.go (X:=XX) qc (fun n=>qa [] [(4,[0,1,12,13])] n) (fun _=>none) qd 60 ?_
 intro M R L N m0 m1 m2 m3 m4 m5
 cases M
 cbv
 repeat' first | refine m1 _ _ ?_ ?_ | refine m2 _ _ fun h=>?_ | refine m3 _ ?_ | (refine m4 _ _ (Hd.out ?_);try first | rw [hks] | rw [hk2] | rw [hk3]) | (refine m5 _ _ ?_;cbv)
 all_goals (clear m1 m2 m3 m4 m5;cases m0;(try clear hks;try clear hk2;try clear hk3);try dsimp only)
 all_goals try simp only [sm] at *
 all_goals first
  | omega
  | (rw [vh (p:=fun i x=>x == b.getD i 0) (l:=a) (i:=i) (0:Int) (by omega) (beq_eq_false_iff_ne.2 (by assumption))];rfl)
  | (simp only [qh (show i<9223372036854775807 by omega)];exact ⟨(ih (by omega)).same rfl (by rw [vb (p:=fun i x=>x == b.getD i 0) (l:=a) (i:=i) (0:Int) (by omega) (beq_iff_eq.2 (by assumption))])⟩)
  | (rw [List.drop_eq_nil_of_le (by omega)];rfl)
  | trace_state
theorem qaL:∀ (a c:List Int) (b:List Int) (k:Nat),c=b.drop k->a.length=c.length->(qz (fun i x=>x == b.getD i 0) a k=decide (a=c))
 | [],[],_,_,_,_=>rfl
 | [],_::_,_,_,_,h=>by simp at h
 | _::_,[],_,_,_,h=>by simp at h
 | x::r,y::s,b,k,hc,hl=>by
   have hk:k<b.length:=by
    apply Decidable.byContradiction;intro h
    rw [List.drop_eq_nil_of_le (by omega)] at hc;cases hc
   rw [List.drop_eq_getElem_cons hk] at hc
   injection hc with h1 h2
   unfold qz
   rw [qaL r s b (k+1) h2 (by simpa using hl),List.getD_eq_getElem?_getD,List.getElem?_eq_getElem hk,Option.getD_some,<-h1]
   rw [Bool.eq_iff_iff];simp
theorem KZ (a b:List Int):jC a b=decide (a=b):=by
 unfold jC
 by_cases h:a.length=b.length
 . rw [decide_eq_true h,Bool.true_and,qaL a b b 0 rfl h]
 . rw [decide_eq_false h,Bool.false_and,decide_eq_false (fun e=>h (by rw [e]))]
def WH (f:List Int->List Int->Bool):Wr:=w2 z8 z8 (fun a b=>rB (f a b)) (fun a b=>[LLe a maxLen,LLe b maxLen])
theorem qbc:qy Tryz.prog 68 (WH jC):=qE fun a b h=>qhu a b (h _ (.head _)).out (h _ (.tail _ (.head _))).out
theorem qaY:qy Tryz.prog 76 (WH jC):=qE fun a b h=>qlk a b (h _ (.head _)).out (h _ (.tail _ (.head _))).out
structure yb (q:qi):Prop where
 name:q.name.size<=maxLen
 len:q.label.length<=maxLen
 all:∀ n∈q.label,inI n
def Vy (f:qi->Bool):Wr:=w1 JY (fun q=>rB (f q)) (fun q=>[yb q])
theorem qdq:qy Tryz.prog 151 (Vy QS):=zH fun q h=>qaj q (h _ (.head _)).name (h _ (.head _)).len (h _ (.head _)).all
theorem qe2:qy Tryz.prog 139 (Vy QS):=zH fun q h=>qax q (h _ (.head _)).name (h _ (.head _)).len (h _ (.head _)).all
end Go.Proofs.YtifnopmkdempdaaGreat.Ai
namespace Go.Proofs.YtifnopmkdempdaaGreat.Ai
open Go
set_option maxRecDepth 100000
variable [qg]
def KU (l:List Tie)(x:Int):Int:=zK (fun q=>q.free&&q.dst == x) l 0
theorem qfb (t:qm)(x:Int)(h1:t.ties.length<=maxLen):qe Tryz.prog 107 [qQ t,aI x] (rI (KU t.ties x)):=by
 refine qe.of qc (fn:=Tryz.f107) (c:=Tryz.f107.body.getD .skip) (dr:=fun n=>qa 0 [] n) Tryz.func107 rfl (by kernel_rfl) (by kernel_rfl) (by kernel_rfl) ?_
 obtain ⟨ns,cs,hr⟩:=t
 have h1:cs.length<=maxLen:=h1
 unfold maxLen at h1
 show SEx _ _ _ _ _ _ (rI (zK _ cs 0))
 refine SEx.go (X:=XX) qc (fun n=>qa [] [(2,[1,8,9,10])] n) (fun _=>none) qd 60 ?_
 intro M R L N m0 m1 m2 m3 m4 m5
 cases M
 cbv
 repeat' first | refine m1 _ _ ?_ ?_ | refine m2 _ _ fun h=>?_ | refine m3 _ ?_ | (refine m4 _ _ (Hd.out ?_);generalize hks:(List.cons _ _:List K)=ks) | (refine m5 _ _ ?_;cbv)
 all_goals (clear m1 m2 m3 m4 m5;cases m0;try dsimp only)
 all_goals try simp only [sm] at *
 obtain ⟨n,hn⟩:∃ n,n=cs.length:=⟨_,rfl⟩
 refine ⟨SEx.same (SEx.idx n (fun i=>⟨25,[(1,bI x),(8,bL (.tie cs)),(9,bI n),(10,bI i)],[]⟩) (fun i=>rI (zK (fun q=>q.free&&q.dst == x) (cs.drop i) i)) ?_) (by rw [hn];rfl) rfl⟩
 intro i hi ih
 rw [<-hks]
 refine SEx.go (X:=XX) qc (fun n=>qa [] [(2,[1,8,9,10])] n) (fun _=>none) qd 60 ?_
 intro M R L N m0 m1 m2 m3 m4 m5
 cases M
 cbv
 repeat' first | refine m1 _ _ ?_ ?_ | refine m2 _ _ fun h=>?_ | refine m3 _ ?_ | (refine m4 _ _ (Hd.out ?_);try first | rw [hks] | rw [hk2] | rw [hk3]) | (refine m5 _ _ ?_;cbv)
 all_goals (clear m1 m2 m3 m4 m5;cases m0;(try clear hks;try clear hk2;try clear hk3);try dsimp only)
 all_goals try simp only [sm] at *
 all_goals first
  | omega
  | (rw [jv (p:=fun q=>q.free&&q.dst == x) (l:=cs) (i:=i) Tie.z (by omega) (by simp_all)];rfl)
  | (rw [ji (by omega)];rfl)
  | (simp only [qh (show i<9223372036854775807 by omega)];exact ⟨(ih (by omega)).same rfl (by rw [QE (p:=fun q=>q.free&&q.dst == x) (l:=cs) (i:=i) Tie.z (by omega) (by simp_all)])⟩)
def qes (f:List Tie->Int->Int):Wr:=w2 qP dcI (fun t x=>rI (f t.ties x)) (fun t _=>[LLe t.ties maxLen])
theorem qa0:qy Tryz.prog 107 (qes KU):=qE fun t x h=>qfb t x (h _ (.head _)).out
end Go.Proofs.YtifnopmkdempdaaGreat.Ai
namespace Go.Proofs.YtifnopmkdempdaaGreat.Ai
open Go
set_option maxRecDepth 100000
variable [qg]
def nd (ns:List qi)(x:Int):qi:=ns.getD x.toNat qi.z
def J9 (ns:List qi)(ts:List Tie)(i:Nat)(q:Tie):Bool :=
 decide (0<=q.src/\q.src<=ns.length-1/\0<=q.dst/\q.dst<=ns.length-1/\¬q.src=q.dst/\-20<=q.low/\q.high<=20/\q.low<=q.high)&&(!q.free||(decide (1<=q.low/\¬q.dst=0/\(nd ns q.dst).watch=0)&&jC (nd ns q.src).label (nd ns q.dst).label&&decide (KU ts q.dst=i)))
theorem qhf (t:qm)(i:Int)(hi:0<=i/\i<t.ties.length)(h1:t.nodes.length<=maxLen)(h2:t.ties.length<=maxLen)(h3:∀ q∈t.nodes,q.label.length<=maxLen):qe Tryz.prog 133 [qQ t,aI i] (rB (J9 t.nodes t.ties i.toNat (t.ties.getD i.toNat Tie.z))):=by
 refine qe.of qc (fn:=Tryz.f133) (c:=Tryz.f133.body.getD .skip) (dr:=fun n=>qa 0 [(5,45)] n) Tryz.func133 rfl (by kernel_rfl) (by kernel_rfl) (by kernel_rfl) ?_
 obtain ⟨f0,hf0⟩:∃ f,f=z6:=⟨_,rfl⟩
 obtain ⟨f1,hf1⟩:∃ f,f=jC:=⟨_,rfl⟩
 obtain ⟨f2,hf2⟩:∃ f,f=KU:=⟨_,rfl⟩
 have hO:qp Tryz.prog (qK [(104,yv f0),(68,WH f1),(107,qes f2)]):=by subst hf0 hf1 hf2;exact qb jY (qb qbc (qb qa0 qd))
 obtain ⟨ns,ts,hr⟩:=t
 have hi:0<=i/\i<ts.length:=hi
 have h1:ns.length<=maxLen:=h1
 have h2:ts.length<=maxLen:=h2
 have h3:∀ q∈ns,q.label.length<=maxLen:=h3
 show SEx _ _ _ _ _ _ (rB (J9 ns ts i.toNat (ts.getD i.toNat Tie.z)))
 obtain ⟨n,rfl⟩:∃ n:Nat,i=n:=⟨i.toNat,by omega⟩
 refine SEx.go (X:=XX) qc (fun n=>qa [] [] n) (fun _=>none) hO 60 ?_
 intro M R L N m0 m1 m2 m3 m4 m5
 cases M
 cbv
 repeat' first | refine m1 _ _ ?_ ?_ | refine m2 _ _ fun h=>?_ | refine m3 _ ?_ | (refine m4 _ _ (Hd.out ?_);try first | rw [hks] | rw [hk2] | rw [hk3]) | (refine m5 _ _ ?_;cbv)
 all_goals (clear m1 m2 m3 m4 m5;cases m0;(try clear hks;try clear hk2;try clear hk3);try dsimp only)
 all_goals try simp only [sm] at *
 all_goals (have hQ:=qo (z:=Tie.z) (l:=ts) (i:=n) (by omega);generalize ts.getD n Tie.z=q at *;obtain ⟨x1,x2,x3,x4,x5⟩:=q)
 all_goals (clear hO;subst hf0 hf1 hf2;unfold maxLen at h1 h2;try dsimp only at *)
 all_goals (try simp only [qv (n:=(ns.length:Int)-1) (by omega) (by omega),z6,Bool.and_eq_true,Bool.and_eq_false_iff,decide_eq_true_eq,decide_eq_false_iff_not] at *)
 all_goals first
  | omega
  | exact ⟨h2⟩
  | exact ⟨h3 _ (qo (z:=qi.z) (by omega)).out⟩
  | (simp only [jg];symm;rw [Bool.eq_false_iff];intro h;simp only [J9,Bool.and_eq_true,Bool.or_eq_true,Bool.not_eq_true',decide_eq_true_eq] at h;simp only [nd] at h;first | omega | (simp_all;done) | (simp_all;omega))
  | (simp only [jg];symm;simp only [J9,Bool.and_eq_true,Bool.or_eq_true,Bool.not_eq_true',decide_eq_true_eq];first | (refine ⟨by omega,.inl ?_⟩;assumption) | (refine ⟨by omega,.inr ⟨⟨by omega,?_⟩,?_⟩⟩<;>assumption))
  | (simp only [jg];simp only [J9,nd];rw [Bool.eq_iff_iff];simp only [Bool.and_eq_true,Bool.or_eq_true,Bool.not_eq_true',decide_eq_true_eq,beq_iff_eq];constructor;(· intro h;exact ⟨by omega,.inr ⟨⟨⟨by assumption,by assumption,by assumption⟩,by assumption⟩,h⟩⟩);(· rintro ⟨-,h | h⟩;(· have:=h.symm.trans (by assumption:_=true);cases this);(· exact h.2)))
  | (simp only [jg];rw [Bool.eq_iff_iff];simp only [J9,Bool.and_eq_true,Bool.or_eq_true,Bool.not_eq_true',decide_eq_true_eq,beq_iff_eq];simp only [nd];constructor;(· intro h;exact ⟨by omega,.inr ⟨⟨⟨by assumption,by assumption,by assumption⟩,by assumption⟩,h⟩⟩);(· rintro ⟨-,h | h⟩;(· have:=h.symm.trans (by assumption:_=true);cases this);(· exact h.2)))
def qqz {α:Type}(k:Nat)(g:Bool)(d:Dc α)(hg:∀ a,(d.enc a).1=g):Dc α:=⟨fun a=>aF k [.ptr (d.enc a).2],fun | (false,[.fn f [.ptr x]])=>(match nq f k with | true=>d.dec (g,x) | false=>none) | _=>none,by
 intro x a h
 split at h
 . split at h
   . rename_i hk
     obtain rfl:=QQ.1 hk
     have:=d.ok _ _ h
     have e:=congrArg Prod.snd this
     simp only [zU] at e
     simp only [zU,D.erL,D.er,aF,e]
   . cases h
 . cases h⟩
theorem qer (u t:Tie):qe Tryz.prog 142 [YO u,(false,[.ptr t.d])] (rB (u.free&&u.dst == t.dst)):=by
 refine qe.of qc (fn:=Tryz.f142) (c:=Tryz.f142.body.getD .skip) (dr:=fun n=>qa 0 [] n) Tryz.func142 rfl (by kernel_rfl) (by kernel_rfl) (by kernel_rfl) ?_
 obtain ⟨x1,x2,x3,x4,x5⟩:=u
 obtain ⟨y1,y2,y3,y4,y5⟩:=t
 refine SEx.go (X:=XX) qc (fun n=>qa [] [] n) (fun _=>none) qd 60 ?_
 intro M R L N m0 m1 m2 m3 m4 m5
 cases M
 cbv
 repeat' first | refine m1 _ _ ?_ ?_ | refine m2 _ _ fun h=>?_ | refine m3 _ ?_ | (refine m4 _ _ (Hd.out ?_);try first | rw [hks] | rw [hk2] | rw [hk3]) | (refine m5 _ _ ?_;cbv)
 all_goals (clear m1 m2 m3 m4 m5;cases m0;(try clear hks;try clear hk2;try clear hk3);try dsimp only)
 all_goals try simp only [sm] at *
 all_goals simp only [jg]
 all_goals (rw [show x5=_ by assumption];rfl)
def qsg (k:Nat):Dc Tie:=qqz k true Yz fun _=>rfl
def qeB (ns:List qi)(ts:List Tie)(i:Nat)(q:Tie):Bool :=
 decide (0<=q.src/\q.src<=ns.length-1/\0<=q.dst/\q.dst<=ns.length-1/\¬q.src=q.dst/\-20<=q.low/\q.high<=20/\q.low<=q.high)&&(!q.free||(decide (1<=q.low/\¬q.dst=0/\(nd ns q.dst).watch=0)&&jC (nd ns q.dst).label (nd ns q.src).label&&!((ts.take i).any fun u=>u.free&&u.dst == q.dst)))
theorem qg1 (t:qm)(h1:t.nodes.length<=maxLen)(h2:t.ties.length<=maxLen)(h3:∀ q∈t.nodes,q.label.length<=maxLen):qe Tryz.prog 116 [qQ t] (rB (qz (qeB t.nodes t.ties) t.ties 0&&decide (t.ties.length<=14))):=by
 refine qe.of qc (fn:=Tryz.f116) (c:=Tryz.f116.body.getD .skip) (dr:=fun n=>qa 0 [(7,33)] n) Tryz.func116 rfl (by kernel_rfl) (by kernel_rfl) (by kernel_rfl) ?_
 obtain ⟨f0,hf0⟩:∃ f,f=vE:=⟨_,rfl⟩
 obtain ⟨f1,hf1⟩:∃ f,f=jC:=⟨_,rfl⟩
 obtain ⟨f2,hf2⟩:∃ f,f=qew:=⟨_,rfl⟩
 obtain ⟨f3,hf3⟩:∃ f:List Tie->Tie->Bool,f=fun l q=>l.any fun u=>u.free&&u.dst == q.dst:=⟨_,rfl⟩
 have hO:qp Tryz.prog (qK [(140,qji f0),(141,qp8 f2),(76,WH f1),(125,w2 KL (qsg 142) (fun l q=>rB (f3 l q)) (fun l q=>[LLe l maxLen]))]):=by
  subst hf0 hf1 hf2 hf3
  exact qb qho (qb qnf (qb qaY (qb (qE fun l q h=>Kv l _ _ _ (fun u _=>qer u q) (h _ (.head _)).out) qd)))
 obtain ⟨ns,ts,hr⟩:=t
 have h1:ns.length<=maxLen:=h1
 have h2:ts.length<=maxLen:=h2
 have h3:∀ q∈ns,q.label.length<=maxLen:=h3
 unfold maxLen at h1 h2
 show SEx _ _ _ _ _ _ (rB (qz (qeB ns ts) ts 0&&decide (ts.length<=14)))
 obtain ⟨c,hc⟩:∃ c,c=decide (ts.length<=14):=⟨_,rfl⟩
 obtain ⟨p,hp⟩:∃ p,p=qeB ns ts:=⟨_,rfl⟩
 rw [<-hc,<-hp]
 refine SEx.go (X:=XX) qc (fun n=>qa [] [(2,[1,6,7,8])] n) (fun _=>none) hO 60 ?_
 intro M R L N m0 m1 m2 m3 m4 m5
 cases M
 cbv
 repeat' first | refine m1 _ _ ?_ ?_ | refine m2 _ _ fun h=>?_ | refine m3 _ ?_ | (refine m4 _ _ (Hd.out ?_);generalize hks:(List.cons _ _:List K)=ks) | (refine m5 _ _ ?_;cbv)
 all_goals (clear m1 m2 m3 m4 m5;cases m0;try dsimp only)
 all_goals try simp only [sm] at *
 obtain ⟨m,hm⟩:∃ m,m=ts.length:=⟨_,rfl⟩
 refine ⟨SEx.same (SEx.idx m (fun i=>⟨105,[(1,bP 4096),(6,bL (.tie ts)),(7,bI m),(8,bI i)],[(4096,.obx [.fz (.sl (.node false none ns)),.fz (.sl (.tie ts)),.fz (.int .i64 hr)])]⟩) (fun i=>rB (qz p (ts.drop i) i&&c)) ?_) (by rw [hm];rfl) rfl⟩
 intro i hi ih
 rw [<-hks]
 have hl:i<m->q9 _ _ _:=fun h=>q9.of p ts i c Tie.z (by omega)
 have he:i=m->(qz p (ts.drop i) i&&c)=c:=fun h=>qN (by omega)
 refine SEx.go (X:=XX) qc (fun n=>qa [] [(2,[1,6,7,8])] n) (fun _=>none) hO 60 ?_
 intro M R L N m0 m1 m2 m3 m4 m5
 cases M
 cbv
 repeat' first | refine m1 _ _ ?_ ?_ | refine m2 _ _ fun h=>?_ | refine m3 _ ?_ | (refine m4 _ _ (Hd.out ?_);try first | rw [hks] | rw [hk2] | rw [hk3]) | (refine m5 _ _ ?_;cbv)
 all_goals (clear m1 m2 m3 m4 m5;cases m0;(try clear hks;try clear hk2;try clear hk3);try dsimp only)
 all_goals try simp only [sm] at *
 all_goals (clear hO;subst hf0 hf1 hf2 hf3)
 all_goals (try simp only [qh (show i<9223372036854775807 by omega)])
 all_goals (try refine ⟨(ih (by omega)).same rfl ?_⟩)
 all_goals (clear ih)
 all_goals (generalize ts.getD i Tie.z=q at *;obtain ⟨x1,x2,x3,x4,x5⟩:=q;try dsimp only at *)
 all_goals (try simp only [vE,qew,Bool.and_eq_true,Bool.and_eq_false_iff,decide_eq_true_eq,decide_eq_false_iff_not] at *)
 all_goals first
  | omega
  | exact ⟨h3 _ (qo (z:=qi.z) (by omega)).out⟩
  | (refine ⟨?_⟩;simp only [List.length_take];omega)
  | (rw [he (by omega),hc];simp only [jg];apply decide_eq_decide.2;omega)
  | (refine (hl (by omega)).stop _ ?_;clear hl he;rw [hp,Bool.eq_false_iff];intro h;simp only [qeB,Bool.and_eq_true,Bool.or_eq_true,Bool.not_eq_true',decide_eq_true_eq] at h;simp only [nd] at h;first | omega | (rcases h with ⟨-,h | h⟩;(· simp_all;done);(· refine absurd h.2 ?_;rw [Bool.not_eq_false];assumption)) | (generalize ns.getD x2.toNat qi.z=r2 at *;generalize ns.getD x1.toNat qi.z=r1 at *;cases r1;cases r2;simp_all;done) | (simp_all;omega))
  | (refine (hl (by omega)).go ?_;clear hl he;rw [hp];simp only [qeB,Bool.and_eq_true,Bool.or_eq_true,Bool.not_eq_true',decide_eq_true_eq];first | (refine ⟨by omega,.inl ?_⟩;assumption) | (refine ⟨by omega,.inr ⟨⟨⟨by omega,by omega,by assumption⟩,?_⟩,?_⟩⟩<;>assumption))
  | trace_state
theorem Jz {α:Type}{p:α->Bool}:∀ {l:List α} {i:Nat} (n:Nat) (z:α),i<l.length->p (l.getD i z)=true->(zK p l n=(n+i:Nat)↔(l.take i).any p=false)
 | [],i,n,z,h,_=>absurd h (Nat.not_lt_zero _)
 | a::r,0,n,z,_,hp=>by simp only [List.getD_cons_zero] at hp;simp [zK,hp]
 | a::r,i+1,n,z,h,hp=>by
   simp only [List.getD_cons_succ] at hp
   simp only [List.length_cons] at h
   have ih:=Jz (l:=r) (i:=i) (n+1) z (by omega) hp
   have hge:=(qcw p r (n+1)).2
   unfold zK
   simp only [List.take_succ_cons,List.any_cons]
   cases ha:p a with
   | true=>simp;omega
   | false =>
     simp only [Bool.false_or,Bool.false_eq_true,if_false]
     rw [<-ih,show n+1+i=n+(i+1) by omega]
theorem qhh (a b:List Int):jC a b=jC b a:=by
 rw [KZ,KZ,Bool.eq_iff_iff]
 simp only [decide_eq_true_eq]
 exact ⟨fun h=>h.symm,fun h=>h.symm⟩
theorem qoB {ns:List qi}{ts:List Tie}{i:Nat}{q:Tie}(h:ts[i]?=some q):qeB ns ts i q=J9 ns ts i q:=by
 have hi:i<ts.length:=by rw [List.getElem?_eq_some_iff] at h;exact h.1
 have hq:ts.getD i Tie.z=q:=by rw [List.getD_eq_getElem?_getD,h];rfl
 unfold qeB J9
 cases hf:q.free with
 | false=>rfl
 | true =>
   have e:decide (KU ts q.dst=i)=!((ts.take i).any fun u=>u.free&&u.dst == q.dst):=by
    have:=Jz (p:=fun u:Tie=>u.free&&u.dst == q.dst) (l:=ts) (i:=i) 0 Tie.z hi (by rw [hq,hf];simp)
    rw [Nat.zero_add] at this
    rw [Bool.eq_iff_iff]
    simp only [decide_eq_true_eq,Bool.not_eq_true']
    exact this
   rw [e,qhh]
theorem qof (ns:List qi)(ts:List Tie):qz (qeB ns ts) ts 0=qz (J9 ns ts) ts 0:=wj ts 0 fun i q h=>by rw [Nat.zero_add];exact qoB h
def qrf (f:List qi->List Tie->Nat->Tie->Bool):Wr:=w2 qP dcI (fun t i=>rB (f t.nodes t.ties i.toNat (t.ties.getD i.toNat Tie.z))) (fun t i=>[InX i t.ties,LLe t.nodes maxLen,LLe t.ties maxLen,Wn t.nodes maxLen])
theorem qo6:qy Tryz.prog 133 (qrf J9):=qE fun t i h=>qhf t i (h _ (.head _)).out (h _ (.tail _ (.head _))).out (h _ (.tail _ (.tail _ (.head _)))).out (h _ (.tail _ (.tail _ (.tail _ (.head _))))).out
def qe1 (f:List qi->List Tie->Bool):Wr:=w1 qP (fun t=>rB (f t.nodes t.ties)) (fun t=>[LLe t.nodes maxLen,LLe t.ties maxLen,Wn t.nodes maxLen])
def JP (ns:List qi)(ts:List Tie):Bool:=qz (J9 ns ts) ts 0&&decide (ts.length<=14)
theorem qe0:qy Tryz.prog 116 (qe1 JP):=zH fun t h=>by unfold JP;rw [<-qof];exact qg1 t (h _ (.head _)).out (h _ (.tail _ (.head _))).out (h _ (.tail _ (.tail _ (.head _)))).out
end Go.Proofs.YtifnopmkdempdaaGreat.Ai
namespace Go.Proofs.YtifnopmkdempdaaGreat.Ai
open Go
set_option maxRecDepth 100000
variable [qg]
def qkR (x:Int):Int:=IntKind.i64.wrap (-x)
def WO (cs:List qi)(x:Int):List Int:=(cs.getD x.toNat qi.z).label
def wdB (cs:List qi)(l:List Int)(x:Int):Bool:=decide (0<=zG cs (zF x))&&(!ZP (WO cs (zG cs (zF x))) x&&(!ZP (WO cs (zG cs (zF x))) (qkR x)&&JN l (WO cs (zG cs (zF x)))))
def Wy (f:List qi->Int->Int):Wr:=w2 qP dcI (fun t p=>rI (f t.nodes p)) (fun t p=>[LLe t.nodes maxLen])
theorem wP:qy Tryz.prog 109 (Wy zG):=qE fun t p h=>K3 t p (h _ (.head _)).out
def qns (f:List qi->ByteArray->Int):Wr:=w2 qP dcS (fun t p=>rI (f t.nodes p)) (fun t p=>[LLe t.nodes maxLen])
def qh4 (l:List qi)(s:ByteArray):Int:=zK (fun q=>eqS q.name s) l 0
theorem qlf:qy Tryz.prog 152 (qns qh4):=qE fun t p h=>qbD t p (h _ (.head _)).out
theorem V2 (l:List qi)(p:Int):zG l p<l.length/\(0<=zG l p\/zG l p=-1):=by
 unfold zG
 have:=qcw (fun q:qi=>q.watch == p) l 0
 omega
theorem qck (t:qm)(l:List Int)(x:Int)(h1:t.nodes.length<=maxLen)(h2:∀ q∈t.nodes,Kb q.label)(hl:Kb l)(hx:inI x)(hp:0<zF x):qe Tryz.prog 119 [qQ t,aIs l,aI x] (rB (wdB t.nodes l x)):=by
 refine qe.of qc (fn:=Tryz.f119) (c:=Tryz.f119.body.getD .skip) (dr:=fun n=>qa 0 [(1,3)] n) Tryz.func119 rfl (by kernel_rfl) (by kernel_rfl) (by kernel_rfl) ?_
 obtain ⟨f0,hf0⟩:∃ f,f=zF:=⟨_,rfl⟩
 obtain ⟨f1,hf1⟩:∃ f,f=zG:=⟨_,rfl⟩
 obtain ⟨f2,hf2⟩:∃ f,f=ZP:=⟨_,rfl⟩
 obtain ⟨f3,hf3⟩:∃ f,f=JN:=⟨_,rfl⟩
 have hO:qp Tryz.prog (qK [(143,Vk f0),(121,KP f1),(54,qgP f2),(144,wM f3)]):=by
  subst hf0 hf1 hf2 hf3
  exact qb vJ (qb wD (qb qfl (qb qcK qd)))
 obtain ⟨ns,ts,hr⟩:=t
 have h1:ns.length<=maxLen:=h1
 have h2:∀ q∈ns,Kb q.label:=h2
 show SEx _ _ _ _ _ _ (rB (wdB ns l x))
 rw [<-hf0] at hp
 have hlt:f1 ns (f0 x)<ns.length:=by rw [hf1];exact (V2 _ _).1
 refine SEx.go (X:=XX) qc (fun n=>qa [] [] n) (fun _=>none) hO 60 ?_
 intro M R L N m0 m1 m2 m3 m4 m5
 cases M
 cbv
 repeat' first | refine m1 _ _ ?_ ?_ | refine m2 _ _ fun h=>?_ | refine m3 _ ?_ | (refine m4 _ _ (Hd.out ?_);try first | rw [hks] | rw [hk2] | rw [hk3]) | (refine m5 _ _ ?_;cbv)
 all_goals (clear m1 m2 m3 m4 m5;cases m0;(try clear hks;try clear hk2;try clear hk3);try dsimp only)
 all_goals try simp only [sm] at *
 all_goals (clear hO;subst hf0 hf1 hf2 hf3)
 all_goals first
  | exact ⟨hx⟩
  | exact ⟨h1⟩
  | exact ⟨hp⟩
  | exact hl
  | omega
  | exact ⟨(h2 _ (qo (z:=qi.z) (by omega)).out).len⟩
  | exact h2 _ (qo (z:=qi.z) (by omega)).out
  | (simp only [jg];unfold wdB WO qkR;delta qi.label;rw [decide_eq_false (by omega)];rfl)
  | (simp only [jg];unfold wdB WO qkR;delta qi.label;rw [decide_eq_true (by omega)];simp_all;done)
  | skip
structure qrV (x:Int):Prop where out:0<zF x
structure qqe (cs:List qi):Prop where out:∀ q∈cs,Kb q.label
theorem qgY (x:Int)(t:qm)(q:qi)(h1:t.nodes.length<=maxLen)(h2:∀ q∈t.nodes,Kb q.label)(hl:Kb q.label)(hx:inI x)(hp:0<zF x):qe Tryz.prog 118 [aI x,(false,[.ptr t.d]),(false,[.ptr q.d])] (rB (!wdB t.nodes q.label x)):=by
 refine qe.of qc (fn:=Tryz.f118) (c:=Tryz.f118.body.getD .skip) (dr:=fun n=>qa 0 [] n) Tryz.func118 rfl (by kernel_rfl) (by kernel_rfl) (by kernel_rfl) ?_
 obtain ⟨f,hf⟩:∃ f,f=wdB:=⟨_,rfl⟩
 have hO:qp Tryz.prog (qK [(119,w3 qP z8 dcI (fun t l x=>rB (f t.nodes l x)) (fun t l x=>[LLe t.nodes maxLen,qqe t.nodes,Kb l,IIn x,qrV x]))]):=by
  subst hf
  exact qb (jo fun t l x h=>qck t l x (h _ (.head _)).out (h _ (.tail _ (.head _))).out (h _ (.tail _ (.tail _ (.head _)))) (h _ (.tail _ (.tail _ (.tail _ (.head _))))).out (h _ (.tail _ (.tail _ (.tail _ (.tail _ (.head _)))))).out) qd
 obtain ⟨ns,ts,hr⟩:=t
 obtain ⟨x1,x2,x3⟩:=q
 have h1:ns.length<=maxLen:=h1
 have h2:∀ q∈ns,Kb q.label:=h2
 have hl:Kb x2:=hl
 refine SEx.go (X:=XX) qc (fun n=>qa [] [] n) (fun _=>none) hO 60 ?_
 intro M R L N m0 m1 m2 m3 m4 m5
 cases M
 cbv
 repeat' first | refine m1 _ _ ?_ ?_ | refine m2 _ _ fun h=>?_ | refine m3 _ ?_ | (refine m4 _ _ (Hd.out ?_);try first | rw [hks] | rw [hk2] | rw [hk3]) | (refine m5 _ _ ?_;cbv)
 all_goals (clear m1 m2 m3 m4 m5;cases m0;(try clear hks;try clear hk2;try clear hk3);try dsimp only)
 all_goals try simp only [sm] at *
 all_goals first
  | exact ⟨h1⟩
  | exact ⟨h2⟩
  | exact hl
  | exact ⟨hx⟩
  | exact ⟨hp⟩
  | (subst hf;rfl)
def ndP (cs:List qi)(i:Nat)(q:qi):Bool:=QS q&&(decide (qh4 cs q.name=i)&&(decide (q.watch=0)||decide (zG cs q.watch=i)))
def V6 (cs:List qi)(q:qi):Bool:=qz (fun _ x=>wdB cs q.label x) q.label 0
def Qq (cs:List qi):Bool:=decide (1<=(cs.length:Int)/\(cs.length:Int)<=7)&&(decide (((nd cs 0).label.length:Int)<=0)&&decide ((nd cs 0).watch=0))
theorem qcz (t:qm)(h1:t.nodes.length<=maxLen)(h2:∀ q∈t.nodes,yb q):qe Tryz.prog 132 [qQ t] (rB (Qq t.nodes&&(qz (ndP t.nodes) t.nodes 0&&qz (fun _ q=>V6 t.nodes q) t.nodes 0))):=by
 refine qe.of qc (fn:=Tryz.f132) (c:=Tryz.f132.body.getD .skip) (dr:=fun n=>qa 0 [(15,3),(16,32)] n) Tryz.func132 rfl (by kernel_rfl) (by kernel_rfl) (by kernel_rfl) ?_
 obtain ⟨f0,hf0⟩:∃ f,f=z6:=⟨_,rfl⟩
 obtain ⟨f1,hf1⟩:∃ f,f=QS:=⟨_,rfl⟩
 obtain ⟨f2,hf2⟩:∃ f,f=qh4:=⟨_,rfl⟩
 obtain ⟨f3,hf3⟩:∃ f,f=zG:=⟨_,rfl⟩
 obtain ⟨f4,hf4⟩:∃ f,f=zF:=⟨_,rfl⟩
 obtain ⟨f5,hf5⟩:∃ f,f=ZP:=⟨_,rfl⟩
 obtain ⟨f6,hf6⟩:∃ f,f=JN:=⟨_,rfl⟩
 have hO:qp Tryz.prog (qK [(104,yv f0),(151,Vy f1),(152,qns f2),(109,Wy f3),(134,Vk f4),(48,qgP f5),(153,wM f6)]):=by
  subst hf0 hf1 hf2 hf3 hf4 hf5 hf6
  exact qb jY (qb qdq (qb qlf (qb wP (qb Wv (qb yP (qb qce qd))))))
 obtain ⟨cs,ts,hr⟩:=t
 have h1:cs.length<=maxLen:=h1
 have h2:∀ q∈cs,yb q:=h2
 unfold maxLen at h1
 show SEx _ _ _ _ _ _ (rB (Qq cs&&(qz (ndP cs) cs 0&&qz (fun _ q=>V6 cs q) cs 0)))
 obtain ⟨c,hc⟩:∃ c,c=qz (fun _ q=>V6 cs q) cs 0:=⟨_,rfl⟩
 obtain ⟨p,hp⟩:∃ p,p=ndP cs:=⟨_,rfl⟩
 rw [<-hc,<-hp]
 refine SEx.go (X:=XX) qc (fun n=>qa [] [(4,[1,33,34,35]),(10,[1,66,67,68]),(13,[1,6,66,67,68,73,74,75])] n) (fun _=>none) hO 60 ?_
 intro M R L N m0 m1 m2 m3 m4 m5
 cases M
 cbv
 repeat' first | refine m1 _ _ ?_ ?_ | refine m2 _ _ fun h=>?_ | refine m3 _ ?_ | (refine m4 _ _ (Hd.out ?_);generalize hks:(List.cons _ _:List K)=ks) | (refine m5 _ _ ?_;cbv)
 all_goals (clear m1 m2 m3 m4 m5;cases m0;try dsimp only)
 all_goals try simp only [sm] at *
 all_goals (try simp only [hf0,z6,Bool.and_eq_true,Bool.and_eq_false_iff,decide_eq_true_eq,decide_eq_false_iff_not] at *)
 all_goals first
  | omega
  | (refine qI ?_ _;unfold Qq nd;delta qi.label qi.watch;rw [decide_eq_false (by omega)];rfl)
  | (refine qI ?_ _;unfold Qq nd;delta qi.label qi.watch;rw [Bool.and_assoc,decide_eq_true (by omega),Bool.true_and,decide_eq_false (by omega)];rfl)
  | (refine qI ?_ _;unfold Qq nd;delta qi.label qi.watch;rw [decide_eq_true (by omega),decide_eq_true (by omega),decide_eq_false (by assumption)];rfl)
  | skip
 have hh:Qq cs=true:=by
  unfold Qq nd;delta qi.label qi.watch;rw [decide_eq_true (by omega),decide_eq_true (by omega),decide_eq_true (by assumption)];rfl
 rw [hh,Bool.true_and]
 obtain ⟨m,hm⟩:∃ m,m=cs.length:=⟨_,rfl⟩
 refine ⟨SEx.same (SEx.idx m (fun i=>⟨120,[(1,bP 4096),(33,bL (.node false none cs)),(34,bI m),(35,bI i)],[(4096,.obx [.fz (.sl (.node false none cs)),.fz (.sl (.tie ts)),.fz (.int .i64 hr)])]⟩) (fun i=>rB (qz p (cs.drop i) i&&c)) ?_) (by rw [hm];rfl) rfl⟩
 intro i hi ih
 rw [<-hks]
 have hl:i<m->q9 _ _ _:=fun h=>q9.of p cs i c qi.z (by omega)
 have he:i=m->(qz p (cs.drop i) i&&c)=c:=fun h=>qN (by omega)
 refine SEx.go (X:=XX) qc (fun n=>qa [] [(4,[1,33,34,35]),(10,[1,66,67,68]),(13,[1,6,66,67,68,73,74,75])] n) (fun _=>none) hO 60 ?_
 intro M R L N m0 m1 m2 m3 m4 m5
 cases M
 cbv
 repeat' first | refine m1 _ _ ?_ ?_ | refine m2 _ _ fun h=>?_ | refine m3 _ ?_ | (refine m4 _ _ (Hd.out ?_);first | rw [hks] | generalize hk2:(List.cons _ _:List K)=k2) | (refine m5 _ _ ?_;cbv)
 all_goals (clear m1 m2 m3 m4 m5;cases m0;try dsimp only)
 all_goals try simp only [sm] at *
 all_goals (try simp only [qh (show i<9223372036854775807 by omega)])
 all_goals first
  | omega
  | exact h2 _ (qo (z:=qi.z) (by omega)).out
  | exact ⟨h1⟩
  | (refine (hl (by omega)).stop _ ?_;subst hf1 hf2 hf3;rw [hp];unfold ndP;delta qi.name qi.watch;simp_all;done)
  | (refine ⟨(ih (by omega)).same rfl ((hl (by omega)).go ?_)⟩;clear ih;subst hf1 hf2 hf3;rw [hp];unfold ndP;delta qi.name qi.watch;simp_all;done)
  | skip
 have him:i=m:=by omega
 rw [he him]
 clear ih hl he
 obtain ⟨pl,hpl⟩:∃ pl:Nat->qi->Bool,pl=fun _ q=>V6 cs q:=⟨_,rfl⟩
 rw [<-hpl] at hc
 refine ⟨SEx.same (SEx.idx m (fun i=>⟨120,[(1,bP 4096),(66,bL (.node false none cs)),(67,bI m),(68,bI i)],[(4096,.obx [.fz (.sl (.node false none cs)),.fz (.sl (.tie ts)),.fz (.int .i64 hr)])]⟩) (fun i=>rB (qz pl (cs.drop i) i&&true)) ?_) (by rw [hm];rfl) (by rw [hc,Bool.and_true];rfl)⟩
 intro k hk ih
 rw [<-hk2]
 have hl:k<m->q9 _ _ _:=fun h=>q9.of pl cs k true qi.z (by omega)
 have he:k=m->(qz pl (cs.drop k) k&&true)=true:=fun h=>qN (by omega)
 refine SEx.go (X:=XX) qc (fun n=>qa [] [(4,[1,33,34,35]),(10,[1,66,67,68]),(13,[1,6,66,67,68,73,74,75])] n) (fun _=>none) hO 60 ?_
 intro M R L N m0 m1 m2 m3 m4 m5
 cases M
 cbv
 repeat' first | refine m1 _ _ ?_ ?_ | refine m2 _ _ fun h=>?_ | refine m3 _ ?_ | (refine m4 _ _ (Hd.out ?_);first | rw [hks] | rw [hk2] | generalize hk3:(List.cons _ _:List K)=k3) | (refine m5 _ _ ?_;cbv)
 all_goals (clear m1 m2 m3 m4 m5;cases m0;try dsimp only)
 all_goals try simp only [sm] at *
 all_goals first
  | omega
  | (refine qI ?_ _;rw [he (by omega)];done)
  | skip
 have hkm:k<m:=by omega
 obtain ⟨q,hq⟩:∃ q,q=cs.getD k qi.z:=⟨_,rfl⟩
 have hnq:yb q:=by rw [hq];exact h2 _ (qo (z:=qi.z) (by omega)).out
 obtain ⟨d,hd⟩:∃ d,d=(qz pl (cs.drop (k+1)) (k+1)&&true):=⟨_,rfl⟩
 have hs:(qz pl (cs.drop k) k&&true)=(qz (fun _ x=>wdB cs q.label x) (q.label.drop 0) 0&&d):=by
  rw [VI qi.z (show k<cs.length by omega),hd,<-hq,hpl,Bool.and_assoc];rfl
 rw [hs]
 rw [<-hd] at ih
 clear hl he hs hd
 obtain ⟨x1,x2,x3⟩:=q
 obtain ⟨w,hw⟩:∃ w,w=x2.length:=⟨_,rfl⟩
 have hlw:=hnq.len
 have hall:=hnq.all
 dsimp only at hlw hall
 unfold maxLen at hlw
 refine ⟨SEx.same (SEx.idx w (fun j=>⟨120,[(1,bP 4096),(6,bP 24576),(66,bL (.node false none cs)),(67,bI m),(68,bI k),(73,bL (.i x2)),(74,bI w),(75,bI j)],[(4096,.obx [.fz (.sl (.node false none cs)),.fz (.sl (.tie ts)),.fz (.int .i64 hr)]),(24576,.obx [.fz (.str x1),.fz (.sl (.i x2)),.fz (.int .i64 x3)])]⟩) (fun j=>rB (qz (fun _ x=>wdB cs x2 x) (x2.drop j) j&&d)) ?_) (by rw [hw,<-hq];rfl) rfl⟩
 intro j hj ihj
 rw [<-hk3]
 have hl:j<w->q9 _ _ _:=fun h=>q9.of (fun _ x=>wdB cs x2 x) x2 j d (0:Int) (by omega)
 have he:j=w->(qz (fun _ x=>wdB cs x2 x) (x2.drop j) j&&d)=d:=fun h=>qN (by omega)
 have hlt:∀ x,f3 cs x<cs.length:=fun x=>by rw [hf3];exact (V2 _ _).1
 refine SEx.go (X:=XX) qc (fun n=>qa [] [(4,[1,33,34,35]),(10,[1,66,67,68]),(13,[1,6,66,67,68,73,74,75])] n) (fun _=>none) hO 60 ?_
 intro M R L N m0 m1 m2 m3 m4 m5
 cases M
 cbv
 repeat' first | refine m1 _ _ ?_ ?_ | refine m2 _ _ fun h=>?_ | refine m3 _ ?_ | (refine m4 _ _ (Hd.out ?_);try first | rw [hks] | rw [hk2] | rw [hk3]) | (refine m5 _ _ ?_;cbv)
 all_goals (clear m1 m2 m3 m4 m5;cases m0;(try clear hks;try clear hk2;try clear hk3);try dsimp only)
 all_goals try simp only [sm] at *
 all_goals (try simp only [qh (show j<9223372036854775807 by omega)])
 all_goals (try have h5:=hlt (f4 (x2.getD j 0)))
 all_goals first
  | omega
  | exact ⟨h1⟩
  | exact ⟨hall _ (qo (z:=(0:Int)) (by omega)).out⟩
  | exact ⟨(h2 _ (qo (z:=qi.z) (by omega)).out).len⟩
  | exact ⟨hlw,hall⟩
  | exact ⟨(h2 _ (qo (z:=qi.z) (by omega)).out).len,(h2 _ (qo (z:=qi.z) (by omega)).out).all⟩
  | (have hjw:j=w:=by omega
     rw [he hjw]
     simp only [qh (show k<9223372036854775807 by omega)]
     exact ⟨(ih hkm).same rfl rfl⟩)
  | (refine (hl (by omega)).stop _ ?_;subst hf3 hf4 hf5 hf6;unfold wdB WO qkR;delta qi.label;rw [decide_eq_false (by omega)];rfl)
  | (refine (hl (by omega)).stop _ ?_;subst hf3 hf4 hf5 hf6;unfold wdB WO qkR;delta qi.label;rw [decide_eq_true (by omega)];simp_all;done)
  | (refine ⟨(ihj (by omega)).same rfl ((hl (by omega)).go ?_)⟩;clear ih ihj;subst hf3 hf4 hf5 hf6;unfold wdB WO qkR;delta qi.label;rw [decide_eq_true (by omega)];simp_all;done)
  | skip
def Kw (q m:qi):Bool:=eqS m.name q.name||(decide (¬q.watch=0)&&m.watch == q.watch)
def ndI (cs:List qi)(i:Nat)(q:qi):Bool:=QS q&&qz (fun _ m=>!Kw q m) (cs.take i) 0
theorem qfe (t:qm)(h1:t.nodes.length<=maxLen)(h2:∀ q∈t.nodes,yb q):qe Tryz.prog 115 [qQ t] (rB (Qq t.nodes&&qz (ndI t.nodes) t.nodes 0)):=by
 refine qe.of qc (fn:=Tryz.f115) (c:=Tryz.f115.body.getD .skip) (dr:=fun n=>qa 0 [] n) Tryz.func115 rfl (by kernel_rfl) (by kernel_rfl) (by kernel_rfl) ?_
 obtain ⟨f1,hf1⟩:∃ f,f=QS:=⟨_,rfl⟩
 have hO:qp Tryz.prog (qK [(139,Vy f1)]):=by
  subst hf1
  exact qb qe2 qd
 obtain ⟨cs,ts,hr⟩:=t
 have h1:cs.length<=maxLen:=h1
 have h2:∀ q∈cs,yb q:=h2
 unfold maxLen at h1
 show SEx _ _ _ _ _ _ (rB (Qq cs&&qz (ndI cs) cs 0))
 obtain ⟨p,hp⟩:∃ p,p=ndI cs:=⟨_,rfl⟩
 rw [<-hp]
 refine SEx.go (X:=XX) qc (fun n=>qa [] [(4,[1,35,36,37]),(9,[1,4,35,36,37,48,49,50])] n) (fun _=>none) hO 60 ?_
 intro M R L N m0 m1 m2 m3 m4 m5
 cases M
 cbv
 repeat' first | refine m1 _ _ ?_ ?_ | refine m2 _ _ fun h=>?_ | refine m3 _ ?_ | (refine m4 _ _ (Hd.out ?_);generalize hks:(List.cons _ _:List K)=ks) | (refine m5 _ _ ?_;cbv)
 all_goals (clear m1 m2 m3 m4 m5;cases m0;try dsimp only)
 all_goals try simp only [sm] at *
 all_goals first
  | omega
  | (refine qI ?_ _;unfold Qq nd;delta qi.label qi.watch;rw [decide_eq_false (by omega)];rfl)
  | (refine qI ?_ _;unfold Qq nd;delta qi.label qi.watch;rw [Bool.and_assoc,decide_eq_true (by omega),Bool.true_and,decide_eq_false (by omega)];rfl)
  | (refine qI ?_ _;unfold Qq nd;delta qi.label qi.watch;rw [decide_eq_true (by omega),decide_eq_true (by omega),decide_eq_false (by assumption)];rfl)
  | skip
 have hh:Qq cs=true:=by
  unfold Qq nd;delta qi.label qi.watch;rw [decide_eq_true (by omega),decide_eq_true (by omega),decide_eq_true (by assumption)];rfl
 rw [hh,Bool.true_and]
 obtain ⟨m,hm⟩:∃ m,m=cs.length:=⟨_,rfl⟩
 refine ⟨SEx.same (SEx.idx m (fun i=>⟨73,[(1,bP 4096),(35,bL (.node false none cs)),(36,bI m),(37,bI i)],[(4096,.obx [.fz (.sl (.node false none cs)),.fz (.sl (.tie ts)),.fz (.int .i64 hr)])]⟩) (fun i=>rB (qz p (cs.drop i) i&&true)) ?_) (by rw [hm];rfl) (by rw [Bool.and_true];rfl)⟩
 intro i hi ih
 rw [<-hks]
 have hl:i<m->q9 _ _ _:=fun h=>q9.of p cs i true qi.z (by omega)
 have he:i=m->(qz p (cs.drop i) i&&true)=true:=fun h=>qN (by omega)
 refine SEx.go (X:=XX) qc (fun n=>qa [] [(4,[1,35,36,37]),(9,[1,4,35,36,37,48,49,50])] n) (fun _=>none) hO 60 ?_
 intro M R L N m0 m1 m2 m3 m4 m5
 cases M
 cbv
 repeat' first | refine m1 _ _ ?_ ?_ | refine m2 _ _ fun h=>?_ | refine m3 _ ?_ | (refine m4 _ _ (Hd.out ?_);first | rw [hks] | generalize hk2:(List.cons _ _:List K)=k2) | (refine m5 _ _ ?_;cbv)
 all_goals (clear m1 m2 m3 m4 m5;cases m0;try dsimp only)
 all_goals try simp only [sm] at *
 all_goals (try simp only [qh (show i<9223372036854775807 by omega)])
 all_goals first
  | omega
  | exact h2 _ (qo (z:=qi.z) (by omega)).out
  | (refine qI ?_ _;rw [he (by omega)];done)
  | (refine (hl (by omega)).stop _ ?_;subst hf1;rw [hp];unfold ndI;simp_all;done)
  | skip
 have him:i<m:=by omega
 have hq1:f1 (cs.getD i qi.z)=true:=by assumption
 obtain ⟨q,hq⟩:∃ q,q=cs.getD i qi.z:=⟨_,rfl⟩
 rw [<-hq] at hq1
 obtain ⟨l,hll⟩:∃ l,l=cs.take i:=⟨_,rfl⟩
 obtain ⟨d,hd⟩:∃ d,d=(qz p (cs.drop (i+1)) (i+1)&&true):=⟨_,rfl⟩
 have hs:(qz p (cs.drop i) i&&true)=(qz (fun _ m=>!Kw q m) (l.drop 0) 0&&d):=by
  rw [VI qi.z (show i<cs.length by omega),hd,<-hq,hp,Bool.and_assoc,ndI,<-hf1,hq1,<-hll,Bool.true_and];rfl
 rw [hs]
 rw [<-hd] at ih
 clear hl he hs hd
 obtain ⟨x1,x2,x3⟩:=q
 obtain ⟨w,hw⟩:∃ w,w=l.length:=⟨_,rfl⟩
 have hwl:w<=cs.length:=by rw [hw,hll,List.length_take];omega
 refine ⟨SEx.same (SEx.idx w (fun j=>⟨73,[(1,bP 4096),(4,bP 16384),(35,bL (.node false none cs)),(36,bI m),(37,bI i),(48,bL (.node false none l)),(49,bI w),(50,bI j)],[(4096,.obx [.fz (.sl (.node false none cs)),.fz (.sl (.tie ts)),.fz (.int .i64 hr)]),(16384,.obx [.fz (.str x1),.fz (.sl (.i x2)),.fz (.int .i64 x3)])]⟩) (fun j=>rB (qz (fun _ m=>!Kw ⟨x1,x2,x3⟩ m) (l.drop j) j&&d)) ?_) (by rw [hw,<-hq,hll];rfl) rfl⟩
 intro j hj ihj
 rw [<-hk2]
 have hl:j<w->q9 _ _ _:=fun h=>q9.of (fun _ m=>!Kw ⟨x1,x2,x3⟩ m) l j d qi.z (by omega)
 have he:j=w->(qz (fun _ m=>!Kw ⟨x1,x2,x3⟩ m) (l.drop j) j&&d)=d:=fun h=>qN (by omega)
 refine SEx.go (X:=XX) qc (fun n=>qa [] [(4,[1,35,36,37]),(9,[1,4,35,36,37,48,49,50])] n) (fun _=>none) hO 60 ?_
 intro M R L N m0 m1 m2 m3 m4 m5
 cases M
 cbv
 repeat' first | refine m1 _ _ ?_ ?_ | refine m2 _ _ fun h=>?_ | refine m3 _ ?_ | (refine m4 _ _ (Hd.out ?_);try first | rw [hks] | rw [hk2] | rw [hk3]) | (refine m5 _ _ ?_;cbv)
 all_goals (clear m1 m2 m3 m4 m5;cases m0;(try clear hks;try clear hk2;try clear hk3);try dsimp only)
 all_goals try simp only [sm] at *
 all_goals (try simp only [qh (show j<9223372036854775807 by omega)])
 all_goals first
  | omega
  | (refine (hl (by omega)).stop _ ?_;unfold Kw eqS;delta qi.name qi.watch;simp_all;done)
  | (refine ⟨(ihj (by omega)).same rfl ((hl (by omega)).go ?_)⟩;clear ih ihj;unfold Kw eqS;delta qi.name qi.watch;simp_all;done)
  | (rw [he (by omega)];simp only [qh (show i<9223372036854775807 by omega)];exact ⟨(ih (by omega)).same rfl rfl⟩)
  | skip
theorem qlI {α:Type}(p q:α->Bool):∀ l:List α,(l.any fun x=>p x||q x)=(l.any p||l.any q)
 | []=>rfl
 | a::r=>by simp only [List.any_cons,qlI p q r];cases p a<;>cases q a<;>cases r.any p<;>cases r.any q<;>rfl
theorem qjd {α:Type}(c:Bool)(q:α->Bool):∀ l:List α,(l.any fun x=>c&&q x)=(c&&l.any q)
 | []=>by simp
 | a::r=>by simp only [List.any_cons,qjd c q r];cases c<;>rfl
theorem qmM (s:ByteArray):eqS s s=true:=by unfold eqS;simp
theorem qq0 {cs:List qi}{i:Nat}{q:qi}(h:cs[i]?=some q):ndI cs i q=ndP cs i q:=by
 have hi:i<cs.length:=by rw [List.getElem?_eq_some_iff] at h;exact h.1
 have hq:cs.getD i qi.z=q:=by rw [List.getD_eq_getElem?_getD,h];rfl
 have e1:decide (qh4 cs q.name=i)=!((cs.take i).any fun r=>eqS r.name q.name):=by
  have:=Jz (p:=fun r:qi=>eqS r.name q.name) (l:=cs) (i:=i) 0 qi.z hi (by rw [hq];exact qmM _)
  rw [Nat.zero_add] at this
  rw [Bool.eq_iff_iff]
  simp only [decide_eq_true_eq,Bool.not_eq_true']
  exact this
 have e2:decide (zG cs q.watch=i)=!((cs.take i).any fun r=>r.watch == q.watch):=by
  have:=Jz (p:=fun r:qi=>r.watch == q.watch) (l:=cs) (i:=i) 0 qi.z hi (by rw [hq];exact beq_self_eq_true _)
  rw [Nat.zero_add] at this
  rw [Bool.eq_iff_iff]
  simp only [decide_eq_true_eq,Bool.not_eq_true']
  exact this
 have e3:qz (fun _ m=>!Kw q m) (cs.take i) 0=!(((cs.take i).any fun r=>eqS r.name q.name)||(decide (¬q.watch=0)&&(cs.take i).any fun r=>r.watch == q.watch)):=by
  rw [KR,<-qjd,<-qlI,List.not_any_eq_all_not];rfl
 unfold ndI ndP
 rw [e1,e2,e3,Bool.not_or,Bool.not_and,decide_not,Bool.not_not]
theorem qnD (cs:List qi):qz (ndI cs) cs 0=qz (ndP cs) cs 0:=wj cs 0 fun i q h=>by rw [Nat.zero_add];exact qq0 h
structure qpM (cs:List qi):Prop where out:∀ q∈cs,yb q
def Qm (cs:List qi):Bool:=Qq cs&&qz (ndP cs) cs 0
def qiz (cs:List qi):Bool:=qz (fun _ q=>V6 cs q) cs 0
def Jo (f:List qi->Bool):Wr:=w1 qP (fun t=>rB (f t.nodes)) (fun t=>[LLe t.nodes maxLen,qpM t.nodes])
def nlB (cs:List qi):Bool:=Qm cs&&qiz cs
theorem qaD:qy Tryz.prog 132 (Jo nlB):=zH fun t h=>by
 unfold nlB Qm qiz
 rw [Bool.and_assoc]
 exact qcz t (h _ (.head _)).out (h _ (.tail _ (.head _))).out
theorem qcX:qy Tryz.prog 115 (Jo Qm):=zH fun t h=>by
 unfold Qm
 rw [<-qnD]
 exact qfe t (h _ (.head _)).out (h _ (.tail _ (.head _))).out
def qdA (n:Int):Bool:=decide (1<=n)&&decide (n<=10)
def q8 (t:qm):Bool:=Qm t.nodes&&(qiz t.nodes&&(JP t.nodes t.ties&&qdA t.hor))
structure jz (t:qm):Prop where
 len:t.nodes.length<=maxLen
 tlen:t.ties.length<=maxLen
 nodes:∀ q∈t.nodes,yb q
theorem qap (t:qm)(ht:jz t):qe Tryz.prog 106 [qQ t] (rB (q8 t)):=by
 refine qe.of qc (fn:=Tryz.f106) (c:=Tryz.f106.body.getD .skip) (dr:=fun n=>qa 0 [] n) Tryz.func106 rfl (by kernel_rfl) (by kernel_rfl) (by kernel_rfl) ?_
 have h1:=ht.len
 have h2:=ht.tlen
 have h3:=ht.nodes
 clear ht
 obtain ⟨f1,hf1⟩:∃ f,f=nlB:=⟨_,rfl⟩
 obtain ⟨f3,hf3⟩:∃ f,f=z6:=⟨_,rfl⟩
 obtain ⟨f4,hf4⟩:∃ f,f=J9:=⟨_,rfl⟩
 have hO:qp Tryz.prog (qK [(132,Jo f1),(104,yv f3),(133,qrf f4)]):=by
  subst hf1 hf3 hf4
  exact qb qaD (qb jY (qb qo6 qd))
 obtain ⟨ns,ts,hr⟩:=t
 have h1:ns.length<=maxLen:=h1
 have h2:ts.length<=maxLen:=h2
 have h3:∀ q∈ns,yb q:=h3
 unfold maxLen at h2
 obtain ⟨a,ha⟩:∃ a,a=decide (ts.length<=14):=⟨_,rfl⟩
 obtain ⟨d,hd⟩:∃ a,a=qdA hr:=⟨_,rfl⟩
 obtain ⟨p,hp⟩:∃ p:Nat->Tie->Bool,p=f4 ns ts:=⟨_,rfl⟩
 have hs:q8 ⟨ns,ts,hr⟩=(f1 ns&&(qz p ts 0&&(a&&d))):=by
  rw [hf1,hp,hf4,ha,hd];unfold q8 JP nlB;rw [Bool.and_assoc,Bool.and_assoc]
 rw [hs]
 have hdd:f3 hr 1 10=d:=by rw [hf3,hd];rfl
 clear hd hs
 refine SEx.go (X:=XX) qc (fun n=>qa [] [(4,[1,21,22])] n) (fun _=>none) hO 60 ?_
 intro M R L N m0 m1 m2 m3 m4 m5
 cases M
 cbv
 repeat' first | refine m1 _ _ ?_ ?_ | refine m2 _ _ fun h=>?_ | refine m3 _ ?_ | (refine m4 _ _ (Hd.out ?_);generalize hks:(List.cons _ _:List K)=ks) | (refine m5 _ _ ?_;cbv)
 all_goals (clear m1 m2 m3 m4 m5;cases m0;try dsimp only)
 all_goals try simp only [sm] at *
 all_goals (try rw [hdd] at *)
 all_goals first
  | exact ⟨h1⟩
  | exact ⟨h3⟩
  | (refine qI ?_ _;simp_all;done)
  | (refine qI ?_ _;rw [ha,decide_eq_false (by omega)];simp;done)
  | skip
 rw [show f1 ns=true by assumption,Bool.true_and,show a=true by rw [ha];exact decide_eq_true (by omega),show d=true by assumption,Bool.true_and]
 obtain ⟨m,hm⟩:∃ m,m=ts.length:=⟨_,rfl⟩
 refine ⟨SEx.same (SEx.idx m (fun i=>⟨30,[(1,bP 4096),(21,bI m),(22,bI i)],[(4096,.obx [.fz (.sl (.node false none ns)),.fz (.sl (.tie ts)),.fz (.int .i64 hr)])]⟩) (fun i=>rB (qz p (ts.drop i) i&&true)) ?_) (by rw [hm];rfl) rfl⟩
 intro i hi ih
 rw [<-hks]
 have hl:i<m->q9 _ _ _:=fun h=>q9.of p ts i true Tie.z (by omega)
 have he:i=m->(qz p (ts.drop i) i&&true)=true:=fun h=>qN (by omega)
 refine SEx.go (X:=XX) qc (fun n=>qa [] [(4,[1,21,22])] n) (fun _=>none) hO 60 ?_
 intro M R L N m0 m1 m2 m3 m4 m5
 cases M
 cbv
 repeat' first | refine m1 _ _ ?_ ?_ | refine m2 _ _ fun h=>?_ | refine m3 _ ?_ | (refine m4 _ _ (Hd.out ?_);try first | rw [hks] | rw [hk2] | rw [hk3]) | (refine m5 _ _ ?_;cbv)
 all_goals (clear m1 m2 m3 m4 m5;cases m0;(try clear hks;try clear hk2;try clear hk3);try dsimp only)
 all_goals try simp only [sm] at *
 all_goals (try simp only [qh (show i<9223372036854775807 by omega)])
 all_goals first
  | omega
  | exact ⟨h1⟩
  | exact ⟨h2⟩
  | exact ⟨fun q hq=>(h3 q hq).len⟩
  | exact ⟨⟨by omega,by omega⟩⟩
  | (refine qI ?_ _;rw [he (by omega)];done)
  | (refine (hl (by omega)).stop _ ?_;rw [hp];assumption)
  | (refine ⟨(ih (by omega)).same rfl ((hl (by omega)).go ?_)⟩;rw [hp];assumption)
  | skip
end Go.Proofs.YtifnopmkdempdaaGreat.Ai
namespace Go.Proofs.YtifnopmkdempdaaGreat.Ai
open Go
set_option maxRecDepth 100000
variable [qg]
def qrM {α β:Type}(k:Nat)(g h:Bool)(d:Dc α)(e:Dc β):Dc (α×β):=⟨fun a=>aF k [.ptr (d.enc a.1).2,.ptr (e.enc a.2).2],fun | (false,[.fn f [.ptr x,.ptr y]])=>(match nq f k with | true=>(match d.dec (g,x),e.dec (h,y) with | some a,some b=>some (a,b) | _,_=>none) | false=>none) | _=>none,by
 intro x a hh
 split at hh
 . split at hh
   . rename_i hk
     obtain rfl:=QQ.1 hk
     split at hh
     . rename_i a' b' ha hb
       simp only [Option.some.injEq] at hh
       subst hh
       have e1:=congrArg Prod.snd (d.ok _ _ ha)
       have e2:=congrArg Prod.snd (e.ok _ _ hb)
       simp only [zU] at e1 e2
       simp only [zU,D.erL,D.er,aF,e1,e2]
     . cases hh
   . cases hh
 . cases hh⟩
structure qrF (l:List Int):Prop where out:∀ x∈l,inI x/\0<zF x
theorem We {x:Int}(h0:¬x=0)(h1:-3<=x)(h2:x<=3):0<zF x:=by
 unfold zF
 split
 . rw [qv (by omega) (by omega)];omega
 . omega
theorem Yy {x:Int}(h1:-3<=x)(h2:x<=3):zF x<=3:=by
 unfold zF
 split
 . rw [qv (by omega) (by omega)];omega
 . omega
theorem ZV {l:List Int}(h:qX l=true){x:Int}(hx:x∈l):¬x=0/\-3<=x/\x<=3:=by
 obtain ⟨i,hi,rfl⟩:=List.mem_iff_getElem.1 hx
 have:=of_decide_eq_true (KQ h i hi)
 rw [zB hi] at this
 exact ⟨this.1,this.2.1,this.2.2.1⟩
theorem vU {l:List Int}(h:qX l=true):∀ x∈l,inI x/\0<zF x:=fun x hx=>by
 have ⟨h1,h2,h3⟩:=ZV h hx
 exact ⟨by rw [kW];omega,We h1 h2 h3⟩
theorem QY {α:Type}{p:Nat->α->Bool}:∀ {l:List α} {n:Nat} {q:α},qz p l n=true->q∈l->∃ i,p i q=true
 | a::r,n,q,h,hq=>by
   unfold qz at h
   rw [Bool.and_eq_true] at h
   rcases List.mem_cons.1 hq with rfl | hq
   . exact ⟨n,h.1⟩
   . exact QY h.2 hq
theorem W7 {cs:List qi}(h:Qm cs=true){q:qi}(hq:q∈cs):QS q=true:=by
 unfold Qm at h
 rw [Bool.and_eq_true] at h
 obtain ⟨i,hi⟩:=QY h.2 hq
 unfold ndP at hi
 rw [Bool.and_eq_true] at hi
 exact hi.1
theorem W5 {q:qi}(h:QS q=true):qX q.label=true:=by
 unfold QS at h
 simp only [Bool.and_eq_true] at h
 exact h.1.2
def qr0 (l:List Int)(t:qm)(q:qi):Bool:=l.any fun x=>!wdB t.nodes q.label x
theorem qao (t:qm)(ht:jz t):qe Tryz.prog 85 [qQ t] (rB (q8 t)):=by
 refine qe.of qc (fn:=Tryz.f85) (c:=Tryz.f85.body.getD .skip) (dr:=fun n=>qa 0 [] n) Tryz.func85 rfl (by kernel_rfl) (by kernel_rfl) (by kernel_rfl) ?_
 have h1:=ht.len
 have h2:=ht.tlen
 have h3:=ht.nodes
 clear ht
 obtain ⟨f1,hf1⟩:∃ f,f=Qm:=⟨_,rfl⟩
 obtain ⟨f2,hf2⟩:∃ f,f=JP:=⟨_,rfl⟩
 obtain ⟨f3,hf3⟩:∃ f,f=qr0:=⟨_,rfl⟩
 have hO:qp Tryz.prog (qK [(115,Jo f1),(116,qe1 f2),(117,w2 z8 (qrM 118 true true qP JY) (fun l x=>rB (f3 l x.1 x.2)) (fun l x=>[LLe l maxLen,qrF l,LLe x.1.nodes maxLen,qpM x.1.nodes,yb x.2]))]):=by
  subst hf1 hf2 hf3
  exact qb qcX (qb qe0 (qb (qE fun l x h=>by
   have g1:=(h _ (.head _)).out
   have g2:=(h _ (.tail _ (.head _))).out
   have g3:=(h _ (.tail _ (.tail _ (.head _)))).out
   have g4:=(h _ (.tail _ (.tail _ (.tail _ (.head _))))).out
   have g5:=h _ (.tail _ (.tail _ (.tail _ (.tail _ (.head _)))))
   exact ZR l _ _ _ (fun y hy=>qgY y x.1 x.2 g3 (fun q hq=>⟨(g4 q hq).len,(g4 q hq).all⟩) ⟨g5.len,g5.all⟩ (g2 y hy).1 (g2 y hy).2) g1) qd))
 obtain ⟨ns,ts,hr⟩:=t
 have h1:ns.length<=maxLen:=h1
 have h2:ts.length<=maxLen:=h2
 have h3:∀ q∈ns,yb q:=h3
 have h1':=h1
 unfold maxLen at h1'
 obtain ⟨d,hd⟩:∃ a,a=qdA hr:=⟨_,rfl⟩
 obtain ⟨p,hp⟩:∃ p:Nat->qi->Bool,p=fun _ q=>V6 ns q:=⟨_,rfl⟩
 have hs:q8 ⟨ns,ts,hr⟩=(f1 ns&&(f2 ns ts&&(d&&qz p ns 0))):=by
  rw [hf1,hp,hf2,hd];unfold q8 qiz;dsimp only
  generalize qz (fun _ q=>V6 ns q) ns 0=a
  generalize JP ns ts=b
  generalize qdA hr=c
  generalize Qm ns=e
  revert a b c e;decide
 rw [hs]
 clear hs
 refine SEx.go (X:=XX) qc (fun n=>qa [] [(4,[1,24,25,26])] n) (fun _=>none) hO 60 ?_
 intro M R L N m0 m1 m2 m3 m4 m5
 cases M
 cbv
 repeat' first | refine m1 _ _ ?_ ?_ | refine m2 _ _ fun h=>?_ | refine m3 _ ?_ | (refine m4 _ _ (Hd.out ?_);generalize hks:(List.cons _ _:List K)=ks) | (refine m5 _ _ ?_;cbv)
 all_goals (clear m1 m2 m3 m4 m5;cases m0;try dsimp only)
 all_goals try simp only [sm] at *
 all_goals first
  | exact ⟨h1⟩
  | exact ⟨h2⟩
  | exact ⟨h3⟩
  | exact ⟨fun q hq=>(h3 q hq).len⟩
  | (refine qI ?_ _;rw [show f1 ns=false by assumption];rfl)
  | (refine qI ?_ _;rw [show f2 ns ts=false by assumption];simp;done)
  | (refine qI ?_ _;rw [hd,qdA,decide_eq_false (by omega)];simp;done)
  | (refine qI ?_ _;rw [hd,qdA,decide_eq_false (show ¬hr<=10 by omega)];simp;done)
  | skip
 have hn1:Qm ns=true:=by rw [<-hf1];assumption
 rw [show f1 ns=true by assumption,show f2 ns ts=true by assumption,show d=true by rw [hd,qdA,decide_eq_true (by omega),decide_eq_true (by omega)];rfl,Bool.true_and,Bool.true_and,Bool.true_and]
 obtain ⟨m,hm⟩:∃ m,m=ns.length:=⟨_,rfl⟩
 refine ⟨SEx.same (SEx.idx m (fun i=>⟨35,[(1,bP 4096),(24,bL (.node false none ns)),(25,bI m),(26,bI i)],[(4096,.obx [.fz (.sl (.node false none ns)),.fz (.sl (.tie ts)),.fz (.int .i64 hr)])]⟩) (fun i=>rB (qz p (ns.drop i) i&&true)) ?_) (by rw [hm];rfl) (by rw [Bool.and_true];rfl)⟩
 intro i hi ih
 rw [<-hks]
 have hl:i<m->q9 _ _ _:=fun h=>q9.of p ns i true qi.z (by omega)
 have he:i=m->(qz p (ns.drop i) i&&true)=true:=fun h=>qN (by omega)
 have hmem:i<m->Mem (ns.getD i qi.z) ns:=fun h=>qo (by omega)
 have hps:∀ q:qi,f3 q.label ⟨ns,ts,hr⟩ q=!p i q:=fun q=>by
  rw [hf3,hp];show (q.label.any fun x=>!wdB ns q.label x)=!qz (fun _ x=>wdB ns q.label x) q.label 0;rw [KR,List.not_all_eq_any_not]
 refine SEx.go (X:=XX) qc (fun n=>qa [] [(4,[1,24,25,26])] n) (fun _=>none) hO 60 ?_
 intro M R L N m0 m1 m2 m3 m4 m5
 cases M
 cbv
 repeat' first | refine m1 _ _ ?_ ?_ | refine m2 _ _ fun h=>?_ | refine m3 _ ?_ | (refine m4 _ _ (Hd.out ?_);try first | rw [hks] | rw [hk2] | rw [hk3]) | (refine m5 _ _ ?_;cbv)
 all_goals (clear m1 m2 m3 m4 m5;cases m0;(try clear hks;try clear hk2;try clear hk3);try dsimp only)
 all_goals try simp only [sm] at *
 all_goals (try simp only [qh (show i<9223372036854775807 by omega)])
 all_goals first
  | omega
  | exact ⟨h1⟩
  | exact ⟨h3⟩
  | exact ⟨(h3 _ (hmem (by omega)).out).len⟩
  | exact ⟨vU (W5 (W7 hn1 (hmem (by omega)).out))⟩
  | exact h3 _ (hmem (by omega)).out
  | (refine qI ?_ _;rw [he (by omega)];done)
  | (refine (hl (by omega)).stop _ ?_;have hx:=hps (ns.getD i qi.z);simp_all;done)
  | (refine ⟨(ih (by omega)).same rfl ((hl (by omega)).go ?_)⟩;clear ih;have hx:=hps (ns.getD i qi.z);simp_all;done)
  | skip
def wQ (f:qm->Bool):Wr:=w1 qP (fun t=>rB (f t)) (fun t=>[jz t])
theorem WS:qy Tryz.prog 106 (wQ q8):=zH fun t h=>qap t (h _ (.head _))
theorem qd7:qy Tryz.prog 85 (wQ q8):=zH fun t h=>qao t (h _ (.head _))
theorem zl {t:qm}(h:q8 t=true):1<=t.hor/\t.hor<=10:=by
 unfold q8 qdA at h
 simp only [Bool.and_eq_true,decide_eq_true_eq] at h
 exact h.2.2.2
theorem qM {t:qm}(h:q8 t=true):1<=t.nodes.length/\t.nodes.length<=7:=by
 unfold q8 Qm Qq at h
 simp only [Bool.and_eq_true,decide_eq_true_eq] at h
 omega
theorem zP {t:qm}(h:q8 t=true):t.ties.length<=14:=by
 unfold q8 JP at h
 simp only [Bool.and_eq_true,decide_eq_true_eq] at h
 exact h.2.2.1.2
theorem kF {t:qm}(h:q8 t=true){q:qi}(hq:q∈t.nodes):qX q.label=true:=by
 unfold q8 at h
 rw [Bool.and_eq_true] at h
 exact W5 (W7 h.1 hq)
end Go.Proofs.YtifnopmkdempdaaGreat.Ai
namespace Go.Proofs.YtifnopmkdempdaaGreat.Ai
open Go
set_option maxRecDepth 100000
variable [qg]
def jA (times:List Int)(w:Int):Bool:=decide (0<=w)&&decide (¬times.getD w.toNat 0=-1)
def Q1 (now:Int)(i:Nat)(n:Int):Bool:=decide ((i=0->n=0)/\(0<i->-1<=n/\n<=now-1))
def qfn (cs:List qi)(times:List Int)(i:Nat)(v:Int):Bool:=decide (¬v=0) == jA times (zG cs ((i:Int)+1))
def jS (t:qm)(x:qf):Bool:=decide (0<=x.now/\x.now<=t.hor+1/\x.times.length=t.nodes.length)&&(qR x.vals&&(qz (Q1 x.now) x.times 0&&qz (qfn t.nodes x.times) x.vals 0))
structure Q9 (x:qf):Prop where
 now:inI x.now
 tlen:x.times.length<=maxLen
 vlen:x.vals.length<=maxLen
theorem qW {l:List Int}(h:qR l=true):l.length=3:=by
 unfold qR at h
 simp only [Bool.and_eq_true,decide_eq_true_eq] at h
 exact h.2
theorem K7 (a b:Int):decide (¬a=b)=!(a == b):=by by_cases h:a=b<;>simp [h]
theorem qgp (t:qm)(x:qf)(ht:q8 t=true)(hx:Q9 x):qe Tryz.prog 86 [qQ t,qH x] (rB (jS t x)):=by
 refine qe.of qc (fn:=Tryz.f86) (c:=Tryz.f86.body.getD .skip) (dr:=fun n=>qa 0 [] n) Tryz.func86 rfl (by kernel_rfl) (by kernel_rfl) (by kernel_rfl) ?_
 have hh:=zl ht
 have hn:=qM ht
 have h2:=hx.tlen
 have h3:=hx.vlen
 have h4:=hx.now
 clear ht hx
 rw [kW] at h4
 obtain ⟨f1,hf1⟩:∃ f,f=qR:=⟨_,rfl⟩
 obtain ⟨f2,hf2⟩:∃ f,f=zG:=⟨_,rfl⟩
 have hO:qp Tryz.prog (qK [(120,ZB f1),(121,KP f2)]):=by
  subst hf1 hf2
  exact qb JV (qb wD qd)
 obtain ⟨ns,ts,hr⟩:=t
 obtain ⟨now,times,vals⟩:=x
 dsimp only at hh hn h2 h3 h4
 unfold maxLen at h2 h3
 obtain ⟨p,hp⟩:∃ p,p=Q1 now:=⟨_,rfl⟩
 obtain ⟨q,hq⟩:∃ q,q=qfn ns times:=⟨_,rfl⟩
 obtain ⟨d,hd⟩:∃ d,d=qz q vals 0:=⟨_,rfl⟩
 have hs:jS ⟨ns,ts,hr⟩ ⟨now,times,vals⟩=(decide (0<=now/\now<=hr+1/\times.length=ns.length)&&(f1 vals&&(qz p times 0&&d))):=by
  rw [hf1,hp,hd,hq];rfl
 rw [hs]
 clear hs
 obtain ⟨r,hrr⟩:∃ r,r=(decide (0<=now/\now<=hr+1/\times.length=ns.length)&&(f1 vals&&(qz p times 0&&d))):=⟨_,rfl⟩
 rw [<-hrr]
 have h1r:IntKind.i64.wrap (hr+1)=hr+1:=qv (by omega) (by omega)
 refine SEx.go (X:=XX) qc (fun n=>qa [] [(4,[2,3,37,38,39]),(10,[2,3,67,68,69])] n) (fun _=>none) hO 60 ?_
 intro M R L N m0 m1 m2 m3 m4 m5
 cases M
 cbv
 repeat' first | refine m1 _ _ ?_ ?_ | refine m2 _ _ fun h=>?_ | refine m3 _ ?_ | (refine m4 _ _ (Hd.out ?_);generalize hks:(List.cons _ _:List K)=ks) | (refine m5 _ _ ?_;cbv)
 all_goals (clear m1 m2 m3 m4 m5;cases m0;try dsimp only)
 all_goals try simp only [sm] at *
 all_goals (try rw [h1r] at *)
 all_goals first
  | omega
  | exact ⟨h3⟩
  | (refine qI ?_ _;rw [hrr,decide_eq_false (by omega)];rfl)
  | (refine qI ?_ _;rw [hrr,show f1 vals=false by assumption];simp;done)
  | skip
 rw [show f1 vals=true by assumption,decide_eq_true (by omega),Bool.true_and,Bool.true_and] at hrr
 rw [hrr]
 clear hrr
 have hv3:vals.length=3:=by apply qW;rw [<-hf1];assumption
 obtain ⟨m,hm⟩:∃ m,m=times.length:=⟨_,rfl⟩
 refine ⟨SEx.same (SEx.idx m (fun i=>⟨92,[(2,bP 8192),(3,bP 12288),(37,bL (.i times)),(38,bI m),(39,bI i)],[(8192,.obx [.fz (.sl (.node false none ns)),.fz (.sl (.tie ts)),.fz (.int .i64 hr)]),(12288,.obx [.fz (.int .i64 now),.fz (.sl (.i times)),.fz (.sl (.i vals))])]⟩) (fun i=>rB (qz p (times.drop i) i&&d)) ?_) (by rw [hm];rfl) rfl⟩
 intro i hi ih
 rw [<-hks]
 have hl:i<m->q9 _ _ _:=fun h=>q9.of p times i d (0:Int) (by omega)
 have he:i=m->(qz p (times.drop i) i&&d)=d:=fun h=>qN (by omega)
 have h1n:IntKind.i64.wrap (now-1)=now-1:=qv (by omega) (by omega)
 refine SEx.go (X:=XX) qc (fun n=>qa [] [(4,[2,3,37,38,39]),(10,[2,3,67,68,69])] n) (fun _=>none) hO 60 ?_
 intro M R L N m0 m1 m2 m3 m4 m5
 cases M
 cbv
 repeat' first | refine m1 _ _ ?_ ?_ | refine m2 _ _ fun h=>?_ | refine m3 _ ?_ | (refine m4 _ _ (Hd.out ?_);first | rw [hks] | generalize hk2:(List.cons _ _:List K)=k2) | (refine m5 _ _ ?_;cbv)
 all_goals (clear m1 m2 m3 m4 m5;cases m0;try dsimp only)
 all_goals try simp only [sm] at *
 all_goals (try simp only [qh (show i<9223372036854775807 by omega),h1n] at *)
 all_goals first
  | omega
  | (refine (hl (by omega)).stop _ ?_;rw [hp,Q1];apply decide_eq_false;omega)
  | (refine ⟨(ih (by omega)).same rfl ((hl (by omega)).go ?_)⟩;rw [hp,Q1];apply decide_eq_true;omega)
  | skip
 have him:i=m:=by omega
 rw [he him]
 clear ih hl he
 rw [hd]
 clear hd
 refine ⟨SEx.same (SEx.idx 3 (fun i=>⟨92,[(2,bP 8192),(3,bP 12288),(67,bL (.i vals)),(68,bI 3),(69,bI i)],[(8192,.obx [.fz (.sl (.node false none ns)),.fz (.sl (.tie ts)),.fz (.int .i64 hr)]),(12288,.obx [.fz (.int .i64 now),.fz (.sl (.i times)),.fz (.sl (.i vals))])]⟩) (fun i=>rB (qz q (vals.drop i) i&&true)) ?_) (by rw [hv3];rfl) (by rw [Bool.and_true];rfl)⟩
 intro k hk ih
 rw [<-hk2]
 have hl:k<3->q9 _ _ _:=fun h=>q9.of q vals k true (0:Int) (by omega)
 have he:k=3->(qz q (vals.drop k) k&&true)=true:=fun h=>qN (by omega)
 have hlt:∀ x,f2 ns x<ns.length:=fun x=>by rw [hf2];exact (V2 _ _).1
 have hqk:q k (vals.getD k 0)=(decide (¬vals.getD k 0=0) == jA times (f2 ns ((k+1:Nat):Int))):=by
  rw [hq,hf2];rfl
 have h5:=hlt ((k+1:Nat):Int)
 refine SEx.go (X:=XX) qc (fun n=>qa [] [(4,[2,3,37,38,39]),(10,[2,3,67,68,69])] n) (fun _=>none) hO 60 ?_
 intro M R L N m0 m1 m2 m3 m4 m5
 cases M
 cbv
 repeat' first | refine m1 _ _ ?_ ?_ | refine m2 _ _ fun h=>?_ | refine m3 _ ?_ | (refine m4 _ _ (Hd.out ?_);try first | rw [hks] | rw [hk2] | rw [hk3]) | (refine m5 _ _ ?_;cbv)
 all_goals (clear m1 m2 m3 m4 m5;cases m0;(try clear hks;try clear hk2;try clear hk3);try dsimp only)
 all_goals try simp only [sm] at *
 all_goals (try simp only [qh (show k<9223372036854775807 by omega)] at *)
 all_goals first
  | omega
  | exact ⟨by omega⟩
  | (refine qI ?_ _;rw [he (by omega)];done)
  | (refine (hl (by omega)).stop _ ?_;rw [hqk];unfold jA;clear hqk hl he ih;generalize f2 ns ((k+1:Nat):Int)=w at *;rw [decide_eq_true (show 0<=w by assumption)];generalize times.getD w.toNat 0=b at *;generalize vals.getD k 0=a at *;rw [K7,K7];generalize (a == 0)=u at *;generalize (b == -1)=v at *;cases u<;>cases v<;>simp_all;done)
  | (refine (hl (by omega)).stop _ ?_;rw [hqk];unfold jA;clear hqk hl he ih;generalize f2 ns ((k+1:Nat):Int)=w at *;rw [decide_eq_false (show ¬0<=w by omega)];generalize vals.getD k 0=a at *;by_cases ha:a=0<;>simp_all;done)
  | (refine ⟨(ih (by omega)).same rfl ((hl (by omega)).go ?_)⟩;rw [hqk];unfold jA;clear hqk hl he ih;generalize f2 ns ((k+1:Nat):Int)=w at *;rw [decide_eq_true (show 0<=w by assumption)];generalize times.getD w.toNat 0=b at *;generalize vals.getD k 0=a at *;rw [K7,K7];generalize (a == 0)=u at *;generalize (b == -1)=v at *;cases u<;>cases v<;>simp_all;done)
  | (refine ⟨(ih (by omega)).same rfl ((hl (by omega)).go ?_)⟩;rw [hqk];unfold jA;clear hqk hl he ih;generalize f2 ns ((k+1:Nat):Int)=w at *;rw [decide_eq_false (show ¬0<=w by omega)];generalize vals.getD k 0=a at *;by_cases ha:a=0<;>simp_all;done)
  | skip
def qeW (t:qm)(x:qf):Bool:=q8 t&&jS t x
theorem YD (t:qm)(x:qf)(ht:jz t)(hx:Q9 x):qe Tryz.prog 93 [qQ t,qH x] (rB (qeW t x)):=by
 refine qe.of qc (fn:=Tryz.f93) (c:=Tryz.f93.body.getD .skip) (dr:=fun n=>qa 0 [(13,17)] n) Tryz.func93 rfl (by kernel_rfl) (by kernel_rfl) (by kernel_rfl) ?_
 have h2:=hx.tlen
 have h3:=hx.vlen
 have h4:=hx.now
 clear hx
 rw [kW] at h4
 obtain ⟨f0,hf0⟩:∃ f,f=z6:=⟨_,rfl⟩
 obtain ⟨f1,hf1⟩:∃ f,f=qR:=⟨_,rfl⟩
 obtain ⟨f2,hf2⟩:∃ f,f=zG:=⟨_,rfl⟩
 obtain ⟨f3,hf3⟩:∃ f,f=q8:=⟨_,rfl⟩
 have hO:qp Tryz.prog (qK [(106,wQ f3),(104,yv f0),(122,ZB f1),(109,Wy f2)]):=by
  subst hf0 hf1 hf2 hf3
  exact qb WS (qb jY (qb qas (qb wP qd)))
 have hsh:f3 t=true->(1<=t.hor/\t.hor<=10)/\1<=t.nodes.length/\t.nodes.length<=7:=fun h=>by rw [hf3] at h;exact ⟨zl h,qM h⟩
 obtain ⟨ns,ts,hr⟩:=t
 obtain ⟨now,times,vals⟩:=x
 dsimp only at hsh h2 h3 h4
 unfold maxLen at h2 h3
 have h1:ns.length<=maxLen:=ht.len
 obtain ⟨p,hp⟩:∃ p,p=Q1 now:=⟨_,rfl⟩
 obtain ⟨q,hq⟩:∃ q,q=qfn ns times:=⟨_,rfl⟩
 obtain ⟨d,hd⟩:∃ d,d=qz q vals 0:=⟨_,rfl⟩
 obtain ⟨r,hrr⟩:∃ r,r=(f3 ⟨ns,ts,hr⟩&&(decide (0<=now/\now<=hr+1/\times.length=ns.length)&&(f1 vals&&(qz p times 0&&d)))):=⟨_,rfl⟩
 have hs:qeW ⟨ns,ts,hr⟩ ⟨now,times,vals⟩=r:=by
  rw [hrr,hf1,hp,hd,hq,hf3];rfl
 rw [hs]
 clear hs
 have h1r:f3 ⟨ns,ts,hr⟩=true->f0 now 0 (IntKind.i64.wrap (hr+1))=(decide (0<=now)&&decide (now<=hr+1)):=fun h=>by have:=hsh h;rw [qv (by omega) (by omega),hf0];rfl
 have hz:¬times.getD (Int.toNat 0) 0=0->0<times.length->qz p times 0=false:=fun h h5=>by
  rw [show times=times.drop 0 by rfl]
  refine vh (0:Int) h5 ?_
  rw [hp,Q1]
  apply decide_eq_false
  intro h6
  exact h (h6.1 rfl)
 refine SEx.go (X:=XX) qc (fun n=>qa [] [(4,[2,3,44,45,46]),(10,[2,3,7])] n) (fun _=>none) hO 60 ?_
 intro M R L N m0 m1 m2 m3 m4 m5
 cases M
 cbv
 repeat' first | refine m1 _ _ ?_ ?_ | refine m2 _ _ fun h=>?_ | refine m3 _ ?_ | (refine m4 _ _ (Hd.out ?_);generalize hks:(List.cons _ _:List K)=ks) | (refine m5 _ _ ?_;cbv)
 all_goals (clear m1 m2 m3 m4 m5;cases m0;try dsimp only)
 all_goals try simp only [sm] at *
 all_goals (try (have h7:=hsh (by assumption)))
 all_goals (try (rw [h1r (by assumption)] at *))
 all_goals (try simp only [Bool.and_eq_true,Bool.and_eq_false_iff,decide_eq_true_eq,decide_eq_false_iff_not] at *)
 all_goals first
  | omega
  | exact ht
  | exact ⟨by omega⟩
  | (refine qI ?_ _;rw [hrr,show f3 ⟨ns,ts,hr⟩=false by assumption];rfl)
  | (refine qI ?_ _;rw [hrr,decide_eq_false (by omega)];simp;done)
  | (refine qI ?_ _;rw [hrr,hz (by assumption) (by omega)];simp;done)
  | (refine qI ?_ _;rw [hrr,show f1 vals=false by assumption];simp;done)
  | skip
 have h7:=hsh (by assumption)
 rw [show f3 ⟨ns,ts,hr⟩=true by assumption,show f1 vals=true by assumption,decide_eq_true (by omega),Bool.true_and,Bool.true_and,Bool.true_and] at hrr
 rw [hrr]
 clear hrr hz h1r
 have hv3:vals.length=3:=by apply qW;rw [<-hf1];assumption
 obtain ⟨m,hm⟩:∃ m,m=times.length:=⟨_,rfl⟩
 refine ⟨SEx.same (SEx.idx m (fun i=>⟨87,[(2,bP 8192),(3,bP 12288),(44,bL (.i times)),(45,bI m),(46,bI i)],[(8192,.obx [.fz (.sl (.node false none ns)),.fz (.sl (.tie ts)),.fz (.int .i64 hr)]),(12288,.obx [.fz (.int .i64 now),.fz (.sl (.i times)),.fz (.sl (.i vals))])]⟩) (fun i=>rB (qz p (times.drop i) i&&d)) ?_) (by rw [hm];rfl) rfl⟩
 intro i hi ih
 rw [<-hks]
 have hl:i<m->q9 _ _ _:=fun h=>q9.of p times i d (0:Int) (by omega)
 have he:i=m->(qz p (times.drop i) i&&d)=d:=fun h=>qN (by omega)
 have h1n:IntKind.i64.wrap (now-1)=now-1:=qv (by omega) (by omega)
 have h0t:i=0->times.getD i 0=0:=fun h=>by subst h;assumption
 have hin:f0 (times.getD i 0) (-1) (IntKind.i64.wrap (now-1))=(decide (-1<=times.getD i 0)&&decide (times.getD i 0<=now-1)):=by rw [h1n,hf0];rfl
 refine SEx.go (X:=XX) qc (fun n=>qa [] [(4,[2,3,44,45,46]),(10,[2,3,7])] n) (fun _=>none) hO 60 ?_
 intro M R L N m0 m1 m2 m3 m4 m5
 cases M
 cbv
 repeat' first | refine m1 _ _ ?_ ?_ | refine m2 _ _ fun h=>?_ | refine m3 _ ?_ | (refine m4 _ _ (Hd.out ?_);first | rw [hks] | generalize hk2:(List.cons _ _:List K)=k2) | (refine m5 _ _ ?_;cbv)
 all_goals (clear m1 m2 m3 m4 m5;cases m0;try dsimp only)
 all_goals try simp only [sm] at *
 all_goals (try simp only [qh (show i<9223372036854775807 by omega)] at *)
 all_goals (try rw [hin] at *)
 all_goals (try simp only [Bool.and_eq_true,Bool.and_eq_false_iff,decide_eq_true_eq,decide_eq_false_iff_not] at *)
 all_goals first
  | omega
  | (refine (hl (by omega)).stop _ ?_;rw [hp,Q1];apply decide_eq_false;omega)
  | (refine ⟨(ih (by omega)).same rfl ((hl (by omega)).go ?_)⟩;rw [hp,Q1];apply decide_eq_true;omega)
  | skip
 have him:i=m:=by omega
 rw [he him]
 clear ih hl he hin h0t h1n
 rw [hd]
 clear hd
 refine ⟨SEx.same (SEx.idx 3 (fun i=>⟨87,[(2,bP 8192),(3,bP 12288),(7,bI (i+1:Nat))],[(8192,.obx [.fz (.sl (.node false none ns)),.fz (.sl (.tie ts)),.fz (.int .i64 hr)]),(12288,.obx [.fz (.int .i64 now),.fz (.sl (.i times)),.fz (.sl (.i vals))])]⟩) (fun i=>rB (qz q (vals.drop i) i&&true)) ?_) rfl (by rw [Bool.and_true];rfl)⟩
 intro k hk ih
 rw [<-hk2]
 have hl:k<3->q9 _ _ _:=fun h=>q9.of q vals k true (0:Int) (by omega)
 have he:k=3->(qz q (vals.drop k) k&&true)=true:=fun h=>qN (by omega)
 have hlt:∀ x,f2 ns x<ns.length:=fun x=>by rw [hf2];exact (V2 _ _).1
 have h5:=hlt ((k+1:Nat):Int)
 have hwk:IntKind.i64.wrap (((k+1:Nat):Int)-1)=k:=by rw [qv (by omega) (by omega)];omega
 obtain ⟨kk,hkk⟩:∃ kk:Nat,kk=k+1:=⟨_,rfl⟩
 rw [<-hkk] at hwk h5 ⊢
 have hqk:q k (vals.getD k 0)=(decide (¬vals.getD k 0=0) == jA times (f2 ns kk)):=by
  rw [hq,hf2,hkk];rfl
 refine SEx.go (X:=XX) qc (fun n=>qa [] [(4,[2,3,44,45,46]),(10,[2,3,7])] n) (fun _=>none) hO 60 ?_
 intro M R L N m0 m1 m2 m3 m4 m5
 cases M
 cbv
 repeat' first | refine m1 _ _ ?_ ?_ | refine m2 _ _ fun h=>?_ | refine m3 _ ?_ | (refine m4 _ _ (Hd.out ?_);try first | rw [hks] | rw [hk2] | rw [hk3]) | (refine m5 _ _ ?_;cbv)
 all_goals (clear m1 m2 m3 m4 m5;cases m0;(try clear hks;try clear hk2;try clear hk3);try dsimp only)
 all_goals try simp only [sm] at *
 all_goals (try simp only [hwk,Int.toNat_natCast,qh (show kk<9223372036854775807 by omega)] at *)
 all_goals first
  | omega
  | exact ⟨h1⟩
  | (refine qI ?_ _;rw [he (by omega)];done)
  | (refine (hl (by omega)).stop _ ?_;rw [hqk];unfold jA;clear hqk hl he ih;generalize f2 ns (kk:Int)=w at *;rw [decide_eq_true (show 0<=w by assumption)];generalize times.getD w.toNat 0=b at *;generalize vals.getD k 0=a at *;rw [K7,K7];generalize (a == 0)=u at *;generalize (b == -1)=v at *;cases u<;>cases v<;>simp_all;done)
  | (refine (hl (by omega)).stop _ ?_;rw [hqk];unfold jA;clear hqk hl he ih;generalize f2 ns (kk:Int)=w at *;rw [decide_eq_false (show ¬0<=w by omega)];generalize vals.getD k 0=a at *;by_cases ha:a=0<;>simp_all;done)
  | (subst hkk;refine ⟨(ih (by omega)).same rfl ((hl (by omega)).go ?_)⟩;rw [hqk];unfold jA;clear hqk hl he ih;generalize f2 ns ((k+1:Nat):Int)=w at *;rw [decide_eq_true (show 0<=w by assumption)];generalize times.getD w.toNat 0=b at *;generalize vals.getD k 0=a at *;rw [K7,K7];generalize (a == 0)=u at *;generalize (b == -1)=v at *;cases u<;>cases v<;>simp_all;done)
  | (subst hkk;refine ⟨(ih (by omega)).same rfl ((hl (by omega)).go ?_)⟩;rw [hqk];unfold jA;clear hqk hl he ih;generalize f2 ns ((k+1:Nat):Int)=w at *;rw [decide_eq_false (show ¬0<=w by omega)];generalize vals.getD k 0=a at *;by_cases ha:a=0<;>simp_all;done)
  | skip
structure qrs (t:qm):Prop where out:q8 t=true
def qdk (f:qm->qf->Bool):Wr:=w2 qP qG (fun t x=>rB (f t x)) (fun t x=>[qrs t,Q9 x])
theorem qe7:qy Tryz.prog 86 (qdk jS):=qE fun t x h=>qgp t x (h _ (.head _)).out (h _ (.tail _ (.head _)))
def qdu (f:qm->qf->Bool):Wr:=w2 qP qG (fun t x=>rB (f t x)) (fun t x=>[jz t,Q9 x])
theorem qcx:qy Tryz.prog 93 (qdu qeW):=qE fun t x h=>YD t x (h _ (.head _)) (h _ (.tail _ (.head _)))
end Go.Proofs.YtifnopmkdempdaaGreat.Ai
namespace Go.Proofs.YtifnopmkdempdaaGreat.Ai
open Go
set_option maxRecDepth 100000
variable [qg]
def Kx (v:List Int)(x:Int):Int:=if x<0 then -(v.getD (zF x-1).toNat 0) else v.getD (zF x-1).toNat 0
def Zy (v:List Int):List Int->Int->Int
 | [],s=>s
 | x::r,s=>Zy v r (min s (Kx v x))
theorem Wm {v l:List Int}{i:Nat}{s:Int}(h:i<l.length):Zy v (l.drop i) s=Zy v (l.drop (i+1)) (min s (Kx v (l.getD i 0))):=by
 rw [List.drop_eq_getElem_cons h,zB h]
 rfl
theorem QV {v:List Int}(h:qR v=true)(i:Nat):-1<=v.getD i 0/\v.getD i 0<=1:=by
 unfold qR at h
 rw [Bool.and_eq_true] at h
 by_cases hi:i<v.length
 . obtain ⟨j,hj⟩:=QY h.1 (qo (z:=(0:Int)) hi).out
   simpa [wV] using hj
 . rw [List.getD_eq_getElem?_getD,List.getElem?_eq_none (by omega)]
   exact ⟨by decide,by decide⟩
theorem qh3 {v:List Int}(h:qR v=true)(x:Int):-1<=Kx v x/\Kx v x<=1:=by
 unfold Kx
 have:=QV h (zF x-1).toNat
 split<;>omega
theorem qiY {v:List Int}(h:qR v=true):∀ (l:List Int) (s:Int),-1<=s->s<=1->-1<=Zy v l s/\Zy v l s<=1
 | [],s,h1,h2=>⟨h1,h2⟩
 | x::r,s,h1,h2=>qiY h r _ (by have:=qh3 h x;omega) (by omega)
structure qsb (l:List Int):Prop where out:qX l=true
structure qro (l:List Int):Prop where out:qR l=true
theorem qd4 {l:List Int}(h:qX l=true):l.length<=3:=by
 have key:∀ n,n<=l.length->∀ j,j<n->(j:Int)+1<=zF (l.getD j 0):=by
  intro n hn j hj
  induction j with
  | zero =>
    have:=(vU h _ (qo (z:=(0:Int)) (show 0<l.length by omega)).out).2
    omega
  | succ j ih =>
    have h1:=ih (by omega)
    have h2:=(of_decide_eq_true (KQ h (j+1) (by omega))).2.2.2 (by omega)
    rw [Nat.add_sub_cancel] at h2
    omega
 apply Decidable.byContradiction
 intro hn
 have h1:=key l.length (Nat.le_refl _) 3 (by omega)
 have h2:=ZV h (qo (z:=(0:Int)) (show 3<l.length by omega)).out
 have h3:=Yy h2.2.1 h2.2.2
 omega
theorem qnV (a s:Int):(if a<s then a else s)=min s a:=by rw [Int.min_def];split<;>split<;>omega
theorem Vu (l v:List Int)(hl:qX l=true)(hv:qR v=true):qe Tryz.prog 108 [aIs l,aIs v] (rI (Zy v l 1)):=by
 refine qe.of qc (fn:=Tryz.f108) (c:=Tryz.f108.body.getD .skip) (dr:=fun n=>qa 0 [] n) Tryz.func108 rfl (by kernel_rfl) (by kernel_rfl) (by kernel_rfl) ?_
 obtain ⟨f,hf⟩:∃ f,f=zF:=⟨_,rfl⟩
 have hO:qp Tryz.prog (qK [(134,Vk f)]):=by subst hf;exact qb Wv qd
 have h3:=qd4 hl
 have hv3:=qW hv
 rw [show Zy v l 1=Zy v (l.drop 0) 1 by rw [List.drop_zero]]
 refine SEx.go (X:=XX) qc (fun n=>qa [] [(3,[1,5,9,10,11])] n) (fun _=>none) hO 60 ?_
 intro M R L N m0 m1 m2 m3 m4 m5
 cases M
 cbv
 repeat' first | refine m1 _ _ ?_ ?_ | refine m2 _ _ fun h=>?_ | refine m3 _ ?_ | (refine m4 _ _ (Hd.out ?_);generalize hks:(List.cons _ _:List K)=ks) | (refine m5 _ _ ?_;cbv)
 all_goals (clear m1 m2 m3 m4 m5;cases m0;try dsimp only)
 all_goals try simp only [sm] at *
 obtain ⟨m,hm⟩:∃ m,m=l.length:=⟨_,rfl⟩
 refine ⟨SEx.same (SEx.idxS m (fun i (s:Int)=>⟨30,[(1,bL (.i v)),(5,bI s),(9,bL (.i l)),(10,bI m),(11,bI i)],[]⟩) (fun i s=>rI (Zy v (l.drop i) s)) (fun _ _=>True) 1 trivial ?_) (by rw [hm];rfl) rfl⟩
 intro i s hi _ ih
 rw [<-hks]
 have hp:i<m->0<f (l.getD i 0)/\f (l.getD i 0)<=3:=fun h=>by
  have h2:=ZV hl (qo (z:=(0:Int)) (show i<l.length by omega)).out
  rw [hf]
  exact ⟨We h2.1 h2.2.1 h2.2.2,Yy h2.2.1 h2.2.2⟩
 have hw:i<m->IntKind.i64.wrap (f (l.getD i 0)-1)=f (l.getD i 0)-1:=fun h=>by have:=hp h;exact qv (by omega) (by omega)
 refine SEx.go (X:=XX) qc (fun n=>qa [] [(3,[1,5,9,10,11])] n) (fun _=>none) hO 60 ?_
 intro M R L N m0 m1 m2 m3 m4 m5
 cases M
 cbv
 repeat' first | refine m1 _ _ ?_ ?_ | refine m2 _ _ fun h=>?_ | refine m3 _ ?_ | (refine m4 _ _ (Hd.out ?_);try first | rw [hks] | rw [hk2] | rw [hk3]) | (refine m5 _ _ ?_;cbv)
 all_goals (clear m1 m2 m3 m4 m5;cases m0;(try clear hks;try clear hk2;try clear hk3);try dsimp only)
 all_goals try simp only [sm] at *
 all_goals (try (have h7:=hp (by omega)))
 all_goals (try rw [hw (by omega)] at *)
 all_goals (have hvr:=QV hv (f (l.getD i 0)-1).toNat;try rw [qv (n:=0-v.getD (f (l.getD i 0)-1).toNat 0) (by omega) (by omega)])
 all_goals (try simp only [qh (show i<9223372036854775807 by omega),qnV])
 all_goals first
  | omega
  | exact ⟨(vU hl _ (qo (z:=(0:Int)) (by omega)).out).1⟩
  | (refine ⟨(ih _ (by omega) trivial).same rfl ?_⟩;rw [Wm (show i<l.length by omega),Kx,if_pos (by assumption),hf,Int.zero_sub];done)
  | (refine ⟨(ih _ (by omega) trivial).same rfl ?_⟩;rw [Wm (show i<l.length by omega),Kx,if_neg (by omega),hf];done)
  | (rw [List.drop_eq_nil_of_le (by omega)];rfl)
  | skip
theorem qcM (x:Int)(v:List Int)(hx:¬x=0/\-3<=x/\x<=3)(hv:qR v=true):qe Tryz.prog 169 [aI x,aIs v] (rI (Kx v x)):=by
 refine qe.of qc (fn:=Tryz.f169) (c:=Tryz.f169.body.getD .skip) (dr:=fun n=>qa 0 [] n) Tryz.func169 rfl (by kernel_rfl) (by kernel_rfl) (by kernel_rfl) ?_
 obtain ⟨f,hf⟩:∃ f,f=zF:=⟨_,rfl⟩
 have hO:qp Tryz.prog (qK [(143,Vk f)]):=by subst hf;exact qb vJ qd
 have hv3:=qW hv
 have hp:0<f x/\f x<=3:=by rw [hf];exact ⟨We hx.1 hx.2.1 hx.2.2,Yy hx.2.1 hx.2.2⟩
 have hw:IntKind.i64.wrap (f x-1)=f x-1:=qv (by omega) (by omega)
 refine SEx.go (X:=XX) qc (fun n=>qa [] [] n) (fun _=>none) hO 60 ?_
 intro M R L N m0 m1 m2 m3 m4 m5
 cases M
 cbv
 repeat' first | refine m1 _ _ ?_ ?_ | refine m2 _ _ fun h=>?_ | refine m3 _ ?_ | (refine m4 _ _ (Hd.out ?_);try first | rw [hks] | rw [hk2] | rw [hk3]) | (refine m5 _ _ ?_;cbv)
 all_goals (clear m1 m2 m3 m4 m5;cases m0;(try clear hks;try clear hk2;try clear hk3);try dsimp only)
 all_goals try simp only [sm] at *
 all_goals (try rw [hw] at *)
 all_goals (have hvr:=QV hv (f x-1).toNat;try rw [qv (n:=0-v.getD (f x-1).toNat 0) (by omega) (by omega)])
 all_goals first
  | omega
  | (refine ⟨?_⟩;rw [kW];omega)
  | (simp only [Z4];rw [Kx,if_pos (by assumption),hf,Int.zero_sub];done)
  | (simp only [Z4];rw [Kx,if_neg (by omega),hf];done)
  | skip
structure qr8 (x:Int):Prop where out:¬x=0/\-3<=x/\x<=3
def qne (f:List Int->Int->Int):Wr:=w2 dcI z8 (fun x v=>rI (f v x)) (fun x v=>[qr8 x,qro v])
theorem qkF:qy Tryz.prog 169 (qne Kx):=qE fun x v h=>qcM x v (h _ (.head _)).out (h _ (.tail _ (.head _))).out
theorem Kn (l v:List Int)(hl:Kb l)(hv:v.length<=maxLen):qe Tryz.prog 149 [aIs l,aIs v] (rI (if qX l=true/\qR v=true then Zy v l 1 else -1)):=by
 refine qe.of qc (fn:=Tryz.f149) (c:=Tryz.f149.body.getD .skip) (dr:=fun n=>qa 0 [] n) Tryz.func149 rfl (by kernel_rfl) (by kernel_rfl) (by kernel_rfl) ?_
 obtain ⟨f,hf⟩:∃ f,f=Kx:=⟨_,rfl⟩
 obtain ⟨f1,hf1⟩:∃ f,f=qX:=⟨_,rfl⟩
 obtain ⟨f2,hf2⟩:∃ f,f=qR:=⟨_,rfl⟩
 have hO:qp Tryz.prog (qK [(167,QK f1),(120,ZB f2),(169,qne f)]):=by subst hf hf1 hf2;exact qb Z1 (qb JV (qb qkF qd))
 rw [<-hf1,<-hf2]
 refine SEx.go (X:=XX) qc (fun n=>qa [] [(5,[1,5,16,17,18])] n) (fun _=>none) hO 60 ?_
 intro M R L N m0 m1 m2 m3 m4 m5
 cases M
 cbv
 repeat' first | refine m1 _ _ ?_ ?_ | refine m2 _ _ fun h=>?_ | refine m3 _ ?_ | (refine m4 _ _ (Hd.out ?_);generalize hks:(List.cons _ _:List K)=ks) | (refine m5 _ _ ?_;cbv)
 all_goals (clear m1 m2 m3 m4 m5;cases m0;try dsimp only)
 all_goals try simp only [sm] at *
 all_goals first
  | exact hl
  | exact ⟨hv⟩
  | (simp only [Z4];rw [if_neg];rintro ⟨h1,h2⟩;simp_all;done)
  | skip
 rw [if_pos ⟨by assumption,by assumption⟩]
 have hlb:qX l=true:=by rw [<-hf1];assumption
 have hvb:qR v=true:=by rw [<-hf2];assumption
 have h3:=qd4 hlb
 obtain ⟨m,hm⟩:∃ m,m=l.length:=⟨_,rfl⟩
 refine ⟨SEx.same (SEx.idxS m (fun i (s:Int)=>⟨29,[(1,bL (.i v)),(5,bI s),(16,bL (.i l)),(17,bI m),(18,bI i)],[]⟩) (fun i s=>rI (Zy v (l.drop i) s)) (fun _ _=>True) 1 trivial ?_) (by rw [hm];rfl) rfl⟩
 intro i s hi _ ih
 rw [<-hks]
 refine SEx.go (X:=XX) qc (fun n=>qa [] [(5,[1,5,16,17,18])] n) (fun _=>none) hO 60 ?_
 intro M R L N m0 m1 m2 m3 m4 m5
 cases M
 cbv
 repeat' first | refine m1 _ _ ?_ ?_ | refine m2 _ _ fun h=>?_ | refine m3 _ ?_ | (refine m4 _ _ (Hd.out ?_);try first | rw [hks] | rw [hk2] | rw [hk3]) | (refine m5 _ _ ?_;cbv)
 all_goals (clear m1 m2 m3 m4 m5;cases m0;(try clear hks;try clear hk2;try clear hk3);try dsimp only)
 all_goals try simp only [sm] at *
 all_goals (try simp only [qh (show i<9223372036854775807 by omega),qnV])
 all_goals first
  | omega
  | exact ⟨ZV hlb (qo (z:=(0:Int)) (by omega)).out⟩
  | exact ⟨hvb⟩
  | (refine ⟨(ih _ (by omega) trivial).same rfl ?_⟩;rw [Wm (show i<l.length by omega),hf];done)
  | (rw [List.drop_eq_nil_of_le (by omega)];rfl)
  | skip
def nsI (t:qm)(x:qf)(i:Int):Int:=Zy x.vals (nd t.nodes i).label 1
structure StT (t:qm)(x:qf):Prop where
 sh:q8 t=true
 st:jS t x=true
theorem StT.vals {t:qm}{x:qf}(h:StT t x):qR x.vals=true:=by
 have:=h.st
 unfold jS at this
 rw [Bool.and_eq_true,Bool.and_eq_true] at this
 exact this.2.1
theorem StT.now {t:qm}{x:qf}(h:StT t x):0<=x.now/\x.now<=t.hor+1/\x.times.length=t.nodes.length:=by
 have:=h.st
 unfold jS at this
 rw [Bool.and_eq_true,decide_eq_true_eq] at this
 exact this.1
theorem WD {α:Type}{p:Nat->α->Bool}:∀ {l:List α} {n i:Nat} (z:α),qz p l n=true->i<l.length->p (n+i) (l.getD i z)=true
 | a::r,n,0,z,h,_=>by
   unfold qz at h
   rw [Bool.and_eq_true] at h
   simpa using h.1
 | a::r,n,i+1,z,h,hi=>by
   unfold qz at h
   rw [Bool.and_eq_true] at h
   have:=WD z h.2 (show i<r.length by simpa using hi)
   rw [List.getD_cons_succ,show n+(i+1)=n+1+i by omega]
   exact this
theorem StT.time {t:qm}{x:qf}(h:StT t x)(i:Nat):-1<=x.times.getD i 0/\x.times.getD i 0<=10:=by
 have hn:=h.now
 have hh:=zl h.sh
 have:=h.st
 unfold jS at this
 rw [Bool.and_eq_true,Bool.and_eq_true,Bool.and_eq_true] at this
 by_cases hi:i<x.times.length
 . have h1:=WD (0:Int) this.2.2.1 hi
   rw [Nat.zero_add,Q1,decide_eq_true_eq] at h1
   by_cases h0:i=0
   . have:=h1.1 h0;omega
   . have:=h1.2 (by omega);omega
 . rw [List.getD_eq_getElem?_getD,List.getElem?_eq_none (by omega)]
   exact ⟨by decide,by decide⟩
structure ki (t:qm)(x:qf):Prop where
 sh:jz t
 st:Q9 x
theorem qbx (t:qm)(x:qf)(i:Int)(hs:ki t x)(h:StT t x)(hi:0<=i/\i<t.nodes.length):qe Tryz.prog 128 [qQ t,qH x,aI i] (rI (nsI t x i)):=by
 refine qe.of qc (fn:=Tryz.f128) (c:=Tryz.f128.body.getD .skip) (dr:=fun n=>qa 0 [(1,8)] n) Tryz.func128 rfl (by kernel_rfl) (by kernel_rfl) (by kernel_rfl) ?_
 have h1:=kF h.sh (qo (z:=qi.z) (show i.toNat<t.nodes.length by omega)).out
 have h2:=h.vals
 have h3:=hs.sh.nodes _ (qo (z:=qi.z) (show i.toNat<t.nodes.length by omega)).out
 have h4:=hs.st.vlen
 unfold nsI nd
 obtain ⟨f,hf⟩:∃ f:List Int->List Int->Int,f=fun l v=>if qX l=true/\qR v=true then Zy v l 1 else -1:=⟨_,rfl⟩
 have hO:qp Tryz.prog (qK [(149,w2 z8 z8 (fun l v=>rI (f l v)) (fun l v=>[Kb l,LLe v maxLen]))]):=by
  subst hf
  exact qb (qE fun l v h=>Kn l v (h _ (.head _)) (h _ (.tail _ (.head _))).out) qd
 have he:f (t.nodes.getD i.toNat qi.z).label x.vals=Zy x.vals (t.nodes.getD i.toNat qi.z).label 1:=by rw [hf];exact if_pos ⟨h1,h2⟩
 rw [<-he]
 clear hs h hf he
 obtain ⟨ns,ts,hr⟩:=t
 obtain ⟨now,times,vals⟩:=x
 dsimp only at hi h1 h2 h3 h4
 refine SEx.go (X:=XX) qc (fun n=>qa [] [] n) (fun _=>none) hO 60 ?_
 intro M R L N m0 m1 m2 m3 m4 m5
 cases M
 cbv
 repeat' first | refine m1 _ _ ?_ ?_ | refine m2 _ _ fun h=>?_ | refine m3 _ ?_ | (refine m4 _ _ (Hd.out ?_);try first | rw [hks] | rw [hk2] | rw [hk3]) | (refine m5 _ _ ?_;cbv)
 all_goals (clear m1 m2 m3 m4 m5;cases m0;(try clear hks;try clear hk2;try clear hk3);try dsimp only)
 all_goals try simp only [sm] at *
 all_goals first
  | omega
  | exact ⟨h3.len,h3.all⟩
  | exact ⟨h4⟩
  | rfl
  | skip
end Go.Proofs.YtifnopmkdempdaaGreat.Ai
namespace Go.Proofs.YtifnopmkdempdaaGreat.Ai
open Go
set_option maxRecDepth 100000
variable [qg]
def qkx (l v:List Int):Int:=Zy v l 1
def QG (f:List Int->List Int->Int):Wr:=w2 z8 z8 (fun l v=>rI (f l v)) (fun l v=>[qsb l,qro v])
theorem jk:qy Tryz.prog 108 (QG qkx):=qE fun l v h=>Vu l v (h _ (.head _)).out (h _ (.tail _ (.head _))).out
def J3 (f:qm->qf->Int->Int):Wr:=w3 qP qG dcI (fun t x i=>rI (f t x i)) (fun t x i=>[ki t x,StT t x,InX i t.nodes])
theorem JR:qy Tryz.prog 128 (J3 nsI):=jo fun t x i h=>qbx t x i (h _ (.head _)) (h _ (.tail _ (.head _))) (h _ (.tail _ (.tail _ (.head _)))).out
structure Q3 (t:qm)(q:Tie):Prop where
 src:0<=q.src/\q.src<t.nodes.length
 dst:0<=q.dst/\q.dst<t.nodes.length
theorem kA {t:qm}(h:q8 t=true){q:Tie}(hq:q∈t.ties):Q3 t q:=by
 have hn:=qM h
 unfold q8 JP at h
 simp only [Bool.and_eq_true] at h
 obtain ⟨i,hi⟩:=QY h.2.2.1.1 hq
 unfold J9 at hi
 rw [Bool.and_eq_true,decide_eq_true_eq] at hi
 exact ⟨by omega,by omega⟩
def KS (t:qm)(x:qf)(q:Tie):Bool :=
 if ¬x.times.getD q.src.toNat 0=-1/\¬x.times.getD q.dst.toNat 0=-1 then !(decide (q.low<=x.times.getD q.dst.toNat 0-x.times.getD q.src.toNat 0)&&decide (x.times.getD q.dst.toNat 0-x.times.getD q.src.toNat 0<=q.high))
 else if q.free=true then false
 else if ¬x.times.getD q.src.toNat 0=-1 then decide (nsI t x q.dst=1)&&decide (q.high<x.now-x.times.getD q.src.toNat 0)
 else if ¬x.times.getD q.dst.toNat 0=-1 then decide (nsI t x q.src=1)&&decide (x.times.getD q.dst.toNat 0-x.now<q.low)
 else false
theorem qej (t:qm)(x:qf)(q:Tie)(h:StT t x)(hq:Q3 t q):qe Tryz.prog 123 [qQ t,qH x,YO q] (rB (KS t x q)):=by
 refine qe.of qc (fn:=Tryz.f123) (c:=Tryz.f123.body.getD .skip) (dr:=fun n=>qa 0 [(8,18),(10,18)] n) Tryz.func123 rfl (by kernel_rfl) (by kernel_rfl) (by kernel_rfl) ?_
 obtain ⟨f0,hf0⟩:∃ f,f=z6:=⟨_,rfl⟩
 obtain ⟨f1,hf1⟩:∃ f,f=qkx:=⟨_,rfl⟩
 have hO:qp Tryz.prog (qK [(104,yv f0),(108,QG f1)]):=by
  subst hf0 hf1
  exact qb jY (qb jk qd)
 have hv:=h.vals
 have hn:=h.now
 have hh:=zl h.sh
 have ht:=h.time
 have hl:∀ n∈t.nodes,qX n.label=true:=fun n hn=>kF h.sh hn
 have h5:=hq.src
 have h6:=hq.dst
 have hr:KS t x q=if ¬x.times.getD q.src.toNat 0=-1/\¬x.times.getD q.dst.toNat 0=-1 then !(f0 (x.times.getD q.dst.toNat 0-x.times.getD q.src.toNat 0) q.low q.high)
  else if q.free=true then false
  else if ¬x.times.getD q.src.toNat 0=-1 then decide (f1 (t.nodes.getD q.dst.toNat qi.z).label x.vals=1)&&decide (q.high<x.now-x.times.getD q.src.toNat 0)
  else if ¬x.times.getD q.dst.toNat 0=-1 then decide (f1 (t.nodes.getD q.src.toNat qi.z).label x.vals=1)&&decide (x.times.getD q.dst.toNat 0-x.now<q.low)
  else false:=by rw [hf0,hf1];rfl
 rw [hr]
 clear h hq hr
 obtain ⟨ns,ts,hr⟩:=t
 obtain ⟨now,times,vals⟩:=x
 obtain ⟨x1,x2,x3,x4,x5⟩:=q
 dsimp only at hv hn hh ht h5 h6 hl ⊢
 have hta:=ht x1.toNat
 have htb:=ht x2.toNat
 have hw1:IntKind.i64.wrap (times.getD x2.toNat 0-times.getD x1.toNat 0)=times.getD x2.toNat 0-times.getD x1.toNat 0:=qv (by omega) (by omega)
 have hw2:IntKind.i64.wrap (now-times.getD x1.toNat 0)=now-times.getD x1.toNat 0:=qv (by omega) (by omega)
 have hw3:IntKind.i64.wrap (times.getD x2.toNat 0-now)=times.getD x2.toNat 0-now:=qv (by omega) (by omega)
 refine SEx.go (X:=XX) qc (fun n=>qa [] [] n) (fun _=>none) hO 60 ?_
 intro M R L N m0 m1 m2 m3 m4 m5
 cases M
 cbv
 repeat' first | refine m1 _ _ ?_ ?_ | refine m2 _ _ fun h=>?_ | refine m3 _ ?_ | (refine m4 _ _ (Hd.out ?_);try first | rw [hks] | rw [hk2] | rw [hk3]) | (refine m5 _ _ ?_;cbv)
 all_goals (clear m1 m2 m3 m4 m5;cases m0;(try clear hks;try clear hk2;try clear hk3);try dsimp only)
 all_goals try simp only [sm] at *
 all_goals (clear hO ht)
 all_goals (try simp only [hw1,hw2,hw3] at *)
 all_goals first
  | omega
  | contradiction
  | exact ⟨hv⟩
  | exact ⟨hl _ (qo (z:=qi.z) (by omega)).out⟩
  | (refine qI ?_ _;delta qi.label at *;clear hl;simp_all;done)
  | skip
theorem qiV {α:Type}{p:Nat->α->Bool}(z:α):∀ (l:List α) (n:Nat),qz p l n=Vx (fun i=>p (n+i) (l.getD i z)) l.length
 | [],n=>rfl
 | a::r,n=>by
   unfold qz Vx
   rw [List.length_cons,List.range_succ_eq_map,List.all_cons,List.all_map,qiV z r (n+1)]
   show (p n a&&_)=(p n a&&_)
   congr 1
   unfold Vx
   congr 1
   funext i
   show p (n+1+i) _=p (n+(i+1)) _
   rw [show n+1+i=n+(i+1) by omega]
   rfl
theorem Wi {α:Type}{p:Nat->α->Bool}(z:α)(l:List α):qz p l 0=Vx (fun i=>p i (l.getD i z)) l.length:=by
 rw [qiV z l 0];simp only [Nat.zero_add]
def qlO (t:qm)(x:qf)(i:Nat):Bool:=!(decide (x.times.getD i 0=-1)&&decide (0<=nsI t x i))
def jF (t:qm)(x:qf):Bool:=Vx (qlO t x) t.nodes.length
def zY (t:qm)(x:qf):Bool:=!(qz (fun _ q=>!KS t x q) t.ties 0&&(decide (x.now<=t.hor)||jF t x))
theorem qec (t:qm)(x:qf)(hs:jz t)(h:StT t x):qe Tryz.prog 95 [qQ t,qH x] (rB (jF t x)):=by
 refine qe.of qc (fn:=Tryz.f95) (c:=Tryz.f95.body.getD .skip) (dr:=fun n=>qa 0 [] n) Tryz.func95 rfl (by kernel_rfl) (by kernel_rfl) (by kernel_rfl) ?_
 obtain ⟨f1,hf1⟩:∃ f,f=qkx:=⟨_,rfl⟩
 have hO:qp Tryz.prog (qK [(108,QG f1)]):=by
  subst hf1
  exact qb jk qd
 have hv:=h.vals
 have hn:=h.now
 have h1:=qM h.sh
 have hl:∀ n∈t.nodes,qX n.label=true:=fun n hn=>kF h.sh hn
 obtain ⟨p,hp⟩:∃ p:Nat->qi->Bool,p=fun i q=>!(decide (x.times.getD i 0=-1)&&decide (0<=f1 q.label x.vals)):=⟨_,rfl⟩
 have hr:jF t x=(qz p t.nodes 0&&true):=by
  rw [Bool.and_true,Wi qi.z,hp,hf1];rfl
 rw [hr]
 clear h hs hr
 obtain ⟨ns,ts,hr⟩:=t
 obtain ⟨now,times,vals⟩:=x
 dsimp only at hv hn h1 hl hp ⊢
 refine SEx.go (X:=XX) qc (fun n=>qa [] [(2,[3,8,9,10])] n) (fun _=>none) hO 60 ?_
 intro M R L N m0 m1 m2 m3 m4 m5
 cases M
 cbv
 repeat' first | refine m1 _ _ ?_ ?_ | refine m2 _ _ fun h=>?_ | refine m3 _ ?_ | (refine m4 _ _ (Hd.out ?_);generalize hks:(List.cons _ _:List K)=ks) | (refine m5 _ _ ?_;cbv)
 all_goals (clear m1 m2 m3 m4 m5;cases m0;try dsimp only)
 all_goals try simp only [sm] at *
 obtain ⟨m,hm⟩:∃ m,m=ns.length:=⟨_,rfl⟩
 refine ⟨SEx.same (SEx.idx m (fun i=>⟨30,[(3,bP 12288),(8,bL (.node false none ns)),(9,bI m),(10,bI i)],[(12288,.obx [.fz (.int .i64 now),.fz (.sl (.i times)),.fz (.sl (.i vals))])]⟩) (fun i=>rB (qz p (ns.drop i) i&&true)) ?_) (by rw [hm];rfl) rfl⟩
 intro i hi ih
 rw [<-hks]
 have hl2:i<m->q9 _ _ _:=fun h=>q9.of p ns i true qi.z (by omega)
 have he:i=m->(qz p (ns.drop i) i&&true)=true:=fun h=>qN (by omega)
 refine SEx.go (X:=XX) qc (fun n=>qa [] [(2,[3,8,9,10])] n) (fun _=>none) hO 60 ?_
 intro M R L N m0 m1 m2 m3 m4 m5
 cases M
 cbv
 repeat' first | refine m1 _ _ ?_ ?_ | refine m2 _ _ fun h=>?_ | refine m3 _ ?_ | (refine m4 _ _ (Hd.out ?_);try first | rw [hks] | rw [hk2] | rw [hk3]) | (refine m5 _ _ ?_;cbv)
 all_goals (clear m1 m2 m3 m4 m5;cases m0;(try clear hks;try clear hk2;try clear hk3);try dsimp only)
 all_goals try simp only [sm] at *
 all_goals (try simp only [qh (show i<9223372036854775807 by omega)] at *)
 all_goals first
  | omega
  | exact ⟨hv⟩
  | exact ⟨hl _ (qo (z:=qi.z) (by omega)).out⟩
  | (refine qI ?_ _;rw [he (by omega)];done)
  | (refine (hl2 (by omega)).stop _ ?_;rw [hp];delta qi.label at *;clear hl2 he ih hl;simp_all;done)
  | (refine ⟨(ih (by omega)).same rfl ((hl2 (by omega)).go ?_)⟩;rw [hp];delta qi.label at *;clear hl2 he ih hl;simp_all;done)
  | skip
theorem qan (t:qm)(x:qf)(hs:jz t)(h:StT t x):qe Tryz.prog 94 [qQ t,qH x] (rB (zY t x)):=by
 refine qe.of qc (fn:=Tryz.f94) (c:=Tryz.f94.body.getD .skip) (dr:=fun n=>qa 0 [] n) Tryz.func94 rfl (by kernel_rfl) (by kernel_rfl) (by kernel_rfl) ?_
 obtain ⟨f1,hf1⟩:∃ f,f=qkx:=⟨_,rfl⟩
 obtain ⟨f2,hf2⟩:∃ f,f=KS:=⟨_,rfl⟩
 have hO:qp Tryz.prog (qK [(108,QG f1),(123,w3 qP qG Yz (fun t x q=>rB (f2 t x q)) (fun t x q=>[StT t x,Q3 t q]))]):=by
  subst hf1 hf2
  exact qb jk (qb (jo fun t x q h=>qej t x q (h _ (.head _)) (h _ (.tail _ (.head _)))) qd)
 have hv:=h.vals
 have hn:=h.now
 have h1:=qM h.sh
 have h2:=zP h.sh
 have hl:∀ n∈t.nodes,qX n.label=true:=fun n hn=>kF h.sh hn
 have ht:∀ q∈t.ties,Q3 t q:=fun q hq=>kA h.sh hq
 obtain ⟨p,hp⟩:∃ p:Nat->qi->Bool,p=fun i q=>!(decide (t.hor<x.now)&&(decide (x.times.getD i 0=-1)&&decide (0<=f1 q.label x.vals))):=⟨_,rfl⟩
 obtain ⟨pt,hpt⟩:∃ p:Nat->Tie->Bool,p=fun _ q=>!f2 t x q:=⟨_,rfl⟩
 have e:qz p t.nodes 0=(decide (x.now<=t.hor)||jF t x):=by
  rw [Wi qi.z,hp,hf1]
  by_cases hc:t.hor<x.now
  . rw [decide_eq_true hc,decide_eq_false (show ¬x.now<=t.hor by omega),Bool.false_or];rfl
  . rw [decide_eq_false hc,decide_eq_true (show x.now<=t.hor by omega),Bool.true_or]
    exact ZI fun j hj=>rfl
 obtain ⟨d,hd⟩:∃ d,d=qz p t.nodes 0:=⟨_,rfl⟩
 have hr:zY t x=!(qz pt t.ties 0&&d):=by
  rw [hd,e,hpt,hf2];rfl
 rw [hr]
 clear hs hr e
 obtain ⟨ns,ts,hr⟩:=t
 obtain ⟨now,times,vals⟩:=x
 dsimp only at hv hn h1 h2 hl hp hd ht ⊢
 refine SEx.go (X:=XX) qc (fun n=>qa [] [(2,[2,3,10,11,12]),(8,[2,3,22,23,24])] n) (fun _=>none) hO 60 ?_
 intro M R L N m0 m1 m2 m3 m4 m5
 cases M
 cbv
 repeat' first | refine m1 _ _ ?_ ?_ | refine m2 _ _ fun h=>?_ | refine m3 _ ?_ | (refine m4 _ _ (Hd.out ?_);generalize hks:(List.cons _ _:List K)=ks) | (refine m5 _ _ ?_;cbv)
 all_goals (clear m1 m2 m3 m4 m5;cases m0;try dsimp only)
 all_goals try simp only [sm] at *
 obtain ⟨m,hm⟩:∃ m,m=ts.length:=⟨_,rfl⟩
 refine ⟨SEx.same (SEx.idx m (fun i=>⟨51,[(2,bP 8192),(3,bP 12288),(10,bL (.tie ts)),(11,bI m),(12,bI i)],[(8192,.obx [.fz (.sl (.node false none ns)),.fz (.sl (.tie ts)),.fz (.int .i64 hr)]),(12288,.obx [.fz (.int .i64 now),.fz (.sl (.i times)),.fz (.sl (.i vals))])]⟩) (fun i=>rB (!(qz pt (ts.drop i) i&&d))) ?_) (by rw [hm];rfl) rfl⟩
 intro i hi ih
 rw [<-hks]
 have hl2:i<m->q9 _ _ _:=fun h=>q9.of pt ts i d Tie.z (by omega)
 have he:i=m->(qz pt (ts.drop i) i&&d)=d:=fun h=>qN (by omega)
 refine SEx.go (X:=XX) qc (fun n=>qa [] [(2,[2,3,10,11,12]),(8,[2,3,22,23,24])] n) (fun _=>none) hO 60 ?_
 intro M R L N m0 m1 m2 m3 m4 m5
 cases M
 cbv
 repeat' first | refine m1 _ _ ?_ ?_ | refine m2 _ _ fun h=>?_ | refine m3 _ ?_ | (refine m4 _ _ (Hd.out ?_);first | rw [hks] | generalize hk2:(List.cons _ _:List K)=k2) | (refine m5 _ _ ?_;cbv)
 all_goals (clear m1 m2 m3 m4 m5;cases m0;try dsimp only)
 all_goals try simp only [sm] at *
 all_goals (try simp only [qh (show i<9223372036854775807 by omega)] at *)
 all_goals first
  | omega
  | exact h
  | exact ht _ (qo (z:=Tie.z) (by omega)).out
  | (refine (hl2 (by omega)).stopN _ ?_;rw [hpt];clear hl2 he ih hl ht;simp_all;done)
  | (refine ⟨(ih (by omega)).same rfl ((hl2 (by omega)).goN ?_)⟩;rw [hpt];clear hl2 he ih hl ht;simp_all;done)
  | skip
 have him:i=m:=by omega
 rw [he him,hd]
 clear ih hl2 he hd
 obtain ⟨w,hw⟩:∃ w,w=ns.length:=⟨_,rfl⟩
 refine ⟨SEx.same (SEx.idx w (fun i=>⟨51,[(2,bP 8192),(3,bP 12288),(22,bL (.node false none ns)),(23,bI w),(24,bI i)],[(8192,.obx [.fz (.sl (.node false none ns)),.fz (.sl (.tie ts)),.fz (.int .i64 hr)]),(12288,.obx [.fz (.int .i64 now),.fz (.sl (.i times)),.fz (.sl (.i vals))])]⟩) (fun i=>rB (!(qz p (ns.drop i) i&&true))) ?_) (by rw [hw];rfl) (by rw [Bool.and_true];rfl)⟩
 intro k hk ih
 rw [<-hk2]
 have hl2:k<w->q9 _ _ _:=fun h=>q9.of p ns k true qi.z (by omega)
 have he:k=w->(qz p (ns.drop k) k&&true)=true:=fun h=>qN (by omega)
 refine SEx.go (X:=XX) qc (fun n=>qa [] [(2,[2,3,10,11,12]),(8,[2,3,22,23,24])] n) (fun _=>none) hO 60 ?_
 intro M R L N m0 m1 m2 m3 m4 m5
 cases M
 cbv
 repeat' first | refine m1 _ _ ?_ ?_ | refine m2 _ _ fun h=>?_ | refine m3 _ ?_ | (refine m4 _ _ (Hd.out ?_);try first | rw [hks] | rw [hk2] | rw [hk3]) | (refine m5 _ _ ?_;cbv)
 all_goals (clear m1 m2 m3 m4 m5;cases m0;(try clear hks;try clear hk2;try clear hk3);try dsimp only)
 all_goals try simp only [sm] at *
 all_goals (try simp only [qh (show k<9223372036854775807 by omega)] at *)
 all_goals first
  | omega
  | exact ⟨hv⟩
  | exact ⟨hl _ (qo (z:=qi.z) (by omega)).out⟩
  | (refine qI ?_ _;rw [he (by omega)];rfl)
  | (refine (hl2 (by omega)).stopN _ ?_;rw [hp];delta qi.label at *;clear hl2 he ih hl ht;simp_all;done)
  | (refine ⟨(ih (by omega)).same rfl ((hl2 (by omega)).goN ?_)⟩;rw [hp];delta qi.label at *;clear hl2 he ih hl ht;simp_all;done)
  | (refine ⟨(ih (by omega)).same rfl ((hl2 (by omega)).goN ?_)⟩;rw [hp];dsimp only;rw [decide_eq_false (show ¬hr<now by omega)];rfl)
  | skip
end Go.Proofs.YtifnopmkdempdaaGreat.Ai
namespace Go.Proofs.YtifnopmkdempdaaGreat.Ai
open Go
set_option maxRecDepth 100000
variable [qg]
theorem yp (t:qm)(x:qf)(q:Tie)(hs:ki t x)(hst:StT t x)(hq:Q3 t q):qe Tryz.prog 127 [qQ t,qH x,YO q] (rB (KS t x q)):=by
 refine qe.of qc (fn:=Tryz.f127) (c:=Tryz.f127.body.getD .skip) (dr:=fun n=>qa 0 [(1,14)] n) Tryz.func127 rfl (by kernel_rfl) (by kernel_rfl) (by kernel_rfl) ?_
 obtain ⟨f1,hf1⟩:∃ f,f=nsI:=⟨_,rfl⟩
 have hO:qp Tryz.prog (qK [(128,J3 f1)]):=by
  subst hf1
  exact qb JR qd
 have hn:=hst.now
 have hh:=zl hst.sh
 have ht:=hst.time
 have h5:=hq.src
 have h6:=hq.dst
 have hr:KS t x q=if ¬x.times.getD q.src.toNat 0=-1/\¬x.times.getD q.dst.toNat 0=-1 then !(decide (q.low<=x.times.getD q.dst.toNat 0-x.times.getD q.src.toNat 0)&&decide (x.times.getD q.dst.toNat 0-x.times.getD q.src.toNat 0<=q.high))
  else if q.free=true then false
  else if ¬x.times.getD q.src.toNat 0=-1 then decide (f1 t x q.dst=1)&&decide (q.high<x.now-x.times.getD q.src.toNat 0)
  else if ¬x.times.getD q.dst.toNat 0=-1 then decide (f1 t x q.src=1)&&decide (x.times.getD q.dst.toNat 0-x.now<q.low)
  else false:=by rw [hf1];rfl
 rw [hr]
 clear hq hr
 obtain ⟨ns,ts,hr⟩:=t
 obtain ⟨now,times,vals⟩:=x
 obtain ⟨x1,x2,x3,x4,x5⟩:=q
 dsimp only at hn hh ht h5 h6 ⊢
 have hta:=ht x1.toNat
 have htb:=ht x2.toNat
 have hw1:IntKind.i64.wrap (times.getD x2.toNat 0-times.getD x1.toNat 0)=times.getD x2.toNat 0-times.getD x1.toNat 0:=qv (by omega) (by omega)
 have hw2:IntKind.i64.wrap (now-times.getD x1.toNat 0)=now-times.getD x1.toNat 0:=qv (by omega) (by omega)
 have hw3:IntKind.i64.wrap (times.getD x2.toNat 0-now)=times.getD x2.toNat 0-now:=qv (by omega) (by omega)
 refine SEx.go (X:=XX) qc (fun n=>qa [] [] n) (fun _=>none) hO 60 ?_
 intro M R L N m0 m1 m2 m3 m4 m5
 cases M
 cbv
 repeat' first | refine m1 _ _ ?_ ?_ | refine m2 _ _ fun h=>?_ | refine m3 _ ?_ | (refine m4 _ _ (Hd.out ?_);try first | rw [hks] | rw [hk2] | rw [hk3]) | (refine m5 _ _ ?_;cbv)
 all_goals (clear m1 m2 m3 m4 m5;cases m0;(try clear hks;try clear hk2;try clear hk3);try dsimp only)
 all_goals try simp only [sm] at *
 all_goals (clear hO ht)
 all_goals (try simp only [hw1,hw2,hw3] at *)
 all_goals first
  | omega
  | contradiction
  | exact hs
  | exact hst
  | exact ⟨h5⟩
  | exact ⟨h6⟩
  | (refine qI ?_ _;clear hs hst hw1 hw2 hw3;simp_all;done)
  | (refine qI ?_ _;clear hs hst hw1 hw2 hw3;rw [if_pos ⟨by assumption,by assumption⟩];first | (rw [decide_eq_false (show ¬_ by omega)];rfl) | (rw [decide_eq_true (show x3<=_ by omega),Bool.true_and,Bool.eq_iff_iff];simp;done))
  | skip
def qmT (f:qm->qf->Tie->Bool):Wr:=w3 qP qG Yz (fun t x q=>rB (f t x q)) (fun t x q=>[ki t x,StT t x,Q3 t q])
theorem qkv:qy Tryz.prog 127 (qmT KS):=jo fun t x q h=>yp t x q (h _ (.head _)) (h _ (.tail _ (.head _))) (h _ (.tail _ (.tail _ (.head _))))
theorem qcs (q:Tie)(t:qm)(x:qf)(hs:ki t x)(hst:StT t x)(hq:Q3 t q):qe Tryz.prog 126 [YO q,(false,[.ptr t.d]),(false,[.ptr x.d])] (rB (KS t x q)):=by
 refine qe.of qc (fn:=Tryz.f126) (c:=Tryz.f126.body.getD .skip) (dr:=fun n=>qa 0 [] n) Tryz.func126 rfl (by kernel_rfl) (by kernel_rfl) (by kernel_rfl) ?_
 obtain ⟨f,hf⟩:∃ f,f=KS:=⟨_,rfl⟩
 have hO:qp Tryz.prog (qK [(127,qmT f)]):=by subst hf;exact qb qkv qd
 rw [<-hf]
 obtain ⟨ns,ts,hr⟩:=t
 obtain ⟨now,times,vals⟩:=x
 obtain ⟨x1,x2,x3,x4,x5⟩:=q
 refine SEx.go (X:=XX) qc (fun n=>qa [] [] n) (fun _=>none) hO 60 ?_
 intro M R L N m0 m1 m2 m3 m4 m5
 cases M
 cbv
 repeat' first | refine m1 _ _ ?_ ?_ | refine m2 _ _ fun h=>?_ | refine m3 _ ?_ | (refine m4 _ _ (Hd.out ?_);try first | rw [hks] | rw [hk2] | rw [hk3]) | (refine m5 _ _ ?_;cbv)
 all_goals (clear m1 m2 m3 m4 m5;cases m0;(try clear hks;try clear hk2;try clear hk3);try dsimp only)
 all_goals try simp only [sm] at *
 all_goals first
  | exact hs
  | exact hst
  | exact hq
  | rfl
  | skip
theorem qhs (t:qm)(x:qf)(hs:ki t x)(hst:StT t x):qe Tryz.prog 100 [qQ t,qH x] (rB (jF t x)):=by
 refine qe.of qc (fn:=Tryz.f100) (c:=Tryz.f100.body.getD .skip) (dr:=fun n=>qa 0 [] n) Tryz.func100 rfl (by kernel_rfl) (by kernel_rfl) (by kernel_rfl) ?_
 obtain ⟨f,hf⟩:∃ f,f=nsI:=⟨_,rfl⟩
 have hO:qp Tryz.prog (qK [(128,J3 f)]):=by subst hf;exact qb JR qd
 have hn:=hst.now
 have h1:=qM hst.sh
 have hge:∀ i,-1<=f t x i:=fun i=>by rw [hf];unfold nsI;exact (qiY hst.vals _ 1 (by decide) (by decide)).1
 obtain ⟨p,hp⟩:∃ p:Nat->Int->Bool,p=fun (i:Nat) (n:Int)=>!(decide (n=-1)&&!decide (f t x (i:Int)=-1)):=⟨_,rfl⟩
 have hr:jF t x=(qz p x.times 0&&true):=by
  rw [Bool.and_true,Wi (0:Int),hn.2.2,hp]
  unfold jF
  congr 1
  funext i
  unfold qlO
  have:=hge i
  rw [hf] at this
  rw [hf,show decide (0<=nsI t x i)=!decide (nsI t x i=-1) by rw [<-decide_not];exact decide_eq_decide.2 (by omega)]
 rw [hr]
 clear hr hf
 obtain ⟨ns,ts,hr⟩:=t
 obtain ⟨now,times,vals⟩:=x
 dsimp only at hn h1 hp ⊢
 refine SEx.go (X:=XX) qc (fun n=>qa [] [(2,[2,3,8,9,10])] n) (fun _=>none) hO 60 ?_
 intro M R L N m0 m1 m2 m3 m4 m5
 cases M
 cbv
 repeat' first | refine m1 _ _ ?_ ?_ | refine m2 _ _ fun h=>?_ | refine m3 _ ?_ | (refine m4 _ _ (Hd.out ?_);generalize hks:(List.cons _ _:List K)=ks) | (refine m5 _ _ ?_;cbv)
 all_goals (clear m1 m2 m3 m4 m5;cases m0;try dsimp only)
 all_goals try simp only [sm] at *
 obtain ⟨m,hm⟩:∃ m,m=times.length:=⟨_,rfl⟩
 refine ⟨SEx.same (SEx.idx m (fun i=>⟨25,[(2,bP 8192),(3,bP 12288),(8,bL (.i times)),(9,bI m),(10,bI i)],[(8192,.obx [.fz (.sl (.node false none ns)),.fz (.sl (.tie ts)),.fz (.int .i64 hr)]),(12288,.obx [.fz (.int .i64 now),.fz (.sl (.i times)),.fz (.sl (.i vals))])]⟩) (fun i=>rB (qz p (times.drop i) i&&true)) ?_) (by rw [hm];rfl) rfl⟩
 intro i hi ih
 rw [<-hks]
 have hl2:i<m->q9 _ _ _:=fun h=>q9.of p times i true (0:Int) (by omega)
 have he:i=m->(qz p (times.drop i) i&&true)=true:=fun h=>qN (by omega)
 refine SEx.go (X:=XX) qc (fun n=>qa [] [(2,[2,3,8,9,10])] n) (fun _=>none) hO 60 ?_
 intro M R L N m0 m1 m2 m3 m4 m5
 cases M
 cbv
 repeat' first | refine m1 _ _ ?_ ?_ | refine m2 _ _ fun h=>?_ | refine m3 _ ?_ | (refine m4 _ _ (Hd.out ?_);try first | rw [hks] | rw [hk2] | rw [hk3]) | (refine m5 _ _ ?_;cbv)
 all_goals (clear m1 m2 m3 m4 m5;cases m0;(try clear hks;try clear hk2;try clear hk3);try dsimp only)
 all_goals try simp only [sm] at *
 all_goals (try simp only [qh (show i<9223372036854775807 by omega)] at *)
 all_goals first
  | omega
  | exact hs
  | exact hst
  | exact ⟨⟨by omega,by omega⟩⟩
  | (refine qI ?_ _;rw [he (by omega)];done)
  | (refine (hl2 (by omega)).stop _ ?_;rw [hp];dsimp only;rw [decide_eq_true (by assumption),decide_eq_false (by assumption)];rfl)
  | (refine ⟨(ih (by omega)).same rfl ((hl2 (by omega)).go ?_)⟩;rw [hp];dsimp only;rw [decide_eq_false (by assumption)];rfl)
  | (refine ⟨(ih (by omega)).same rfl ((hl2 (by omega)).go ?_)⟩;rw [hp];dsimp only;rw [decide_eq_true (by assumption),decide_eq_true (by assumption)];rfl)
  | skip
def jG (f:qm->qf->Bool):Wr:=w2 qP qG (fun t x=>rB (f t x)) (fun t x=>[ki t x,StT t x])
theorem Vh:qy Tryz.prog 100 (jG jF):=qE fun t x h=>qhs t x (h _ (.head _)) (h _ (.tail _ (.head _)))
theorem qnB:qy Tryz.prog 95 (jG jF):=qE fun t x h=>qec t x (h _ (.head _)).sh (h _ (.tail _ (.head _)))
theorem qdR:qy Tryz.prog 94 (jG zY):=qE fun t x h=>qan t x (h _ (.head _)).sh (h _ (.tail _ (.head _)))
structure qre (t:qm)(l:List Tie):Prop where out:∀ q∈l,Q3 t q
def qi7 (l:List Tie)(t:qm)(x:qf):Bool:=l.any fun q=>KS t x q
theorem qfB (t:qm)(x:qf)(hs:ki t x)(hst:StT t x):qe Tryz.prog 99 [qQ t,qH x] (rB (zY t x)):=by
 refine qe.of qc (fn:=Tryz.f99) (c:=Tryz.f99.body.getD .skip) (dr:=fun n=>qa 0 [] n) Tryz.func99 rfl (by kernel_rfl) (by kernel_rfl) (by kernel_rfl) ?_
 obtain ⟨f,hf⟩:∃ f,f=qi7:=⟨_,rfl⟩
 obtain ⟨g,hg⟩:∃ f,f=jF:=⟨_,rfl⟩
 have hO:qp Tryz.prog (qK [(100,jG g),(125,w2 KL (qrM 126 true true qP qG) (fun l x=>rB (f l x.1 x.2)) (fun l x=>[LLe l maxLen,qre x.1 l,ki x.1 x.2,StT x.1 x.2]))]):=by
  subst hf hg
  exact qb Vh (qb (qE fun l x h=>by
   have g1:=(h _ (.head _)).out
   have g2:=(h _ (.tail _ (.head _))).out
   have g3:=h _ (.tail _ (.tail _ (.head _)))
   have g4:=h _ (.tail _ (.tail _ (.tail _ (.head _))))
   exact Kv l _ _ _ (fun y hy=>qcs y x.1 x.2 g3 g4 (g2 y hy)) g1) qd)
 have hr:zY t x=(f t.ties t x||(decide (t.hor<x.now)&&!g t x)):=by
  rw [hf,hg]
  unfold zY qi7
  rw [KR,Bool.not_and,List.not_all_eq_any_not,Bool.not_or]
  simp only [Bool.not_not]
  congr 2
  rw [<-decide_not]
  exact decide_eq_decide.2 (by omega)
 have h1:=hs.sh.tlen
 have h2:∀ q∈t.ties,Q3 t q:=fun q hq=>kA hst.sh hq
 rw [hr]
 clear hr hf hg
 obtain ⟨ns,ts,hr⟩:=t
 obtain ⟨now,times,vals⟩:=x
 dsimp only at h1 h2 ⊢
 refine SEx.go (X:=XX) qc (fun n=>qa [] [] n) (fun _=>none) hO 60 ?_
 intro M R L N m0 m1 m2 m3 m4 m5
 cases M
 cbv
 repeat' first | refine m1 _ _ ?_ ?_ | refine m2 _ _ fun h=>?_ | refine m3 _ ?_ | (refine m4 _ _ (Hd.out ?_);try first | rw [hks] | rw [hk2] | rw [hk3]) | (refine m5 _ _ ?_;cbv)
 all_goals (clear m1 m2 m3 m4 m5;cases m0;(try clear hks;try clear hk2;try clear hk3);try dsimp only)
 all_goals try simp only [sm] at *
 all_goals first
  | exact ⟨h1⟩
  | exact ⟨h2⟩
  | exact hs
  | exact hst
  | (refine qI ?_ _;clear hs hst;simp_all;done)
  | (refine qI ?_ _;rw [decide_eq_false (show ¬hr<now by omega)];simp_all;done)
  | skip
theorem qdy:qy Tryz.prog 99 (jG zY):=qE fun t x h=>qfB t x (h _ (.head _)) (h _ (.tail _ (.head _)))
end Go.Proofs.YtifnopmkdempdaaGreat.Ai
namespace Go.Proofs.YtifnopmkdempdaaGreat.Ai
open Go
set_option maxRecDepth 100000
variable [qg]
theorem qbw.le {t:qm}(h:qbw t):jz t:=⟨h.len,h.tlen,fun q hq=>⟨(h.nodes q hq).name,(h.nodes q hq).len,(h.nodes q hq).label⟩⟩
theorem VQ.le {x:qf}(h:VQ x):Q9 x:=⟨h.now,h.len,h.vlen⟩
structure ql8 (t:qm)(n:Int):Prop where
 len:t.nodes.length<=1048576
 tlen:t.ties.length<=1048576
 labs:∀ q∈t.nodes,q.label.length<=1048576
 le:n<=1048576
theorem qqC {t:qm}(h:0<=jh t 1048576):ql8 t (jh t 1048576):=by
 have:=qkt (n:=1048576) (by decide) h
 exact ⟨by omega,by omega,fun q hq=>by have:=(this.2.2.1 q hq).2;omega,this.2.2.2⟩
structure qh0 (x:qf):Prop where
 tlen:x.times.length<=1048576
 vlen:x.vals.length<=1048576
theorem qov {x:qf}{n:Int}(h0:0<=n)(h1:n<=1048576)(h:0<=jr x n):qh0 x:=by
 have:=qgV h0 h
 exact ⟨by omega,by omega⟩
end Go.Proofs.YtifnopmkdempdaaGreat.Ai
namespace Go.Proofs.YtifnopmkdempdaaGreat.Ai
open Go
set_option maxRecDepth 100000
variable [qg]
theorem qed (x:qf)(h1:x.times.length<=1048576)(h2:x.vals.length<=1048576):qe Tryz.prog 98 [qH x] (kR x):=by
 refine qe.of qc (fn:=Tryz.f98) (c:=Tryz.f98.body.getD .skip) (dr:=fun n=>qa 0 [(1,10)] n) Tryz.func98 rfl (by kernel_rfl) (by kernel_rfl) (by kernel_rfl) ?_
 obtain ⟨now,times,vals⟩:=x
 dsimp only at h1 h2
 refine SEx.go (X:=XX) qc (fun n=>qa [] [] n) (fun _=>none) qd 60 ?_
 intro M R L N m0 m1 m2 m3 m4 m5
 cases M
 cbv
 repeat' first | refine m1 _ _ ?_ ?_ | refine m2 _ _ fun h=>?_ | refine m3 _ ?_ | (refine m4 _ _ (Hd.out ?_);try first | rw [hks] | rw [hk2] | rw [hk3]) | (refine m5 _ _ ?_;cbv)
 all_goals (clear m1 m2 m3 m4 m5;cases m0;(try clear hks;try clear hk2;try clear hk3);try dsimp only)
 all_goals try simp only [sm] at *
 all_goals first
  | (have:=zx;omega)
  | rfl
structure KG (x:qf):Prop where
 tlen:x.times.length<=1048576
 vlen:x.vals.length<=1048576
def ZE:Wr:=w1 qG kR (fun x=>[KG x])
theorem Qz:qy Tryz.prog 98 ZE:=zH fun x h=>qed x (h _ (.head _)).tlen (h _ (.head _)).vlen
def vP (n:Int):Int:=max (-1000000) (min n 1000000)
theorem qmm (n:Int):qe Tryz.prog 84 [aI n] (rI (vP n)):=by
 refine qe.of qc (fn:=Tryz.f84) (c:=Tryz.f84.body.getD .skip) (dr:=fun n=>qa 0 [] n) Tryz.func84 rfl (by kernel_rfl) (by kernel_rfl) (by kernel_rfl) ?_
 refine SEx.go (X:=XX) qc (fun n=>qa [] [] n) (fun _=>none) qd 60 ?_
 intro M R L N m0 m1 m2 m3 m4 m5
 cases M
 cbv
 repeat' first | refine m1 _ _ ?_ ?_ | refine m2 _ _ fun h=>?_ | refine m3 _ ?_ | (refine m4 _ _ (Hd.out ?_);try first | rw [hks] | rw [hk2] | rw [hk3]) | (refine m5 _ _ ?_;cbv)
 all_goals (clear m1 m2 m3 m4 m5;cases m0;(try clear hks;try clear hk2;try clear hk3);try dsimp only)
 all_goals try simp only [sm] at *
 all_goals simp only [Z4,vP]
 all_goals (try rw [Int.max_def,Int.min_def])
 all_goals (repeat' split)
 all_goals omega
def qnW (f:Int->Int):Wr:=w1 dcI (fun n=>rI (f n)) (fun _=>[])
theorem qjD:qy Tryz.prog 84 (qnW vP):=zH fun n _=>qmm n
def Qd (t:qm)(x:qf):Bool:=q8 t&&(decide (0<=x.now)&&(decide (x.now<=t.hor)&&jS t ⟨x.now+1,x.times,x.vals⟩))
theorem qag (t:qm)(x:qf)(hs:ki t x)(hz:KG x):qe Tryz.prog 69 [qQ t,qH x] (rB (Qd t x)):=by
 refine qe.of qc (fn:=Tryz.f69) (c:=Tryz.f69.body.getD .skip) (dr:=fun n=>qa 0 [] n) Tryz.func69 rfl (by kernel_rfl) (by kernel_rfl) (by kernel_rfl) ?_
 obtain ⟨f,hf⟩:∃ f,f=q8:=⟨_,rfl⟩
 obtain ⟨g,hg⟩:∃ f,f=qeW:=⟨_,rfl⟩
 obtain ⟨k,hk⟩:∃ f,f=z6:=⟨_,rfl⟩
 have hO:qp Tryz.prog (qK [(104,yv k),(106,wQ f),(98,ZE),(93,qdu g)]):=by subst hf hg hk;exact qb jY (qb WS (qb Qz (qb qcx qd)))
 have h1:=hs.sh
 have h2:=hs.st
 have h4:=h2.now
 rw [kW] at h4
 obtain ⟨r,hr⟩:∃ r,r=Qd t x:=⟨_,rfl⟩
 rw [<-hr]
 have hsh:f t=true->1<=t.hor/\t.hor<=10:=fun h=>by rw [hf] at h;exact zl h
 have hk0:k x.now 0 10=(decide (0<=x.now)&&decide (x.now<=10)):=by rw [hk];rfl
 have hr1:f t=true->¬(0<=x.now/\x.now<=t.hor)->r=false:=fun h h'=>by
  rw [hr];unfold Qd
  by_cases h0:0<=x.now
  . rw [decide_eq_false (show ¬x.now<=t.hor by omega)];simp
  . rw [decide_eq_false h0];simp
 have hr2:f t=false->r=false:=fun h=>by rw [hr];unfold Qd;rw [<-hf,h];rfl
 have hr0:¬(0<=x.now/\x.now<=10)->r=false:=fun h=>by
  cases h5:f t with
  | true=>have:=hsh h5;exact hr1 h5 (by omega)
  | false=>exact hr2 h5
 have hr3:f t=true->0<=x.now->x.now<=t.hor->r=g t ⟨x.now+1,x.times,x.vals⟩:=fun h h5 h6=>by
  rw [hr];unfold Qd;rw [hg,decide_eq_true h5,decide_eq_true h6];unfold qeW;rw [<-hf,h];rfl
 clear hr hf hg hk hs
 obtain ⟨ns,ts,hr⟩:=t
 obtain ⟨now,times,vals⟩:=x
 dsimp only at hr1 hr3 hr0 hk0 hsh h4
 refine SEx.go (X:=XX) qc (fun n=>qa [] [] n) (fun _=>none) hO 60 ?_
 intro M R L N m0 m1 m2 m3 m4 m5
 cases M
 cbv
 repeat' first | refine m1 _ _ ?_ ?_ | refine m2 _ _ fun h=>?_ | refine m3 _ ?_ | (refine m4 _ _ (Hd.out ?_);try first | rw [hks] | rw [hk2] | rw [hk3]) | (refine m5 _ _ ?_;cbv)
 all_goals (clear m1 m2 m3 m4 m5;cases m0;(try clear hks;try clear hk2;try clear hk3);try dsimp only)
 all_goals try simp only [sm] at *
 all_goals (try rw [hk0] at *)
 all_goals (try simp only [Bool.and_eq_true,Bool.and_eq_false_iff,decide_eq_true_eq,decide_eq_false_iff_not] at *)
 all_goals first
  | exact h1
  | exact hz
  | (rw [qv (by omega) (by omega)];exact ⟨by rw [kW];dsimp only;omega,h2.tlen,h2.vlen⟩)
  | (refine qI ?_ _;rw [hr0 (by omega)];done)
  | (refine qI ?_ _;rw [hr2 (by assumption)];done)
  | (refine qI ?_ _;rw [hr1 (by assumption) (by omega)];done)
  | (rw [qv (by omega) (by omega)];refine qI ?_ _;rw [hr3 (by assumption) (by omega) (by assumption)];done)
  | skip
theorem qaw (t:qm)(x:qf)(hs:ki t x):qe Tryz.prog 44 [qQ t,qH x] (rB (Qd t x)):=by
 refine qe.of qc (fn:=Tryz.f44) (c:=Tryz.f44.body.getD .skip) (dr:=fun n=>qa 0 [] n) Tryz.func44 rfl (by kernel_rfl) (by kernel_rfl) (by kernel_rfl) ?_
 obtain ⟨f,hf⟩:∃ f,f=q8:=⟨_,rfl⟩
 obtain ⟨g,hg⟩:∃ f,f=jS:=⟨_,rfl⟩
 obtain ⟨k,hk⟩:∃ f,f=vP:=⟨_,rfl⟩
 have hO:qp Tryz.prog (qK [(84,qnW k),(85,wQ f),(86,qdk g)]):=by subst hf hg hk;exact qb qjD (qb qd7 (qb qe7 qd))
 have h1:=hs.sh
 have h2:=hs.st
 have h4:=h2.now
 rw [kW] at h4
 obtain ⟨r,hr⟩:∃ r,r=Qd t x:=⟨_,rfl⟩
 rw [<-hr]
 have hsh:f t=true->q8 t=true/\1<=t.hor/\t.hor<=10:=fun h=>by rw [hf] at h;exact ⟨h,zl h⟩
 have hc:f t=true->0<=x.now->x.now<=t.hor->IntKind.i64.wrap (k x.now+1)=x.now+1:=fun h h5 h6=>by
  have:=hsh h
  rw [hk,show vP x.now=x.now by unfold vP;omega]
  exact qv (by omega) (by omega)
 have hr0:f t=false->r=false:=fun h=>by rw [hr];unfold Qd;rw [<-hf,h];rfl
 have hr1:x.now<0->r=false:=fun h=>by rw [hr];unfold Qd;rw [decide_eq_false (show ¬0<=x.now by omega)];simp
 have hr2:t.hor<x.now->r=false:=fun h=>by rw [hr];unfold Qd;rw [decide_eq_false (show ¬x.now<=t.hor by omega)];simp
 have hr3:f t=true->0<=x.now->x.now<=t.hor->r=g t ⟨IntKind.i64.wrap (k x.now+1),x.times,x.vals⟩:=fun h h5 h6=>by
  rw [hc h h5 h6,hr];unfold Qd;rw [hg,decide_eq_true h5,decide_eq_true h6,<-hf,h];rfl
 have hle:f t=true->0<=x.now->x.now<=t.hor->Q9 ⟨IntKind.i64.wrap (k x.now+1),x.times,x.vals⟩:=fun h h5 h6=>by
  have:=hsh h
  rw [hc h h5 h6]
  exact ⟨by rw [kW];dsimp only;omega,h2.tlen,h2.vlen⟩
 clear hr hf hg hk hs hc
 obtain ⟨ns,ts,hr⟩:=t
 obtain ⟨now,times,vals⟩:=x
 dsimp only at hr1 hr2 hr3 hle hsh h4
 refine SEx.go (X:=XX) qc (fun n=>qa [] [] n) (fun _=>none) hO 60 ?_
 intro M R L N m0 m1 m2 m3 m4 m5
 cases M
 cbv
 repeat' first | refine m1 _ _ ?_ ?_ | refine m2 _ _ fun h=>?_ | refine m3 _ ?_ | (refine m4 _ _ (Hd.out ?_);try first | rw [hks] | rw [hk2] | rw [hk3]) | (refine m5 _ _ ?_;cbv)
 all_goals (clear m1 m2 m3 m4 m5;cases m0;(try clear hks;try clear hk2;try clear hk3);try dsimp only)
 all_goals try simp only [sm] at *
 all_goals first
  | exact h1
  | exact ⟨(hsh (by assumption)).1⟩
  | exact hle (by assumption) (by assumption) (by assumption)
  | (refine qI ?_ _;rw [hr0 (by assumption)];done)
  | (refine qI ?_ _;rw [hr1 (by assumption)];done)
  | (refine qI ?_ _;rw [hr2 (by assumption)];done)
  | (refine qI ?_ _;rw [hr3 (by assumption) (by assumption) (by assumption)];done)
  | skip
def qpT (f:qm->qf->Bool):Wr:=w2 qP qG (fun t x=>rB (f t x)) (fun t x=>[ki t x,KG x])
theorem qnX:qy Tryz.prog 69 (qpT Qd):=qE fun t x h=>qag t x (h _ (.head _)) (h _ (.tail _ (.head _)))
def qp9 (f:qm->qf->Bool):Wr:=w2 qP qG (fun t x=>rB (f t x)) (fun t x=>[ki t x])
theorem qoe:qy Tryz.prog 44 (qp9 Qd):=qE fun t x h=>qaw t x (h _ (.head _))
end Go.Proofs.YtifnopmkdempdaaGreat.Ai
namespace Go.Proofs.YtifnopmkdempdaaGreat.Ai
open Go
set_option maxRecDepth 100000
variable [qg]
def JJ (v ps vs:List Int):Nat->List Int
 | 0=>v
 | i+1=>(JJ v ps vs i).set (ps.getD i 0-1).toNat (vs.getD i 0)
theorem Zx (v ps vs:List Int):∀ i,(JJ v ps vs i).length=v.length
 | 0=>rfl
 | i+1=>by simp only [JJ,List.length_set,Zx v ps vs i]
structure PrT (ps:List Int):Prop where out:∀ p∈ps,1<=p/\p<=3
def qgU (x:qf)(ps vs:List Int):qf:=⟨IntKind.i64.wrap (x.now+1),x.times,JJ x.vals ps vs ps.length⟩
theorem qat (x:qf)(ps vs:List Int)(hz:KG x)(h3:x.vals.length=3)(hl:vs.length=ps.length)(h1:ps.length<=1048576)(hp:∀ p∈ps,1<=p/\p<=3):qe Tryz.prog 65 [qH x,aIs ps,aIs vs] (kR (qgU x ps vs)):=by
 refine qe.of qc (fn:=Tryz.f65) (c:=Tryz.f65.body.getD .skip) (dr:=fun n=>qa 0 [(5,8)] n) Tryz.func65 rfl (by kernel_rfl) (by kernel_rfl) (by kernel_rfl) ?_
 have hO:qp Tryz.prog (qK [(98,ZE)]):=qb Qz qd
 obtain ⟨now,times,vals⟩:=x
 dsimp only at h3
 refine SEx.go (X:=XX) qc (fun n=>qa [] [(3,[2,6,7,12,13,14])] n) (fun _=>none) hO 60 ?_
 intro M R L N m0 m1 m2 m3 m4 m5
 cases M
 cbv
 repeat' first | refine m1 _ _ ?_ ?_ | refine m2 _ _ fun h=>?_ | refine m3 _ ?_ | (refine m4 _ _ (Hd.out ?_);generalize hks:(List.cons _ _:List K)=ks) | (refine m5 _ _ ?_;cbv)
 all_goals (clear m1 m2 m3 m4 m5;cases m0;try dsimp only)
 all_goals try simp only [sm] at *
 all_goals first
  | exact hz
  | skip
 obtain ⟨m,hm⟩:∃ m,m=ps.length:=⟨_,rfl⟩
 refine ⟨SEx.same (SEx.idx m (fun i=>⟨34,[(2,bL (.i vs)),(6,bP 24576),(7,bP 28672),(12,bL (.i ps)),(13,bI m),(14,bI i)],[(24576,.obx [.fz (.int .i64 0),.onil,.onil]),(28672,.obx [.fz (.int .i64 now),.osl (.i times),.osl (.i (JJ vals ps vs i))])]⟩) (fun _=>kR (qgU ⟨now,times,vals⟩ ps vs)) ?_) (by rw [hm];rfl) rfl⟩
 intro i hi ih
 rw [<-hks]
 obtain ⟨c,hc⟩:∃ c,c=JJ vals ps vs i:=⟨_,rfl⟩
 have hcl:c.length=3:=by rw [hc,Zx,h3]
 have hpi:i<m->1<=ps.getD i 0/\ps.getD i 0<=3:=fun h=>hp _ (qo (z:=(0:Int)) (by omega)).out
 have hw:i<m->IntKind.i64.wrap (ps.getD i 0-1)=ps.getD i 0-1:=fun h=>by have:=hpi h;exact qv (by omega) (by omega)
 rw [<-hc]
 refine SEx.go (X:=XX) qc (fun n=>qa [] [(3,[2,6,7,12,13,14])] n) (fun _=>none) hO 60 ?_
 intro M R L N m0 m1 m2 m3 m4 m5
 cases M
 cbv
 repeat' first | refine m1 _ _ ?_ ?_ | refine m2 _ _ fun h=>?_ | refine m3 _ ?_ | (refine m4 _ _ (Hd.out ?_);try first | rw [hks] | rw [hk2] | rw [hk3]) | (refine m5 _ _ ?_;cbv)
 all_goals (clear m1 m2 m3 m4 m5;cases m0;(try clear hks;try clear hk2;try clear hk3);try dsimp only)
 all_goals try simp only [sm] at *
 all_goals (try (have h8:=hpi (by omega)))
 all_goals (try rw [hw (by omega)] at *)
 all_goals (try simp only [qh (show i<9223372036854775807 by omega)])
 all_goals first
  | omega
  | (refine ⟨(ih (by omega)).same ?_ rfl⟩;show _=_;rw [show JJ vals ps vs (i+1)=c.set (ps.getD i 0-1).toNat (vs.getD i 0) by rw [hc];rfl];rfl)
  | (obtain rfl:i=m:=by omega
     unfold qgU
     rw [<-hm,hc];rfl)
  | skip
theorem qkP (l:List Int)(h1:l.length<=1048576):qe Tryz.prog 50 [aIs l] (rIs l):=by
 refine qe.of qc (fn:=Tryz.f50) (c:=Tryz.f50.body.getD .skip) (dr:=fun n=>qa 0 [] n) Tryz.func50 rfl (by kernel_rfl) (by kernel_rfl) (by kernel_rfl) ?_
 refine SEx.go (X:=XX) qc (fun n=>qa [] [] n) (fun _=>none) qd 60 ?_
 intro M R L N m0 m1 m2 m3 m4 m5
 cases M
 cbv
 repeat' first | refine m1 _ _ ?_ ?_ | refine m2 _ _ fun h=>?_ | refine m3 _ ?_ | (refine m4 _ _ (Hd.out ?_);try first | rw [hks] | rw [hk2] | rw [hk3]) | (refine m5 _ _ ?_;cbv)
 all_goals (clear m1 m2 m3 m4 m5;cases m0;(try clear hks;try clear hk2;try clear hk3);try dsimp only)
 all_goals try simp only [sm] at *
 all_goals first
  | (have:=zx;omega)
  | (have hl:l=[]:=List.eq_nil_of_length_eq_zero (by omega)
     subst hl;rfl)
  | rfl
end Go.Proofs.YtifnopmkdempdaaGreat.Ai
namespace Go.Proofs.YtifnopmkdempdaaGreat.Ai
open Go
set_option maxRecDepth 100000
variable [qg]
def qjh:Wr:=w1 z8 rIs (fun l=>[LLe l 1048576])
theorem qg7:qy Tryz.prog 50 qjh:=zH fun l h=>qkP l (h _ (.head _)).out
end Go.Proofs.YtifnopmkdempdaaGreat.Ai
