/- The law's proof, part 5 of 11: what of its author's texts it needs; no condition. -/
import Derived.Test.YtfafehnchmelnaaGreatProg
import Derived.KernelRfl
import Derived.Test.YtfafehnchmelnaaGreatZcD
set_option linter.unusedSectionVars false
set_option linter.unusedSimpArgs false
set_option linter.unusedVariables false
namespace Go.Proofs.YtfafehnchmelnaaGreat.Ai
open Go
set_option maxRecDepth 100000
variable [qf]
def tr3:Ty:={ kind:=TK.int IntKind.i64,agg:=false,size:=1,bytes:=8,zero:=[C.int IntKind.i64 (Int.ofNat 0)] }
theorem ty3:kV Tryz.prog 3=some tr3:=by kernel_rfl
def tr4:Ty:={ kind:=TK.bool,agg:=false,size:=1,bytes:=1,zero:=[C.bool false] }
theorem ty4:kV Tryz.prog 4=some tr4:=by kernel_rfl
def tr5:Ty:={ kind:=TK.int IntKind.u8,agg:=false,size:=1,bytes:=1,zero:=[C.int IntKind.u8 (Int.ofNat 0)] }
theorem ty5:kV Tryz.prog 5=some tr5:=by kernel_rfl
def tr9:Ty:={ kind:=TK.str,agg:=false,size:=1,bytes:=16,zero:=[C.str { data:={ toList:=[] } }] }
theorem ty9:kV Tryz.prog 9=some tr9:=by kernel_rfl
def tr22:Ty:={ kind:=TK.sl 69,agg:=false,size:=1,bytes:=24,zero:=[C.nilsl] }
theorem ty22:kV Tryz.prog 22=some tr22:=by kernel_rfl
def tr23:Ty:={ kind:=TK.sl 81,agg:=false,size:=1,bytes:=24,zero:=[C.nilsl] }
theorem ty23:kV Tryz.prog 23=some tr23:=by kernel_rfl
def tr25:Ty:={ kind:=TK.st [(0,1,false),(1,1,false),(2,1,false)],agg:=true,size:=3,bytes:=56,zero:=[C.nilsl,C.nilsl,C.int IntKind.i64 (Int.ofNat 0)] }
theorem ty25:kV Tryz.prog 25=some tr25:=by kernel_rfl
def tr28:Ty:={ kind:=TK.sl 63,agg:=false,size:=1,bytes:=24,zero:=[C.nilsl] }
theorem ty28:kV Tryz.prog 28=some tr28:=by kernel_rfl
def tr29:Ty:={ kind:=TK.sl 79,agg:=false,size:=1,bytes:=24,zero:=[C.nilsl] }
theorem ty29:kV Tryz.prog 29=some tr29:=by kernel_rfl
def tr31:Ty:={ kind:=TK.st [(0,1,false),(1,1,false),(2,1,false)],agg:=true,size:=3,bytes:=56,zero:=[C.nilsl,C.nilsl,C.int IntKind.i64 (Int.ofNat 0)] }
theorem ty31:kV Tryz.prog 31=some tr31:=by kernel_rfl
def tr40:Ty:={ kind:=TK.sl 5,agg:=false,size:=1,bytes:=24,zero:=[C.nilsl] }
theorem ty40:kV Tryz.prog 40=some tr40:=by kernel_rfl
def tr48:Ty:={ kind:=TK.sl 3,agg:=false,size:=1,bytes:=24,zero:=[C.nilsl] }
theorem ty48:kV Tryz.prog 48=some tr48:=by kernel_rfl
def tr50:Ty:={ kind:=TK.st [(0,1,false),(1,1,false),(2,1,false)],agg:=true,size:=3,bytes:=56,zero:=[C.int IntKind.i64 (Int.ofNat 0),C.nilsl,C.nilsl] }
theorem ty50:kV Tryz.prog 50=some tr50:=by kernel_rfl
def tr63:Ty:={ kind:=TK.st [(0,1,false),(1,1,false),(2,1,false)],agg:=true,size:=3,bytes:=48,zero:=[C.str { data:={ toList:=[] } },C.nilsl,C.int IntKind.i64 (Int.ofNat 0)] }
theorem ty63:kV Tryz.prog 63=some tr63:=by kernel_rfl
def tr69:Ty:={ kind:=TK.st [(0,1,false),(1,1,false),(2,1,false)],agg:=true,size:=3,bytes:=48,zero:=[C.str { data:={ toList:=[] } },C.nilsl,C.int IntKind.i64 (Int.ofNat 0)] }
theorem ty69:kV Tryz.prog 69=some tr69:=by kernel_rfl
def tr73:Ty:={ kind:=TK.int IntKind.u64,agg:=false,size:=1,bytes:=8,zero:=[C.int IntKind.u64 (Int.ofNat 0)] }
theorem ty73:kV Tryz.prog 73=some tr73:=by kernel_rfl
def tr79:Ty:={ kind:=TK.st [(0,1,false),(1,1,false),(2,1,false),(3,1,false),(4,1,false)],agg:=true,size:=5,bytes:=40,zero:=[C.int IntKind.i64 (Int.ofNat 0),C.int IntKind.i64 (Int.ofNat 0),C.int IntKind.i64 (Int.ofNat 0),C.int IntKind.i64 (Int.ofNat 0),C.bool false] }
theorem ty79:kV Tryz.prog 79=some tr79:=by kernel_rfl
def tr81:Ty:={ kind:=TK.st [(0,1,false),(1,1,false),(2,1,false),(3,1,false),(4,1,false)],agg:=true,size:=5,bytes:=40,zero:=[C.int IntKind.i64 (Int.ofNat 0),C.int IntKind.i64 (Int.ofNat 0),C.int IntKind.i64 (Int.ofNat 0),C.int IntKind.i64 (Int.ofNat 0),C.bool false] }
theorem ty81:kV Tryz.prog 81=some tr81:=by kernel_rfl
def tr91:Ty:={ kind:=TK.st [(0,1,false),(1,1,false),(2,1,false)],agg:=true,size:=3,bytes:=40,zero:=[C.nilsl,C.int IntKind.i64 (Int.ofNat 0),C.int IntKind.i64 (Int.ofNat 0)] }
theorem ty91:kV Tryz.prog 91=some tr91:=by kernel_rfl
def tr105:Ty:={ kind:=TK.sl 4,agg:=false,size:=1,bytes:=24,zero:=[C.nilsl] }
theorem ty105:kV Tryz.prog 105=some tr105:=by kernel_rfl
def tr111:Ty:={ kind:=TK.mp 9 4,agg:=false,size:=1,bytes:=8,zero:=[C.un] }
theorem ty111:kV Tryz.prog 111=some tr111:=by kernel_rfl
def tr113:Ty:={ kind:=TK.st [(0,3,true),(3,1,false)],agg:=true,size:=4,bytes:=64,zero:=[C.nilsl,C.nilsl,C.int IntKind.i64 (Int.ofNat 0),C.un] }
theorem ty113:kV Tryz.prog 113=some tr113:=by kernel_rfl
def tr116:Ty:={ kind:=TK.sl 48,agg:=false,size:=1,bytes:=24,zero:=[C.nilsl] }
theorem ty116:kV Tryz.prog 116=some tr116:=by kernel_rfl
def tr137:Ty:={ kind:=TK.int IntKind.u32,agg:=false,size:=1,bytes:=4,zero:=[C.int IntKind.u32 (Int.ofNat 0)] }
theorem ty137:kV Tryz.prog 137=some tr137:=by kernel_rfl
def tr140:Ty:={ kind:=TK.int IntKind.u64,agg:=false,size:=1,bytes:=8,zero:=[C.int IntKind.u64 (Int.ofNat 0)] }
theorem ty140:kV Tryz.prog 140=some tr140:=by kernel_rfl
def tr144:Ty:={ kind:=TK.sl 9,agg:=false,size:=1,bytes:=24,zero:=[C.nilsl] }
theorem ty144:kV Tryz.prog 144=some tr144:=by kernel_rfl
def tr149:Ty:={ kind:=TK.int IntKind.i64,agg:=false,size:=1,bytes:=8,zero:=[C.int IntKind.i64 (Int.ofNat 0)] }
theorem ty149:kV Tryz.prog 149=some tr149:=by kernel_rfl
def TT:List (Nat×Option Ty):=[(3,some tr3),(48,some tr48),(31,some tr31),(79,some tr79),(63,some tr63),(50,some tr50),(28,some tr28),(29,some tr29),(4,some tr4),(9,some tr9),(5,some tr5),(73,some tr73),(116,some tr116),(25,some tr25),(69,some tr69),(40,some tr40),(81,some tr81),(22,some tr22),(23,some tr23),(113,some tr113),(137,some tr137),(140,some tr140),(91,some tr91),(105,some tr105),(111,some tr111),(144,some tr144),(149,some tr149)]
def XX:SX:={ T:=qa none TT,K:=fun t=>qa none [(3,some .i),(48,some .ii),(79,some .tie),(63,some .node),(4,some .b),(9,some .s),(5,some .u),(69,some .node),(81,some .tie),(149,some .i)] t }
theorem qc:kA Tryz.prog XX.T:=qlM (by simp only [TT,List.mem_cons,List.not_mem_nil,or_false,forall_eq_or_imp,forall_eq,ty3,ty48,ty31,ty79,ty63,ty50,ty28,ty29,ty4,ty9,ty5,ty73,ty116,ty25,ty69,ty40,ty81,ty22,ty23,ty113,ty137,ty140,ty91,ty105,ty111,ty144,ty149];simp)
def qsZ:List (Nat×Option (List Nat)):=[(2,some [0]),(3,some [1]),(4,some [1,2]),(5,some [1,2,3]),(6,some [1,2,3,4]),(7,some [1,2,3,5]),(8,some [1,2,3,6]),(9,some [1,2,3]),(10,some [1,2,3,8]),(11,some [1,2,3,9]),(12,some [1,2,3,10]),(13,some [1,2,3]),(14,some [2,3,12]),(15,some [2,3,13]),(16,some [2,3])]
end Go.Proofs.YtfafehnchmelnaaGreat.Ai
namespace Go.Proofs.YtfafehnchmelnaaGreat.Ai
open Go
set_option maxRecDepth 100000
variable [qf]
def bI (n:Int):TV B:=.v (false,[.fz (.int .i64 n)])
def bS (s:ByteArray):TV B:=.v (false,[.fz (.str s)])
def bL (x:LL):TV B:=.v (false,[.fz (.sl x)])
def bR (r len:Nat):TV B:=.v (false,[.rf (r,[]) true 0 len])
def bP (r:Nat):TV B:=.v (false,[.pp (r,[]) (true,0) 0])
theorem sm:type_of% (Bool.not_eq_true')/\type_of% (Bool.not_eq_false')/\type_of% (@decide_eq_true_eq)/\type_of% (@decide_eq_false_iff_not)/\type_of% (@Int.not_le)/\type_of% (@Int.not_lt)/\type_of% (@beq_iff_eq.{0})/\type_of% (@beq_eq_false_iff_ne.{0})/\type_of% (@ne_eq.{1})/\type_of% (@Int.ofNat_eq_natCast)/\type_of% (@Int.toNat_natCast)/\type_of% (@List.length_replicate.{0})/\type_of% (@qdQ)/\type_of% (@Nat.sub_zero)/\type_of% (@List.drop_zero.{0})/\type_of% (@Cue.eta)/\type_of% (@Tie.eta)/\type_of% (@Edge.eta)/\type_of% (@Qj.eta)/\type_of% (@qi.eta):=⟨Bool.not_eq_true',Bool.not_eq_false',@decide_eq_true_eq,@decide_eq_false_iff_not,@Int.not_le,@Int.not_lt,@beq_iff_eq.{0},@beq_eq_false_iff_ne.{0},@ne_eq.{1},@Int.ofNat_eq_natCast,@Int.toNat_natCast,@List.length_replicate.{0},@qdQ,@Nat.sub_zero,@List.drop_zero.{0},@Cue.eta,@Tie.eta,@Edge.eta,@Qj.eta,@qi.eta⟩
theorem SEx.idx {P:Program}{T:Nat->Option Ty}{dr:Nat->Nat}{rs:Array ResultVar}{ks:List K}(n:Nat)(f:Nat->SF)(R:Nat->TV W)
 (step:∀ i,i<=n->(i<n->SEx P T dr rs ks (f (i+1)) (R (i+1)))->SEx P T dr rs ks (f i) (R i)):SEx P T dr rs ks (f 0) (R 0) :=
 SEx.ind f R (fun i=>i<=n) (fun i=>n-i) 0 (Nat.zero_le _) fun i hi ih=>step i hi fun h=>ih (i+1) (by omega) (by omega)
theorem SEx.idxS {P:Program}{T:Nat->Option Ty}{dr:Nat->Nat}{rs:Array ResultVar}{ks:List K}{α:Type}(n:Nat)(f:Nat->α->SF)(R:Nat->α->TV W)(Inv:Nat->α->Prop)(s0:α)(h0:Inv 0 s0)
 (step:∀ i s,i<=n->Inv i s->(∀ s',i<n->Inv (i+1) s'->SEx P T dr rs ks (f (i+1) s') (R (i+1) s'))->SEx P T dr rs ks (f i s) (R i s)):SEx P T dr rs ks (f 0 s0) (R 0 s0) :=
 SEx.ind (fun x:Nat×α=>f x.1 x.2) (fun x=>R x.1 x.2) (fun x=>x.1<=n/\Inv x.1 x.2) (fun x=>n-x.1) (0,s0) ⟨Nat.zero_le _,h0⟩ fun x hx ih=>step x.1 x.2 hx.1 hx.2 fun s' h hI=>ih (x.1+1,s') ⟨by show x.1+1<=n;omega,hI⟩ (by show n-(x.1+1)<n-x.1;omega)
structure YI {α:Type}(a b:α):Prop where out:a=b
structure LLe {α:Type}(l:List α)(n:Nat):Prop where out:l.length<=n
theorem qx {n:Int}(h1:-9223372036854775808<=n)(h2:n<=9223372036854775807):IntKind.i64.wrap n=n:=IntWalk.i64_in n ⟨h1,h2⟩
theorem qg {i:Nat}(h:i<9223372036854775807):IntKind.i64.wrap ((i:Int)+1)=((i+1:Nat):Int):=by
 rw [qx (by omega) (by omega)];rfl
structure qs1 (s:ByteArray):Prop where out:s.size<=maxLen
structure qkG (n:Int):Prop where out:0<=n/\n<=9223372036854775807
structure Hd (p:Prop):Prop where out:p
theorem qZ:(1048576:Int)<=lim:=by decide
theorem zu {α:Type}{l:List α}{i:Nat}{z:α}(h:i<l.length):l.getD i z=l[i]:=by rw [List.getD_eq_getElem?_getD,List.getElem?_eq_getElem h,Option.getD_some]
def eqS (a b:ByteArray):Bool:=a.toList == b.toList
def zR {α:Type}(p:α->Bool):List α->Nat->Int
 | [],_=>-1
 | a::r,n=>if p a=true then n else zR p r (n+1)
theorem qjE {α:Type}{p:α->Bool}{l:List α}{i n:Nat}(z:α)(h:i<l.length):zR p (l.drop i) n=if p (l.getD i z)=true then (n:Int) else zR p (l.drop (i+1)) (n+1):=by
 rw [List.drop_eq_getElem_cons h,List.getD_eq_getElem?_getD,List.getElem?_eq_getElem h,Option.getD_some];rfl
theorem Qc {α:Type}{p:α->Bool}{l:List α}{i n:Nat}(z:α)(h:i<l.length)(hp:p (l.getD i z)=true):zR p (l.drop i) n=n:=by rw [qjE z h,if_pos hp]
theorem Zb {α:Type}{p:α->Bool}{l:List α}{i n:Nat}(z:α)(h:i<l.length)(hp:p (l.getD i z)=false):zR p (l.drop i) n=zR p (l.drop (i+1)) (n+1):=by rw [qjE z h,hp];rfl
theorem j8 {α:Type}{p:α->Bool}{l:List α}{i n:Nat}(h:l.length<=i):zR p (l.drop i) n=-1:=by rw [List.drop_eq_nil_of_le h];rfl
def qs5 (k:Nat):Dc ByteArray:=⟨fun s=>aF k [.ptr [.str s]],fun | (false,[.fn f [.ptr [.str s]]])=>(match nq f k with | true=>some s | false=>none) | _=>none,by
 intro x a h
 split at h
 . split at h
   . rename_i hk
     obtain rfl:=Ql.1 hk
     simp only [Option.some.injEq] at h;subst h;rfl
   . cases h
 . cases h⟩
structure qnd (g' g:FuncId)(r:List (V1 D))(caps:List D):Prop where
 fn:g'=g
 caps:r=Qt caps
structure Mem {α:Type}(x:α)(l:List α):Prop where out:x∈l
theorem qo {α:Type}{l:List α}{i:Nat}{z:α}(h:i<l.length):Mem (l.getD i z) l:=⟨by rw [List.getD_eq_getElem?_getD,List.getElem?_eq_getElem h,Option.getD_some];exact List.getElem_mem _⟩
def qnh {α:Type}(d:Dc α)(g:FuncId)(caps:List D)(l:List α)(p:α->Bool):Qg:=fun g' as'=>match as' with
 | x::r=>(match d.dec x with
   | some q=>some ([qnd g' g r caps,Mem q l],rB (p q))
   | none=>none)
 | []=>none
theorem qcs {P:Program}{α:Type}{d:Dc α}{g:FuncId}{caps:List D}{l:List α}{p:α->Bool}(hp:∀ q∈l,qe P g (d.enc q::Qt caps) (rB (p q))):qp P (qnh d g caps l p):=by
 intro g' as'
 unfold qnh
 split
 . split
   . rename_i hx
     refine R.Sim.mk fun hq=>?_
     obtain ⟨rfl,rfl⟩:=hq _ (.head _)
     exact (hp _ (hq _ (.tail _ (.head _))).out).er (by simp only [qw,d.ok _ _ hx]) rfl
   . exact R.Sim.none'
 . exact R.Sim.none'
theorem vw {α:Type}(p:α->Bool):∀ (l:List α) (n:Nat),decide (0<=zR p l n)=l.any p
 | [],n=>rfl
 | a::r,n=>by
   unfold zR
   rw [List.any_cons]
   cases h:p a with
   | true=>rw [if_pos rfl];simp
   | false=>rw [if_neg (by simp)];exact vw p r (n+1)
def qD {α:Type}(p:Nat->α->Bool):List α->Nat->Bool
 | [],_=>true
 | a::r,n=>p n a&&qD p r (n+1)
theorem VN {α:Type}{p:Nat->α->Bool}{l:List α}{i n:Nat}(z:α)(h:i<l.length):qD p (l.drop i) n=(p n (l.getD i z)&&qD p (l.drop (i+1)) (n+1)):=by
 rw [List.drop_eq_getElem_cons h,List.getD_eq_getElem?_getD,List.getElem?_eq_getElem h,Option.getD_some];rfl
theorem wK {α:Type}{p:Nat->α->Bool}{l:List α}{i n:Nat}(z:α)(h:i<l.length)(hp:p n (l.getD i z)=true):qD p (l.drop i) n=qD p (l.drop (i+1)) (n+1):=by rw [VN z h,hp];rfl
theorem VA {α:Type}{p:Nat->α->Bool}{l:List α}{i n:Nat}(z:α)(h:i<l.length)(hp:p n (l.getD i z)=false):qD p (l.drop i) n=false:=by rw [VN z h,hp];rfl
theorem qn7 {α:Type}{p:Nat->α->Bool}{l:List α}{i n:Nat}(h:l.length<=i):qD p (l.drop i) n=true:=by rw [List.drop_eq_nil_of_le h];rfl
theorem wo {α:Type}{p q:Nat->α->Bool}:∀ (l:List α) (n:Nat),(∀ i a,l[i]?=some a->p (n+i) a=q (n+i) a)->qD p l n=qD q l n
 | [],_,_=>rfl
 | a::r,n,h=>by
   have h1:qD p r (n+1)=qD q r (n+1):=wo r (n+1) fun i b hi=>by
    have:=h (i+1) b (by simpa using hi)
    rwa [show n+(i+1)=n+1+i by omega] at this
   show (p n a&&qD p r (n+1))=(q n a&&qD q r (n+1))
   rw [h1,show p n a=q n a from h 0 a rfl]
def wCl {α:Type}(d:Dc α)(g:FuncId)(caps:List D)(f:α->TV W)(p:α->List Prop):Wr
 | [x,(false,[.fn g' caps'])]=>(match d.dec x with | some l=>some (YI g' g::YI caps' caps::p l,f l) | none=>none)
 | _=>none
theorem qcP {P:Program}{k:FuncId}{α:Type}{d:Dc α}{g:FuncId}{caps:List D}{f:α->TV W}{p:α->List Prop}(h:∀ l,Holds (p l)->qe P k [d.enc l,aF g caps] (f l)):qz P k (wCl d g caps f p):=by
 intro xs
 unfold wCl
 split
 . split
   . rename_i hx
     refine R.Sim.mk fun hq=>?_
     obtain ⟨rfl⟩:=hq _ (.head _)
     obtain ⟨rfl⟩:=hq _ (.tail _ (.head _))
     exact (h _ fun r hr=>hq r (.tail _ (.tail _ hr))).er (by simp only [qw,d.ok _ _ hx];rfl) rfl
   . exact R.Sim.none'
 . exact R.Sim.none'
theorem qcR {α:Type}{p:Nat->α->Bool}{l:List α}{i:Nat}{c:Bool}(z:α)(h:i<l.length)(hp:p i (l.getD i z)=true):(qD p (l.drop i) i&&c)=(qD p (l.drop (i+1)) (i+1)&&c):=by rw [wK z h hp]
theorem qf0 {α:Type}{p:Nat->α->Bool}{l:List α}{i:Nat}{c:Bool}(z:α)(h:i<l.length)(hp:p i (l.getD i z)=false):(qD p (l.drop i) i&&c)=false:=by rw [VA z h hp];rfl
theorem qR {α:Type}{p:Nat->α->Bool}{l:List α}{i:Nat}{c:Bool}(h:l.length<=i):(qD p (l.drop i) i&&c)=c:=by rw [qn7 h];rfl
theorem VH {α:Type}(p:α->Bool):∀ (l:List α) (n:Nat),zR p l n<n+l.length/\(zR p l n=-1\/(n:Int)<=zR p l n)
 | [],n=>by simp [zR];omega
 | a::r,n=>by
   have:=VH p r (n+1)
   unfold zR
   simp only [List.length_cons]
   split<;>omega
theorem yF {m i z:Nat}(h:i<m):(List.range m).getD i z=i:=by simp [List.getD_eq_getElem?_getD,h]
theorem qV {a b:Bool}(h:b=a)(k:Bool):eR (.v (false,[.fz (.bool k a)]))=eR (rB b):=by rw [jJ];exact h.symm
structure zi (p A B:Bool):Prop where
 yes:p=true->A=B
 no:p=false->A=false
theorem zi.of {α:Type}(p:Nat->α->Bool)(l:List α)(i:Nat)(c:Bool)(z:α)(h:i<l.length):zi (p i (l.getD i z)) (qD p (l.drop i) i&&c) (qD p (l.drop (i+1)) (i+1)&&c):=⟨qcR z h,qf0 z h⟩
theorem zi.stop {p A B:Bool}(h:zi p A B)(k:Bool)(hp:p=false):eR (.v (false,[.fz (.bool k false)]))=eR (rB A):=qV (h.no hp) k
theorem zi.go {p A B:Bool}(h:zi p A B)(hp:p=true):eR (rB B)=eR (rB A):=by rw [h.yes hp]
theorem zi.stopN {p A B:Bool}(h:zi p A B)(k:Bool)(hp:p=false):eR (.v (false,[.fz (.bool k true)]))=eR (rB (!A)):=qV (by rw [h.no hp];rfl) k
theorem zi.goN {p A B:Bool}(h:zi p A B)(hp:p=true):eR (rB (!B))=eR (rB (!A)):=by rw [h.yes hp]
end Go.Proofs.YtfafehnchmelnaaGreat.Ai
namespace Go.Proofs.YtfafehnchmelnaaGreat.Ai
open Go
set_option maxRecDepth 100000
variable [qf]
theorem W2 (l:List Int)(g:FuncId)(caps:List D)(p:Int->Bool)(hp:∀ q∈l,qe Tryz.prog g (aI q::Qt caps) (rB (p q)))(h1:l.length<=maxLen):qe Tryz.prog 79 [aIs l,aF g caps] (rI (zR p l 0)):=by
 refine qe.of qc (fn:=Tryz.f79) (c:=Tryz.f79.body.getD .skip) (dr:=fun n=>qa 0 [] n) Tryz.func79 rfl (by kernel_rfl) (by kernel_rfl) (by kernel_rfl) ?_
 unfold maxLen at h1
 have hO:qp Tryz.prog (qnh dcI g caps l p):=qcs hp
 refine SEx.go (X:=XX) qc (fun n=>qa [] [(2,[0,1,7,8])] n) (fun _=>none) hO 60 ?_
 intro M R L N m0 m1 m2 m3 m4 m5
 cases M
 cbv
 repeat' first | refine m1 _ _ ?_ ?_ | refine m2 _ _ fun h=>?_ | refine m3 _ ?_ | (refine m4 _ _ (Hd.out ?_);generalize hks:(List.cons _ _:List K)=ks) | (refine m5 _ _ ?_;cbv)
 all_goals (clear m1 m2 m3 m4 m5;cases m0;try dsimp only)
 all_goals try simp only [sm] at *
 obtain ⟨n,hn⟩:∃ n,n=l.length:=⟨_,rfl⟩
 refine ⟨SEx.same (SEx.idx n (fun i=>⟨19,[(0,bL (.i l)),(1,.v (false,[.fz (.fn g caps)])),(7,bI n),(8,bI i)],[]⟩) (fun i=>rI (zR p (l.drop i) i)) ?_) (by rw [hn];rfl) rfl⟩
 intro i hi ih
 rw [<-hks]
 refine SEx.go (X:=XX) qc (fun n=>qa [] [(2,[0,1,7,8])] n) (fun _=>none) hO 60 ?_
 intro M R L N m0 m1 m2 m3 m4 m5
 cases M
 cbv
 repeat' first | refine m1 _ _ ?_ ?_ | refine m2 _ _ fun h=>?_ | refine m3 _ ?_ | (refine m4 _ _ (Hd.out ?_);try first | rw [hks] | rw [hk2] | rw [hk3]) | (refine m5 _ _ ?_;cbv)
 all_goals (clear m1 m2 m3 m4 m5;cases m0;(try clear hks;try clear hk2;try clear hk3);try dsimp only)
 all_goals try simp only [sm] at *
 all_goals first
  | omega
  | exact ⟨rfl,by cases caps<;>rfl⟩
  | exact ⟨rfl,rfl⟩
  | exact qo (z:=(0:Int)) (by omega)
  | (rw [Qc (p:=p) (l:=l) (i:=i) (0:Int) (by omega) (by first | assumption | exact beq_iff_eq.2 (by assumption))];rfl)
  | (rw [j8 (by omega)];rfl)
  | (simp only [qg (show i<9223372036854775807 by omega)];exact ⟨(ih (by omega)).same rfl (by rw [Zb (p:=p) (l:=l) (i:=i) (0:Int) (by omega) (by first | assumption | exact beq_eq_false_iff_ne.2 (by assumption) | (simp_all;done))])⟩)
theorem Kh (l:List Int)(g:FuncId)(caps:List D)(p:Int->Bool)(hp:∀ q∈l,qe Tryz.prog g (aI q::Qt caps) (rB (p q)))(h1:l.length<=maxLen):qe Tryz.prog 45 [aIs l,aF g caps] (rB (l.any p)):=by
 refine qe.of qc (fn:=Tryz.f45) (c:=Tryz.f45.body.getD .skip) (dr:=fun n=>qa 0 [] n) Tryz.func45 rfl (by kernel_rfl) (by kernel_rfl) (by kernel_rfl) ?_
 obtain ⟨f,hf⟩:∃ f:List Int->Int,f=fun l=>zR p l 0:=⟨_,rfl⟩
 have hO:qp Tryz.prog (qJ [(79,wCl kz g caps (fun l=>rI (f l)) (fun m=>[YI m l]))]):=by subst hf;exact qb (qcP fun m h=>by obtain rfl:=(h _ (.head _)).out;exact W2 m g caps p hp h1) qd
 refine SEx.go (X:=XX) qc (fun n=>qa [] [] n) (fun _=>none) hO 60 ?_
 intro M R L N m0 m1 m2 m3 m4 m5
 cases M
 cbv
 repeat' first | refine m1 _ _ ?_ ?_ | refine m2 _ _ fun h=>?_ | refine m3 _ ?_ | (refine m4 _ _ (Hd.out ?_);try first | rw [hks] | rw [hk2] | rw [hk3]) | (refine m5 _ _ ?_;cbv)
 all_goals (clear m1 m2 m3 m4 m5;cases m0;(try clear hks;try clear hk2;try clear hk3);try dsimp only)
 all_goals try simp only [sm] at *
 all_goals first
  | exact ⟨rfl⟩
  | (rw [<-vw p l 0,hf];rfl)
theorem JQ (l:List Tie)(g:FuncId)(caps:List D)(p:Tie->Bool)(hp:∀ q∈l,qe Tryz.prog g (YR q::Qt caps) (rB (p q)))(h1:l.length<=maxLen):qe Tryz.prog 115 [W5 l,aF g caps] (rI (zR p l 0)):=by
 refine qe.of qc (fn:=Tryz.f115) (c:=Tryz.f115.body.getD .skip) (dr:=fun n=>qa 0 [] n) Tryz.func115 rfl (by kernel_rfl) (by kernel_rfl) (by kernel_rfl) ?_
 unfold maxLen at h1
 have hO:qp Tryz.prog (qnh yZ g caps l p):=qcs hp
 refine SEx.go (X:=XX) qc (fun n=>qa [] [(2,[0,1,7,8])] n) (fun _=>none) hO 60 ?_
 intro M R L N m0 m1 m2 m3 m4 m5
 cases M
 cbv
 repeat' first | refine m1 _ _ ?_ ?_ | refine m2 _ _ fun h=>?_ | refine m3 _ ?_ | (refine m4 _ _ (Hd.out ?_);generalize hks:(List.cons _ _:List K)=ks) | (refine m5 _ _ ?_;cbv)
 all_goals (clear m1 m2 m3 m4 m5;cases m0;try dsimp only)
 all_goals try simp only [sm] at *
 obtain ⟨n,hn⟩:∃ n,n=l.length:=⟨_,rfl⟩
 refine ⟨SEx.same (SEx.idx n (fun i=>⟨19,[(0,bL (.tie l)),(1,.v (false,[.fz (.fn g caps)])),(7,bI n),(8,bI i)],[]⟩) (fun i=>rI (zR p (l.drop i) i)) ?_) (by rw [hn];rfl) rfl⟩
 intro i hi ih
 rw [<-hks]
 refine SEx.go (X:=XX) qc (fun n=>qa [] [(2,[0,1,7,8])] n) (fun _=>none) hO 60 ?_
 intro M R L N m0 m1 m2 m3 m4 m5
 cases M
 cbv
 repeat' first | refine m1 _ _ ?_ ?_ | refine m2 _ _ fun h=>?_ | refine m3 _ ?_ | (refine m4 _ _ (Hd.out ?_);try first | rw [hks] | rw [hk2] | rw [hk3]) | (refine m5 _ _ ?_;cbv)
 all_goals (clear m1 m2 m3 m4 m5;cases m0;(try clear hks;try clear hk2;try clear hk3);try dsimp only)
 all_goals try simp only [sm] at *
 all_goals first
  | omega
  | exact ⟨rfl,by cases caps<;>rfl⟩
  | exact ⟨rfl,rfl⟩
  | exact qo (z:=Tie.z) (by omega)
  | (rw [Qc (p:=p) (l:=l) (i:=i) Tie.z (by omega) (by first | assumption | exact beq_iff_eq.2 (by assumption))];rfl)
  | (rw [j8 (by omega)];rfl)
  | (simp only [qg (show i<9223372036854775807 by omega)];exact ⟨(ih (by omega)).same rfl (by rw [Zb (p:=p) (l:=l) (i:=i) Tie.z (by omega) (by first | assumption | exact beq_eq_false_iff_ne.2 (by assumption) | (simp_all;done))])⟩)
theorem Jb (l:List Tie)(g:FuncId)(caps:List D)(p:Tie->Bool)(hp:∀ q∈l,qe Tryz.prog g (YR q::Qt caps) (rB (p q)))(h1:l.length<=maxLen):qe Tryz.prog 77 [W5 l,aF g caps] (rB (l.any p)):=by
 refine qe.of qc (fn:=Tryz.f77) (c:=Tryz.f77.body.getD .skip) (dr:=fun n=>qa 0 [] n) Tryz.func77 rfl (by kernel_rfl) (by kernel_rfl) (by kernel_rfl) ?_
 obtain ⟨f,hf⟩:∃ f:List Tie->Int,f=fun l=>zR p l 0:=⟨_,rfl⟩
 have hO:qp Tryz.prog (qJ [(115,wCl Z5 g caps (fun l=>rI (f l)) (fun m=>[YI m l]))]):=by subst hf;exact qb (qcP fun m h=>by obtain rfl:=(h _ (.head _)).out;exact JQ m g caps p hp h1) qd
 refine SEx.go (X:=XX) qc (fun n=>qa [] [] n) (fun _=>none) hO 60 ?_
 intro M R L N m0 m1 m2 m3 m4 m5
 cases M
 cbv
 repeat' first | refine m1 _ _ ?_ ?_ | refine m2 _ _ fun h=>?_ | refine m3 _ ?_ | (refine m4 _ _ (Hd.out ?_);try first | rw [hks] | rw [hk2] | rw [hk3]) | (refine m5 _ _ ?_;cbv)
 all_goals (clear m1 m2 m3 m4 m5;cases m0;(try clear hks;try clear hk2;try clear hk3);try dsimp only)
 all_goals try simp only [sm] at *
 all_goals first
  | exact ⟨rfl⟩
  | (rw [<-vw p l 0,hf];rfl)
theorem yv (l:List qi)(g:FuncId)(caps:List D)(p:qi->Bool)(hp:∀ q∈l,qe Tryz.prog g (wP q::Qt caps) (rB (p q)))(h1:l.length<=maxLen):qe Tryz.prog 116 [Wm l,aF g caps] (rI (zR p l 0)):=by
 refine qe.of qc (fn:=Tryz.f116) (c:=Tryz.f116.body.getD .skip) (dr:=fun n=>qa 0 [] n) Tryz.func116 rfl (by kernel_rfl) (by kernel_rfl) (by kernel_rfl) ?_
 unfold maxLen at h1
 have hO:qp Tryz.prog (qnh J8 g caps l p):=qcs hp
 refine SEx.go (X:=XX) qc (fun n=>qa [] [(2,[0,1,7,8])] n) (fun _=>none) hO 60 ?_
 intro M R L N m0 m1 m2 m3 m4 m5
 cases M
 cbv
 repeat' first | refine m1 _ _ ?_ ?_ | refine m2 _ _ fun h=>?_ | refine m3 _ ?_ | (refine m4 _ _ (Hd.out ?_);generalize hks:(List.cons _ _:List K)=ks) | (refine m5 _ _ ?_;cbv)
 all_goals (clear m1 m2 m3 m4 m5;cases m0;try dsimp only)
 all_goals try simp only [sm] at *
 obtain ⟨n,hn⟩:∃ n,n=l.length:=⟨_,rfl⟩
 refine ⟨SEx.same (SEx.idx n (fun i=>⟨19,[(0,bL (.node false none l)),(1,.v (false,[.fz (.fn g caps)])),(7,bI n),(8,bI i)],[]⟩) (fun i=>rI (zR p (l.drop i) i)) ?_) (by rw [hn];rfl) rfl⟩
 intro i hi ih
 rw [<-hks]
 refine SEx.go (X:=XX) qc (fun n=>qa [] [(2,[0,1,7,8])] n) (fun _=>none) hO 60 ?_
 intro M R L N m0 m1 m2 m3 m4 m5
 cases M
 cbv
 repeat' first | refine m1 _ _ ?_ ?_ | refine m2 _ _ fun h=>?_ | refine m3 _ ?_ | (refine m4 _ _ (Hd.out ?_);try first | rw [hks] | rw [hk2] | rw [hk3]) | (refine m5 _ _ ?_;cbv)
 all_goals (clear m1 m2 m3 m4 m5;cases m0;(try clear hks;try clear hk2;try clear hk3);try dsimp only)
 all_goals try simp only [sm] at *
 all_goals first
  | omega
  | exact ⟨rfl,by cases caps<;>rfl⟩
  | exact ⟨rfl,rfl⟩
  | exact qo (z:=qi.z) (by omega)
  | (rw [Qc (p:=p) (l:=l) (i:=i) qi.z (by omega) (by first | assumption | exact beq_iff_eq.2 (by assumption))];rfl)
  | (rw [j8 (by omega)];rfl)
  | (simp only [qg (show i<9223372036854775807 by omega)];exact ⟨(ih (by omega)).same rfl (by rw [Zb (p:=p) (l:=l) (i:=i) qi.z (by omega) (by first | assumption | exact beq_eq_false_iff_ne.2 (by assumption) | (simp_all;done))])⟩)
theorem qkv (l:List Int)(v:Int)(h1:l.length<=maxLen):qe Tryz.prog 118 [aIs l,aI v] (rI (zR (fun x=>v == x) l 0)):=by
 refine qe.of qc (fn:=Tryz.f118) (c:=Tryz.f118.body.getD .skip) (dr:=fun n=>qa 0 [] n) Tryz.func118 rfl (by kernel_rfl) (by kernel_rfl) (by kernel_rfl) ?_
 unfold maxLen at h1
 refine SEx.go (X:=XX) qc (fun n=>qa [] [(2,[0,1,7,8])] n) (fun _=>none) qd 60 ?_
 intro M R L N m0 m1 m2 m3 m4 m5
 cases M
 cbv
 repeat' first | refine m1 _ _ ?_ ?_ | refine m2 _ _ fun h=>?_ | refine m3 _ ?_ | (refine m4 _ _ (Hd.out ?_);generalize hks:(List.cons _ _:List K)=ks) | (refine m5 _ _ ?_;cbv)
 all_goals (clear m1 m2 m3 m4 m5;cases m0;try dsimp only)
 all_goals try simp only [sm] at *
 obtain ⟨n,hn⟩:∃ n,n=l.length:=⟨_,rfl⟩
 refine ⟨SEx.same (SEx.idx n (fun i=>⟨19,[(0,bL (.i l)),(1,bI v),(7,bI n),(8,bI i)],[]⟩) (fun i=>rI (zR (fun x=>v == x) (l.drop i) i)) ?_) (by rw [hn];rfl) rfl⟩
 intro i hi ih
 rw [<-hks]
 refine SEx.go (X:=XX) qc (fun n=>qa [] [(2,[0,1,7,8])] n) (fun _=>none) qd 60 ?_
 intro M R L N m0 m1 m2 m3 m4 m5
 cases M
 cbv
 repeat' first | refine m1 _ _ ?_ ?_ | refine m2 _ _ fun h=>?_ | refine m3 _ ?_ | (refine m4 _ _ (Hd.out ?_);try first | rw [hks] | rw [hk2] | rw [hk3]) | (refine m5 _ _ ?_;cbv)
 all_goals (clear m1 m2 m3 m4 m5;cases m0;(try clear hks;try clear hk2;try clear hk3);try dsimp only)
 all_goals try simp only [sm] at *
 all_goals first
  | omega
  | exact ⟨rfl,by cases caps<;>rfl⟩
  | exact ⟨rfl,rfl⟩
  | exact qo (z:=(0:Int)) (by omega)
  | (rw [Qc (p:=fun x=>v == x) (l:=l) (i:=i) (0:Int) (by omega) (by first | assumption | exact beq_iff_eq.2 (by assumption))];rfl)
  | (rw [j8 (by omega)];rfl)
  | (simp only [qg (show i<9223372036854775807 by omega)];exact ⟨(ih (by omega)).same rfl (by rw [Zb (p:=fun x=>v == x) (l:=l) (i:=i) (0:Int) (by omega) (by first | assumption | exact beq_eq_false_iff_ne.2 (by assumption) | (simp_all;done))])⟩)
def qij (f:List Int->Int->Int):Wr:=w2 kz dcI (fun l v=>rI (f l v)) (fun l _=>[LLe l maxLen])
theorem qhA:qz Tryz.prog 118 (qij fun l v=>zR (fun x=>v == x) l 0):=qG fun l v h=>qkv l v (h _ (.head _)).out
end Go.Proofs.YtfafehnchmelnaaGreat.Ai
namespace Go.Proofs.YtfafehnchmelnaaGreat.Ai
open Go
set_option maxRecDepth 100000
variable [qf]
def inB (n lo hi:Int):Bool:=decide (lo<=n/\n<=hi)
def bt (s:ByteArray)(i:Nat):Int:=(s[i]?.getD 0).toNat
def qiH (s:ByteArray)(i:Nat):Bool:=decide (97<=bt s i/\bt s i<=122\/i≠0/\48<=bt s i/\bt s i<=57)
def Qa (s:ByteArray)(i:Nat):Bool:=(List.range' i (s.size-i)).all (qiH s)&&decide (1<=s.size/\s.size<=8)
theorem qdN {s:ByteArray}{i:Nat}(h:i<s.size):Qa s i=(qiH s i&&Qa s (i+1)):=by
 unfold Qa
 rw [show s.size-i=(s.size-(i+1))+1 by omega,List.range'_succ,List.all_cons,Bool.and_assoc]
theorem qdA {s:ByteArray}{i:Nat}(h:i<s.size)(hc:¬(97<=bt s i/\bt s i<=122\/i≠0/\48<=bt s i/\bt s i<=57)):Qa s i=false:=by
 rw [qdN h,qiH,decide_eq_false hc,Bool.false_and]
theorem qbo {s:ByteArray}{i:Nat}(h:i<s.size)(hc:97<=bt s i/\bt s i<=122\/i≠0/\48<=bt s i/\bt s i<=57):Qa s i=Qa s (i+1):=by
 rw [qdN h,qiH,decide_eq_true hc,Bool.true_and]
theorem qfY {s:ByteArray}{i:Nat}(h:s.size<=i):Qa s i=decide (1<=s.size/\s.size<=8):=by
 unfold Qa
 rw [show s.size-i=0 by omega]
 simp
theorem qmw (a b c:Int):qe Tryz.prog 39 [aI a,aI b,aI c] (rB (inB a b c)):=by
 refine qe.of qc (fn:=Tryz.f39) (c:=Tryz.f39.body.getD .skip) (dr:=fun n=>qa 0 [] n) Tryz.func39 rfl (by kernel_rfl) (by kernel_rfl) (by kernel_rfl) ?_
 refine SEx.walk (X:=XX) qc (fun n=>qa [] [] n) qd 100 ?_
 intro M R L N hM hR hL hN
 cases M
 cbv
 cases hM
 try dsimp only
 repeat' first | apply And.intro | (intro h;try simp only [Bool.not_eq_true',Bool.not_eq_false',decide_eq_true_eq,decide_eq_false_iff_not,Int.not_le,Int.not_lt,beq_iff_eq,beq_eq_false_iff_ne,ne_eq,Int.ofNat_eq_natCast,Int.toNat_natCast,List.length_replicate,qdQ,Nat.sub_zero,List.drop_zero,Cue.eta,Tie.eta,Edge.eta,Qj.eta,qi.eta] at h) | (refine hR _ ?_) | (refine hL _ _ (Hd.out ?_)) | (refine hN _ _ (Hd.out ?_))
 all_goals simp only [jJ,inB]
 all_goals (rw [Bool.eq_iff_iff];simp;try omega)
def qrS (f:Int->Int->Int->Bool):Wr:=w3 dcI dcI dcI (fun x y z=>rB (f x y z)) (fun _ _ _=>[])
theorem qo5:qz Tryz.prog 39 (qrS inB):=jK fun x y z _=>qmw x y z
theorem qaq (s:ByteArray)(hs:s.size<=maxLen):qe Tryz.prog 120 [aS s] (rB (Qa s 0)):=by
 refine qe.of qc (fn:=Tryz.f120) (c:=Tryz.f120.body.getD .skip) (dr:=fun n=>qa 0 [] n) Tryz.func120 rfl (by kernel_rfl) (by kernel_rfl) (by kernel_rfl) ?_
 obtain ⟨f,hf⟩:∃ f,f=inB:=⟨_,rfl⟩
 have hO:qp Tryz.prog (qJ [(39,qrS f)]):=by subst hf;exact qb qo5 qd
 unfold maxLen at hs
 refine SEx.walk (X:=XX) qc (fun n=>qa [] [(2,[0,3])] n) hO 100 ?_
 intro M R L N hM hR hL hN
 cases M
 cbv
 cases hM
 try dsimp only
 refine hL _ _ ?_
 clear hR hL hN R L N
 generalize hks:(List.cons _ _:List K)=ks
 refine SEx.same (SEx.ind (fun i:Nat=>⟨42,[(0,.v (false,[.fz (.str s)])),(3,.v (false,[.fz (.int .i64 i)]))],[]⟩) (fun i=>rB (Qa s i)) (fun i=>i<=s.size) (fun i=>s.size-i) 0 (Nat.zero_le _) ?_) rfl rfl
 intro i hi ih
 rw [<-hks]
 refine SEx.walk (X:=XX) qc (fun n=>qa [] [(2,[0,3])] n) hO 100 ?_
 intro M R L N hM hR hL hN
 cases M
 cbv
 cases hM
 try dsimp only
 repeat' first | apply And.intro | (intro h;try simp only [Bool.not_eq_true',Bool.not_eq_false',decide_eq_true_eq,decide_eq_false_iff_not,Int.not_le,Int.not_lt,beq_iff_eq,beq_eq_false_iff_ne,ne_eq,Int.ofNat_eq_natCast,Int.toNat_natCast,List.length_replicate,qdQ,Nat.sub_zero,List.drop_zero,Cue.eta,Tie.eta,Edge.eta,Qj.eta,qi.eta] at h) | (refine hR _ ?_) | (refine hL _ _ (Hd.out ?_)) | (refine hN _ _ (Hd.out ?_))
 all_goals simp only [Int.ofNat_eq_natCast,hks,jJ]
 all_goals (try simp only [qg (show i<9223372036854775807 by omega)])
 all_goals first
  | omega
  | (rw [qdA]<;>(try unfold bt)<;>omega)
  | (rw [qbo (by omega) (by unfold bt;omega)];exact ⟨ih (i+1) (by omega) (by omega)⟩)
  | (rw [hf,qfY (by omega)];unfold inB;rw [Bool.eq_iff_iff];simp only [decide_eq_true_eq];omega)
theorem qaf (s:ByteArray)(hs:s.size<=maxLen):qe Tryz.prog 113 [aS s] (rB (Qa s 0)):=by
 refine qe.of qc (fn:=Tryz.f113) (c:=Tryz.f113.body.getD .skip) (dr:=fun n=>qa 0 [(4,22)] n) Tryz.func113 rfl (by kernel_rfl) (by kernel_rfl) (by kernel_rfl) ?_
 unfold maxLen at hs
 refine SEx.walk (X:=XX) qc (fun n=>qa [] [(2,[0,3])] n) qd 100 ?_
 intro M R L N hM hR hL hN
 cases M
 cbv
 cases hM
 try dsimp only
 refine hL _ _ ?_
 clear hR hL hN R L N
 generalize hks:(List.cons _ _:List K)=ks
 refine SEx.same (SEx.ind (fun i:Nat=>⟨50,[(0,.v (false,[.fz (.str s)])),(3,.v (false,[.fz (.int .i64 i)]))],[]⟩) (fun i=>rB (Qa s i)) (fun i=>i<=s.size) (fun i=>s.size-i) 0 (Nat.zero_le _) ?_) rfl rfl
 intro i hi ih
 rw [<-hks]
 refine SEx.walk (X:=XX) qc (fun n=>qa [] [(2,[0,3])] n) qd 100 ?_
 intro M R L N hM hR hL hN
 cases M
 cbv
 cases hM
 try dsimp only
 repeat' first | apply And.intro | (intro h;try simp only [Bool.not_eq_true',Bool.not_eq_false',decide_eq_true_eq,decide_eq_false_iff_not,Int.not_le,Int.not_lt,beq_iff_eq,beq_eq_false_iff_ne,ne_eq,Int.ofNat_eq_natCast,Int.toNat_natCast,List.length_replicate,qdQ,Nat.sub_zero,List.drop_zero,Cue.eta,Tie.eta,Edge.eta,Qj.eta,qi.eta] at h) | (refine hR _ ?_) | (refine hL _ _ (Hd.out ?_)) | (refine hN _ _ (Hd.out ?_))
 all_goals simp only [Int.ofNat_eq_natCast,hks,jJ]
 all_goals (try simp only [qg (show i<9223372036854775807 by omega)])
 all_goals first
  | omega
  | (rw [qdA]<;>(try unfold bt)<;>omega)
  | (rw [qbo (by omega) (by unfold bt;omega)];exact ⟨ih (i+1) (by omega) (by omega)⟩)
  | (rw [qfY (by omega),Bool.eq_iff_iff];simp only [decide_eq_true_eq,Bool.false_eq_true,false_iff];omega)
def qcE (f:ByteArray->Bool):Wr:=w1 dcS (fun x=>rB (f x)) (fun x=>[qs1 x])
theorem qlf:qz Tryz.prog 120 (qcE (Qa · 0)):=ze fun x h=>qaq x (h _ List.mem_cons_self).out
theorem qkh:qz Tryz.prog 113 (qcE (Qa · 0)):=ze fun x h=>qaf x (h _ List.mem_cons_self).out
end Go.Proofs.YtfafehnchmelnaaGreat.Ai
namespace Go.Proofs.YtfafehnchmelnaaGreat.Ai
open Go
set_option maxRecDepth 100000
variable [qf]
def szL {α:Type}(l:List α)(n:Int):Int:=if n<l.length then -1 else n-l.length
theorem qlm (l:List Int)(n:Int)(hs:l.length<=maxLen)(hn:0<=n/\n<=9223372036854775807):qe Tryz.prog 84 [aIs l,aI n] (rI (szL l n)):=by
 refine qe.of qc (fn:=Tryz.f84) (c:=Tryz.f84.body.getD .skip) (dr:=fun n=>qa 0 [] n) Tryz.func84 rfl (by kernel_rfl) (by kernel_rfl) (by kernel_rfl) ?_
 unfold maxLen at hs
 refine SEx.go (X:=XX) qc (fun n=>qa [] [] n) (fun _=>none) qd 60 ?_
 intro M R L N m0 m1 m2 m3 m4 m5
 cases M
 cbv
 repeat' first | refine m1 _ _ ?_ ?_ | refine m2 _ _ fun h=>?_ | refine m3 _ ?_ | (refine m4 _ _ (Hd.out ?_);try first | rw [hks] | rw [hk2] | rw [hk3]) | (refine m5 _ _ ?_;cbv)
 all_goals (clear m1 m2 m3 m4 m5;cases m0;(try clear hks;try clear hk2;try clear hk3);try dsimp only)
 all_goals try simp only [sm] at *
 all_goals rw [qx (by omega) (by omega)] at *
 all_goals simp only [wu,szL]
 all_goals split<;>omega
def ZL {α:Type}(z:α)(l:List α)(n i:Nat):List α:=l.take i++List.replicate (n-i) z
theorem WK {α:Type}{z:α}{l:List α}{n i:Nat}(h:l.length=n)(hi:i<=n):(ZL z l n i).length=n:=by simp [ZL];omega
theorem J7 {α:Type}{z d:α}{l:List α}{n i:Nat}(h:l.length=n)(hi:i<n):(ZL z l n i).set i (l.getD i d)=ZL z l n (i+1):=by
 have hl:i<l.length:=by omega
 unfold ZL
 rw [show n-i=(n-(i+1))+1 by omega,List.replicate_succ,List.set_append_right _ _ (by simp;omega)]
 rw [show i-(l.take i).length=0 by simp;omega,List.set_cons_zero,List.take_add_one,List.getElem?_eq_getElem hl]
 simp only [Option.toList_some,List.append_assoc,List.singleton_append,List.getD_eq_getElem?_getD,List.getElem?_eq_getElem hl,Option.getD_some]
theorem WL {α:Type}{z:α}{l:List α}{n:Nat}(h:l.length=n):ZL z l n n=l:=by simp [ZL,<-h]
theorem qkQ (l:List Int)(hs:l.length<=1048576):qe Tryz.prog 100 [aIs l] (rIs l):=by
 refine qe.of qc (fn:=Tryz.f100) (c:=Tryz.f100.body.getD .skip) (dr:=fun n=>qa 0 [] n) Tryz.func100 rfl (by kernel_rfl) (by kernel_rfl) (by kernel_rfl) ?_
 refine SEx.go (X:=XX) qc (fun n=>qa [] [(3,[0,3,4])] n) (fun _=>none) qd 60 ?_
 intro M R L N m0 m1 m2 m3 m4 m5
 cases M
 cbv
 repeat' first | refine m1 _ _ ?_ ?_ | refine m2 _ _ fun h=>?_ | refine m3 _ ?_ | (refine m4 _ _ (Hd.out ?_);generalize hks:(List.cons _ _:List K)=ks) | (refine m5 _ _ ?_;cbv)
 all_goals (clear m1 m2 m3 m4 m5;cases m0;try dsimp only)
 all_goals try simp only [sm] at *
 . have:=qZ;omega
 generalize hn:l.length=n at *
 refine ⟨SEx.same (SEx.ind (fun i:Nat=>⟨22,[(0,.v (false,[.fz (.sl (.i l))])),(3,.v (false,[.rf (12288,[]) true 0 n])),(4,.v (false,[.fz (.int .i64 i)]))],[(12288,.osl (.i (ZL 0 l n i)))]⟩) (fun _=>rIs l) (fun i=>i<=n) (fun i=>n-i) 0 (Nat.zero_le _) ?_) rfl rfl⟩
 intro i hi ih
 rw [<-hks]
 obtain ⟨fl,hfl⟩:∃ x,x=ZL 0 l n i:=⟨_,rfl⟩
 have hf:=WK (z:=(0:Int)) hn hi
 rw [<-hfl] at hf ⊢
 refine SEx.go (X:=XX) qc (fun n=>qa [] [(3,[0,3,4])] n) (fun _=>none) qd 60 ?_
 intro M R L N m0 m1 m2 m3 m4 m5
 cases M
 cbv
 repeat' first | refine m1 _ _ ?_ ?_ | refine m2 _ _ fun h=>?_ | refine m3 _ ?_ | (refine m4 _ _ (Hd.out ?_);try first | rw [hks] | rw [hk2] | rw [hk3]) | (refine m5 _ _ ?_;cbv)
 all_goals (clear m1 m2 m3 m4 m5;cases m0;(try clear hks;try clear hk2;try clear hk3);try dsimp only)
 all_goals try simp only [sm] at *
 all_goals first
  | omega
  | (simp only [qg (show i<9223372036854775807 by omega),hfl,J7 hn (show i<n by omega)];exact ⟨ih (i+1) (by omega) (by omega)⟩)
  | (obtain rfl:i=n:=by omega
     rw [hfl,WL hn];rfl)
def qjt:Wr:=w1 kz rIs (fun l=>[LLe l 1048576])
theorem qgd:qz Tryz.prog 100 qjt:=ze fun l h=>qkQ l (h _ (.head _)).out
def qpr:Wr:=w2 kz dcI (fun l n=>rI (szL l n)) (fun l n=>[LLe l maxLen,qkG n])
theorem qgX:qz Tryz.prog 84 qpr:=qG fun l n h=>qlm l n (h _ (.head _)).out (h _ (.tail _ (.head _))).out
theorem qkK (l:List Int)(hs:l.length<=maxLen):qe Tryz.prog 109 [aIs l,aIs l] (rB true):=by
 refine qe.of qc (fn:=Tryz.f109) (c:=Tryz.f109.body.getD .skip) (dr:=fun n=>qa 0 [(6,8)] n) Tryz.func109 rfl (by kernel_rfl) (by kernel_rfl) (by kernel_rfl) ?_
 unfold maxLen at hs
 refine SEx.go (X:=XX) qc (fun n=>qa [] [(4,[0,1,5])] n) (fun _=>none) qd 60 ?_
 intro M R L N m0 m1 m2 m3 m4 m5
 cases M
 cbv
 repeat' first | refine m1 _ _ ?_ ?_ | refine m2 _ _ fun h=>?_ | refine m3 _ ?_ | (refine m4 _ _ (Hd.out ?_);generalize hks:(List.cons _ _:List K)=ks) | (refine m5 _ _ ?_;cbv)
 all_goals (clear m1 m2 m3 m4 m5;cases m0;try dsimp only)
 all_goals try simp only [sm] at *
 . exact absurd trivial (by assumption)
 generalize hn:l.length=n at *
 refine ⟨SEx.same (SEx.ind (fun i:Nat=>⟨26,[(0,.v (false,[.fz (.sl (.i l))])),(1,.v (false,[.fz (.sl (.i l))])),(5,.v (false,[.fz (.int .i64 i)]))],[]⟩) (fun _=>rB true) (fun i=>i<=n) (fun i=>n-i) 0 (Nat.zero_le _) ?_) rfl rfl⟩
 intro i hi ih
 rw [<-hks]
 refine SEx.go (X:=XX) qc (fun n=>qa [] [(4,[0,1,5])] n) (fun _=>none) qd 60 ?_
 intro M R L N m0 m1 m2 m3 m4 m5
 cases M
 cbv
 repeat' first | refine m1 _ _ ?_ ?_ | refine m2 _ _ fun h=>?_ | refine m3 _ ?_ | (refine m4 _ _ (Hd.out ?_);try first | rw [hks] | rw [hk2] | rw [hk3]) | (refine m5 _ _ ?_;cbv)
 all_goals (clear m1 m2 m3 m4 m5;cases m0;(try clear hks;try clear hk2;try clear hk3);try dsimp only)
 all_goals try simp only [sm] at *
 all_goals first
  | omega
  | exact absurd trivial (by assumption)
  | rfl
  | (simp only [qg (show i<9223372036854775807 by omega)];exact ⟨ih (i+1) (by omega) (by omega)⟩)
def qil:Wr:=w2 kz kz (fun _ _=>rB true) (fun l m=>[YI l m,LLe l maxLen])
theorem qg6:qz Tryz.prog 109 qil:=qG fun l m h=>by
 obtain rfl:=(h _ (.head _)).out
 exact qkK l (h _ (.tail _ (.head _))).out
end Go.Proofs.YtfafehnchmelnaaGreat.Ai
namespace Go.Proofs.YtfafehnchmelnaaGreat.Ai
open Go
set_option maxRecDepth 100000
variable [qf]
def wR (n:Nat):V1 B:=(false,[.rf (lrt 0,[]) true 0 n])
end Go.Proofs.YtfafehnchmelnaaGreat.Ai
namespace Go.Proofs.YtfafehnchmelnaaGreat.Ai
open Go
set_option maxRecDepth 100000
variable [qf]
def pI (l:List Int)(i:Nat):Bool:=decide (1<=l.getD i 0/\l.getD i 0<=3/\(0<i->l.getD (i-1) 0<l.getD i 0))
def okP (l:List Int):Bool:=(List.range l.length).all (pI l)
theorem qni {l:List Int}{i:Nat}(hi:i<l.length)(h:pI l i=false):okP l=false:=by
 unfold okP
 rw [List.all_eq_false]
 exact ⟨i,List.mem_range.2 hi,by rw [h];simp⟩
theorem qdh {l:List Int}(h:∀ j,j<l.length->pI l j=true):okP l=true:=by
 unfold okP
 rw [List.all_eq_true]
 exact fun j hj=>h j (List.mem_range.1 hj)
theorem qqm {l:List Int}{n:Nat}(h:∀ j,j<n->pI l j=true):∀ j,j<n->(j:Int)+1<=l.getD j 0
 | 0,hj=>by have:=of_decide_eq_true (h 0 hj);omega
 | j+1,hj=>by
   have h1:=of_decide_eq_true (h (j+1) hj)
   have h2:=qqm h j (by omega)
   have h3:=h1.2.2 (by omega)
   rw [Nat.add_sub_cancel] at h3
   omega
theorem YH {l:List Int}{n:Nat}(h:∀ j,j<n->pI l j=true):n<=3:=by
 apply Decidable.byContradiction
 intro hn
 have h1:=qqm h 3 (by omega)
 have h2:=of_decide_eq_true (h 3 (by omega))
 omega
theorem qnv {l:List Int}{i:Nat}(h1:1<=l.getD i 0)(h2:l.getD i 0<=3)(h3:0<i->l.getD (i-1) 0<l.getD i 0):pI l i=true:=decide_eq_true ⟨h1,h2,h3⟩
def zV (a b c:Int):Bool:=decide (b<=a)&&decide (a<=c)
theorem qpO (a b c:Int):qe Tryz.prog 39 [aI a,aI b,aI c] (rB (zV a b c)):=by
 refine qe.of qc (fn:=Tryz.f39) (c:=Tryz.f39.body.getD .skip) (dr:=fun n=>qa 0 [] n) Tryz.func39 rfl (by kernel_rfl) (by kernel_rfl) (by kernel_rfl) ?_
 refine SEx.go (X:=XX) qc (fun n=>qa [] [] n) (fun _=>none) qd 60 ?_
 intro M R L N m0 m1 m2 m3 m4 m5
 cases M
 cbv
 repeat' first | refine m1 _ _ ?_ ?_ | refine m2 _ _ fun h=>?_ | refine m3 _ ?_ | (refine m4 _ _ (Hd.out ?_);try first | rw [hks] | rw [hk2] | rw [hk3]) | (refine m5 _ _ ?_;cbv)
 all_goals (clear m1 m2 m3 m4 m5;cases m0;(try clear hks;try clear hk2;try clear hk3);try dsimp only)
 all_goals try simp only [sm] at *
 . simp only [jJ,zV]
   rw [decide_eq_true (show b<=a by assumption),Bool.true_and]
 . simp only [jJ,zV]
   rw [decide_eq_false (show ¬b<=a by omega),Bool.false_and]
theorem ZQ {n:Nat}(h:n<18446744073709551616):IntKind.u64.wrap (n:Int)=(n:Int):=by
 simp [IntKind.wrap,IntKind.bits,IntKind.signed];omega
theorem qfs {m:Nat}(h:m<=3):IntKind.i64.wrap (1 * 2 ^ min m IntKind.i64.bits)=((2 ^ m:Nat):Int):=by
 have:m=0\/m=1\/m=2\/m=3:=by omega
 rcases this with rfl | rfl | rfl | rfl<;>decide
theorem Wc {m:Nat}(h:m<=3):2 ^ m<=8:=by
 have:m=0\/m=1\/m=2\/m=3:=by omega
 rcases this with rfl | rfl | rfl | rfl<;>decide
def qj8 (n i:Nat):Int:=IntKind.i64.wrap (1-IntKind.i64.wrap (2 * IntKind.i64.wrap (((BitVec.ofInt IntKind.i64.bits ((n:Int).fdiv (2 ^ min i IntKind.i64.bits)) &&& BitVec.ofInt IntKind.i64.bits 1).toNat:Nat):Int)))
def WG (n i:Nat):List Int:=(List.range i).map (qj8 n)
def wO (m n:Nat):List (List Int):=(List.range n).map fun n=>WG n m
theorem qbr (n i:Nat):WG n (i+1)=WG n i++[qj8 n i]:=by simp [WG,List.range_succ]
theorem qaQ (m n:Nat):wO m (n+1)=wO m n++[WG n m]:=by simp [wO,List.range_succ]
theorem KW (n i:Nat):(WG n i).length=i:=by simp [WG]
theorem yN (m n:Nat):(wO m n).length=n:=by simp [wO]
def Qz (l:List Int):List (List Int):=if okP l then wO l.length (2 ^ l.length) else []
def qb0 (f:Int->Int->Int->Bool):Wr:=w3 dcI dcI dcI (fun a b c=>rB (f a b c)) (fun _ _ _=>[])
theorem Zf:qz Tryz.prog 39 (qb0 zV):=jK fun a b c _=>qpO a b c
theorem qhW (l:List Int)(h1:l.length<=1048576):qe Tryz.prog 146 [aIs l] (Ks (Qz l)):=by
 refine qe.of qc (fn:=Tryz.f146) (c:=Tryz.f146.body.getD .skip) (dr:=fun n=>qa 0 [] n) Tryz.func146 rfl (by kernel_rfl) (by kernel_rfl) (by kernel_rfl) ?_
 obtain ⟨m,hm⟩:∃ m,m=l.length:=⟨_,rfl⟩
 obtain ⟨r,hr⟩:∃ r,r=Qz l:=⟨_,rfl⟩
 rw [<-hr]
 refine SEx.go (X:=XX) qc (fun n=>qa [] [(2,[0,9,10,11]),(9,[0,5,6]),(13,[0,5,6,7,44,45])] n) (fun _=>none) qd 60 ?_
 intro M R L N m0 m1 m2 m3 m4 m5
 cases M
 cbv
 repeat' first | refine m1 _ _ ?_ ?_ | refine m2 _ _ fun h=>?_ | refine m3 _ ?_ | (refine m4 _ _ (Hd.out ?_);generalize hks:(List.cons _ _:List K)=ks) | (refine m5 _ _ ?_;cbv)
 all_goals (clear m1 m2 m3 m4 m5;cases m0;try dsimp only)
 all_goals try simp only [sm] at *
 refine ⟨SEx.same (SEx.ind (α:=Nat) (fun i=>⟨63,[(0,bL (.i l)),(9,bL (.i l)),(10,bI m),(11,bI i)],[]⟩) (fun _=>Ks r) (fun i=>i<=m/\∀ j,j<i->pI l j=true) (fun i=>m-i) 0 ⟨by omega,fun j h=>by omega⟩ ?_) (by rw [hm];rfl) rfl⟩
 rintro i ⟨hi,hj⟩ ih
 rw [<-hks]
 have hw:0<(i:Int)->IntKind.i64.wrap ((i:Int)-1)=((i-1:Nat):Int):=fun h=>by rw [qx (by omega) (by omega)];omega
 have hbad:i<l.length->pI l i=false->r=[]:=fun h h2=>by rw [hr,Qz,qni h h2];rfl
 have hgo:∀ (h:i<m) (h2:pI l i=true),i+1<=m/\∀ j,j<i+1->pI l j=true:=fun h h2=>⟨h,fun j hj'=>by
  by_cases e:j=i
  . rw [e];exact h2
  . exact hj j (by omega)⟩
 refine SEx.go (X:=XX) qc (fun n=>qa [] [(2,[0,9,10,11]),(9,[0,5,6]),(13,[0,5,6,7,44,45])] n) (fun _=>none) qd 60 ?_
 intro M R L N m0 m1 m2 m3 m4 m5
 cases M
 cbv
 repeat' first | refine m1 _ _ ?_ ?_ | refine m2 _ _ fun h=>?_ | refine m3 _ ?_ | (refine m4 _ _ (Hd.out ?_);first | rw [hks] | generalize hk2:(List.cons _ _:List K)=k2) | (refine m5 _ _ ?_;cbv)
 all_goals (clear m1 m2 m3 m4 m5;cases m0;try dsimp only)
 all_goals try simp only [sm] at *
 all_goals (try rw [hw (by omega)] at *)
 all_goals (try simp only [Int.toNat_natCast] at *)
 all_goals first
  | omega
  | (have hb:=hbad (by omega) (decide_eq_false (by rintro ⟨h1,h2,h3⟩;first | omega | (have:=h3 (by omega);omega)))
     rw [hb];rfl)
  | (have hp:=qnv (l:=l) (i:=i) (by assumption) (by assumption) (fun h=>by first | assumption | (exfalso;omega))
     simp only [qg (show i<9223372036854775807 by omega)]
     exact ⟨(ih (i+1) (hgo (by omega) hp) (by omega)).same rfl rfl⟩)
  | skip
 clear ih hbad hgo hw
 have him:i=m:=by omega
 subst him
 have hm3:i<=3:=YH hj
 have hrr:r=wO i (2 ^ i):=by rw [hr,Qz,if_pos (qdh (by rw [<-hm];exact hj)),<-hm]
 clear hr hj
 refine ⟨SEx.same (SEx.idx (2 ^ i) (fun n=>⟨63,[(0,bL (.i l)),(5,bR 20480 n),(6,bI n)],[(20480,.osl (.ii true none (wO i n)))]⟩) (fun _=>Ks r) ?_) rfl rfl⟩
 intro n hn ih
 rw [<-hk2]
 obtain ⟨o,ho⟩:∃ o,o=wO i n:=⟨_,rfl⟩
 have hol:o.length=n:=by rw [ho,yN]
 rw [<-ho]
 have hs:IntKind.i64.wrap (1 * 2 ^ min l.length IntKind.i64.bits)=((2 ^ i:Nat):Int):=by rw [<-hm];exact qfs hm3
 have hp:=Wc hm3
 obtain ⟨p,hpp⟩:∃ p,p=2 ^ i:=⟨_,rfl⟩
 rw [<-hpp] at hs hp hn ih hrr
 refine SEx.go (X:=XX) qc (fun n=>qa [] [(2,[0,9,10,11]),(9,[0,5,6]),(13,[0,5,6,7,44,45])] n) (fun _=>none) qd 60 ?_
 intro M R L N m0 m1 m2 m3 m4 m5
 cases M
 cbv
 repeat' first | refine m1 _ _ ?_ ?_ | refine m2 _ _ fun h=>?_ | refine m3 _ ?_ | (refine m4 _ _ (Hd.out ?_);first | rw [hks] | rw [hk2] | generalize hk3:(List.cons _ _:List K)=k3) | (refine m5 _ _ ?_;cbv)
 all_goals (clear m1 m2 m3 m4 m5;cases m0;try dsimp only)
 all_goals try simp only [sm] at *
 all_goals (try rw [hs] at *)
 all_goals first
  | omega
  | (have hnp:n=p:=by omega
     subst hnp
     rw [ho,hrr];rfl)
  | skip
 have hm0:=hm
 obtain ⟨m,hmm⟩:∃ m,m=l.length:=⟨_,rfl⟩
 rw [<-hmm] at hm0 ⊢
 refine ⟨SEx.same (SEx.idx m (fun j=>⟨63,[(0,bL (.i l)),(5,bR 20480 n),(6,bI n),(7,bR 28672 j),(44,bI m),(45,bI j)],[(20480,.osl (.ii true none o)),(28672,.osl (.i (WG n j)))]⟩) (fun _=>Ks r) ?_) rfl rfl⟩
 intro j hj ihj
 rw [<-hk3]
 obtain ⟨w,hw⟩:∃ w,w=WG n j:=⟨_,rfl⟩
 have hwl:w.length=j:=by rw [hw,KW]
 rw [<-hw]
 refine SEx.go (X:=XX) qc (fun n=>qa [] [(2,[0,9,10,11]),(9,[0,5,6]),(13,[0,5,6,7,44,45])] n) (fun _=>none) qd 60 ?_
 intro M R L N m0 m1 m2 m3 m4 m5
 cases M
 cbv
 repeat' first | refine m1 _ _ ?_ ?_ | refine m2 _ _ fun h=>?_ | refine m3 _ ?_ | (refine m4 _ _ (Hd.out ?_);try first | rw [hks] | rw [hk2] | rw [hk3]) | (refine m5 _ _ ?_;cbv)
 all_goals (clear m1 m2 m3 m4 m5;cases m0;(try clear hks;try clear hk2;try clear hk3);try dsimp only)
 all_goals try simp only [sm] at *
 all_goals first
  | omega
  | rfl
  | (have:=qZ;simp only [List.length_cons,List.length_nil];omega)
  | (have ihj':=ihj (by omega)
     simp only [qg (show j<9223372036854775807 by omega)]
     rw [qbr,<-hw] at ihj'
     simp only [List.length_append,List.length_cons,List.length_nil,hwl]
     exact ⟨ihj'.same rfl rfl⟩)
  | (have hjm:j=m:=by omega
     have ih':=ih (by omega)
     simp only [qg (show n<9223372036854775807 by omega)]
     rw [qaQ,<-ho,hm0,<-hjm,<-hw] at ih'
     simp only [List.length_append,List.length_cons,List.length_nil,hol]
     exact ⟨ih'.same rfl rfl⟩)
theorem qgO (l:List Int)(h1:l.length<=1048576):qe Tryz.prog 123 [aIs l] (Ks (Qz l)):=by
 refine qe.of qc (fn:=Tryz.f123) (c:=Tryz.f123.body.getD .skip) (dr:=fun n=>qa 0 [] n) Tryz.func123 rfl (by kernel_rfl) (by kernel_rfl) (by kernel_rfl) ?_
 obtain ⟨f0,hf0⟩:∃ f,f=zV:=⟨_,rfl⟩
 have hO:qp Tryz.prog (qJ [(39,qb0 f0)]):=by subst hf0;exact qb Zf qd
 obtain ⟨m,hm⟩:∃ m,m=l.length:=⟨_,rfl⟩
 obtain ⟨r,hr⟩:∃ r,r=Qz l:=⟨_,rfl⟩
 rw [<-hr]
 refine SEx.go (X:=XX) qc (fun n=>qa [] [(2,[0,9,10,11]),(9,[0,5,6]),(13,[0,5,6,7,44,45])] n) (fun _=>none) hO 60 ?_
 intro M R L N m0 m1 m2 m3 m4 m5
 cases M
 cbv
 repeat' first | refine m1 _ _ ?_ ?_ | refine m2 _ _ fun h=>?_ | refine m3 _ ?_ | (refine m4 _ _ (Hd.out ?_);generalize hks:(List.cons _ _:List K)=ks) | (refine m5 _ _ ?_;cbv)
 all_goals (clear m1 m2 m3 m4 m5;cases m0;try dsimp only)
 all_goals try simp only [sm] at *
 refine ⟨SEx.same (SEx.ind (α:=Nat) (fun i=>⟨64,[(0,bL (.i l)),(9,bL (.i l)),(10,bI m),(11,bI i)],[]⟩) (fun _=>Ks r) (fun i=>i<=m/\∀ j,j<i->pI l j=true) (fun i=>m-i) 0 ⟨by omega,fun j h=>by omega⟩ ?_) (by rw [hm];rfl) rfl⟩
 rintro i ⟨hi,hj⟩ ih
 rw [<-hks]
 have hw:0<(i:Int)->IntKind.i64.wrap ((i:Int)-1)=((i-1:Nat):Int):=fun h=>by rw [qx (by omega) (by omega)];omega
 have hbad:i<l.length->pI l i=false->r=[]:=fun h h2=>by rw [hr,Qz,qni h h2];rfl
 have hgo:∀ (h:i<m) (h2:pI l i=true),i+1<=m/\∀ j,j<i+1->pI l j=true:=fun h h2=>⟨h,fun j hj'=>by
  by_cases e:j=i
  . rw [e];exact h2
  . exact hj j (by omega)⟩
 have hft:f0 (l.getD i 0) 1 3=true->1<=l.getD i 0/\l.getD i 0<=3:=by subst hf0;intro h;simpa [zV] using h
 have hff:f0 (l.getD i 0) 1 3=false->¬(1<=l.getD i 0/\l.getD i 0<=3):=by subst hf0;intro h h2;simp only [zV,decide_eq_true h2.1,decide_eq_true h2.2] at h;cases h
 refine SEx.go (X:=XX) qc (fun n=>qa [] [(2,[0,9,10,11]),(9,[0,5,6]),(13,[0,5,6,7,44,45])] n) (fun _=>none) hO 60 ?_
 intro M R L N m0 m1 m2 m3 m4 m5
 cases M
 cbv
 repeat' first | refine m1 _ _ ?_ ?_ | refine m2 _ _ fun h=>?_ | refine m3 _ ?_ | (refine m4 _ _ (Hd.out ?_);first | rw [hks] | generalize hk2:(List.cons _ _:List K)=k2) | (refine m5 _ _ ?_;cbv)
 all_goals (clear m1 m2 m3 m4 m5;cases m0;try dsimp only)
 all_goals try simp only [sm] at *
 all_goals (try (have hA:=hft (by assumption);have hA1:=hA.1;have hA2:=hA.2))
 all_goals (try have hB:=hff (by assumption))
 all_goals (try rw [hw (by omega)] at *)
 all_goals (try simp only [Int.toNat_natCast] at *)
 all_goals first
  | omega
  | (have hb:=hbad (by omega) (decide_eq_false (by rintro ⟨h1,h2,h3⟩;first | omega | (have:=h3 (by omega);omega)))
     rw [hb];rfl)
  | (have hp:=qnv (l:=l) (i:=i) (by assumption) (by assumption) (fun h=>by first | assumption | (exfalso;omega))
     simp only [qg (show i<9223372036854775807 by omega)]
     exact ⟨(ih (i+1) (hgo (by omega) hp) (by omega)).same rfl rfl⟩)
  | skip
 clear ih hbad hgo hw hft hff
 have him:i=m:=by omega
 subst him
 have hm3:i<=3:=YH hj
 have hrr:r=wO i (2 ^ i):=by rw [hr,Qz,if_pos (qdh (by rw [<-hm];exact hj)),<-hm]
 clear hr hj
 refine ⟨SEx.same (SEx.idx (2 ^ i) (fun n=>⟨64,[(0,bL (.i l)),(5,bR 20480 n),(6,bI n)],[(20480,.osl (.ii true none (wO i n)))]⟩) (fun _=>Ks r) ?_) rfl rfl⟩
 intro n hn ih
 rw [<-hk2]
 obtain ⟨o,ho⟩:∃ o,o=wO i n:=⟨_,rfl⟩
 have hol:o.length=n:=by rw [ho,yN]
 rw [<-ho]
 have hs:IntKind.i64.wrap (1 * 2 ^ min l.length IntKind.i64.bits)=((2 ^ i:Nat):Int):=by rw [<-hm];exact qfs hm3
 have hp:=Wc hm3
 obtain ⟨p,hpp⟩:∃ p,p=2 ^ i:=⟨_,rfl⟩
 rw [<-hpp] at hs hp hn ih hrr
 have hu:IntKind.u64.wrap (l.length:Int)=(l.length:Int):=ZQ (by omega)
 refine SEx.go (X:=XX) qc (fun n=>qa [] [(2,[0,9,10,11]),(9,[0,5,6]),(13,[0,5,6,7,44,45])] n) (fun _=>none) hO 60 ?_
 intro M R L N m0 m1 m2 m3 m4 m5
 cases M
 cbv
 repeat' first | refine m1 _ _ ?_ ?_ | refine m2 _ _ fun h=>?_ | refine m3 _ ?_ | (refine m4 _ _ (Hd.out ?_);first | rw [hks] | rw [hk2] | generalize hk3:(List.cons _ _:List K)=k3) | (refine m5 _ _ ?_;cbv)
 all_goals (clear m1 m2 m3 m4 m5;cases m0;try dsimp only)
 all_goals try simp only [sm] at *
 all_goals (try simp only [hu,Int.toNat_natCast] at *)
 all_goals (try rw [hs] at *)
 all_goals first
  | omega
  | (have hnp:n=p:=by omega
     subst hnp
     rw [ho,hrr];rfl)
  | skip
 have hm0:=hm
 obtain ⟨m,hmm⟩:∃ m,m=l.length:=⟨_,rfl⟩
 rw [<-hmm] at hm0 ⊢
 refine ⟨SEx.same (SEx.idx m (fun j=>⟨64,[(0,bL (.i l)),(5,bR 20480 n),(6,bI n),(7,bR 28672 j),(44,bI m),(45,bI j)],[(20480,.osl (.ii true none o)),(28672,.osl (.i (WG n j)))]⟩) (fun _=>Ks r) ?_) rfl rfl⟩
 intro j hj ihj
 rw [<-hk3]
 obtain ⟨w,hw⟩:∃ w,w=WG n j:=⟨_,rfl⟩
 have hwl:w.length=j:=by rw [hw,KW]
 rw [<-hw]
 have hv:j<m->IntKind.u64.wrap (j:Int)=(j:Int):=fun h=>ZQ (by omega)
 refine SEx.go (X:=XX) qc (fun n=>qa [] [(2,[0,9,10,11]),(9,[0,5,6]),(13,[0,5,6,7,44,45])] n) (fun _=>none) hO 60 ?_
 intro M R L N m0 m1 m2 m3 m4 m5
 cases M
 cbv
 repeat' first | refine m1 _ _ ?_ ?_ | refine m2 _ _ fun h=>?_ | refine m3 _ ?_ | (refine m4 _ _ (Hd.out ?_);try first | rw [hks] | rw [hk2] | rw [hk3]) | (refine m5 _ _ ?_;cbv)
 all_goals (clear m1 m2 m3 m4 m5;cases m0;(try clear hks;try clear hk2;try clear hk3);try dsimp only)
 all_goals try simp only [sm] at *
 all_goals (try rw [hv (by omega)] at *)
 all_goals (try simp only [Int.toNat_natCast] at *)
 all_goals first
  | omega
  | rfl
  | trivial
  | (have:=qZ;simp only [List.length_cons,List.length_nil];omega)
  | (have ihj':=ihj (by omega)
     simp only [qg (show j<9223372036854775807 by omega)]
     rw [qbr,<-hw] at ihj'
     simp only [List.length_append,List.length_cons,List.length_nil,hwl]
     exact ⟨ihj'.same rfl rfl⟩)
  | (have hjm:j=m:=by omega
     have ih':=ih (by omega)
     simp only [qg (show n<9223372036854775807 by omega)]
     rw [qaQ,<-ho,hm0,<-hjm,<-hw] at ih'
     simp only [List.length_append,List.length_cons,List.length_nil,hol]
     exact ⟨ih'.same rfl rfl⟩)
theorem Y5 (l:List Int):(Qz l).length<=8/\∀ x∈Qz l,x.length<=3:=by
 unfold Qz
 split
 . rename_i h
   have h3:l.length<=3:=by
    unfold okP at h
    rw [List.all_eq_true] at h
    exact YH (fun j hj=>h j (List.mem_range.2 hj))
   refine ⟨by rw [yN];exact Wc h3,fun x hx=>?_⟩
   simp only [wO,List.mem_map] at hx
   obtain ⟨n,_,rfl⟩:=hx
   rw [KW];exact h3
 . exact ⟨by simp,fun x hx=>by cases hx⟩
def qp7 (f:List Int->List (List Int)):Wr:=w1 kz (fun l=>Ks (f l)) (fun l=>[LLe l 1048576])
theorem qmO:qz Tryz.prog 123 (qp7 Qz):=ze fun l h=>qgO l (h _ (.head _)).out
theorem qmm:qz Tryz.prog 146 (qp7 Qz):=ze fun l h=>qhW l (h _ (.head _)).out
end Go.Proofs.YtfafehnchmelnaaGreat.Ai
namespace Go.Proofs.YtfafehnchmelnaaGreat.Ai
open Go
set_option maxRecDepth 100000
variable [qf]
def rUs (l:List Int):TV W:=.v (false,[.osl (.i l)])
end Go.Proofs.YtfafehnchmelnaaGreat.Ai
namespace Go.Proofs.YtfafehnchmelnaaGreat.Ai
open Go
set_option maxRecDepth 100000
variable [qf]
structure InX {α:Type}(c:Int)(l:List α):Prop where out:0<=c/\c<l.length
def Jy (n x:Int):Bool:=decide (0<=x/\x<n)
theorem qle (n m:Int):qe Tryz.prog 74 [aI n,aI m] (rB (Jy n m)):=by
 refine qe.of qc (fn:=Tryz.f74) (c:=Tryz.f74.body.getD .skip) (dr:=fun n=>qa 0 [] n) Tryz.func74 rfl (by kernel_rfl) (by kernel_rfl) (by kernel_rfl) ?_
 refine SEx.go (X:=XX) qc (fun n=>qa [] [] n) (fun _=>none) qd 60 ?_
 intro M R L N m0 m1 m2 m3 m4 m5
 cases M
 cbv
 repeat' first | refine m1 _ _ ?_ ?_ | refine m2 _ _ fun h=>?_ | refine m3 _ ?_ | (refine m4 _ _ (Hd.out ?_);try first | rw [hks] | rw [hk2] | rw [hk3]) | (refine m5 _ _ ?_;cbv)
 all_goals (clear m1 m2 m3 m4 m5;cases m0;(try clear hks;try clear hk2;try clear hk3);try dsimp only)
 all_goals try simp only [sm] at *
 all_goals simp only [jJ,Jy]
 all_goals (first | (rw [decide_eq_false (by omega)];done) | (symm;apply decide_eq_decide.2;omega) | (rw [Bool.eq_iff_iff];simp;omega))
def qb7 (f:Int->Int->Bool):Wr:=w2 dcI dcI (fun x y=>rB (f x y)) (fun _ _=>[])
theorem YE:qz Tryz.prog 74 (qb7 Jy):=qG fun x y _=>qle x y
end Go.Proofs.YtfafehnchmelnaaGreat.Ai
namespace Go.Proofs.YtfafehnchmelnaaGreat.Ai
open Go
set_option maxRecDepth 100000
variable [qf]
theorem qj5 (l:List Tie)(n:Int)(hs:l.length<=maxLen)(hn:0<=n/\n<=9223372036854775807):qe Tryz.prog 25 [W5 l,aI n] (rI (szL l n)):=by
 refine qe.of qc (fn:=Tryz.f25) (c:=Tryz.f25.body.getD .skip) (dr:=fun n=>qa 0 [] n) Tryz.func25 rfl (by kernel_rfl) (by kernel_rfl) (by kernel_rfl) ?_
 unfold maxLen at hs
 refine SEx.go (X:=XX) qc (fun n=>qa [] [] n) (fun _=>none) qd 60 ?_
 intro M R L N m0 m1 m2 m3 m4 m5
 cases M
 cbv
 repeat' first | refine m1 _ _ ?_ ?_ | refine m2 _ _ fun h=>?_ | refine m3 _ ?_ | (refine m4 _ _ (Hd.out ?_);try first | rw [hks] | rw [hk2] | rw [hk3]) | (refine m5 _ _ ?_;cbv)
 all_goals (clear m1 m2 m3 m4 m5;cases m0;(try clear hks;try clear hk2;try clear hk3);try dsimp only)
 all_goals try simp only [sm] at *
 all_goals rw [qx (by omega) (by omega)] at *
 all_goals simp only [wu,szL]
 all_goals split<;>omega
def qjo (f:List Tie->Int->Int):Wr:=w2 Z5 dcI (fun l n=>rI (f l n)) (fun l n=>[LLe l maxLen,qkG n])
theorem qgk:qz Tryz.prog 25 (qjo szL):=qG fun l n h=>qj5 l n (h _ (.head _)).out (h _ (.tail _ (.head _))).out
theorem qna (q:Tie):qe Tryz.prog 61 [YR q] (qr7 q):=by
 refine qe.of qc (fn:=Tryz.f61) (c:=Tryz.f61.body.getD .skip) (dr:=fun n=>qa 0 [] n) Tryz.func61 rfl (by kernel_rfl) (by kernel_rfl) (by kernel_rfl) ?_
 obtain ⟨x1,x2,x3,x4,x5⟩:=q
 refine SEx.go (X:=XX) qc (fun n=>qa [] [] n) (fun _=>none) qd 60 ?_
 intro M R L N m0 m1 m2 m3 m4 m5
 cases M
 cbv
 repeat' first | refine m1 _ _ ?_ ?_ | refine m2 _ _ fun h=>?_ | refine m3 _ ?_ | (refine m4 _ _ (Hd.out ?_);try first | rw [hks] | rw [hk2] | rw [hk3]) | (refine m5 _ _ ?_;cbv)
 all_goals (clear m1 m2 m3 m4 m5;cases m0;(try clear hks;try clear hk2;try clear hk3);try dsimp only)
 all_goals try simp only [sm] at *
 all_goals rfl
def qou:Wr:=w1 yZ qr7 (fun _=>[])
theorem qj2:qz Tryz.prog 61 qou:=ze fun q _=>qna q
theorem qkw (l:List Tie)(hs:l.length<=1048576):qe Tryz.prog 30 [W5 l] (qet l):=by
 refine qe.of qc (fn:=Tryz.f30) (c:=Tryz.f30.body.getD .skip) (dr:=fun n=>qa 0 [] n) Tryz.func30 rfl (by kernel_rfl) (by kernel_rfl) (by kernel_rfl) ?_
 have hO:qp Tryz.prog (qJ [(61,qou)]):=qb qj2 qd
 refine SEx.go (X:=XX) qc (fun n=>qa [] [(3,[0,3,4])] n) (fun _=>none) hO 60 ?_
 intro M R L N m0 m1 m2 m3 m4 m5
 cases M
 cbv
 repeat' first | refine m1 _ _ ?_ ?_ | refine m2 _ _ fun h=>?_ | refine m3 _ ?_ | (refine m4 _ _ (Hd.out ?_);generalize hks:(List.cons _ _:List K)=ks) | (refine m5 _ _ ?_;cbv)
 all_goals (clear m1 m2 m3 m4 m5;cases m0;try dsimp only)
 all_goals try simp only [sm] at *
 . have:=qZ;omega
 generalize hn:l.length=n at *
 refine ⟨SEx.same (SEx.idx n (fun i:Nat=>⟨23,[(0,bL (.tie l)),(3,bR 12288 n),(4,bI i)],[(12288,.osl (.tie (ZL ⟨0,0,0,0,false⟩ l n i)))]⟩) (fun _=>qet l) ?_) rfl rfl⟩
 intro i hi ih
 rw [<-hks]
 obtain ⟨fl,hfl⟩:∃ x,x=ZL (⟨0,0,0,0,false⟩:Tie) l n i:=⟨_,rfl⟩
 have hf:=WK (z:=(⟨0,0,0,0,false⟩:Tie)) hn hi
 rw [<-hfl] at hf ⊢
 refine SEx.go (X:=XX) qc (fun n=>qa [] [(3,[0,3,4])] n) (fun _=>none) hO 60 ?_
 intro M R L N m0 m1 m2 m3 m4 m5
 cases M
 cbv
 repeat' first | refine m1 _ _ ?_ ?_ | refine m2 _ _ fun h=>?_ | refine m3 _ ?_ | (refine m4 _ _ (Hd.out ?_);try first | rw [hks] | rw [hk2] | rw [hk3]) | (refine m5 _ _ ?_;cbv)
 all_goals (clear m1 m2 m3 m4 m5;cases m0;(try clear hks;try clear hk2;try clear hk3);try dsimp only)
 all_goals try simp only [sm] at *
 all_goals (try simp only [KQ] at *)
 all_goals (try omega)
 . simp only [qg (show i<9223372036854775807 by omega),qkk,qhw,hfl]
   have e:=J7 (z:=(⟨0,0,0,0,false⟩:Tie)) (d:=Tie.z) hn (show i<n by omega)
   have ih':=ih (by omega)
   rw [<-e] at ih'
   exact ⟨ih'⟩
 . obtain rfl:i=n:=by omega
   rw [hfl,WL hn];rfl
def qid:Wr:=w1 Z5 qet (fun l=>[LLe l 1048576])
theorem qhL:qz Tryz.prog 30 qid:=ze fun l h=>qkw l (h _ (.head _)).out
theorem qnz (q:Tie):qe Tryz.prog 67 [YR q,YR q] (rB true):=by
 refine qe.of qc (fn:=Tryz.f67) (c:=Tryz.f67.body.getD .skip) (dr:=fun n=>qa 0 [] n) Tryz.func67 rfl (by kernel_rfl) (by kernel_rfl) (by kernel_rfl) ?_
 obtain ⟨x1,x2,x3,x4,x5⟩:=q
 refine SEx.go (X:=XX) qc (fun n=>qa [] [] n) (fun _=>none) qd 60 ?_
 intro M R L N m0 m1 m2 m3 m4 m5
 cases M
 cbv
 repeat' first | refine m1 _ _ ?_ ?_ | refine m2 _ _ fun h=>?_ | refine m3 _ ?_ | (refine m4 _ _ (Hd.out ?_);try first | rw [hks] | rw [hk2] | rw [hk3]) | (refine m5 _ _ ?_;cbv)
 all_goals (clear m1 m2 m3 m4 m5;cases m0;(try clear hks;try clear hk2;try clear hk3);try dsimp only)
 all_goals try simp only [sm] at *
 all_goals first
  | exact absurd trivial (by assumption)
  | rfl
  | (exfalso;simp_all;done)
def qnq:Wr:=w2 yZ yZ (fun _ _=>rB true) (fun q r=>[YI q r])
theorem qlS:qz Tryz.prog 67 qnq:=qG fun q r h=>by
 obtain rfl:=(h _ (.head _)).out
 exact qnz q
theorem qjY (l:List Tie)(hs:l.length<=maxLen):qe Tryz.prog 34 [W5 l,W5 l] (rB true):=by
 refine qe.of qc (fn:=Tryz.f34) (c:=Tryz.f34.body.getD .skip) (dr:=fun n=>qa 0 [(6,8)] n) Tryz.func34 rfl (by kernel_rfl) (by kernel_rfl) (by kernel_rfl) ?_
 unfold maxLen at hs
 have hO:qp Tryz.prog (qJ [(67,qnq)]):=qb qlS qd
 refine SEx.go (X:=XX) qc (fun n=>qa [] [(4,[0,1,5])] n) (fun _=>none) hO 60 ?_
 intro M R L N m0 m1 m2 m3 m4 m5
 cases M
 cbv
 repeat' first | refine m1 _ _ ?_ ?_ | refine m2 _ _ fun h=>?_ | refine m3 _ ?_ | (refine m4 _ _ (Hd.out ?_);generalize hks:(List.cons _ _:List K)=ks) | (refine m5 _ _ ?_;cbv)
 all_goals (clear m1 m2 m3 m4 m5;cases m0;try dsimp only)
 all_goals try simp only [sm] at *
 . exact absurd trivial (by assumption)
 generalize hn:l.length=n at *
 refine ⟨SEx.same (SEx.idx n (fun i:Nat=>⟨27,[(0,bL (.tie l)),(1,bL (.tie l)),(5,bI i)],[]⟩) (fun _=>rB true) ?_) rfl rfl⟩
 intro i hi ih
 rw [<-hks]
 refine SEx.go (X:=XX) qc (fun n=>qa [] [(4,[0,1,5])] n) (fun _=>none) hO 60 ?_
 intro M R L N m0 m1 m2 m3 m4 m5
 cases M
 cbv
 repeat' first | refine m1 _ _ ?_ ?_ | refine m2 _ _ fun h=>?_ | refine m3 _ ?_ | (refine m4 _ _ (Hd.out ?_);try first | rw [hks] | rw [hk2] | rw [hk3]) | (refine m5 _ _ ?_;cbv)
 all_goals (clear m1 m2 m3 m4 m5;cases m0;(try clear hks;try clear hk2;try clear hk3);try dsimp only)
 all_goals try simp only [sm] at *
 all_goals first
  | omega
  | exact absurd trivial (by assumption)
  | rfl
  | exact ⟨rfl⟩
  | contradiction
  | (simp only [qg (show i<9223372036854775807 by omega)];exact ⟨ih (by omega)⟩)
def qie:Wr:=w2 Z5 Z5 (fun _ _=>rB true) (fun l m=>[YI l m,LLe l maxLen])
theorem qh0:qz Tryz.prog 34 qie:=qG fun l m h=>by
 obtain rfl:=(h _ (.head _)).out
 exact qjY l (h _ (.tail _ (.head _))).out
end Go.Proofs.YtfafehnchmelnaaGreat.Ai
namespace Go.Proofs.YtfafehnchmelnaaGreat.Ai
open Go
set_option maxRecDepth 100000
variable [qf]
def zC (q:qi)(n:Int):Int:=if n<q.name.size then -1 else szL q.label (n-q.name.size)
def qel (g:List Int->Int->Int):Wr:=w2 kz dcI (fun l n=>rI (g l n)) (fun l n=>[LLe l maxLen,qkG n])
theorem qdw:qz Tryz.prog 84 (qel szL):=qgX
theorem qmy {α:Type}(l:List α){n:Int}(h:0<=n):szL l n<=n:=by unfold szL;split<;>omega
theorem qlg (q:qi)(n:Int)(hs:q.name.size<=maxLen)(hl:q.label.length<=maxLen)(hn:0<=n/\n<=9223372036854775807):qe Tryz.prog 49 [wP q,aI n] (rI (zC q n)):=by
 refine qe.of qc (fn:=Tryz.f49) (c:=Tryz.f49.body.getD .skip) (dr:=fun n=>qa 0 [] n) Tryz.func49 rfl (by kernel_rfl) (by kernel_rfl) (by kernel_rfl) ?_
 unfold maxLen at hs
 obtain ⟨g,hg⟩:∃ g:List Int->Int->Int,g=szL:=⟨_,rfl⟩
 have hO:qp Tryz.prog (qJ [(84,qel g)]):=by subst hg;exact qb qdw qd
 obtain ⟨x1,x2,x3⟩:=q
 have hs:x1.size<=2 ^ 63-1:=hs
 have hl:x2.length<=maxLen:=hl
 refine SEx.go (X:=XX) qc (fun n=>qa [] [] n) (fun _=>none) hO 60 ?_
 intro M R L N m0 m1 m2 m3 m4 m5
 cases M
 cbv
 repeat' first | refine m1 _ _ ?_ ?_ | refine m2 _ _ fun h=>?_ | refine m3 _ ?_ | (refine m4 _ _ (Hd.out ?_);try first | rw [hks] | rw [hk2] | rw [hk3]) | (refine m5 _ _ ?_;cbv)
 all_goals (clear m1 m2 m3 m4 m5;cases m0;(try clear hks;try clear hk2;try clear hk3);try dsimp only)
 all_goals try simp only [sm] at *
 all_goals (try rw [qx (by omega) (by omega)] at *)
 all_goals first
  | exact ⟨hl⟩
  | exact ⟨⟨by omega,by omega⟩⟩
  | (simp only [wu,zC];rw [if_pos (by omega)];done)
  | (subst hg;simp only [wu,zC];rw [if_neg (by omega)];done)
  | (subst hg;simp only [wu,zC];rw [if_neg (by omega)];unfold szL at *;split<;>omega)
theorem Y3 (q:qi){n:Int}(h:0<=n):zC q n<=n:=by
 unfold zC
 split
 . omega
 . have:=qmy q.label (n:=n-q.name.size) (by omega)
   omega
structure vR (q:qi)(n:Nat):Prop where
 name:q.name.size<=n
 label:q.label.length<=n
theorem qgT {q:qi}{n:Int}(h:0<=zC q n):(q.name.size:Int)<=n/\(q.label.length:Int)<=n:=by
 unfold zC szL at h
 split at h
 . omega
 . split at h<;>omega
def qiT (f:qi->Int->Int):Wr:=w2 J8 dcI (fun q n=>rI (f q n)) (fun q n=>[vR q maxLen,qkG n])
theorem qf4:qz Tryz.prog 49 (qiT zC):=qG fun q n h=>qlg q n (h _ (.head _)).name (h _ (.head _)).label (h _ (.tail _ (.head _))).out
def szF {α:Type}(f:α->Int->Int):List α->Int->Int
 | [],n=>n
 | q::r,n=>if f q n<0 then -1 else szF f r (f q n)
theorem qeT {α:Type}{f:α->Int->Int}{l:List α}{i:Nat}{m:Int}(z:α)(h:i<l.length):szF f (l.drop i) m=if f (l.getD i z) m<0 then -1 else szF f (l.drop (i+1)) (f (l.getD i z) m):=by
 rw [List.drop_eq_getElem_cons h,zu h]
 rfl
def km (l:List qi)(n:Int):Int:=if n<l.length then -1 else szF zC l (n-l.length)
theorem qgU (l:List qi)(n:Int)(hs:l.length<=maxLen)(hq:∀ q∈l,vR q maxLen)(hn:0<=n/\n<=9223372036854775807):qe Tryz.prog 24 [Wm l,aI n] (rI (km l n)):=by
 refine qe.of qc (fn:=Tryz.f24) (c:=Tryz.f24.body.getD .skip) (dr:=fun n=>qa 0 [] n) Tryz.func24 rfl (by kernel_rfl) (by kernel_rfl) (by kernel_rfl) ?_
 unfold maxLen at hs
 obtain ⟨g,hg⟩:∃ g,g=zC:=⟨_,rfl⟩
 have hO:qp Tryz.prog (qJ [(49,qiT g)]):=by subst hg;exact qb qf4 qd
 refine SEx.go (X:=XX) qc (fun n=>qa [] [(5,[0,1,5])] n) (fun _=>none) hO 60 ?_
 intro M R L N m0 m1 m2 m3 m4 m5
 cases M
 cbv
 repeat' first | refine m1 _ _ ?_ ?_ | refine m2 _ _ fun h=>?_ | refine m3 _ ?_ | (refine m4 _ _ (Hd.out ?_);generalize hks:(List.cons _ _:List K)=ks) | (refine m5 _ _ ?_;cbv)
 all_goals (clear m1 m2 m3 m4 m5;cases m0;try dsimp only)
 all_goals try simp only [sm] at *
 . rw [qx (by omega) (by omega)] at *
   simp only [wu,km]
   split<;>omega
 rw [qx (by omega) (by omega)] at *
 have h0:0<=n-l.length:=by assumption
 rw [show km l n=szF zC (l.drop 0) (n-l.length) by unfold km;rw [if_neg (by omega)];rfl]
 refine ⟨SEx.same (SEx.ind (fun x:Nat×Int=>⟨27,[(0,bL (.node false none l)),(1,.v (false,[.fz (.int .i64 x.2)])),(5,bI x.1)],[]⟩) (fun x=>rI (szF zC (l.drop x.1) x.2)) (fun x=>x.1<=l.length/\0<=x.2/\x.2<=n) (fun x=>l.length-x.1) (0,n-l.length) ⟨by omega,h0,by omega⟩ ?_) rfl rfl⟩
 rintro ⟨i,m⟩ ⟨hi,hm1,hm2⟩ ih
 dsimp only at hi hm1 hm2 ih ⊢
 rw [<-hks]
 refine SEx.go (X:=XX) qc (fun n=>qa [] [(5,[0,1,5])] n) (fun _=>none) hO 60 ?_
 intro M R L N m0 m1 m2 m3 m4 m5
 cases M
 cbv
 repeat' first | refine m1 _ _ ?_ ?_ | refine m2 _ _ fun h=>?_ | refine m3 _ ?_ | (refine m4 _ _ (Hd.out ?_);try first | rw [hks] | rw [hk2] | rw [hk3]) | (refine m5 _ _ ?_;cbv)
 all_goals (clear m1 m2 m3 m4 m5;cases m0;(try clear hks;try clear hk2;try clear hk3);try dsimp only)
 all_goals try simp only [sm] at *
 all_goals first
  | omega
  | exact hq _ (qo (z:=qi.z) (by omega)).out
  | exact ⟨⟨hm1,by omega⟩⟩
  | (subst hg
     have hi':i<l.length:=by omega
     rw [qeT qi.z hi',if_pos (by assumption)]
     rfl)
  | (subst hg
     have hi':i<l.length:=by omega
     have h2:0<=zC (l.getD i qi.z) m:=by assumption
     have h3:=Y3 (l.getD i qi.z) hm1
     simp only [qg (show i<9223372036854775807 by omega)]
     exact ⟨(ih (i+1,zC (l.getD i qi.z) m) ⟨by show i+1<=l.length;omega,h2,by show zC _ m<=n;omega⟩ (by show l.length-(i+1)<_;omega)).same rfl (by rw [qeT qi.z hi',if_neg (by omega)])⟩)
  | (obtain rfl:i=l.length:=by omega
     rw [List.drop_length]
     rfl)
  | trace_state
theorem qk8 (q:qi)(hl:q.label.length<=1048576):qe Tryz.prog 60 [wP q] (qqq q):=by
 refine qe.of qc (fn:=Tryz.f60) (c:=Tryz.f60.body.getD .skip) (dr:=fun n=>qa 0 [] n) Tryz.func60 rfl (by kernel_rfl) (by kernel_rfl) (by kernel_rfl) ?_
 have hO:qp Tryz.prog (qJ [(100,qjt)]):=qb qgd qd
 obtain ⟨x1,x2,x3⟩:=q
 have hl:x2.length<=1048576:=hl
 refine SEx.go (X:=XX) qc (fun n=>qa [] [] n) (fun _=>none) hO 60 ?_
 intro M R L N m0 m1 m2 m3 m4 m5
 cases M
 cbv
 repeat' first | refine m1 _ _ ?_ ?_ | refine m2 _ _ fun h=>?_ | refine m3 _ ?_ | (refine m4 _ _ (Hd.out ?_);try first | rw [hks] | rw [hk2] | rw [hk3]) | (refine m5 _ _ ?_;cbv)
 all_goals (clear m1 m2 m3 m4 m5;cases m0;(try clear hks;try clear hk2;try clear hk3);try dsimp only)
 all_goals try simp only [sm] at *
 all_goals first
  | rfl
  | exact ⟨hl⟩
theorem qjU (q:qi)(hl:q.label.length<=maxLen):qe Tryz.prog 66 [wP q,wP q] (rB true):=by
 refine qe.of qc (fn:=Tryz.f66) (c:=Tryz.f66.body.getD .skip) (dr:=fun n=>qa 0 [] n) Tryz.func66 rfl (by kernel_rfl) (by kernel_rfl) (by kernel_rfl) ?_
 have hO:qp Tryz.prog (qJ [(109,qil)]):=qb qg6 qd
 obtain ⟨x1,x2,x3⟩:=q
 have hl:x2.length<=maxLen:=hl
 refine SEx.go (X:=XX) qc (fun n=>qa [] [] n) (fun _=>none) hO 60 ?_
 intro M R L N m0 m1 m2 m3 m4 m5
 cases M
 cbv
 repeat' first | refine m1 _ _ ?_ ?_ | refine m2 _ _ fun h=>?_ | refine m3 _ ?_ | (refine m4 _ _ (Hd.out ?_);try first | rw [hks] | rw [hk2] | rw [hk3]) | (refine m5 _ _ ?_;cbv)
 all_goals (clear m1 m2 m3 m4 m5;cases m0;(try clear hks;try clear hk2;try clear hk3);try dsimp only)
 all_goals try simp only [sm] at *
 all_goals first
  | exact absurd trivial (by assumption)
  | rfl
  | exact ⟨rfl⟩
  | exact ⟨hl⟩
  | (exfalso;simp_all;done)
structure qqC (q:qi)(n:Nat):Prop where out:q.label.length<=n
def qiY:Wr:=w1 J8 qqq (fun q=>[qqC q 1048576])
theorem qf3:qz Tryz.prog 60 qiY:=ze fun q h=>qk8 q (h _ (.head _)).out
def qjq:Wr:=w2 J8 J8 (fun _ _=>rB true) (fun q r=>[YI q r,qqC q maxLen])
theorem qgv:qz Tryz.prog 66 qjq:=qG fun q r h=>by
 obtain rfl:=(h _ (.head _)).out
 exact qjU q (h _ (.tail _ (.head _))).out
theorem qj6 {fl:List qi}{i:Nat}(h:i<fl.length)(s:ByteArray)(lab:List Int)(w:Int) :
 JL qi.z ((fl.set i ⟨s,(fl.getD i qi.z).2,(fl.getD i qi.z).3⟩).set i ⟨((fl.set i ⟨s,(fl.getD i qi.z).2,(fl.getD i qi.z).3⟩).getD i qi.z).1,lab,((fl.set i ⟨s,(fl.getD i qi.z).2,(fl.getD i qi.z).3⟩).getD i qi.z).3⟩) i (fun q=>⟨q.name,q.label,w⟩)=fl.set i ⟨s,lab,w⟩:=by
 simp [JL,List.getD_eq_getElem?_getD,h]
theorem qgw (l:List qi)(hs:l.length<=1048576)(hl:∀ q∈l,q.label.length<=1048576):qe Tryz.prog 29 [Wm l] (qf5 l):=by
 refine qe.of qc (fn:=Tryz.f29) (c:=Tryz.f29.body.getD .skip) (dr:=fun n=>qa 0 [] n) Tryz.func29 rfl (by kernel_rfl) (by kernel_rfl) (by kernel_rfl) ?_
 have hO:qp Tryz.prog (qJ [(60,qiY)]):=qb qf3 qd
 refine SEx.go (X:=XX) qc (fun n=>qa [] [(3,[0,3,4])] n) (fun _=>none) hO 60 ?_
 intro M R L N m0 m1 m2 m3 m4 m5
 cases M
 cbv
 repeat' first | refine m1 _ _ ?_ ?_ | refine m2 _ _ fun h=>?_ | refine m3 _ ?_ | (refine m4 _ _ (Hd.out ?_);generalize hks:(List.cons _ _:List K)=ks) | (refine m5 _ _ ?_;cbv)
 all_goals (clear m1 m2 m3 m4 m5;cases m0;try dsimp only)
 all_goals try simp only [sm] at *
 . have:=qZ;omega
 generalize hn:l.length=n at *
 refine ⟨SEx.same (SEx.idx n (fun i:Nat=>⟨23,[(0,bL (.node false none l)),(3,bR 12288 n),(4,bI i)],[(12288,.osl (.node true none (ZL ⟨⟨#[]⟩,[],0⟩ l n i)))]⟩) (fun _=>qf5 l) ?_) rfl rfl⟩
 intro i hi ih
 rw [<-hks]
 obtain ⟨fl,hfl⟩:∃ x,x=ZL (⟨⟨#[]⟩,[],0⟩:qi) l n i:=⟨_,rfl⟩
 have hf:=WK (z:=(⟨⟨#[]⟩,[],0⟩:qi)) hn hi
 rw [<-hfl] at hf ⊢
 refine SEx.go (X:=XX) qc (fun n=>qa [] [(3,[0,3,4])] n) (fun _=>none) hO 60 ?_
 intro M R L N m0 m1 m2 m3 m4 m5
 cases M
 cbv
 repeat' first | refine m1 _ _ ?_ ?_ | refine m2 _ _ fun h=>?_ | refine m3 _ ?_ | (refine m4 _ _ (Hd.out ?_);try first | rw [hks] | rw [hk2] | rw [hk3]) | (refine m5 _ _ ?_;cbv)
 all_goals (clear m1 m2 m3 m4 m5;cases m0;(try clear hks;try clear hk2;try clear hk3);try dsimp only)
 all_goals try simp only [sm] at *
 all_goals (try simp only [List.length_set,KQ])
 all_goals (try omega)
 . exact ⟨hl _ (qo (z:=qi.z) (by omega)).out⟩
 . simp only [qg (show i<9223372036854775807 by omega)]
   have e:=J7 (z:=(⟨⟨#[]⟩,[],0⟩:qi)) (d:=qi.z) hn (show i<n by omega)
   have ih':=ih (by omega)
   rw [<-e,<-hfl] at ih'
   refine ⟨ih'.same ?_ rfl⟩
   rw [qj6 (by omega)]
   rfl
 . obtain rfl:i=n:=by omega
   rw [hfl,WL hn];rfl
theorem qgb (l:List qi)(hs:l.length<=maxLen)(hl:∀ q∈l,q.label.length<=maxLen):qe Tryz.prog 33 [Wm l,Wm l] (rB true):=by
 refine qe.of qc (fn:=Tryz.f33) (c:=Tryz.f33.body.getD .skip) (dr:=fun n=>qa 0 [(6,8)] n) Tryz.func33 rfl (by kernel_rfl) (by kernel_rfl) (by kernel_rfl) ?_
 unfold maxLen at hs
 have hO:qp Tryz.prog (qJ [(66,qjq)]):=qb qgv qd
 refine SEx.go (X:=XX) qc (fun n=>qa [] [(4,[0,1,5])] n) (fun _=>none) hO 60 ?_
 intro M R L N m0 m1 m2 m3 m4 m5
 cases M
 cbv
 repeat' first | refine m1 _ _ ?_ ?_ | refine m2 _ _ fun h=>?_ | refine m3 _ ?_ | (refine m4 _ _ (Hd.out ?_);generalize hks:(List.cons _ _:List K)=ks) | (refine m5 _ _ ?_;cbv)
 all_goals (clear m1 m2 m3 m4 m5;cases m0;try dsimp only)
 all_goals try simp only [sm] at *
 . exact absurd trivial (by assumption)
 generalize hn:l.length=n at *
 refine ⟨SEx.same (SEx.idx n (fun i:Nat=>⟨27,[(0,bL (.node false none l)),(1,bL (.node false none l)),(5,bI i)],[]⟩) (fun _=>rB true) ?_) rfl rfl⟩
 intro i hi ih
 rw [<-hks]
 refine SEx.go (X:=XX) qc (fun n=>qa [] [(4,[0,1,5])] n) (fun _=>none) hO 60 ?_
 intro M R L N m0 m1 m2 m3 m4 m5
 cases M
 cbv
 repeat' first | refine m1 _ _ ?_ ?_ | refine m2 _ _ fun h=>?_ | refine m3 _ ?_ | (refine m4 _ _ (Hd.out ?_);try first | rw [hks] | rw [hk2] | rw [hk3]) | (refine m5 _ _ ?_;cbv)
 all_goals (clear m1 m2 m3 m4 m5;cases m0;(try clear hks;try clear hk2;try clear hk3);try dsimp only)
 all_goals try simp only [sm] at *
 all_goals first
  | omega
  | exact absurd trivial (by assumption)
  | rfl
  | exact ⟨rfl⟩
  | contradiction
  | exact ⟨hl _ (qo (z:=qi.z) (by omega)).out⟩
  | (simp only [qg (show i<9223372036854775807 by omega)];exact ⟨ih (by omega)⟩)
structure Ws (l:List qi)(n:Nat):Prop where out:∀ q∈l,q.label.length<=n
structure qjc (l:List qi)(n:Nat):Prop where out:∀ q∈l,vR q n
def qef (f:List qi->Int->Int):Wr:=w2 vz dcI (fun l n=>rI (f l n)) (fun l n=>[LLe l maxLen,qjc l maxLen,qkG n])
theorem qe9:qz Tryz.prog 24 (qef km):=qG fun l n h=>qgU l n (h _ (.head _)).out (h _ (.tail _ (.head _))).out (h _ (.tail _ (.tail _ (.head _)))).out
def qeP:Wr:=w1 vz qf5 (fun l=>[LLe l 1048576,Ws l 1048576])
theorem qff:qz Tryz.prog 29 qeP:=ze fun l h=>qgw l (h _ (.head _)).out (h _ (.tail _ (.head _))).out
def qeQ:Wr:=w2 vz vz (fun _ _=>rB true) (fun l m=>[YI l m,LLe l maxLen,Ws l maxLen])
theorem qdq:qz Tryz.prog 33 qeQ:=qG fun l m h=>by
 obtain rfl:=(h _ (.head _)).out
 exact qgb l (h _ (.tail _ (.head _))).out (h _ (.tail _ (.tail _ (.head _)))).out
end Go.Proofs.YtfafehnchmelnaaGreat.Ai
namespace Go.Proofs.YtfafehnchmelnaaGreat.Ai
open Go
set_option maxRecDepth 100000
variable [qf]
def jp (t:qj)(n:Int):Int:=if km t.nodes n<0 then -1 else if szL t.ties (km t.nodes n)<0 then -1 else szL t.ties (km t.nodes n)
theorem qn6:∀ (l:List qi) (n:Int),0<=n->szF zC l n<=n/\(0<=szF zC l n->∀ q∈l,(q.name.size:Int)<=n/\(q.label.length:Int)<=n)
 | [],n,h=>⟨Int.le_refl _,fun _ q hq=>by cases hq⟩
 | q::r,n,h=>by
   have h0:=Y3 q h
   unfold szF
   by_cases hn:zC q n<0
   . rw [if_pos hn];exact ⟨by omega,fun h=>by omega⟩
   . rw [if_neg hn]
     have ih:=qn6 r (zC q n) (by omega)
     refine ⟨by omega,fun h1 x hx=>?_⟩
     rcases List.mem_cons.1 hx with rfl | hx
     . exact qgT (by omega)
     . have:=ih.2 h1 x hx;omega
theorem Vc {l:List qi}{n:Int}(h:0<=n):km l n<=n/\(0<=km l n->(l.length:Int)<=n/\∀ q∈l,(q.name.size:Int)<=n/\(q.label.length:Int)<=n):=by
 unfold km
 split
 . exact ⟨by omega,fun h=>by omega⟩
 . have:=qn6 l (n-l.length) (by omega)
   refine ⟨by omega,fun h1=>⟨by omega,fun q hq=>?_⟩⟩
   have:=this.2 h1 q hq
   omega
theorem qlC (t:qj)(n:Int)(h1:t.nodes.length<=maxLen)(h2:t.ties.length<=maxLen)(h3:∀ q∈t.nodes,vR q maxLen)(hn:0<=n/\n<=9223372036854775807):qe Tryz.prog 9 [qK t,aI n] (rI (jp t n)):=by
 refine qe.of qc (fn:=Tryz.f9) (c:=Tryz.f9.body.getD .skip) (dr:=fun n=>qa 0 [] n) Tryz.func9 rfl (by kernel_rfl) (by kernel_rfl) (by kernel_rfl) ?_
 obtain ⟨f,hf⟩:∃ f,f=km:=⟨_,rfl⟩
 obtain ⟨g,hg⟩:∃ g:List Tie->Int->Int,g=szL:=⟨_,rfl⟩
 have hO:qp Tryz.prog (qJ [(24,qef f),(25,qjo g)]):=by subst hf hg;exact qb qe9 (qb qgk qd)
 obtain ⟨cs,ps,hr⟩:=t
 have h1:cs.length<=maxLen:=h1
 have h2:ps.length<=maxLen:=h2
 have h3:∀ q∈cs,vR q maxLen:=h3
 have h4:f cs n<=n:=by rw [hf];exact (Vc hn.1).1
 refine SEx.go (X:=XX) qc (fun n=>qa [] [] n) (fun _=>none) hO 60 ?_
 intro M R L N m0 m1 m2 m3 m4 m5
 cases M
 cbv
 repeat' first | refine m1 _ _ ?_ ?_ | refine m2 _ _ fun h=>?_ | refine m3 _ ?_ | (refine m4 _ _ (Hd.out ?_);try first | rw [hks] | rw [hk2] | rw [hk3]) | (refine m5 _ _ ?_;cbv)
 all_goals (clear m1 m2 m3 m4 m5;cases m0;(try clear hks;try clear hk2;try clear hk3);try dsimp only)
 all_goals try simp only [sm] at *
 all_goals first
  | exact ⟨h1⟩
  | exact ⟨h2⟩
  | exact ⟨h3⟩
  | exact ⟨hn⟩
  | exact ⟨⟨by omega,by omega⟩⟩
  | (subst hf hg;simp only [wu,jp];rw [if_pos (by assumption)];done)
  | (subst hf hg;simp only [wu,jp];rw [if_neg (by omega),if_pos (by assumption)];done)
  | (subst hf hg;simp only [wu,jp];rw [if_neg (by omega),if_neg (by omega)];done)
  | trace_state
theorem qkR (t:qj)(h1:t.nodes.length<=1048576)(h2:t.ties.length<=1048576)(h3:∀ q∈t.nodes,q.label.length<=1048576):qe Tryz.prog 11 [qK t] (YN t):=by
 refine qe.of qc (fn:=Tryz.f11) (c:=Tryz.f11.body.getD .skip) (dr:=fun n=>qa 0 [] n) Tryz.func11 rfl (by kernel_rfl) (by kernel_rfl) (by kernel_rfl) ?_
 have hO:qp Tryz.prog (qJ [(29,qeP),(30,qid)]):=qb qff (qb qhL qd)
 obtain ⟨cs,ps,hr⟩:=t
 have h1:cs.length<=1048576:=h1
 have h2:ps.length<=1048576:=h2
 have h3:∀ q∈cs,q.label.length<=1048576:=h3
 refine SEx.go (X:=XX) qc (fun n=>qa [] [] n) (fun n=>qa none qsZ n) hO 8 ?_
 intro M R L N m0 m1 m2 m3 m4 m5
 cases M
 cbv
 repeat' first | refine m1 _ _ ?_ ?_ | refine m2 _ _ fun h=>?_ | refine m3 _ ?_ | (refine m4 _ _ (Hd.out ?_);try first | rw [hks] | rw [hk2] | rw [hk3]) | (refine m5 _ _ ?_;cbv)
 all_goals (clear m1 m2 m3 m4 m5;cases m0;(try clear hks;try clear hk2;try clear hk3);try dsimp only)
 all_goals try simp only [sm] at *
 all_goals first
  | exact ⟨h1⟩
  | exact ⟨h2⟩
  | exact ⟨h3⟩
  | rfl
  | trace_state
theorem qlt (t:qj)(h1:t.nodes.length<=maxLen)(h2:t.ties.length<=maxLen)(h3:∀ q∈t.nodes,q.label.length<=maxLen):qe Tryz.prog 13 [qK t,qK t] (rB true):=by
 refine qe.of qc (fn:=Tryz.f13) (c:=Tryz.f13.body.getD .skip) (dr:=fun n=>qa 0 [] n) Tryz.func13 rfl (by kernel_rfl) (by kernel_rfl) (by kernel_rfl) ?_
 have hO:qp Tryz.prog (qJ [(33,qeQ),(34,qie)]):=qb qdq (qb qh0 qd)
 obtain ⟨cs,ps,hr⟩:=t
 have h1:cs.length<=maxLen:=h1
 have h2:ps.length<=maxLen:=h2
 have h3:∀ q∈cs,q.label.length<=maxLen:=h3
 refine SEx.go (X:=XX) qc (fun n=>qa [] [] n) (fun _=>none) hO 60 ?_
 intro M R L N m0 m1 m2 m3 m4 m5
 cases M
 cbv
 repeat' first | refine m1 _ _ ?_ ?_ | refine m2 _ _ fun h=>?_ | refine m3 _ ?_ | (refine m4 _ _ (Hd.out ?_);try first | rw [hks] | rw [hk2] | rw [hk3]) | (refine m5 _ _ ?_;cbv)
 all_goals (clear m1 m2 m3 m4 m5;cases m0;(try clear hks;try clear hk2;try clear hk3);try dsimp only)
 all_goals try simp only [sm] at *
 all_goals first
  | exact ⟨h1⟩
  | exact ⟨h2⟩
  | exact ⟨h3⟩
  | exact ⟨rfl⟩
  | rfl
  | contradiction
  | exact absurd trivial (by assumption)
  | trace_state
def qin (f:qj->Int->Int):Wr:=w2 qI dcI (fun t n=>rI (f t n)) (fun t n=>[LLe t.nodes maxLen,LLe t.ties maxLen,qjc t.nodes maxLen,qkG n])
theorem qgB:qz Tryz.prog 9 (qin jp):=qG fun t n h=>qlC t n (h _ (.head _)).out (h _ (.tail _ (.head _))).out (h _ (.tail _ (.tail _ (.head _)))).out (h _ (.tail _ (.tail _ (.tail _ (.head _))))).out
def qik:Wr:=w1 qI YN (fun t=>[LLe t.nodes 1048576,LLe t.ties 1048576,Ws t.nodes 1048576])
theorem qgx:qz Tryz.prog 11 qik:=ze fun t h=>qkR t (h _ (.head _)).out (h _ (.tail _ (.head _))).out (h _ (.tail _ (.tail _ (.head _)))).out
def qiy:Wr:=w2 qI qI (fun _ _=>rB true) (fun t u=>[YI t u,LLe t.nodes maxLen,LLe t.ties maxLen,Ws t.nodes maxLen])
theorem qgP:qz Tryz.prog 13 qiy:=qG fun t u h=>by
 obtain rfl:=(h _ (.head _)).out
 exact qlt t (h _ (.tail _ (.head _))).out (h _ (.tail _ (.tail _ (.head _)))).out (h _ (.tail _ (.tail _ (.tail _ (.head _))))).out
theorem qkm {t:qj}{n:Int}(h0:0<=n)(h:0<=jp t n):(t.nodes.length:Int)<=n/\(t.ties.length:Int)<=n/\(∀ q∈t.nodes,(q.name.size:Int)<=n/\(q.label.length:Int)<=n)/\jp t n<=n:=by
 unfold jp at h ⊢
 have h1:=Vc (l:=t.nodes) h0
 split at h
 . omega
 . rename_i ha
   rw [if_neg ha]
   split at h
   . omega
   . rename_i hb
     rw [if_neg hb]
     have h2:=h1.2 (by omega)
     have h3:=qmy t.ties (n:=km t.nodes n) (by omega)
     refine ⟨h2.1,?_,h2.2,by omega⟩
     unfold szL at hb
     split at hb<;>omega
end Go.Proofs.YtfafehnchmelnaaGreat.Ai
namespace Go.Proofs.YtfafehnchmelnaaGreat.Ai
open Go
set_option maxRecDepth 100000
variable [qf]
def Vw (p:Nat->Bool)(n:Nat):Bool:=(List.range n).all p
theorem qif {p:Nat->Bool}{n i:Nat}(hi:i<n)(h:p i=false):Vw p n=false:=by
 unfold Vw
 rw [List.all_eq_false]
 exact ⟨i,List.mem_range.2 hi,by rw [h];simp⟩
theorem Zy {p:Nat->Bool}{n:Nat}(h:∀ j,j<n->p j=true):Vw p n=true:=by
 unfold Vw
 rw [List.all_eq_true]
 exact fun j hj=>h j (List.mem_range.1 hj)
theorem KO {p:Nat->Bool}{n:Nat}(h:Vw p n=true):∀ j,j<n->p j=true:=by
 unfold Vw at h
 rw [List.all_eq_true] at h
 exact fun j hj=>h j (List.mem_range.2 hj)
structure IIn (n:Int):Prop where out:inI n
def zH (n:Int):Int:=if n<0 then IntKind.i64.wrap (-n) else n
theorem qm4 {n:Int}(h:inI n):IntKind.i64.wrap (-n)=if n=-9223372036854775808 then n else -n:=by
 rw [kx] at h
 split
 . rename_i e;subst e;decide
 . exact qx (by omega) (by omega)
theorem qe4 (n:Int):qe Tryz.prog 88 [aI n] (rI (zH n)):=by
 refine qe.of qc (fn:=Tryz.f88) (c:=Tryz.f88.body.getD .skip) (dr:=fun n=>qa 0 [] n) Tryz.func88 rfl (by kernel_rfl) (by kernel_rfl) (by kernel_rfl) ?_
 refine SEx.go (X:=XX) qc (fun n=>qa [] [] n) (fun _=>none) qd 60 ?_
 intro M R L N m0 m1 m2 m3 m4 m5
 cases M
 cbv
 repeat' first | refine m1 _ _ ?_ ?_ | refine m2 _ _ fun h=>?_ | refine m3 _ ?_ | (refine m4 _ _ (Hd.out ?_);try first | rw [hks] | rw [hk2] | rw [hk3]) | (refine m5 _ _ ?_;cbv)
 all_goals (clear m1 m2 m3 m4 m5;cases m0;(try clear hks;try clear hk2;try clear hk3);try dsimp only)
 all_goals try simp only [sm] at *
 . simp only [wu,zH];rw [if_pos (by assumption),Int.zero_sub]
 . simp only [wu,zH];rw [if_neg (by omega)]
theorem qeE (n:Int)(h:inI n):qe Tryz.prog 81 [aI n] (rI (zH n)):=by
 refine qe.of qc (fn:=Tryz.f81) (c:=Tryz.f81.body.getD .skip) (dr:=fun n=>qa 0 [] n) Tryz.func81 rfl (by kernel_rfl) (by kernel_rfl) (by kernel_rfl) ?_
 refine SEx.go (X:=XX) qc (fun n=>qa [] [] n) (fun _=>none) qd 60 ?_
 intro M R L N m0 m1 m2 m3 m4 m5
 cases M
 cbv
 repeat' first | refine m1 _ _ ?_ ?_ | refine m2 _ _ fun h=>?_ | refine m3 _ ?_ | (refine m4 _ _ (Hd.out ?_);try first | rw [hks] | rw [hk2] | rw [hk3]) | (refine m5 _ _ ?_;cbv)
 all_goals (clear m1 m2 m3 m4 m5;cases m0;(try clear hks;try clear hk2;try clear hk3);try dsimp only)
 all_goals try simp only [sm] at *
 all_goals simp only [wu,zH,Int.zero_sub]
 all_goals rw [qm4 h]
 all_goals rw [kx] at h
 all_goals (split<;>split<;>(try split at *)<;>omega)
def WZ (f:Int->Int):Wr:=w1 dcI (fun n=>rI (f n)) (fun n=>[IIn n])
theorem Wx:qz Tryz.prog 88 (WZ zH):=ze fun n _=>qe4 n
theorem WC:qz Tryz.prog 81 (WZ zH):=ze fun n h=>qeE n (h _ (.head _)).out
def lP (l:List Int)(i:Nat):Bool:=decide (¬l.getD i 0=0/\-3<=l.getD i 0/\l.getD i 0<=3/\(0<i->zH (l.getD (i-1) 0)<zH (l.getD i 0)))
def qX (l:List Int):Bool:=Vw (lP l) l.length
theorem V2 (l:List Int)(h1:l.length<=maxLen)(hx:∀ n∈l,inI n):qe Tryz.prog 114 [aIs l] (rB (qX l)):=by
 refine qe.of qc (fn:=Tryz.f114) (c:=Tryz.f114.body.getD .skip) (dr:=fun n=>qa 0 [] n) Tryz.func114 rfl (by kernel_rfl) (by kernel_rfl) (by kernel_rfl) ?_
 obtain ⟨m,hm⟩:∃ m,m=l.length:=⟨_,rfl⟩
 obtain ⟨r,hr⟩:∃ r,r=qX l:=⟨_,rfl⟩
 obtain ⟨f,hf⟩:∃ f,f=zH:=⟨_,rfl⟩
 have hO:qp Tryz.prog (qJ [(81,WZ f)]):=by subst hf;exact qb WC qd
 unfold maxLen at h1
 rw [<-hr]
 refine SEx.go (X:=XX) qc (fun n=>qa [] [(2,[0,5,6,7])] n) (fun _=>none) hO 60 ?_
 intro M R L N m0 m1 m2 m3 m4 m5
 cases M
 cbv
 repeat' first | refine m1 _ _ ?_ ?_ | refine m2 _ _ fun h=>?_ | refine m3 _ ?_ | (refine m4 _ _ (Hd.out ?_);generalize hks:(List.cons _ _:List K)=ks) | (refine m5 _ _ ?_;cbv)
 all_goals (clear m1 m2 m3 m4 m5;cases m0;try dsimp only)
 all_goals try simp only [sm] at *
 refine ⟨SEx.same (SEx.ind (α:=Nat) (fun i=>⟨38,[(0,bL (.i l)),(5,bL (.i l)),(6,bI m),(7,bI i)],[]⟩) (fun _=>rB r) (fun i=>i<=m/\∀ j,j<i->lP l j=true) (fun i=>m-i) 0 ⟨by omega,fun j h=>by omega⟩ ?_) (by rw [hm];rfl) rfl⟩
 rintro i ⟨hi,hj⟩ ih
 rw [<-hks]
 have hw:0<(i:Int)->IntKind.i64.wrap ((i:Int)-1)=((i-1:Nat):Int):=fun h=>by rw [qx (by omega) (by omega)];omega
 have hbad:i<l.length->lP l i=false->r=false:=fun h h2=>by rw [hr,qX,qif h h2]
 have hgo:∀ (h:i<m) (h2:lP l i=true),i+1<=m/\∀ j,j<i+1->lP l j=true:=fun h h2=>⟨h,fun j hj'=>by
  by_cases e:j=i
  . rw [e];exact h2
  . exact hj j (by omega)⟩
 refine SEx.go (X:=XX) qc (fun n=>qa [] [(2,[0,5,6,7])] n) (fun _=>none) hO 60 ?_
 intro M R L N m0 m1 m2 m3 m4 m5
 cases M
 cbv
 repeat' first | refine m1 _ _ ?_ ?_ | refine m2 _ _ fun h=>?_ | refine m3 _ ?_ | (refine m4 _ _ (Hd.out ?_);try first | rw [hks] | rw [hk2] | rw [hk3]) | (refine m5 _ _ ?_;cbv)
 all_goals (clear m1 m2 m3 m4 m5;cases m0;(try clear hks;try clear hk2;try clear hk3);try dsimp only)
 all_goals try simp only [sm] at *
 all_goals (try rw [hw (by omega)] at *)
 all_goals (try simp only [Int.toNat_natCast] at *)
 all_goals (clear hO;subst hf)
 all_goals first
  | omega
  | exact ⟨hx _ (qo (z:=(0:Int)) (by omega)).out⟩
  | (have hb:=hbad (by omega) (decide_eq_false (by rintro ⟨h1,h2,h3,h4⟩;first | contradiction | omega | (have:=h4 (by omega);omega)))
     rw [hb];rfl)
  | (have hp:lP l i=true:=decide_eq_true ⟨by assumption,by assumption,by assumption,fun h=>by first | assumption | (exfalso;omega)⟩
     simp only [qg (show i<9223372036854775807 by omega)]
     exact ⟨(ih (i+1) (hgo (by omega) hp) (by omega)).same rfl rfl⟩)
  | (have hee:i=m:=by omega
     subst hee
     rw [hr,qX,Zy (by rw [<-hm];exact hj)];rfl)
theorem yo (l:List Int)(h1:l.length<=maxLen)(hx:∀ n∈l,inI n):qe Tryz.prog 121 [aIs l] (rB (qX l)):=by
 refine qe.of qc (fn:=Tryz.f121) (c:=Tryz.f121.body.getD .skip) (dr:=fun n=>qa 0 [] n) Tryz.func121 rfl (by kernel_rfl) (by kernel_rfl) (by kernel_rfl) ?_
 obtain ⟨m,hm⟩:∃ m,m=l.length:=⟨_,rfl⟩
 obtain ⟨r,hr⟩:∃ r,r=qX l:=⟨_,rfl⟩
 obtain ⟨f0,hf0⟩:∃ f,f=zV:=⟨_,rfl⟩
 obtain ⟨f,hf⟩:∃ f,f=zH:=⟨_,rfl⟩
 have hO:qp Tryz.prog (qJ [(39,qb0 f0),(88,WZ f)]):=by subst hf hf0;exact qb Zf (qb Wx qd)
 unfold maxLen at h1
 rw [<-hr]
 refine SEx.go (X:=XX) qc (fun n=>qa [] [(2,[0,5,6,7])] n) (fun _=>none) hO 60 ?_
 intro M R L N m0 m1 m2 m3 m4 m5
 cases M
 cbv
 repeat' first | refine m1 _ _ ?_ ?_ | refine m2 _ _ fun h=>?_ | refine m3 _ ?_ | (refine m4 _ _ (Hd.out ?_);generalize hks:(List.cons _ _:List K)=ks) | (refine m5 _ _ ?_;cbv)
 all_goals (clear m1 m2 m3 m4 m5;cases m0;try dsimp only)
 all_goals try simp only [sm] at *
 refine ⟨SEx.same (SEx.ind (α:=Nat) (fun i=>⟨35,[(0,bL (.i l)),(5,bL (.i l)),(6,bI m),(7,bI i)],[]⟩) (fun _=>rB r) (fun i=>i<=m/\∀ j,j<i->lP l j=true) (fun i=>m-i) 0 ⟨by omega,fun j h=>by omega⟩ ?_) (by rw [hm];rfl) rfl⟩
 rintro i ⟨hi,hj⟩ ih
 rw [<-hks]
 have hw:0<(i:Int)->IntKind.i64.wrap ((i:Int)-1)=((i-1:Nat):Int):=fun h=>by rw [qx (by omega) (by omega)];omega
 have hbad:i<l.length->lP l i=false->r=false:=fun h h2=>by rw [hr,qX,qif h h2]
 have hgo:∀ (h:i<m) (h2:lP l i=true),i+1<=m/\∀ j,j<i+1->lP l j=true:=fun h h2=>⟨h,fun j hj'=>by
  by_cases e:j=i
  . rw [e];exact h2
  . exact hj j (by omega)⟩
 have hft:f0 (l.getD i 0) (-3) 3=true->-3<=l.getD i 0/\l.getD i 0<=3:=by subst hf0;intro h;simpa [zV] using h
 have hff:f0 (l.getD i 0) (-3) 3=false->¬(-3<=l.getD i 0/\l.getD i 0<=3):=by subst hf0;intro h h2;simp only [zV,decide_eq_true h2.1,decide_eq_true h2.2] at h;cases h
 refine SEx.go (X:=XX) qc (fun n=>qa [] [(2,[0,5,6,7])] n) (fun _=>none) hO 60 ?_
 intro M R L N m0 m1 m2 m3 m4 m5
 cases M
 cbv
 repeat' first | refine m1 _ _ ?_ ?_ | refine m2 _ _ fun h=>?_ | refine m3 _ ?_ | (refine m4 _ _ (Hd.out ?_);try first | rw [hks] | rw [hk2] | rw [hk3]) | (refine m5 _ _ ?_;cbv)
 all_goals (clear m1 m2 m3 m4 m5;cases m0;(try clear hks;try clear hk2;try clear hk3);try dsimp only)
 all_goals try simp only [sm] at *
 all_goals (try (have hA:=hft (by assumption);have hA1:=hA.1;have hA2:=hA.2))
 all_goals (try have hB:=hff (by assumption))
 all_goals (try rw [hw (by omega)] at *)
 all_goals (try simp only [Int.toNat_natCast] at *)
 all_goals (clear hO;subst hf)
 all_goals first
  | omega
  | exact ⟨hx _ (qo (z:=(0:Int)) (by omega)).out⟩
  | (have hb:=hbad (by omega) (decide_eq_false (by rintro ⟨h1,h2,h3,h4⟩;first | contradiction | omega | (have:=h4 (by omega);omega)))
     rw [hb];rfl)
  | (have hp:lP l i=true:=decide_eq_true ⟨by assumption,by assumption,by assumption,fun h=>by first | assumption | (exfalso;omega)⟩
     simp only [qg (show i<9223372036854775807 by omega)]
     exact ⟨(ih (i+1) (hgo (by omega) hp) (by omega)).same rfl rfl⟩)
  | (have hee:i=m:=by omega
     subst hee
     rw [hr,qX,Zy (by rw [<-hm];exact hj)];rfl)
structure Kb (l:List Int):Prop where
 len:l.length<=maxLen
 all:∀ n∈l,inI n
def QK (f:List Int->Bool):Wr:=w1 kz (fun l=>rB (f l)) (fun l=>[Kb l])
theorem vq:qz Tryz.prog 121 (QK qX):=ze fun l h=>yo l (h _ (.head _)).len (h _ (.head _)).all
theorem ZT:qz Tryz.prog 114 (QK qX):=ze fun l h=>V2 l (h _ (.head _)).len (h _ (.head _)).all
end Go.Proofs.YtfafehnchmelnaaGreat.Ai
namespace Go.Proofs.YtfafehnchmelnaaGreat.Ai
open Go
set_option maxRecDepth 100000
variable [qf]
def ZD (l:List Int)(v:Int):Bool:=decide (0<=zR (fun x=>v == x) l 0)
theorem qmg (l:List Int)(v:Int)(h1:l.length<=maxLen):qe Tryz.prog 82 [aIs l,aI v] (rB (ZD l v)):=by
 refine qe.of qc (fn:=Tryz.f82) (c:=Tryz.f82.body.getD .skip) (dr:=fun n=>qa 0 [] n) Tryz.func82 rfl (by kernel_rfl) (by kernel_rfl) (by kernel_rfl) ?_
 obtain ⟨f,hf⟩:∃ f:List Int->Int->Int,f=fun l v=>zR (fun x=>v == x) l 0:=⟨_,rfl⟩
 have hO:qp Tryz.prog (qJ [(118,qij f)]):=by subst hf;exact qb qhA qd
 refine SEx.go (X:=XX) qc (fun n=>qa [] [] n) (fun _=>none) hO 60 ?_
 intro M R L N m0 m1 m2 m3 m4 m5
 cases M
 cbv
 repeat' first | refine m1 _ _ ?_ ?_ | refine m2 _ _ fun h=>?_ | refine m3 _ ?_ | (refine m4 _ _ (Hd.out ?_);try first | rw [hks] | rw [hk2] | rw [hk3]) | (refine m5 _ _ ?_;cbv)
 all_goals (clear m1 m2 m3 m4 m5;cases m0;(try clear hks;try clear hk2;try clear hk3);try dsimp only)
 all_goals try simp only [sm] at *
 all_goals first
  | exact ⟨h1⟩
  | (subst hf;rfl)
theorem qqD (l:List Int)(v:Int)(h1:l.length<=maxLen):qe Tryz.prog 89 [aIs l,aI v] (rB (ZD l v)):=by
 refine qe.of qc (fn:=Tryz.f89) (c:=Tryz.f89.body.getD .skip) (dr:=fun n=>qa 0 [] n) Tryz.func89 rfl (by kernel_rfl) (by kernel_rfl) (by kernel_rfl) ?_
 unfold maxLen at h1
 obtain ⟨g,hg⟩:∃ g:Nat->Bool,g=fun i=>decide (0<=zR (fun x=>v == x) (l.drop i) i):=⟨_,rfl⟩
 rw [show ZD l v=g 0 by rw [hg];rfl]
 refine SEx.go (X:=XX) qc (fun n=>qa [] [(2,[1,7,8,9])] n) (fun _=>none) qd 60 ?_
 intro M R L N m0 m1 m2 m3 m4 m5
 cases M
 cbv
 repeat' first | refine m1 _ _ ?_ ?_ | refine m2 _ _ fun h=>?_ | refine m3 _ ?_ | (refine m4 _ _ (Hd.out ?_);generalize hks:(List.cons _ _:List K)=ks) | (refine m5 _ _ ?_;cbv)
 all_goals (clear m1 m2 m3 m4 m5;cases m0;try dsimp only)
 all_goals try simp only [sm] at *
 obtain ⟨m,hm⟩:∃ m,m=l.length:=⟨_,rfl⟩
 refine ⟨SEx.same (SEx.idx m (fun i=>⟨17,[(1,bI v),(7,bL (.i l)),(8,bI m),(9,bI i)],[]⟩) (fun i=>rB (g i)) ?_) (by rw [hm];rfl) rfl⟩
 intro i hi ih
 rw [<-hks]
 refine SEx.go (X:=XX) qc (fun n=>qa [] [(2,[1,7,8,9])] n) (fun _=>none) qd 60 ?_
 intro M R L N m0 m1 m2 m3 m4 m5
 cases M
 cbv
 repeat' first | refine m1 _ _ ?_ ?_ | refine m2 _ _ fun h=>?_ | refine m3 _ ?_ | (refine m4 _ _ (Hd.out ?_);try first | rw [hks] | rw [hk2] | rw [hk3]) | (refine m5 _ _ ?_;cbv)
 all_goals (clear m1 m2 m3 m4 m5;cases m0;(try clear hks;try clear hk2;try clear hk3);try dsimp only)
 all_goals try simp only [sm] at *
 all_goals first
  | omega
  | (have hh:l.getD i 0=v:=by assumption
     rw [hg];simp only [jJ];rw [Qc (z:=(0:Int)) (by omega) (by rw [hh];simp),decide_eq_true (by omega)])
  | (have hh:¬l.getD i 0=v:=by assumption
     simp only [qg (show i<9223372036854775807 by omega)]
     have e:g i=g (i+1):=by rw [hg];simp only;rw [Zb (z:=(0:Int)) (by omega) (beq_eq_false_iff_ne.2 (fun e=>hh e.symm))]
     exact ⟨(ih (by omega)).same rfl (by rw [e])⟩)
  | (rw [hg];simp only [jJ];rw [j8 (by omega)];rfl)
  | trace_state
def qhh (f:List Int->Int->Bool):Wr:=w2 kz dcI (fun l v=>rB (f l v)) (fun l _=>[LLe l maxLen])
theorem Yj:qz Tryz.prog 89 (qhh ZD):=qG fun l v h=>qqD l v (h _ (.head _)).out
theorem qd5:qz Tryz.prog 82 (qhh ZD):=qG fun l v h=>qmg l v (h _ (.head _)).out
def QM (q:qi):Bool:=Qa q.name 0&&qX q.label&&(decide (0<=q.watch)&&decide (q.watch<=3))
theorem qaA (q:qi)(hs:q.name.size<=maxLen)(hl:q.label.length<=maxLen)(hx:∀ n∈q.label,inI n):qe Tryz.prog 85 [wP q] (rB (QM q)):=by
 refine qe.of qc (fn:=Tryz.f85) (c:=Tryz.f85.body.getD .skip) (dr:=fun n=>qa 0 [] n) Tryz.func85 rfl (by kernel_rfl) (by kernel_rfl) (by kernel_rfl) ?_
 obtain ⟨f0,hf0⟩:∃ f,f=zV:=⟨_,rfl⟩
 obtain ⟨f1,hf1⟩:∃ f,f=(Qa · 0):=⟨_,rfl⟩
 obtain ⟨f2,hf2⟩:∃ f,f=qX:=⟨_,rfl⟩
 have hO:qp Tryz.prog (qJ [(120,qcE f1),(121,QK f2),(39,qb0 f0)]):=by subst hf0 hf1 hf2;exact qb qlf (qb vq (qb Zf qd))
 obtain ⟨x1,x2,x3⟩:=q
 refine SEx.go (X:=XX) qc (fun n=>qa [] [] n) (fun _=>none) hO 60 ?_
 intro M R L N m0 m1 m2 m3 m4 m5
 cases M
 cbv
 repeat' first | refine m1 _ _ ?_ ?_ | refine m2 _ _ fun h=>?_ | refine m3 _ ?_ | (refine m4 _ _ (Hd.out ?_);try first | rw [hks] | rw [hk2] | rw [hk3]) | (refine m5 _ _ ?_;cbv)
 all_goals (clear m1 m2 m3 m4 m5;cases m0;(try clear hks;try clear hk2;try clear hk3);try dsimp only)
 all_goals try simp only [sm] at *
 all_goals first
  | exact ⟨hs⟩
  | exact ⟨hl,hx⟩
  | (subst hf0 hf1 hf2;simp only [jJ,QM];simp_all [zV];done)
  | trace_state
theorem qal (q:qi)(hs:q.name.size<=maxLen)(hl:q.label.length<=maxLen)(hx:∀ n∈q.label,inI n):qe Tryz.prog 73 [wP q] (rB (QM q)):=by
 refine qe.of qc (fn:=Tryz.f73) (c:=Tryz.f73.body.getD .skip) (dr:=fun n=>qa 0 [] n) Tryz.func73 rfl (by kernel_rfl) (by kernel_rfl) (by kernel_rfl) ?_
 obtain ⟨f1,hf1⟩:∃ f,f=(Qa · 0):=⟨_,rfl⟩
 obtain ⟨f2,hf2⟩:∃ f,f=qX:=⟨_,rfl⟩
 have hO:qp Tryz.prog (qJ [(113,qcE f1),(114,QK f2)]):=by subst hf1 hf2;exact qb qkh (qb ZT qd)
 obtain ⟨x1,x2,x3⟩:=q
 refine SEx.go (X:=XX) qc (fun n=>qa [] [] n) (fun _=>none) hO 60 ?_
 intro M R L N m0 m1 m2 m3 m4 m5
 cases M
 cbv
 repeat' first | refine m1 _ _ ?_ ?_ | refine m2 _ _ fun h=>?_ | refine m3 _ ?_ | (refine m4 _ _ (Hd.out ?_);try first | rw [hks] | rw [hk2] | rw [hk3]) | (refine m5 _ _ ?_;cbv)
 all_goals (clear m1 m2 m3 m4 m5;cases m0;(try clear hks;try clear hk2;try clear hk3);try dsimp only)
 all_goals try simp only [sm] at *
 all_goals first
  | exact ⟨hs⟩
  | exact ⟨hl,hx⟩
  | (subst hf1 hf2;simp only [jJ,QM];simp_all;done)
  | (subst hf1 hf2;simp only [jJ,QM];rw [decide_eq_false (by omega)];simp;done)
  | trace_state
end Go.Proofs.YtfafehnchmelnaaGreat.Ai
namespace Go.Proofs.YtfafehnchmelnaaGreat.Ai
open Go
set_option maxRecDepth 100000
variable [qf]
def qch (x:Int):Bool:=decide (-1<=x)&&decide (x<=1)
def qW (l:List Int):Bool:=qD (fun _ x=>qch x) l 0&&decide (l.length=3)
theorem yA (n:Int):qe Tryz.prog 139 [aI n] (rB (!qch n)):=by
 refine qe.of qc (fn:=Tryz.f139) (c:=Tryz.f139.body.getD .skip) (dr:=fun n=>qa 0 [] n) Tryz.func139 rfl (by kernel_rfl) (by kernel_rfl) (by kernel_rfl) ?_
 refine SEx.go (X:=XX) qc (fun n=>qa [] [] n) (fun _=>none) qd 60 ?_
 intro M R L N m0 m1 m2 m3 m4 m5
 cases M
 cbv
 repeat' first | refine m1 _ _ ?_ ?_ | refine m2 _ _ fun h=>?_ | refine m3 _ ?_ | (refine m4 _ _ (Hd.out ?_);try first | rw [hks] | rw [hk2] | rw [hk3]) | (refine m5 _ _ ?_;cbv)
 all_goals (clear m1 m2 m3 m4 m5;cases m0;(try clear hks;try clear hk2;try clear hk3);try dsimp only)
 all_goals try simp only [sm] at *
 all_goals simp only [jJ,qch]
 all_goals first
  | (rw [decide_eq_false (show ¬-1<=n by omega)];rfl)
  | (rw [decide_eq_true (show -1<=n by omega)];rw [Bool.eq_iff_iff];simp;done)
theorem Vx (l:List Int)(h1:l.length<=maxLen):qe Tryz.prog 125 [aIs l] (rB (qW l)):=by
 refine qe.of qc (fn:=Tryz.f125) (c:=Tryz.f125.body.getD .skip) (dr:=fun n=>qa 0 [] n) Tryz.func125 rfl (by kernel_rfl) (by kernel_rfl) (by kernel_rfl) ?_
 obtain ⟨f,hf⟩:∃ f:List Int->Bool,f=fun l=>l.any (fun n=>!qch n):=⟨_,rfl⟩
 have hO:qp Tryz.prog (qJ [(45,wCl kz 139 [] (fun l=>rB (f l)) (fun l=>[LLe l maxLen]))]):=by
  subst hf
  exact qb (qcP fun l h=>Kh l _ _ _ (fun q _=>yA q) (h _ (.head _)).out) qd
 have ha:qD (fun _ x=>qch x) l 0=!f l:=by
  rw [hf,show (!List.any l fun n=>!qch n)=l.all qch by rw [List.not_any_eq_all_not];simp]
  generalize 0=k
  induction l generalizing k with
  | nil=>rfl
  | cons x r ih=>simp only [qD,List.all_cons];rw [ih (by simp at h1;omega)]
 rw [show qW l=(!f l&&decide (l.length=3)) by unfold qW;rw [ha]]
 clear ha hf
 refine SEx.go (X:=XX) qc (fun n=>qa [] [] n) (fun _=>none) hO 60 ?_
 intro M R L N m0 m1 m2 m3 m4 m5
 cases M
 cbv
 repeat' first | refine m1 _ _ ?_ ?_ | refine m2 _ _ fun h=>?_ | refine m3 _ ?_ | (refine m4 _ _ (Hd.out ?_);try first | rw [hks] | rw [hk2] | rw [hk3]) | (refine m5 _ _ ?_;cbv)
 all_goals (clear m1 m2 m3 m4 m5;cases m0;(try clear hks;try clear hk2;try clear hk3);try dsimp only)
 all_goals try simp only [sm] at *
 all_goals first
  | exact ⟨rfl⟩
  | exact ⟨h1⟩
  | (simp only [jJ];rw [decide_eq_true (by omega),Bool.and_true];done)
  | (simp only [jJ];rw [decide_eq_false (by omega),Bool.and_false];done)
def Wh (f:List Int->Bool):Wr:=w1 kz (fun l=>rB (f l)) (fun l=>[LLe l maxLen])
theorem JP:qz Tryz.prog 125 (Wh qW):=ze fun l h=>Vx l (h _ (.head _)).out
theorem qc5 (t:qj)(s:ByteArray)(h1:t.nodes.length<=maxLen):qe Tryz.prog 86 [qK t,aS s] (rI (zR (fun q=>eqS q.name s) t.nodes 0)):=by
 refine qe.of qc (fn:=Tryz.f86) (c:=Tryz.f86.body.getD .skip) (dr:=fun n=>qa 0 [] n) Tryz.func86 rfl (by kernel_rfl) (by kernel_rfl) (by kernel_rfl) ?_
 obtain ⟨cs,ps,hr⟩:=t
 have h1:cs.length<=maxLen:=h1
 unfold maxLen at h1
 show SEx _ _ _ _ _ _ (rI (zR _ cs 0))
 refine SEx.go (X:=XX) qc (fun n=>qa [] [(2,[1,8,9,10])] n) (fun _=>none) qd 60 ?_
 intro M R L N m0 m1 m2 m3 m4 m5
 cases M
 cbv
 repeat' first | refine m1 _ _ ?_ ?_ | refine m2 _ _ fun h=>?_ | refine m3 _ ?_ | (refine m4 _ _ (Hd.out ?_);generalize hks:(List.cons _ _:List K)=ks) | (refine m5 _ _ ?_;cbv)
 all_goals (clear m1 m2 m3 m4 m5;cases m0;try dsimp only)
 all_goals try simp only [sm] at *
 obtain ⟨n,hn⟩:∃ n,n=cs.length:=⟨_,rfl⟩
 refine ⟨SEx.same (SEx.idx n (fun i=>⟨21,[(1,bS s),(8,bL (.node false none cs)),(9,bI n),(10,bI i)],[]⟩) (fun i=>rI (zR (fun q=>eqS q.name s) (cs.drop i) i)) ?_) (by rw [hn];rfl) rfl⟩
 intro i hi ih
 rw [<-hks]
 refine SEx.go (X:=XX) qc (fun n=>qa [] [(2,[1,8,9,10])] n) (fun _=>none) qd 60 ?_
 intro M R L N m0 m1 m2 m3 m4 m5
 cases M
 cbv
 repeat' first | refine m1 _ _ ?_ ?_ | refine m2 _ _ fun h=>?_ | refine m3 _ ?_ | (refine m4 _ _ (Hd.out ?_);try first | rw [hks] | rw [hk2] | rw [hk3]) | (refine m5 _ _ ?_;cbv)
 all_goals (clear m1 m2 m3 m4 m5;cases m0;(try clear hks;try clear hk2;try clear hk3);try dsimp only)
 all_goals try simp only [sm] at *
 all_goals first
  | omega
  | exact ⟨rfl,by cases caps<;>rfl⟩
  | exact ⟨rfl,rfl⟩
  | exact qo (z:=qi.z) (by omega)
  | (rw [Qc (p:=fun q=>eqS q.name s) (l:=cs) (i:=i) qi.z (by omega) (by first | assumption | exact beq_iff_eq.2 (by assumption))];rfl)
  | (rw [j8 (by omega)];rfl)
  | (simp only [qg (show i<9223372036854775807 by omega)];exact ⟨(ih (by omega)).same rfl (by rw [Zb (p:=fun q=>eqS q.name s) (l:=cs) (i:=i) qi.z (by omega) (by first | assumption | exact beq_eq_false_iff_ne.2 (by assumption) | (simp_all;done))])⟩)
def qrP (k:Nat):Dc (List Int):=⟨fun s=>aF k [.ptr [.sl (.i s)]],fun | (false,[.fn f [.ptr [.sl (.i s)]]])=>(match nq f k with | true=>some s | false=>none) | _=>none,by
 intro x a h
 split at h
 . split at h
   . rename_i hk
     obtain rfl:=Ql.1 hk
     simp only [Option.some.injEq] at h;subst h;rfl
   . cases h
 . cases h⟩
def J0 (a b:List Int):Bool:=qX a&&qX b&&b.all (ZD a)
theorem KY {α:Type}(p:α->Bool):∀ (l:List α) (k:Nat),qD (fun _ x=>p x) l k=l.all p
 | [],_=>rfl
 | a::r,k=>by simp only [qD,List.all_cons,KY p r]
theorem Vv (x:Int)(a:List Int)(h1:a.length<=maxLen):qe Tryz.prog 119 [aI x,(false,[.ptr [.sl (.i a)]])] (rB (!ZD a x)):=by
 refine qe.of qc (fn:=Tryz.f119) (c:=Tryz.f119.body.getD .skip) (dr:=fun n=>qa 0 [] n) Tryz.func119 rfl (by kernel_rfl) (by kernel_rfl) (by kernel_rfl) ?_
 obtain ⟨f,hf⟩:∃ f,f=ZD:=⟨_,rfl⟩
 have hO:qp Tryz.prog (qJ [(82,qhh f)]):=by subst hf;exact qb qd5 qd
 rw [<-hf]
 refine SEx.go (X:=XX) qc (fun n=>qa [] [] n) (fun _=>none) hO 60 ?_
 intro M R L N m0 m1 m2 m3 m4 m5
 cases M
 cbv
 repeat' first | refine m1 _ _ ?_ ?_ | refine m2 _ _ fun h=>?_ | refine m3 _ ?_ | (refine m4 _ _ (Hd.out ?_);try first | rw [hks] | rw [hk2] | rw [hk3]) | (refine m5 _ _ ?_;cbv)
 all_goals (clear m1 m2 m3 m4 m5;cases m0;(try clear hks;try clear hk2;try clear hk3);try dsimp only)
 all_goals try simp only [sm] at *
 all_goals first
  | exact ⟨h1⟩
  | rfl
theorem yR (a b:List Int)(ha:Kb a)(hb:Kb b):qe Tryz.prog 83 [aIs a,aIs b] (rB (J0 a b)):=by
 refine qe.of qc (fn:=Tryz.f83) (c:=Tryz.f83.body.getD .skip) (dr:=fun n=>qa 0 [] n) Tryz.func83 rfl (by kernel_rfl) (by kernel_rfl) (by kernel_rfl) ?_
 obtain ⟨f,hf⟩:∃ f,f=qX:=⟨_,rfl⟩
 obtain ⟨g,hg⟩:∃ g:List Int->List Int->Bool,g=fun l a=>l.any (fun x=>!ZD a x):=⟨_,rfl⟩
 have hO:qp Tryz.prog (qJ [(114,QK f),(45,w2 kz (qrP 119) (fun l s=>rB (g l s)) (fun l s=>[LLe l maxLen,LLe s maxLen]))]):=by
  subst hf hg
  exact qb ZT (qb (qG fun l s h=>Kh l _ _ _ (fun q _=>Vv q s (h _ (.tail _ (.head _))).out) (h _ (.head _)).out) qd)
 rw [show J0 a b=(f a&&f b&&!g b a) by rw [hf,hg];unfold J0;rw [show (!List.any b fun x=>!ZD a x)=b.all (ZD a) by rw [List.not_any_eq_all_not];simp]]
 clear hf hg
 refine SEx.go (X:=XX) qc (fun n=>qa [] [] n) (fun _=>none) hO 60 ?_
 intro M R L N m0 m1 m2 m3 m4 m5
 cases M
 cbv
 repeat' first | refine m1 _ _ ?_ ?_ | refine m2 _ _ fun h=>?_ | refine m3 _ ?_ | (refine m4 _ _ (Hd.out ?_);try first | rw [hks] | rw [hk2] | rw [hk3]) | (refine m5 _ _ ?_;cbv)
 all_goals (clear m1 m2 m3 m4 m5;cases m0;(try clear hks;try clear hk2;try clear hk3);try dsimp only)
 all_goals try simp only [sm] at *
 all_goals first
  | exact ha
  | exact hb
  | exact ⟨rfl⟩
  | exact ⟨ha.len⟩
  | exact ⟨hb.len⟩
  | (simp only [jJ];simp_all;done)
  | trace_state
theorem Yl (a b:List Int)(ha:Kb a)(hb:Kb b):qe Tryz.prog 90 [aIs a,aIs b] (rB (J0 a b)):=by
 refine qe.of qc (fn:=Tryz.f90) (c:=Tryz.f90.body.getD .skip) (dr:=fun n=>qa 0 [] n) Tryz.func90 rfl (by kernel_rfl) (by kernel_rfl) (by kernel_rfl) ?_
 obtain ⟨f,hf⟩:∃ f,f=qX:=⟨_,rfl⟩
 obtain ⟨g,hg⟩:∃ f,f=ZD:=⟨_,rfl⟩
 have hO:qp Tryz.prog (qJ [(121,QK f),(89,qhh g)]):=by subst hf hg;exact qb vq (qb Yj qd)
 rw [show J0 a b=(f a&&f b&&qD (fun _ x=>g a x) (b.drop 0) 0) by rw [hf,hg,List.drop_zero,KY];rfl]
 clear hf hg
 have hal:=ha.len
 have hbl:=hb.len
 unfold maxLen at hbl
 refine SEx.go (X:=XX) qc (fun n=>qa [] [(4,[0,15,16,17])] n) (fun _=>none) hO 60 ?_
 intro M R L N m0 m1 m2 m3 m4 m5
 cases M
 cbv
 repeat' first | refine m1 _ _ ?_ ?_ | refine m2 _ _ fun h=>?_ | refine m3 _ ?_ | (refine m4 _ _ (Hd.out ?_);generalize hks:(List.cons _ _:List K)=ks) | (refine m5 _ _ ?_;cbv)
 all_goals (clear m1 m2 m3 m4 m5;cases m0;try dsimp only)
 all_goals try simp only [sm] at *
 all_goals first
  | exact ha
  | exact hb
  | (simp only [jJ];simp_all;done)
  | skip
 rw [show f a=true by assumption,show f b=true by assumption,Bool.true_and,Bool.true_and]
 obtain ⟨m,hm⟩:∃ m,m=b.length:=⟨_,rfl⟩
 refine ⟨SEx.same (SEx.idx m (fun i=>⟨26,[(0,bL (.i a)),(15,bL (.i b)),(16,bI m),(17,bI i)],[]⟩) (fun i=>rB (qD (fun _ x=>g a x) (b.drop i) i)) ?_) (by rw [hm];rfl) rfl⟩
 intro i hi ih
 rw [<-hks]
 refine SEx.go (X:=XX) qc (fun n=>qa [] [(4,[0,15,16,17])] n) (fun _=>none) hO 60 ?_
 intro M R L N m0 m1 m2 m3 m4 m5
 cases M
 cbv
 repeat' first | refine m1 _ _ ?_ ?_ | refine m2 _ _ fun h=>?_ | refine m3 _ ?_ | (refine m4 _ _ (Hd.out ?_);try first | rw [hks] | rw [hk2] | rw [hk3]) | (refine m5 _ _ ?_;cbv)
 all_goals (clear m1 m2 m3 m4 m5;cases m0;(try clear hks;try clear hk2;try clear hk3);try dsimp only)
 all_goals try simp only [sm] at *
 all_goals first
  | omega
  | exact ⟨hal⟩
  | (rw [VA (p:=fun _ x=>g a x) (l:=b) (i:=i) (0:Int) (by omega) (by assumption)];rfl)
  | (simp only [qg (show i<9223372036854775807 by omega)];exact ⟨(ih (by omega)).same rfl (by rw [wK (p:=fun _ x=>g a x) (l:=b) (i:=i) (0:Int) (by omega) (by assumption)])⟩)
  | (rw [List.drop_eq_nil_of_le (by omega)];rfl)
  | trace_state
def vh (f:List Int->List Int->Bool):Wr:=w2 kz kz (fun a b=>rB (f a b)) (fun a b=>[Kb a,Kb b])
theorem qcl:qz Tryz.prog 90 (vh J0):=qG fun a b h=>Yl a b (h _ (.head _)) (h _ (.tail _ (.head _)))
theorem qcd:qz Tryz.prog 83 (vh J0):=qG fun a b h=>yR a b (h _ (.head _)) (h _ (.tail _ (.head _)))
end Go.Proofs.YtfafehnchmelnaaGreat.Ai
namespace Go.Proofs.YtfafehnchmelnaaGreat.Ai
open Go
set_option maxRecDepth 100000
variable [qf]
structure qqu (p:Int):Prop where out:0<p
def zr (l:List qi)(p:Int):Int:=zR (fun q=>q.watch == p) l 0
theorem KJ (t:qj)(p:Int)(h1:t.nodes.length<=maxLen):qe Tryz.prog 87 [qK t,aI p] (rI (zr t.nodes p)):=by
 refine qe.of qc (fn:=Tryz.f87) (c:=Tryz.f87.body.getD .skip) (dr:=fun n=>qa 0 [] n) Tryz.func87 rfl (by kernel_rfl) (by kernel_rfl) (by kernel_rfl) ?_
 obtain ⟨cs,ps,hr⟩:=t
 have h1:cs.length<=maxLen:=h1
 unfold maxLen at h1
 show SEx _ _ _ _ _ _ (rI (zR _ cs 0))
 refine SEx.go (X:=XX) qc (fun n=>qa [] [(2,[1,8,9,10])] n) (fun _=>none) qd 60 ?_
 intro M R L N m0 m1 m2 m3 m4 m5
 cases M
 cbv
 repeat' first | refine m1 _ _ ?_ ?_ | refine m2 _ _ fun h=>?_ | refine m3 _ ?_ | (refine m4 _ _ (Hd.out ?_);generalize hks:(List.cons _ _:List K)=ks) | (refine m5 _ _ ?_;cbv)
 all_goals (clear m1 m2 m3 m4 m5;cases m0;try dsimp only)
 all_goals try simp only [sm] at *
 obtain ⟨n,hn⟩:∃ n,n=cs.length:=⟨_,rfl⟩
 refine ⟨SEx.same (SEx.idx n (fun i=>⟨21,[(1,bI p),(8,bL (.node false none cs)),(9,bI n),(10,bI i)],[]⟩) (fun i=>rI (zR (fun q=>q.watch == p) (cs.drop i) i)) ?_) (by rw [hn];rfl) rfl⟩
 intro i hi ih
 rw [<-hks]
 refine SEx.go (X:=XX) qc (fun n=>qa [] [(2,[1,8,9,10])] n) (fun _=>none) qd 60 ?_
 intro M R L N m0 m1 m2 m3 m4 m5
 cases M
 cbv
 repeat' first | refine m1 _ _ ?_ ?_ | refine m2 _ _ fun h=>?_ | refine m3 _ ?_ | (refine m4 _ _ (Hd.out ?_);try first | rw [hks] | rw [hk2] | rw [hk3]) | (refine m5 _ _ ?_;cbv)
 all_goals (clear m1 m2 m3 m4 m5;cases m0;(try clear hks;try clear hk2;try clear hk3);try dsimp only)
 all_goals try simp only [sm] at *
 all_goals first
  | omega
  | exact ⟨rfl,by cases caps<;>rfl⟩
  | exact ⟨rfl,rfl⟩
  | exact qo (z:=qi.z) (by omega)
  | (rw [Qc (p:=fun q=>q.watch == p) (l:=cs) (i:=i) qi.z (by omega) (by first | assumption | exact beq_iff_eq.2 (by assumption))];rfl)
  | (rw [j8 (by omega)];rfl)
  | (simp only [qg (show i<9223372036854775807 by omega)];exact ⟨(ih (by omega)).same rfl (by rw [Zb (p:=fun q=>q.watch == p) (l:=cs) (i:=i) qi.z (by omega) (by first | assumption | exact beq_eq_false_iff_ne.2 (by assumption) | (simp_all;done))])⟩)
 all_goals trace_state
def qsD (k:Nat):Dc Int:=⟨fun s=>aF k [.ptr [.int .i64 s]],fun | (false,[.fn f [.ptr [.int .i64 s]]])=>(match nq f k with | true=>some s | false=>none) | _=>none,by
 intro x a h
 split at h
 . split at h
   . rename_i hk
     obtain rfl:=Ql.1 hk
     simp only [Option.some.injEq] at h;subst h;rfl
   . cases h
 . cases h⟩
theorem Vr (q:qi)(p:Int)(hp:0<p):qe Tryz.prog 117 [wP q,(false,[.ptr [.int .i64 p]])] (rB (q.watch == p)):=by
 refine qe.of qc (fn:=Tryz.f117) (c:=Tryz.f117.body.getD .skip) (dr:=fun n=>qa 0 [] n) Tryz.func117 rfl (by kernel_rfl) (by kernel_rfl) (by kernel_rfl) ?_
 obtain ⟨x1,x2,x3⟩:=q
 refine SEx.go (X:=XX) qc (fun n=>qa [] [] n) (fun _=>none) qd 60 ?_
 intro M R L N m0 m1 m2 m3 m4 m5
 cases M
 cbv
 repeat' first | refine m1 _ _ ?_ ?_ | refine m2 _ _ fun h=>?_ | refine m3 _ ?_ | (refine m4 _ _ (Hd.out ?_);try first | rw [hks] | rw [hk2] | rw [hk3]) | (refine m5 _ _ ?_;cbv)
 all_goals (clear m1 m2 m3 m4 m5;cases m0;(try clear hks;try clear hk2;try clear hk3);try dsimp only)
 all_goals try simp only [sm] at *
 all_goals first
  | rfl
  | (exfalso;omega)
  | trace_state
theorem YG (t:qj)(p:Int)(h1:t.nodes.length<=maxLen)(hp:0<p):qe Tryz.prog 80 [qK t,aI p] (rI (zr t.nodes p)):=by
 refine qe.of qc (fn:=Tryz.f80) (c:=Tryz.f80.body.getD .skip) (dr:=fun n=>qa 0 [] n) Tryz.func80 rfl (by kernel_rfl) (by kernel_rfl) (by kernel_rfl) ?_
 obtain ⟨f,hf⟩:∃ f,f=zr:=⟨_,rfl⟩
 have hO:qp Tryz.prog (qJ [(116,w2 vz (qsD 117) (fun l s=>rI (f l s)) (fun l s=>[LLe l maxLen,qqu s]))]):=by
  subst hf
  exact qb (qG fun l s h=>yv l _ _ _ (fun q _=>Vr q s (h _ (.tail _ (.head _))).out) (h _ (.head _)).out) qd
 obtain ⟨cs,ps,hr⟩:=t
 have h1:cs.length<=maxLen:=h1
 refine SEx.go (X:=XX) qc (fun n=>qa [] [] n) (fun _=>none) hO 60 ?_
 intro M R L N m0 m1 m2 m3 m4 m5
 cases M
 cbv
 repeat' first | refine m1 _ _ ?_ ?_ | refine m2 _ _ fun h=>?_ | refine m3 _ ?_ | (refine m4 _ _ (Hd.out ?_);try first | rw [hks] | rw [hk2] | rw [hk3]) | (refine m5 _ _ ?_;cbv)
 all_goals (clear m1 m2 m3 m4 m5;cases m0;(try clear hks;try clear hk2;try clear hk3);try dsimp only)
 all_goals try simp only [sm] at *
 all_goals first
  | exact ⟨h1⟩
  | exact ⟨hp⟩
  | (subst hf;rfl)
  | trace_state
def KS (f:List qi->Int->Int):Wr:=w2 qI dcI (fun t p=>rI (f t.nodes p)) (fun t p=>[LLe t.nodes maxLen,qqu p])
theorem qcS:qz Tryz.prog 87 (KS zr):=qG fun t p h=>KJ t p (h _ (.head _)).out
theorem vQ:qz Tryz.prog 80 (KS zr):=qG fun t p h=>YG t p (h _ (.head _)).out (h _ (.tail _ (.head _))).out
end Go.Proofs.YtfafehnchmelnaaGreat.Ai
namespace Go.Proofs.YtfafehnchmelnaaGreat.Ai
open Go
set_option maxRecDepth 100000
variable [qf]
def qe6 (n:Int):Bool:=decide (-20<=n)&&decide (n<=20)
theorem qlc (n:Int):qe Tryz.prog 75 [aI n] (rB (qe6 n)):=by
 refine qe.of qc (fn:=Tryz.f75) (c:=Tryz.f75.body.getD .skip) (dr:=fun n=>qa 0 [] n) Tryz.func75 rfl (by kernel_rfl) (by kernel_rfl) (by kernel_rfl) ?_
 refine SEx.go (X:=XX) qc (fun n=>qa [] [] n) (fun _=>none) qd 60 ?_
 intro M R L N m0 m1 m2 m3 m4 m5
 cases M
 cbv
 repeat' first | refine m1 _ _ ?_ ?_ | refine m2 _ _ fun h=>?_ | refine m3 _ ?_ | (refine m4 _ _ (Hd.out ?_);try first | rw [hks] | rw [hk2] | rw [hk3]) | (refine m5 _ _ ?_;cbv)
 all_goals (clear m1 m2 m3 m4 m5;cases m0;(try clear hks;try clear hk2;try clear hk3);try dsimp only)
 all_goals try simp only [sm] at *
 all_goals simp only [jJ,qe6]
 all_goals first
  | (rw [decide_eq_false (show ¬-20<=n by omega)];rfl)
  | (rw [decide_eq_true (show -20<=n by omega),Bool.true_and])
def qqf (f:Int->Bool):Wr:=w1 dcI (fun n=>rB (f n)) (fun _=>[])
theorem qon:qz Tryz.prog 75 (qqf qe6):=ze fun n _=>qlc n
def Zg (a b:List Int):Bool:=decide (a.length=b.length)&&qD (fun i x=>x == b.getD i 0) a 0
theorem qgi (a b:List Int)(h1:a.length<=maxLen)(h2:b.length<=maxLen):qe Tryz.prog 91 [aIs a,aIs b] (rB (Zg a b)):=by
 refine qe.of qc (fn:=Tryz.f91) (c:=Tryz.f91.body.getD .skip) (dr:=fun n=>qa 0 [] n) Tryz.func91 rfl (by kernel_rfl) (by kernel_rfl) (by kernel_rfl) ?_
 unfold maxLen at h1 h2
 rw [show Zg a b=(decide (a.length=b.length)&&qD (fun i x=>x == b.getD i 0) (a.drop 0) 0) by rw [List.drop_zero];rfl]
 refine SEx.go (X:=XX) qc (fun n=>qa [] [(4,[1,12,13,14])] n) (fun _=>none) qd 60 ?_
 intro M R L N m0 m1 m2 m3 m4 m5
 cases M
 cbv
 repeat' first | refine m1 _ _ ?_ ?_ | refine m2 _ _ fun h=>?_ | refine m3 _ ?_ | (refine m4 _ _ (Hd.out ?_);generalize hks:(List.cons _ _:List K)=ks) | (refine m5 _ _ ?_;cbv)
 all_goals (clear m1 m2 m3 m4 m5;cases m0;try dsimp only)
 all_goals try simp only [sm] at *
 . simp only [jJ];rw [decide_eq_false (by omega)];rfl
 have hab:a.length=b.length:=by omega
 rw [decide_eq_true hab,Bool.true_and]
 obtain ⟨m,hm⟩:∃ m,m=a.length:=⟨_,rfl⟩
 refine ⟨SEx.same (SEx.idx m (fun i=>⟨26,[(1,bL (.i b)),(12,bL (.i a)),(13,bI m),(14,bI i)],[]⟩) (fun i=>rB (qD (fun i x=>x == b.getD i 0) (a.drop i) i)) ?_) (by rw [hm];rfl) rfl⟩
 intro i hi ih
 rw [<-hks]
 refine SEx.go (X:=XX) qc (fun n=>qa [] [(4,[1,12,13,14])] n) (fun _=>none) qd 60 ?_
 intro M R L N m0 m1 m2 m3 m4 m5
 cases M
 cbv
 repeat' first | refine m1 _ _ ?_ ?_ | refine m2 _ _ fun h=>?_ | refine m3 _ ?_ | (refine m4 _ _ (Hd.out ?_);try first | rw [hks] | rw [hk2] | rw [hk3]) | (refine m5 _ _ ?_;cbv)
 all_goals (clear m1 m2 m3 m4 m5;cases m0;(try clear hks;try clear hk2;try clear hk3);try dsimp only)
 all_goals try simp only [sm] at *
 all_goals first
  | omega
  | (rw [VA (p:=fun i x=>x == b.getD i 0) (l:=a) (i:=i) (0:Int) (by omega) (beq_eq_false_iff_ne.2 (by assumption))];rfl)
  | (simp only [qg (show i<9223372036854775807 by omega)];exact ⟨(ih (by omega)).same rfl (by rw [wK (p:=fun i x=>x == b.getD i 0) (l:=a) (i:=i) (0:Int) (by omega) (beq_iff_eq.2 (by assumption))])⟩)
  | (rw [List.drop_eq_nil_of_le (by omega)];rfl)
  | trace_state
theorem qky (a b:List Int)(h1:a.length<=maxLen)(h2:b.length<=maxLen):qe Tryz.prog 76 [aIs a,aIs b] (rB (Zg a b)):=by
 refine qe.of qc (fn:=Tryz.f76) (c:=Tryz.f76.body.getD .skip) (dr:=fun n=>qa 0 [(6,8)] n) Tryz.func76 rfl (by kernel_rfl) (by kernel_rfl) (by kernel_rfl) ?_
 unfold maxLen at h1 h2
 rw [show Zg a b=(decide (a.length=b.length)&&qD (fun i x=>x == b.getD i 0) (a.drop 0) 0) by rw [List.drop_zero];rfl]
 refine SEx.go (X:=XX) qc (fun n=>qa [] [(4,[0,1,12,13])] n) (fun _=>none) qd 60 ?_
 intro M R L N m0 m1 m2 m3 m4 m5
 cases M
 cbv
 repeat' first | refine m1 _ _ ?_ ?_ | refine m2 _ _ fun h=>?_ | refine m3 _ ?_ | (refine m4 _ _ (Hd.out ?_);generalize hks:(List.cons _ _:List K)=ks) | (refine m5 _ _ ?_;cbv)
 all_goals (clear m1 m2 m3 m4 m5;cases m0;try dsimp only)
 all_goals try simp only [sm] at *
 . simp only [jJ];rw [decide_eq_false (by omega)];rfl
 have hab:a.length=b.length:=by omega
 rw [decide_eq_true hab,Bool.true_and]
 obtain ⟨m,hm⟩:∃ m,m=a.length:=⟨_,rfl⟩
 refine ⟨SEx.same (SEx.idx m (fun i=>⟨26,[(0,bL (.i a)),(1,bL (.i b)),(12,bI m),(13,bI i)],[]⟩) (fun i=>rB (qD (fun i x=>x == b.getD i 0) (a.drop i) i)) ?_) (by rw [hm];rfl) rfl⟩
 intro i hi ih
 rw [<-hks]
 refine SEx.go (X:=XX) qc (fun n=>qa [] [(4,[0,1,12,13])] n) (fun _=>none) qd 60 ?_
 intro M R L N m0 m1 m2 m3 m4 m5
 cases M
 cbv
 repeat' first | refine m1 _ _ ?_ ?_ | refine m2 _ _ fun h=>?_ | refine m3 _ ?_ | (refine m4 _ _ (Hd.out ?_);try first | rw [hks] | rw [hk2] | rw [hk3]) | (refine m5 _ _ ?_;cbv)
 all_goals (clear m1 m2 m3 m4 m5;cases m0;(try clear hks;try clear hk2;try clear hk3);try dsimp only)
 all_goals try simp only [sm] at *
 all_goals first
  | omega
  | (rw [VA (p:=fun i x=>x == b.getD i 0) (l:=a) (i:=i) (0:Int) (by omega) (beq_eq_false_iff_ne.2 (by assumption))];rfl)
  | (simp only [qg (show i<9223372036854775807 by omega)];exact ⟨(ih (by omega)).same rfl (by rw [wK (p:=fun i x=>x == b.getD i 0) (l:=a) (i:=i) (0:Int) (by omega) (beq_iff_eq.2 (by assumption))])⟩)
  | (rw [List.drop_eq_nil_of_le (by omega)];rfl)
  | trace_state
theorem qaL:∀ (a c:List Int) (b:List Int) (k:Nat),c=b.drop k->a.length=c.length->(qD (fun i x=>x == b.getD i 0) a k=decide (a=c))
 | [],[],_,_,_,_=>rfl
 | [],_::_,_,_,_,h=>by simp at h
 | _::_,[],_,_,_,h=>by simp at h
 | x::r,y::s,b,k,hc,hl=>by
   have hk:k<b.length:=by
    apply Decidable.byContradiction;intro h
    rw [List.drop_eq_nil_of_le (by omega)] at hc;cases hc
   rw [List.drop_eq_getElem_cons hk] at hc
   injection hc with h1 h2
   unfold qD
   rw [qaL r s b (k+1) h2 (by simpa using hl),List.getD_eq_getElem?_getD,List.getElem?_eq_getElem hk,Option.getD_some,<-h1]
   rw [Bool.eq_iff_iff];simp
theorem qeY (a b:List Int):Zg a b=decide (a=b):=by
 unfold Zg
 by_cases h:a.length=b.length
 . rw [decide_eq_true h,Bool.true_and,qaL a b b 0 rfl h]
 . rw [decide_eq_false h,Bool.false_and,decide_eq_false (fun e=>h (by rw [e]))]
def qcZ (f:List Int->List Int->Bool):Wr:=w2 kz kz (fun a b=>rB (f a b)) (fun a b=>[LLe a maxLen,LLe b maxLen])
theorem qkU:qz Tryz.prog 91 (qcZ Zg):=qG fun a b h=>qgi a b (h _ (.head _)).out (h _ (.tail _ (.head _))).out
theorem qlu:qz Tryz.prog 76 (qcZ Zg):=qG fun a b h=>qky a b (h _ (.head _)).out (h _ (.tail _ (.head _))).out
structure Y6 (q:qi):Prop where
 name:q.name.size<=maxLen
 len:q.label.length<=maxLen
 all:∀ n∈q.label,inI n
def VC (f:qi->Bool):Wr:=w1 J8 (fun q=>rB (f q)) (fun q=>[Y6 q])
theorem qdz:qz Tryz.prog 85 (VC QM):=ze fun q h=>qaA q (h _ (.head _)).name (h _ (.head _)).len (h _ (.head _)).all
theorem qdx:qz Tryz.prog 73 (VC QM):=ze fun q h=>qal q (h _ (.head _)).name (h _ (.head _)).len (h _ (.head _)).all
end Go.Proofs.YtfafehnchmelnaaGreat.Ai
namespace Go.Proofs.YtfafehnchmelnaaGreat.Ai
open Go
set_option maxRecDepth 100000
variable [qf]
def KX (l:List Tie)(x:Int):Int:=zR (fun q=>q.free&&q.dst == x) l 0
theorem qdP (t:qj)(x:Int)(h1:t.ties.length<=maxLen):qe Tryz.prog 92 [qK t,aI x] (rI (KX t.ties x)):=by
 refine qe.of qc (fn:=Tryz.f92) (c:=Tryz.f92.body.getD .skip) (dr:=fun n=>qa 0 [] n) Tryz.func92 rfl (by kernel_rfl) (by kernel_rfl) (by kernel_rfl) ?_
 obtain ⟨ns,cs,hr⟩:=t
 have h1:cs.length<=maxLen:=h1
 unfold maxLen at h1
 show SEx _ _ _ _ _ _ (rI (zR _ cs 0))
 refine SEx.go (X:=XX) qc (fun n=>qa [] [(2,[1,8,9,10])] n) (fun _=>none) qd 60 ?_
 intro M R L N m0 m1 m2 m3 m4 m5
 cases M
 cbv
 repeat' first | refine m1 _ _ ?_ ?_ | refine m2 _ _ fun h=>?_ | refine m3 _ ?_ | (refine m4 _ _ (Hd.out ?_);generalize hks:(List.cons _ _:List K)=ks) | (refine m5 _ _ ?_;cbv)
 all_goals (clear m1 m2 m3 m4 m5;cases m0;try dsimp only)
 all_goals try simp only [sm] at *
 obtain ⟨n,hn⟩:∃ n,n=cs.length:=⟨_,rfl⟩
 refine ⟨SEx.same (SEx.idx n (fun i=>⟨25,[(1,bI x),(8,bL (.tie cs)),(9,bI n),(10,bI i)],[]⟩) (fun i=>rI (zR (fun q=>q.free&&q.dst == x) (cs.drop i) i)) ?_) (by rw [hn];rfl) rfl⟩
 intro i hi ih
 rw [<-hks]
 refine SEx.go (X:=XX) qc (fun n=>qa [] [(2,[1,8,9,10])] n) (fun _=>none) qd 60 ?_
 intro M R L N m0 m1 m2 m3 m4 m5
 cases M
 cbv
 repeat' first | refine m1 _ _ ?_ ?_ | refine m2 _ _ fun h=>?_ | refine m3 _ ?_ | (refine m4 _ _ (Hd.out ?_);try first | rw [hks] | rw [hk2] | rw [hk3]) | (refine m5 _ _ ?_;cbv)
 all_goals (clear m1 m2 m3 m4 m5;cases m0;(try clear hks;try clear hk2;try clear hk3);try dsimp only)
 all_goals try simp only [sm] at *
 all_goals first
  | omega
  | (rw [Qc (p:=fun q=>q.free&&q.dst == x) (l:=cs) (i:=i) Tie.z (by omega) (by simp_all)];rfl)
  | (rw [j8 (by omega)];rfl)
  | (simp only [qg (show i<9223372036854775807 by omega)];exact ⟨(ih (by omega)).same rfl (by rw [Zb (p:=fun q=>q.free&&q.dst == x) (l:=cs) (i:=i) Tie.z (by omega) (by simp_all)])⟩)
def qfV (f:List Tie->Int->Int):Wr:=w2 qI dcI (fun t x=>rI (f t.ties x)) (fun t _=>[LLe t.ties maxLen])
theorem qa4:qz Tryz.prog 92 (qfV KX):=qG fun t x h=>qdP t x (h _ (.head _)).out
end Go.Proofs.YtfafehnchmelnaaGreat.Ai
namespace Go.Proofs.YtfafehnchmelnaaGreat.Ai
open Go
set_option maxRecDepth 100000
variable [qf]
def nd (ns:List qi)(x:Int):qi:=ns.getD x.toNat qi.z
def wg (ns:List qi)(ts:List Tie)(i:Nat)(q:Tie):Bool :=
 decide (0<=q.src/\q.src<=ns.length-1/\0<=q.dst/\q.dst<=ns.length-1/\¬q.src=q.dst/\-20<=q.low/\q.high<=20/\q.low<=q.high)&&(!q.free||(decide (1<=q.low/\¬q.dst=0/\(nd ns q.dst).watch=0)&&Zg (nd ns q.src).label (nd ns q.dst).label&&decide (KX ts q.dst=i)))
theorem qhi (t:qj)(i:Int)(hi:0<=i/\i<t.ties.length)(h1:t.nodes.length<=maxLen)(h2:t.ties.length<=maxLen)(h3:∀ q∈t.nodes,q.label.length<=maxLen):qe Tryz.prog 51 [qK t,aI i] (rB (wg t.nodes t.ties i.toNat (t.ties.getD i.toNat Tie.z))):=by
 refine qe.of qc (fn:=Tryz.f51) (c:=Tryz.f51.body.getD .skip) (dr:=fun n=>qa 0 [(5,45)] n) Tryz.func51 rfl (by kernel_rfl) (by kernel_rfl) (by kernel_rfl) ?_
 obtain ⟨f0,hf0⟩:∃ f,f=zV:=⟨_,rfl⟩
 obtain ⟨f1,hf1⟩:∃ f,f=Zg:=⟨_,rfl⟩
 obtain ⟨f2,hf2⟩:∃ f,f=KX:=⟨_,rfl⟩
 have hO:qp Tryz.prog (qJ [(39,qb0 f0),(91,qcZ f1),(92,qfV f2)]):=by subst hf0 hf1 hf2;exact qb Zf (qb qkU (qb qa4 qd))
 obtain ⟨ns,ts,hr⟩:=t
 have hi:0<=i/\i<ts.length:=hi
 have h1:ns.length<=maxLen:=h1
 have h2:ts.length<=maxLen:=h2
 have h3:∀ q∈ns,q.label.length<=maxLen:=h3
 show SEx _ _ _ _ _ _ (rB (wg ns ts i.toNat (ts.getD i.toNat Tie.z)))
 obtain ⟨n,rfl⟩:∃ n:Nat,i=n:=⟨i.toNat,by omega⟩
 refine SEx.go (X:=XX) qc (fun n=>qa [] [] n) (fun _=>none) hO 60 ?_
 intro M R L N m0 m1 m2 m3 m4 m5
 cases M
 cbv
 repeat' first | refine m1 _ _ ?_ ?_ | refine m2 _ _ fun h=>?_ | refine m3 _ ?_ | (refine m4 _ _ (Hd.out ?_);try first | rw [hks] | rw [hk2] | rw [hk3]) | (refine m5 _ _ ?_;cbv)
 all_goals (clear m1 m2 m3 m4 m5;cases m0;(try clear hks;try clear hk2;try clear hk3);try dsimp only)
 all_goals try simp only [sm] at *
 all_goals (have hQ:=qo (z:=Tie.z) (l:=ts) (i:=n) (by omega);generalize ts.getD n Tie.z=q at *;obtain ⟨x1,x2,x3,x4,x5⟩:=q)
 all_goals (clear hO;subst hf0 hf1 hf2;unfold maxLen at h1 h2;try dsimp only at *)
 all_goals (try simp only [qx (n:=(ns.length:Int)-1) (by omega) (by omega),zV,Bool.and_eq_true,Bool.and_eq_false_iff,decide_eq_true_eq,decide_eq_false_iff_not] at *)
 all_goals first
  | omega
  | exact ⟨h2⟩
  | exact ⟨h3 _ (qo (z:=qi.z) (by omega)).out⟩
  | (simp only [jJ];symm;rw [Bool.eq_false_iff];intro h;simp only [wg,Bool.and_eq_true,Bool.or_eq_true,Bool.not_eq_true',decide_eq_true_eq] at h;simp only [nd] at h;first | omega | (simp_all;done) | (simp_all;omega))
  | (simp only [jJ];symm;simp only [wg,Bool.and_eq_true,Bool.or_eq_true,Bool.not_eq_true',decide_eq_true_eq];first | (refine ⟨by omega,.inl ?_⟩;assumption) | (refine ⟨by omega,.inr ⟨⟨by omega,?_⟩,?_⟩⟩<;>assumption))
  | (simp only [jJ];simp only [wg,nd];rw [Bool.eq_iff_iff];simp only [Bool.and_eq_true,Bool.or_eq_true,Bool.not_eq_true',decide_eq_true_eq,beq_iff_eq];constructor;(· intro h;exact ⟨by omega,.inr ⟨⟨⟨by assumption,by assumption,by assumption⟩,by assumption⟩,h⟩⟩);(· rintro ⟨-,h | h⟩;(· have:=h.symm.trans (by assumption:_=true);cases this);(· exact h.2)))
  | (simp only [jJ];rw [Bool.eq_iff_iff];simp only [wg,Bool.and_eq_true,Bool.or_eq_true,Bool.not_eq_true',decide_eq_true_eq,beq_iff_eq];simp only [nd];constructor;(· intro h;exact ⟨by omega,.inr ⟨⟨⟨by assumption,by assumption,by assumption⟩,by assumption⟩,h⟩⟩);(· rintro ⟨-,h | h⟩;(· have:=h.symm.trans (by assumption:_=true);cases this);(· exact h.2)))
def qrY {α:Type}(k:Nat)(g:Bool)(d:Dc α)(hg:∀ a,(d.enc a).1=g):Dc α:=⟨fun a=>aF k [.ptr (d.enc a).2],fun | (false,[.fn f [.ptr x]])=>(match nq f k with | true=>d.dec (g,x) | false=>none) | _=>none,by
 intro x a h
 split at h
 . split at h
   . rename_i hk
     obtain rfl:=Ql.1 hk
     have:=d.ok _ _ h
     have e:=congrArg Prod.snd this
     simp only [zY] at e
     simp only [zY,D.erL,D.er,aF,e]
   . cases h
 . cases h⟩
theorem qeX (u t:Tie):qe Tryz.prog 78 [YR u,(false,[.ptr t.d])] (rB (u.free&&u.dst == t.dst)):=by
 refine qe.of qc (fn:=Tryz.f78) (c:=Tryz.f78.body.getD .skip) (dr:=fun n=>qa 0 [] n) Tryz.func78 rfl (by kernel_rfl) (by kernel_rfl) (by kernel_rfl) ?_
 obtain ⟨x1,x2,x3,x4,x5⟩:=u
 obtain ⟨y1,y2,y3,y4,y5⟩:=t
 refine SEx.go (X:=XX) qc (fun n=>qa [] [] n) (fun _=>none) qd 60 ?_
 intro M R L N m0 m1 m2 m3 m4 m5
 cases M
 cbv
 repeat' first | refine m1 _ _ ?_ ?_ | refine m2 _ _ fun h=>?_ | refine m3 _ ?_ | (refine m4 _ _ (Hd.out ?_);try first | rw [hks] | rw [hk2] | rw [hk3]) | (refine m5 _ _ ?_;cbv)
 all_goals (clear m1 m2 m3 m4 m5;cases m0;(try clear hks;try clear hk2;try clear hk3);try dsimp only)
 all_goals try simp only [sm] at *
 all_goals simp only [jJ]
 all_goals (rw [show x5=_ by assumption];rfl)
def qsy (k:Nat):Dc Tie:=qrY k true yZ fun _=>rfl
def qd7 (ns:List qi)(ts:List Tie)(i:Nat)(q:Tie):Bool :=
 decide (0<=q.src/\q.src<=ns.length-1/\0<=q.dst/\q.dst<=ns.length-1/\¬q.src=q.dst/\-20<=q.low/\q.high<=20/\q.low<=q.high)&&(!q.free||(decide (1<=q.low/\¬q.dst=0/\(nd ns q.dst).watch=0)&&Zg (nd ns q.dst).label (nd ns q.src).label&&!((ts.take i).any fun u=>u.free&&u.dst == q.dst)))
theorem qhv (t:qj)(h1:t.nodes.length<=maxLen)(h2:t.ties.length<=maxLen)(h3:∀ q∈t.nodes,q.label.length<=maxLen):qe Tryz.prog 44 [qK t] (rB (qD (qd7 t.nodes t.ties) t.ties 0&&decide (t.ties.length<=14))):=by
 refine qe.of qc (fn:=Tryz.f44) (c:=Tryz.f44.body.getD .skip) (dr:=fun n=>qa 0 [(7,33)] n) Tryz.func44 rfl (by kernel_rfl) (by kernel_rfl) (by kernel_rfl) ?_
 obtain ⟨f0,hf0⟩:∃ f,f=Jy:=⟨_,rfl⟩
 obtain ⟨f1,hf1⟩:∃ f,f=Zg:=⟨_,rfl⟩
 obtain ⟨f2,hf2⟩:∃ f,f=qe6:=⟨_,rfl⟩
 obtain ⟨f3,hf3⟩:∃ f:List Tie->Tie->Bool,f=fun l q=>l.any fun u=>u.free&&u.dst == q.dst:=⟨_,rfl⟩
 have hO:qp Tryz.prog (qJ [(74,qb7 f0),(75,qqf f2),(76,qcZ f1),(77,w2 Z5 (qsy 78) (fun l q=>rB (f3 l q)) (fun l q=>[LLe l maxLen]))]):=by
  subst hf0 hf1 hf2 hf3
  exact qb YE (qb qon (qb qlu (qb (qG fun l q h=>Jb l _ _ _ (fun u _=>qeX u q) (h _ (.head _)).out) qd)))
 obtain ⟨ns,ts,hr⟩:=t
 have h1:ns.length<=maxLen:=h1
 have h2:ts.length<=maxLen:=h2
 have h3:∀ q∈ns,q.label.length<=maxLen:=h3
 unfold maxLen at h1 h2
 show SEx _ _ _ _ _ _ (rB (qD (qd7 ns ts) ts 0&&decide (ts.length<=14)))
 obtain ⟨c,hc⟩:∃ c,c=decide (ts.length<=14):=⟨_,rfl⟩
 obtain ⟨p,hp⟩:∃ p,p=qd7 ns ts:=⟨_,rfl⟩
 rw [<-hc,<-hp]
 refine SEx.go (X:=XX) qc (fun n=>qa [] [(2,[1,6,7,8])] n) (fun _=>none) hO 60 ?_
 intro M R L N m0 m1 m2 m3 m4 m5
 cases M
 cbv
 repeat' first | refine m1 _ _ ?_ ?_ | refine m2 _ _ fun h=>?_ | refine m3 _ ?_ | (refine m4 _ _ (Hd.out ?_);generalize hks:(List.cons _ _:List K)=ks) | (refine m5 _ _ ?_;cbv)
 all_goals (clear m1 m2 m3 m4 m5;cases m0;try dsimp only)
 all_goals try simp only [sm] at *
 obtain ⟨m,hm⟩:∃ m,m=ts.length:=⟨_,rfl⟩
 refine ⟨SEx.same (SEx.idx m (fun i=>⟨105,[(1,bP 4096),(6,bL (.tie ts)),(7,bI m),(8,bI i)],[(4096,.obx [.fz (.sl (.node false none ns)),.fz (.sl (.tie ts)),.fz (.int .i64 hr)])]⟩) (fun i=>rB (qD p (ts.drop i) i&&c)) ?_) (by rw [hm];rfl) rfl⟩
 intro i hi ih
 rw [<-hks]
 have hl:i<m->zi _ _ _:=fun h=>zi.of p ts i c Tie.z (by omega)
 have he:i=m->(qD p (ts.drop i) i&&c)=c:=fun h=>qR (by omega)
 refine SEx.go (X:=XX) qc (fun n=>qa [] [(2,[1,6,7,8])] n) (fun _=>none) hO 60 ?_
 intro M R L N m0 m1 m2 m3 m4 m5
 cases M
 cbv
 repeat' first | refine m1 _ _ ?_ ?_ | refine m2 _ _ fun h=>?_ | refine m3 _ ?_ | (refine m4 _ _ (Hd.out ?_);try first | rw [hks] | rw [hk2] | rw [hk3]) | (refine m5 _ _ ?_;cbv)
 all_goals (clear m1 m2 m3 m4 m5;cases m0;(try clear hks;try clear hk2;try clear hk3);try dsimp only)
 all_goals try simp only [sm] at *
 all_goals (clear hO;subst hf0 hf1 hf2 hf3)
 all_goals (try simp only [qg (show i<9223372036854775807 by omega)])
 all_goals (try refine ⟨(ih (by omega)).same rfl ?_⟩)
 all_goals (clear ih)
 all_goals (generalize ts.getD i Tie.z=q at *;obtain ⟨x1,x2,x3,x4,x5⟩:=q;try dsimp only at *)
 all_goals (try simp only [Jy,qe6,Bool.and_eq_true,Bool.and_eq_false_iff,decide_eq_true_eq,decide_eq_false_iff_not] at *)
 all_goals first
  | omega
  | exact ⟨h3 _ (qo (z:=qi.z) (by omega)).out⟩
  | (refine ⟨?_⟩;simp only [List.length_take];omega)
  | (rw [he (by omega),hc];simp only [jJ];apply decide_eq_decide.2;omega)
  | (refine (hl (by omega)).stop _ ?_;clear hl he;rw [hp,Bool.eq_false_iff];intro h;simp only [qd7,Bool.and_eq_true,Bool.or_eq_true,Bool.not_eq_true',decide_eq_true_eq] at h;simp only [nd] at h;first | omega | (rcases h with ⟨-,h | h⟩;(· simp_all;done);(· refine absurd h.2 ?_;rw [Bool.not_eq_false];assumption)) | (generalize ns.getD x2.toNat qi.z=r2 at *;generalize ns.getD x1.toNat qi.z=r1 at *;cases r1;cases r2;simp_all;done) | (simp_all;omega))
  | (refine (hl (by omega)).go ?_;clear hl he;rw [hp];simp only [qd7,Bool.and_eq_true,Bool.or_eq_true,Bool.not_eq_true',decide_eq_true_eq];first | (refine ⟨by omega,.inl ?_⟩;assumption) | (refine ⟨by omega,.inr ⟨⟨⟨by omega,by omega,by assumption⟩,?_⟩,?_⟩⟩<;>assumption))
  | trace_state
theorem Ju {α:Type}{p:α->Bool}:∀ {l:List α} {i:Nat} (n:Nat) (z:α),i<l.length->p (l.getD i z)=true->(zR p l n=(n+i:Nat)↔(l.take i).any p=false)
 | [],i,n,z,h,_=>absurd h (Nat.not_lt_zero _)
 | a::r,0,n,z,_,hp=>by simp only [List.getD_cons_zero] at hp;simp [zR,hp]
 | a::r,i+1,n,z,h,hp=>by
   simp only [List.getD_cons_succ] at hp
   simp only [List.length_cons] at h
   have ih:=Ju (l:=r) (i:=i) (n+1) z (by omega) hp
   have hge:=(VH p r (n+1)).2
   unfold zR
   simp only [List.take_succ_cons,List.any_cons]
   cases ha:p a with
   | true=>simp;omega
   | false =>
     simp only [Bool.false_or,Bool.false_eq_true,if_false]
     rw [<-ih,show n+1+i=n+(i+1) by omega]
theorem qhl (a b:List Int):Zg a b=Zg b a:=by
 rw [qeY,qeY,Bool.eq_iff_iff]
 simp only [decide_eq_true_eq]
 exact ⟨fun h=>h.symm,fun h=>h.symm⟩
theorem qpZ {ns:List qi}{ts:List Tie}{i:Nat}{q:Tie}(h:ts[i]?=some q):qd7 ns ts i q=wg ns ts i q:=by
 have hi:i<ts.length:=by rw [List.getElem?_eq_some_iff] at h;exact h.1
 have hq:ts.getD i Tie.z=q:=by rw [List.getD_eq_getElem?_getD,h];rfl
 unfold qd7 wg
 cases hf:q.free with
 | false=>rfl
 | true =>
   have e:decide (KX ts q.dst=i)=!((ts.take i).any fun u=>u.free&&u.dst == q.dst):=by
    have:=Ju (p:=fun u:Tie=>u.free&&u.dst == q.dst) (l:=ts) (i:=i) 0 Tie.z hi (by rw [hq,hf];simp)
    rw [Nat.zero_add] at this
    rw [Bool.eq_iff_iff]
    simp only [decide_eq_true_eq,Bool.not_eq_true']
    exact this
   rw [e,qhl]
theorem qoF (ns:List qi)(ts:List Tie):qD (qd7 ns ts) ts 0=qD (wg ns ts) ts 0:=wo ts 0 fun i q h=>by rw [Nat.zero_add];exact qpZ h
def qrK (f:List qi->List Tie->Nat->Tie->Bool):Wr:=w2 qI dcI (fun t i=>rB (f t.nodes t.ties i.toNat (t.ties.getD i.toNat Tie.z))) (fun t i=>[InX i t.ties,LLe t.nodes maxLen,LLe t.ties maxLen,Ws t.nodes maxLen])
theorem qpq:qz Tryz.prog 51 (qrK wg):=qG fun t i h=>qhi t i (h _ (.head _)).out (h _ (.tail _ (.head _))).out (h _ (.tail _ (.tail _ (.head _)))).out (h _ (.tail _ (.tail _ (.tail _ (.head _))))).out
def qdo (f:List qi->List Tie->Bool):Wr:=w1 qI (fun t=>rB (f t.nodes t.ties)) (fun t=>[LLe t.nodes maxLen,LLe t.ties maxLen,Ws t.nodes maxLen])
def JR (ns:List qi)(ts:List Tie):Bool:=qD (wg ns ts) ts 0&&decide (ts.length<=14)
theorem qdv:qz Tryz.prog 44 (qdo JR):=ze fun t h=>by unfold JR;rw [<-qoF];exact qhv t (h _ (.head _)).out (h _ (.tail _ (.head _))).out (h _ (.tail _ (.tail _ (.head _)))).out
end Go.Proofs.YtfafehnchmelnaaGreat.Ai
namespace Go.Proofs.YtfafehnchmelnaaGreat.Ai
open Go
set_option maxRecDepth 100000
variable [qf]
def qlb (x:Int):Int:=IntKind.i64.wrap (-x)
def WR (cs:List qi)(x:Int):List Int:=(cs.getD x.toNat qi.z).label
def wdB (cs:List qi)(l:List Int)(x:Int):Bool:=decide (0<=zr cs (zH x))&&(!ZD (WR cs (zr cs (zH x))) x&&(!ZD (WR cs (zr cs (zH x))) (qlb x)&&J0 l (WR cs (zr cs (zH x)))))
def qa3 (f:List qi->Int->Int):Wr:=w2 qI dcI (fun t p=>rI (f t.nodes p)) (fun t p=>[LLe t.nodes maxLen])
theorem qbV:qz Tryz.prog 87 (qa3 zr):=qG fun t p h=>KJ t p (h _ (.head _)).out
def qnE (f:List qi->ByteArray->Int):Wr:=w2 qI dcS (fun t p=>rI (f t.nodes p)) (fun t p=>[LLe t.nodes maxLen])
def qjj (l:List qi)(s:ByteArray):Int:=zR (fun q=>eqS q.name s) l 0
theorem qka:qz Tryz.prog 86 (qnE qjj):=qG fun t p h=>qc5 t p (h _ (.head _)).out
theorem qbP (l:List qi)(p:Int):zr l p<l.length/\(0<=zr l p\/zr l p=-1):=by
 unfold zr
 have:=VH (fun q:qi=>q.watch == p) l 0
 omega
theorem qbI (t:qj)(l:List Int)(x:Int)(h1:t.nodes.length<=maxLen)(h2:∀ q∈t.nodes,Kb q.label)(hl:Kb l)(hx:inI x)(hp:0<zH x):qe Tryz.prog 47 [qK t,aIs l,aI x] (rB (wdB t.nodes l x)):=by
 refine qe.of qc (fn:=Tryz.f47) (c:=Tryz.f47.body.getD .skip) (dr:=fun n=>qa 0 [(1,3)] n) Tryz.func47 rfl (by kernel_rfl) (by kernel_rfl) (by kernel_rfl) ?_
 obtain ⟨f0,hf0⟩:∃ f,f=zH:=⟨_,rfl⟩
 obtain ⟨f1,hf1⟩:∃ f,f=zr:=⟨_,rfl⟩
 obtain ⟨f2,hf2⟩:∃ f,f=ZD:=⟨_,rfl⟩
 obtain ⟨f3,hf3⟩:∃ f,f=J0:=⟨_,rfl⟩
 have hO:qp Tryz.prog (qJ [(81,WZ f0),(80,KS f1),(82,qhh f2),(83,vh f3)]):=by
  subst hf0 hf1 hf2 hf3
  exact qb WC (qb vQ (qb qd5 (qb qcd qd)))
 obtain ⟨ns,ts,hr⟩:=t
 have h1:ns.length<=maxLen:=h1
 have h2:∀ q∈ns,Kb q.label:=h2
 show SEx _ _ _ _ _ _ (rB (wdB ns l x))
 rw [<-hf0] at hp
 have hlt:f1 ns (f0 x)<ns.length:=by rw [hf1];exact (qbP _ _).1
 refine SEx.go (X:=XX) qc (fun n=>qa [] [] n) (fun _=>none) hO 60 ?_
 intro M R L N m0 m1 m2 m3 m4 m5
 cases M
 cbv
 repeat' first | refine m1 _ _ ?_ ?_ | refine m2 _ _ fun h=>?_ | refine m3 _ ?_ | (refine m4 _ _ (Hd.out ?_);try first | rw [hks] | rw [hk2] | rw [hk3]) | (refine m5 _ _ ?_;cbv)
 all_goals (clear m1 m2 m3 m4 m5;cases m0;(try clear hks;try clear hk2;try clear hk3);try dsimp only)
 all_goals try simp only [sm] at *
 all_goals (clear hO;subst hf0 hf1 hf2 hf3)
 all_goals first
  | exact ⟨hx⟩
  | exact ⟨h1⟩
  | exact ⟨hp⟩
  | exact hl
  | omega
  | exact ⟨(h2 _ (qo (z:=qi.z) (by omega)).out).len⟩
  | exact h2 _ (qo (z:=qi.z) (by omega)).out
  | (simp only [jJ];unfold wdB WR qlb;delta qi.label;rw [decide_eq_false (by omega)];rfl)
  | (simp only [jJ];unfold wdB WR qlb;delta qi.label;rw [decide_eq_true (by omega)];simp_all;done)
  | skip
structure qsI (x:Int):Prop where out:0<zH x
structure qrw (cs:List qi):Prop where out:∀ q∈cs,Kb q.label
theorem qg3 (x:Int)(t:qj)(q:qi)(h1:t.nodes.length<=maxLen)(h2:∀ q∈t.nodes,Kb q.label)(hl:Kb q.label)(hx:inI x)(hp:0<zH x):qe Tryz.prog 46 [aI x,(false,[.ptr t.d]),(false,[.ptr q.d])] (rB (!wdB t.nodes q.label x)):=by
 refine qe.of qc (fn:=Tryz.f46) (c:=Tryz.f46.body.getD .skip) (dr:=fun n=>qa 0 [] n) Tryz.func46 rfl (by kernel_rfl) (by kernel_rfl) (by kernel_rfl) ?_
 obtain ⟨f,hf⟩:∃ f,f=wdB:=⟨_,rfl⟩
 have hO:qp Tryz.prog (qJ [(47,w3 qI kz dcI (fun t l x=>rB (f t.nodes l x)) (fun t l x=>[LLe t.nodes maxLen,qrw t.nodes,Kb l,IIn x,qsI x]))]):=by
  subst hf
  exact qb (jK fun t l x h=>qbI t l x (h _ (.head _)).out (h _ (.tail _ (.head _))).out (h _ (.tail _ (.tail _ (.head _)))) (h _ (.tail _ (.tail _ (.tail _ (.head _))))).out (h _ (.tail _ (.tail _ (.tail _ (.tail _ (.head _)))))).out) qd
 obtain ⟨ns,ts,hr⟩:=t
 obtain ⟨x1,x2,x3⟩:=q
 have h1:ns.length<=maxLen:=h1
 have h2:∀ q∈ns,Kb q.label:=h2
 have hl:Kb x2:=hl
 refine SEx.go (X:=XX) qc (fun n=>qa [] [] n) (fun _=>none) hO 60 ?_
 intro M R L N m0 m1 m2 m3 m4 m5
 cases M
 cbv
 repeat' first | refine m1 _ _ ?_ ?_ | refine m2 _ _ fun h=>?_ | refine m3 _ ?_ | (refine m4 _ _ (Hd.out ?_);try first | rw [hks] | rw [hk2] | rw [hk3]) | (refine m5 _ _ ?_;cbv)
 all_goals (clear m1 m2 m3 m4 m5;cases m0;(try clear hks;try clear hk2;try clear hk3);try dsimp only)
 all_goals try simp only [sm] at *
 all_goals first
  | exact ⟨h1⟩
  | exact ⟨h2⟩
  | exact hl
  | exact ⟨hx⟩
  | exact ⟨hp⟩
  | (subst hf;rfl)
def ndP (cs:List qi)(i:Nat)(q:qi):Bool:=QM q&&(decide (qjj cs q.name=i)&&(decide (q.watch=0)||decide (zr cs q.watch=i)))
def yg (cs:List qi)(q:qi):Bool:=qD (fun _ x=>wdB cs q.label x) q.label 0
def Qe (cs:List qi):Bool:=decide (1<=(cs.length:Int)/\(cs.length:Int)<=7)&&(decide (((nd cs 0).label.length:Int)<=0)&&decide ((nd cs 0).watch=0))
theorem qce (t:qj)(h1:t.nodes.length<=maxLen)(h2:∀ q∈t.nodes,Y6 q):qe Tryz.prog 50 [qK t] (rB (Qe t.nodes&&(qD (ndP t.nodes) t.nodes 0&&qD (fun _ q=>yg t.nodes q) t.nodes 0))):=by
 refine qe.of qc (fn:=Tryz.f50) (c:=Tryz.f50.body.getD .skip) (dr:=fun n=>qa 0 [(15,3),(16,32)] n) Tryz.func50 rfl (by kernel_rfl) (by kernel_rfl) (by kernel_rfl) ?_
 obtain ⟨f0,hf0⟩:∃ f,f=zV:=⟨_,rfl⟩
 obtain ⟨f1,hf1⟩:∃ f,f=QM:=⟨_,rfl⟩
 obtain ⟨f2,hf2⟩:∃ f,f=qjj:=⟨_,rfl⟩
 obtain ⟨f3,hf3⟩:∃ f,f=zr:=⟨_,rfl⟩
 obtain ⟨f4,hf4⟩:∃ f,f=zH:=⟨_,rfl⟩
 obtain ⟨f5,hf5⟩:∃ f,f=ZD:=⟨_,rfl⟩
 obtain ⟨f6,hf6⟩:∃ f,f=J0:=⟨_,rfl⟩
 have hO:qp Tryz.prog (qJ [(39,qb0 f0),(85,VC f1),(86,qnE f2),(87,qa3 f3),(88,WZ f4),(89,qhh f5),(90,vh f6)]):=by
  subst hf0 hf1 hf2 hf3 hf4 hf5 hf6
  exact qb Zf (qb qdz (qb qka (qb qbV (qb Wx (qb Yj (qb qcl qd))))))
 obtain ⟨cs,ts,hr⟩:=t
 have h1:cs.length<=maxLen:=h1
 have h2:∀ q∈cs,Y6 q:=h2
 unfold maxLen at h1
 show SEx _ _ _ _ _ _ (rB (Qe cs&&(qD (ndP cs) cs 0&&qD (fun _ q=>yg cs q) cs 0)))
 obtain ⟨c,hc⟩:∃ c,c=qD (fun _ q=>yg cs q) cs 0:=⟨_,rfl⟩
 obtain ⟨p,hp⟩:∃ p,p=ndP cs:=⟨_,rfl⟩
 rw [<-hc,<-hp]
 refine SEx.go (X:=XX) qc (fun n=>qa [] [(4,[1,33,34,35]),(10,[1,66,67,68]),(13,[1,6,66,67,68,73,74,75])] n) (fun _=>none) hO 60 ?_
 intro M R L N m0 m1 m2 m3 m4 m5
 cases M
 cbv
 repeat' first | refine m1 _ _ ?_ ?_ | refine m2 _ _ fun h=>?_ | refine m3 _ ?_ | (refine m4 _ _ (Hd.out ?_);generalize hks:(List.cons _ _:List K)=ks) | (refine m5 _ _ ?_;cbv)
 all_goals (clear m1 m2 m3 m4 m5;cases m0;try dsimp only)
 all_goals try simp only [sm] at *
 all_goals (try simp only [hf0,zV,Bool.and_eq_true,Bool.and_eq_false_iff,decide_eq_true_eq,decide_eq_false_iff_not] at *)
 all_goals first
  | omega
  | (refine qV ?_ _;unfold Qe nd;delta qi.label qi.watch;rw [decide_eq_false (by omega)];rfl)
  | (refine qV ?_ _;unfold Qe nd;delta qi.label qi.watch;rw [Bool.and_assoc,decide_eq_true (by omega),Bool.true_and,decide_eq_false (by omega)];rfl)
  | (refine qV ?_ _;unfold Qe nd;delta qi.label qi.watch;rw [decide_eq_true (by omega),decide_eq_true (by omega),decide_eq_false (by assumption)];rfl)
  | skip
 have hh:Qe cs=true:=by
  unfold Qe nd;delta qi.label qi.watch;rw [decide_eq_true (by omega),decide_eq_true (by omega),decide_eq_true (by assumption)];rfl
 rw [hh,Bool.true_and]
 obtain ⟨m,hm⟩:∃ m,m=cs.length:=⟨_,rfl⟩
 refine ⟨SEx.same (SEx.idx m (fun i=>⟨120,[(1,bP 4096),(33,bL (.node false none cs)),(34,bI m),(35,bI i)],[(4096,.obx [.fz (.sl (.node false none cs)),.fz (.sl (.tie ts)),.fz (.int .i64 hr)])]⟩) (fun i=>rB (qD p (cs.drop i) i&&c)) ?_) (by rw [hm];rfl) rfl⟩
 intro i hi ih
 rw [<-hks]
 have hl:i<m->zi _ _ _:=fun h=>zi.of p cs i c qi.z (by omega)
 have he:i=m->(qD p (cs.drop i) i&&c)=c:=fun h=>qR (by omega)
 refine SEx.go (X:=XX) qc (fun n=>qa [] [(4,[1,33,34,35]),(10,[1,66,67,68]),(13,[1,6,66,67,68,73,74,75])] n) (fun _=>none) hO 60 ?_
 intro M R L N m0 m1 m2 m3 m4 m5
 cases M
 cbv
 repeat' first | refine m1 _ _ ?_ ?_ | refine m2 _ _ fun h=>?_ | refine m3 _ ?_ | (refine m4 _ _ (Hd.out ?_);first | rw [hks] | generalize hk2:(List.cons _ _:List K)=k2) | (refine m5 _ _ ?_;cbv)
 all_goals (clear m1 m2 m3 m4 m5;cases m0;try dsimp only)
 all_goals try simp only [sm] at *
 all_goals (try simp only [qg (show i<9223372036854775807 by omega)])
 all_goals first
  | omega
  | exact h2 _ (qo (z:=qi.z) (by omega)).out
  | exact ⟨h1⟩
  | (refine (hl (by omega)).stop _ ?_;subst hf1 hf2 hf3;rw [hp];unfold ndP;delta qi.name qi.watch;simp_all;done)
  | (refine ⟨(ih (by omega)).same rfl ((hl (by omega)).go ?_)⟩;clear ih;subst hf1 hf2 hf3;rw [hp];unfold ndP;delta qi.name qi.watch;simp_all;done)
  | skip
 have him:i=m:=by omega
 rw [he him]
 clear ih hl he
 obtain ⟨pl,hpl⟩:∃ pl:Nat->qi->Bool,pl=fun _ q=>yg cs q:=⟨_,rfl⟩
 rw [<-hpl] at hc
 refine ⟨SEx.same (SEx.idx m (fun i=>⟨120,[(1,bP 4096),(66,bL (.node false none cs)),(67,bI m),(68,bI i)],[(4096,.obx [.fz (.sl (.node false none cs)),.fz (.sl (.tie ts)),.fz (.int .i64 hr)])]⟩) (fun i=>rB (qD pl (cs.drop i) i&&true)) ?_) (by rw [hm];rfl) (by rw [hc,Bool.and_true];rfl)⟩
 intro k hk ih
 rw [<-hk2]
 have hl:k<m->zi _ _ _:=fun h=>zi.of pl cs k true qi.z (by omega)
 have he:k=m->(qD pl (cs.drop k) k&&true)=true:=fun h=>qR (by omega)
 refine SEx.go (X:=XX) qc (fun n=>qa [] [(4,[1,33,34,35]),(10,[1,66,67,68]),(13,[1,6,66,67,68,73,74,75])] n) (fun _=>none) hO 60 ?_
 intro M R L N m0 m1 m2 m3 m4 m5
 cases M
 cbv
 repeat' first | refine m1 _ _ ?_ ?_ | refine m2 _ _ fun h=>?_ | refine m3 _ ?_ | (refine m4 _ _ (Hd.out ?_);first | rw [hks] | rw [hk2] | generalize hk3:(List.cons _ _:List K)=k3) | (refine m5 _ _ ?_;cbv)
 all_goals (clear m1 m2 m3 m4 m5;cases m0;try dsimp only)
 all_goals try simp only [sm] at *
 all_goals first
  | omega
  | (refine qV ?_ _;rw [he (by omega)];done)
  | skip
 have hkm:k<m:=by omega
 obtain ⟨q,hq⟩:∃ q,q=cs.getD k qi.z:=⟨_,rfl⟩
 have hnq:Y6 q:=by rw [hq];exact h2 _ (qo (z:=qi.z) (by omega)).out
 obtain ⟨d,hd⟩:∃ d,d=(qD pl (cs.drop (k+1)) (k+1)&&true):=⟨_,rfl⟩
 have hs:(qD pl (cs.drop k) k&&true)=(qD (fun _ x=>wdB cs q.label x) (q.label.drop 0) 0&&d):=by
  rw [VN qi.z (show k<cs.length by omega),hd,<-hq,hpl,Bool.and_assoc];rfl
 rw [hs]
 rw [<-hd] at ih
 clear hl he hs hd
 obtain ⟨x1,x2,x3⟩:=q
 obtain ⟨w,hw⟩:∃ w,w=x2.length:=⟨_,rfl⟩
 have hlw:=hnq.len
 have hall:=hnq.all
 dsimp only at hlw hall
 unfold maxLen at hlw
 refine ⟨SEx.same (SEx.idx w (fun j=>⟨120,[(1,bP 4096),(6,bP 24576),(66,bL (.node false none cs)),(67,bI m),(68,bI k),(73,bL (.i x2)),(74,bI w),(75,bI j)],[(4096,.obx [.fz (.sl (.node false none cs)),.fz (.sl (.tie ts)),.fz (.int .i64 hr)]),(24576,.obx [.fz (.str x1),.fz (.sl (.i x2)),.fz (.int .i64 x3)])]⟩) (fun j=>rB (qD (fun _ x=>wdB cs x2 x) (x2.drop j) j&&d)) ?_) (by rw [hw,<-hq];rfl) rfl⟩
 intro j hj ihj
 rw [<-hk3]
 have hl:j<w->zi _ _ _:=fun h=>zi.of (fun _ x=>wdB cs x2 x) x2 j d (0:Int) (by omega)
 have he:j=w->(qD (fun _ x=>wdB cs x2 x) (x2.drop j) j&&d)=d:=fun h=>qR (by omega)
 have hlt:∀ x,f3 cs x<cs.length:=fun x=>by rw [hf3];exact (qbP _ _).1
 refine SEx.go (X:=XX) qc (fun n=>qa [] [(4,[1,33,34,35]),(10,[1,66,67,68]),(13,[1,6,66,67,68,73,74,75])] n) (fun _=>none) hO 60 ?_
 intro M R L N m0 m1 m2 m3 m4 m5
 cases M
 cbv
 repeat' first | refine m1 _ _ ?_ ?_ | refine m2 _ _ fun h=>?_ | refine m3 _ ?_ | (refine m4 _ _ (Hd.out ?_);try first | rw [hks] | rw [hk2] | rw [hk3]) | (refine m5 _ _ ?_;cbv)
 all_goals (clear m1 m2 m3 m4 m5;cases m0;(try clear hks;try clear hk2;try clear hk3);try dsimp only)
 all_goals try simp only [sm] at *
 all_goals (try simp only [qg (show j<9223372036854775807 by omega)])
 all_goals (try have h5:=hlt (f4 (x2.getD j 0)))
 all_goals first
  | omega
  | exact ⟨h1⟩
  | exact ⟨hall _ (qo (z:=(0:Int)) (by omega)).out⟩
  | exact ⟨(h2 _ (qo (z:=qi.z) (by omega)).out).len⟩
  | exact ⟨hlw,hall⟩
  | exact ⟨(h2 _ (qo (z:=qi.z) (by omega)).out).len,(h2 _ (qo (z:=qi.z) (by omega)).out).all⟩
  | (have hjw:j=w:=by omega
     rw [he hjw]
     simp only [qg (show k<9223372036854775807 by omega)]
     exact ⟨(ih hkm).same rfl rfl⟩)
  | (refine (hl (by omega)).stop _ ?_;subst hf3 hf4 hf5 hf6;unfold wdB WR qlb;delta qi.label;rw [decide_eq_false (by omega)];rfl)
  | (refine (hl (by omega)).stop _ ?_;subst hf3 hf4 hf5 hf6;unfold wdB WR qlb;delta qi.label;rw [decide_eq_true (by omega)];simp_all;done)
  | (refine ⟨(ihj (by omega)).same rfl ((hl (by omega)).go ?_)⟩;clear ih ihj;subst hf3 hf4 hf5 hf6;unfold wdB WR qlb;delta qi.label;rw [decide_eq_true (by omega)];simp_all;done)
  | skip
def K7 (q m:qi):Bool:=eqS m.name q.name||(decide (¬q.watch=0)&&m.watch == q.watch)
def ndI (cs:List qi)(i:Nat)(q:qi):Bool:=QM q&&qD (fun _ m=>!K7 q m) (cs.take i) 0
theorem qdS (t:qj)(h1:t.nodes.length<=maxLen)(h2:∀ q∈t.nodes,Y6 q):qe Tryz.prog 43 [qK t] (rB (Qe t.nodes&&qD (ndI t.nodes) t.nodes 0)):=by
 refine qe.of qc (fn:=Tryz.f43) (c:=Tryz.f43.body.getD .skip) (dr:=fun n=>qa 0 [] n) Tryz.func43 rfl (by kernel_rfl) (by kernel_rfl) (by kernel_rfl) ?_
 obtain ⟨f1,hf1⟩:∃ f,f=QM:=⟨_,rfl⟩
 have hO:qp Tryz.prog (qJ [(73,VC f1)]):=by
  subst hf1
  exact qb qdx qd
 obtain ⟨cs,ts,hr⟩:=t
 have h1:cs.length<=maxLen:=h1
 have h2:∀ q∈cs,Y6 q:=h2
 unfold maxLen at h1
 show SEx _ _ _ _ _ _ (rB (Qe cs&&qD (ndI cs) cs 0))
 obtain ⟨p,hp⟩:∃ p,p=ndI cs:=⟨_,rfl⟩
 rw [<-hp]
 refine SEx.go (X:=XX) qc (fun n=>qa [] [(4,[1,35,36,37]),(9,[1,4,35,36,37,48,49,50])] n) (fun _=>none) hO 60 ?_
 intro M R L N m0 m1 m2 m3 m4 m5
 cases M
 cbv
 repeat' first | refine m1 _ _ ?_ ?_ | refine m2 _ _ fun h=>?_ | refine m3 _ ?_ | (refine m4 _ _ (Hd.out ?_);generalize hks:(List.cons _ _:List K)=ks) | (refine m5 _ _ ?_;cbv)
 all_goals (clear m1 m2 m3 m4 m5;cases m0;try dsimp only)
 all_goals try simp only [sm] at *
 all_goals first
  | omega
  | (refine qV ?_ _;unfold Qe nd;delta qi.label qi.watch;rw [decide_eq_false (by omega)];rfl)
  | (refine qV ?_ _;unfold Qe nd;delta qi.label qi.watch;rw [Bool.and_assoc,decide_eq_true (by omega),Bool.true_and,decide_eq_false (by omega)];rfl)
  | (refine qV ?_ _;unfold Qe nd;delta qi.label qi.watch;rw [decide_eq_true (by omega),decide_eq_true (by omega),decide_eq_false (by assumption)];rfl)
  | skip
 have hh:Qe cs=true:=by
  unfold Qe nd;delta qi.label qi.watch;rw [decide_eq_true (by omega),decide_eq_true (by omega),decide_eq_true (by assumption)];rfl
 rw [hh,Bool.true_and]
 obtain ⟨m,hm⟩:∃ m,m=cs.length:=⟨_,rfl⟩
 refine ⟨SEx.same (SEx.idx m (fun i=>⟨73,[(1,bP 4096),(35,bL (.node false none cs)),(36,bI m),(37,bI i)],[(4096,.obx [.fz (.sl (.node false none cs)),.fz (.sl (.tie ts)),.fz (.int .i64 hr)])]⟩) (fun i=>rB (qD p (cs.drop i) i&&true)) ?_) (by rw [hm];rfl) (by rw [Bool.and_true];rfl)⟩
 intro i hi ih
 rw [<-hks]
 have hl:i<m->zi _ _ _:=fun h=>zi.of p cs i true qi.z (by omega)
 have he:i=m->(qD p (cs.drop i) i&&true)=true:=fun h=>qR (by omega)
 refine SEx.go (X:=XX) qc (fun n=>qa [] [(4,[1,35,36,37]),(9,[1,4,35,36,37,48,49,50])] n) (fun _=>none) hO 60 ?_
 intro M R L N m0 m1 m2 m3 m4 m5
 cases M
 cbv
 repeat' first | refine m1 _ _ ?_ ?_ | refine m2 _ _ fun h=>?_ | refine m3 _ ?_ | (refine m4 _ _ (Hd.out ?_);first | rw [hks] | generalize hk2:(List.cons _ _:List K)=k2) | (refine m5 _ _ ?_;cbv)
 all_goals (clear m1 m2 m3 m4 m5;cases m0;try dsimp only)
 all_goals try simp only [sm] at *
 all_goals (try simp only [qg (show i<9223372036854775807 by omega)])
 all_goals first
  | omega
  | exact h2 _ (qo (z:=qi.z) (by omega)).out
  | (refine qV ?_ _;rw [he (by omega)];done)
  | (refine (hl (by omega)).stop _ ?_;subst hf1;rw [hp];unfold ndI;simp_all;done)
  | skip
 have him:i<m:=by omega
 have hq1:f1 (cs.getD i qi.z)=true:=by assumption
 obtain ⟨q,hq⟩:∃ q,q=cs.getD i qi.z:=⟨_,rfl⟩
 rw [<-hq] at hq1
 obtain ⟨l,hll⟩:∃ l,l=cs.take i:=⟨_,rfl⟩
 obtain ⟨d,hd⟩:∃ d,d=(qD p (cs.drop (i+1)) (i+1)&&true):=⟨_,rfl⟩
 have hs:(qD p (cs.drop i) i&&true)=(qD (fun _ m=>!K7 q m) (l.drop 0) 0&&d):=by
  rw [VN qi.z (show i<cs.length by omega),hd,<-hq,hp,Bool.and_assoc,ndI,<-hf1,hq1,<-hll,Bool.true_and];rfl
 rw [hs]
 rw [<-hd] at ih
 clear hl he hs hd
 obtain ⟨x1,x2,x3⟩:=q
 obtain ⟨w,hw⟩:∃ w,w=l.length:=⟨_,rfl⟩
 have hwl:w<=cs.length:=by rw [hw,hll,List.length_take];omega
 refine ⟨SEx.same (SEx.idx w (fun j=>⟨73,[(1,bP 4096),(4,bP 16384),(35,bL (.node false none cs)),(36,bI m),(37,bI i),(48,bL (.node false none l)),(49,bI w),(50,bI j)],[(4096,.obx [.fz (.sl (.node false none cs)),.fz (.sl (.tie ts)),.fz (.int .i64 hr)]),(16384,.obx [.fz (.str x1),.fz (.sl (.i x2)),.fz (.int .i64 x3)])]⟩) (fun j=>rB (qD (fun _ m=>!K7 ⟨x1,x2,x3⟩ m) (l.drop j) j&&d)) ?_) (by rw [hw,<-hq,hll];rfl) rfl⟩
 intro j hj ihj
 rw [<-hk2]
 have hl:j<w->zi _ _ _:=fun h=>zi.of (fun _ m=>!K7 ⟨x1,x2,x3⟩ m) l j d qi.z (by omega)
 have he:j=w->(qD (fun _ m=>!K7 ⟨x1,x2,x3⟩ m) (l.drop j) j&&d)=d:=fun h=>qR (by omega)
 refine SEx.go (X:=XX) qc (fun n=>qa [] [(4,[1,35,36,37]),(9,[1,4,35,36,37,48,49,50])] n) (fun _=>none) hO 60 ?_
 intro M R L N m0 m1 m2 m3 m4 m5
 cases M
 cbv
 repeat' first | refine m1 _ _ ?_ ?_ | refine m2 _ _ fun h=>?_ | refine m3 _ ?_ | (refine m4 _ _ (Hd.out ?_);try first | rw [hks] | rw [hk2] | rw [hk3]) | (refine m5 _ _ ?_;cbv)
 all_goals (clear m1 m2 m3 m4 m5;cases m0;(try clear hks;try clear hk2;try clear hk3);try dsimp only)
 all_goals try simp only [sm] at *
 all_goals (try simp only [qg (show j<9223372036854775807 by omega)])
 all_goals first
  | omega
  | (refine (hl (by omega)).stop _ ?_;unfold K7 eqS;delta qi.name qi.watch;simp_all;done)
  | (refine ⟨(ihj (by omega)).same rfl ((hl (by omega)).go ?_)⟩;clear ih ihj;unfold K7 eqS;delta qi.name qi.watch;simp_all;done)
  | (rw [he (by omega)];simp only [qg (show i<9223372036854775807 by omega)];exact ⟨(ih (by omega)).same rfl rfl⟩)
  | skip
theorem qmu {α:Type}(p q:α->Bool):∀ l:List α,(l.any fun x=>p x||q x)=(l.any p||l.any q)
 | []=>rfl
 | a::r=>by simp only [List.any_cons,qmu p q r];cases p a<;>cases q a<;>cases r.any p<;>cases r.any q<;>rfl
theorem qjy {α:Type}(c:Bool)(q:α->Bool):∀ l:List α,(l.any fun x=>c&&q x)=(c&&l.any q)
 | []=>by simp
 | a::r=>by simp only [List.any_cons,qjy c q r];cases c<;>rfl
theorem qm8 (s:ByteArray):eqS s s=true:=by unfold eqS;simp
theorem qrs {cs:List qi}{i:Nat}{q:qi}(h:cs[i]?=some q):ndI cs i q=ndP cs i q:=by
 have hi:i<cs.length:=by rw [List.getElem?_eq_some_iff] at h;exact h.1
 have hq:cs.getD i qi.z=q:=by rw [List.getD_eq_getElem?_getD,h];rfl
 have e1:decide (qjj cs q.name=i)=!((cs.take i).any fun r=>eqS r.name q.name):=by
  have:=Ju (p:=fun r:qi=>eqS r.name q.name) (l:=cs) (i:=i) 0 qi.z hi (by rw [hq];exact qm8 _)
  rw [Nat.zero_add] at this
  rw [Bool.eq_iff_iff]
  simp only [decide_eq_true_eq,Bool.not_eq_true']
  exact this
 have e2:decide (zr cs q.watch=i)=!((cs.take i).any fun r=>r.watch == q.watch):=by
  have:=Ju (p:=fun r:qi=>r.watch == q.watch) (l:=cs) (i:=i) 0 qi.z hi (by rw [hq];exact beq_self_eq_true _)
  rw [Nat.zero_add] at this
  rw [Bool.eq_iff_iff]
  simp only [decide_eq_true_eq,Bool.not_eq_true']
  exact this
 have e3:qD (fun _ m=>!K7 q m) (cs.take i) 0=!(((cs.take i).any fun r=>eqS r.name q.name)||(decide (¬q.watch=0)&&(cs.take i).any fun r=>r.watch == q.watch)):=by
  rw [KY,<-qjy,<-qmu,List.not_any_eq_all_not];rfl
 unfold ndI ndP
 rw [e1,e2,e3,Bool.not_or,Bool.not_and,decide_not,Bool.not_not]
theorem qnH (cs:List qi):qD (ndI cs) cs 0=qD (ndP cs) cs 0:=wo cs 0 fun i q h=>by rw [Nat.zero_add];exact qrs h
structure qqt (cs:List qi):Prop where out:∀ q∈cs,Y6 q
def jT (cs:List qi):Bool:=Qe cs&&qD (ndP cs) cs 0
def qiV (cs:List qi):Bool:=qD (fun _ q=>yg cs q) cs 0
def Jt (f:List qi->Bool):Wr:=w1 qI (fun t=>rB (f t.nodes)) (fun t=>[LLe t.nodes maxLen,qqt t.nodes])
def nlB (cs:List qi):Bool:=jT cs&&qiV cs
theorem qag:qz Tryz.prog 50 (Jt nlB):=ze fun t h=>by
 unfold nlB jT qiV
 rw [Bool.and_assoc]
 exact qce t (h _ (.head _)).out (h _ (.tail _ (.head _))).out
theorem qcF:qz Tryz.prog 43 (Jt jT):=ze fun t h=>by
 unfold jT
 rw [<-qnH]
 exact qdS t (h _ (.head _)).out (h _ (.tail _ (.head _))).out
def qdB (n:Int):Bool:=decide (1<=n)&&decide (n<=10)
def qN (t:qj):Bool:=jT t.nodes&&(qiV t.nodes&&(JR t.nodes t.ties&&qdB t.hor))
structure zc (t:qj):Prop where
 len:t.nodes.length<=maxLen
 tlen:t.ties.length<=maxLen
 nodes:∀ q∈t.nodes,Y6 q
theorem qay (t:qj)(ht:zc t):qe Tryz.prog 26 [qK t] (rB (qN t)):=by
 refine qe.of qc (fn:=Tryz.f26) (c:=Tryz.f26.body.getD .skip) (dr:=fun n=>qa 0 [] n) Tryz.func26 rfl (by kernel_rfl) (by kernel_rfl) (by kernel_rfl) ?_
 have h1:=ht.len
 have h2:=ht.tlen
 have h3:=ht.nodes
 clear ht
 obtain ⟨f1,hf1⟩:∃ f,f=nlB:=⟨_,rfl⟩
 obtain ⟨f3,hf3⟩:∃ f,f=zV:=⟨_,rfl⟩
 obtain ⟨f4,hf4⟩:∃ f,f=wg:=⟨_,rfl⟩
 have hO:qp Tryz.prog (qJ [(50,Jt f1),(39,qb0 f3),(51,qrK f4)]):=by
  subst hf1 hf3 hf4
  exact qb qag (qb Zf (qb qpq qd))
 obtain ⟨ns,ts,hr⟩:=t
 have h1:ns.length<=maxLen:=h1
 have h2:ts.length<=maxLen:=h2
 have h3:∀ q∈ns,Y6 q:=h3
 unfold maxLen at h2
 obtain ⟨a,ha⟩:∃ a,a=decide (ts.length<=14):=⟨_,rfl⟩
 obtain ⟨d,hd⟩:∃ a,a=qdB hr:=⟨_,rfl⟩
 obtain ⟨p,hp⟩:∃ p:Nat->Tie->Bool,p=f4 ns ts:=⟨_,rfl⟩
 have hs:qN ⟨ns,ts,hr⟩=(f1 ns&&(qD p ts 0&&(a&&d))):=by
  rw [hf1,hp,hf4,ha,hd];unfold qN JR nlB;rw [Bool.and_assoc,Bool.and_assoc]
 rw [hs]
 have hdd:f3 hr 1 10=d:=by rw [hf3,hd];rfl
 clear hd hs
 refine SEx.go (X:=XX) qc (fun n=>qa [] [(4,[1,21,22])] n) (fun _=>none) hO 60 ?_
 intro M R L N m0 m1 m2 m3 m4 m5
 cases M
 cbv
 repeat' first | refine m1 _ _ ?_ ?_ | refine m2 _ _ fun h=>?_ | refine m3 _ ?_ | (refine m4 _ _ (Hd.out ?_);generalize hks:(List.cons _ _:List K)=ks) | (refine m5 _ _ ?_;cbv)
 all_goals (clear m1 m2 m3 m4 m5;cases m0;try dsimp only)
 all_goals try simp only [sm] at *
 all_goals (try rw [hdd] at *)
 all_goals first
  | exact ⟨h1⟩
  | exact ⟨h3⟩
  | (refine qV ?_ _;simp_all;done)
  | (refine qV ?_ _;rw [ha,decide_eq_false (by omega)];simp;done)
  | skip
 rw [show f1 ns=true by assumption,Bool.true_and,show a=true by rw [ha];exact decide_eq_true (by omega),show d=true by assumption,Bool.true_and]
 obtain ⟨m,hm⟩:∃ m,m=ts.length:=⟨_,rfl⟩
 refine ⟨SEx.same (SEx.idx m (fun i=>⟨30,[(1,bP 4096),(21,bI m),(22,bI i)],[(4096,.obx [.fz (.sl (.node false none ns)),.fz (.sl (.tie ts)),.fz (.int .i64 hr)])]⟩) (fun i=>rB (qD p (ts.drop i) i&&true)) ?_) (by rw [hm];rfl) rfl⟩
 intro i hi ih
 rw [<-hks]
 have hl:i<m->zi _ _ _:=fun h=>zi.of p ts i true Tie.z (by omega)
 have he:i=m->(qD p (ts.drop i) i&&true)=true:=fun h=>qR (by omega)
 refine SEx.go (X:=XX) qc (fun n=>qa [] [(4,[1,21,22])] n) (fun _=>none) hO 60 ?_
 intro M R L N m0 m1 m2 m3 m4 m5
 cases M
 cbv
 repeat' first | refine m1 _ _ ?_ ?_ | refine m2 _ _ fun h=>?_ | refine m3 _ ?_ | (refine m4 _ _ (Hd.out ?_);try first | rw [hks] | rw [hk2] | rw [hk3]) | (refine m5 _ _ ?_;cbv)
 all_goals (clear m1 m2 m3 m4 m5;cases m0;(try clear hks;try clear hk2;try clear hk3);try dsimp only)
 all_goals try simp only [sm] at *
 all_goals (try simp only [qg (show i<9223372036854775807 by omega)])
 all_goals first
  | omega
  | exact ⟨h1⟩
  | exact ⟨h2⟩
  | exact ⟨fun q hq=>(h3 q hq).len⟩
  | exact ⟨⟨by omega,by omega⟩⟩
  | (refine qV ?_ _;rw [he (by omega)];done)
  | (refine (hl (by omega)).stop _ ?_;rw [hp];assumption)
  | (refine ⟨(ih (by omega)).same rfl ((hl (by omega)).go ?_)⟩;rw [hp];assumption)
  | skip
end Go.Proofs.YtfafehnchmelnaaGreat.Ai
namespace Go.Proofs.YtfafehnchmelnaaGreat.Ai
open Go
set_option maxRecDepth 100000
variable [qf]
def qsl {α β:Type}(k:Nat)(g h:Bool)(d:Dc α)(e:Dc β):Dc (α×β):=⟨fun a=>aF k [.ptr (d.enc a.1).2,.ptr (e.enc a.2).2],fun | (false,[.fn f [.ptr x,.ptr y]])=>(match nq f k with | true=>(match d.dec (g,x),e.dec (h,y) with | some a,some b=>some (a,b) | _,_=>none) | false=>none) | _=>none,by
 intro x a hh
 split at hh
 . split at hh
   . rename_i hk
     obtain rfl:=Ql.1 hk
     split at hh
     . rename_i a' b' ha hb
       simp only [Option.some.injEq] at hh
       subst hh
       have e1:=congrArg Prod.snd (d.ok _ _ ha)
       have e2:=congrArg Prod.snd (e.ok _ _ hb)
       simp only [zY] at e1 e2
       simp only [zY,D.erL,D.er,aF,e1,e2]
     . cases hh
   . cases hh
 . cases hh⟩
structure qse (l:List Int):Prop where out:∀ x∈l,inI x/\0<zH x
theorem vX {x:Int}(h0:¬x=0)(h1:-3<=x)(h2:x<=3):0<zH x:=by
 unfold zH
 split
 . rw [qx (by omega) (by omega)];omega
 . omega
theorem Yz {x:Int}(h1:-3<=x)(h2:x<=3):zH x<=3:=by
 unfold zH
 split
 . rw [qx (by omega) (by omega)];omega
 . omega
theorem Kc {l:List Int}(h:qX l=true){x:Int}(hx:x∈l):¬x=0/\-3<=x/\x<=3:=by
 obtain ⟨i,hi,rfl⟩:=List.mem_iff_getElem.1 hx
 have:=of_decide_eq_true (KO h i hi)
 rw [zu hi] at this
 exact ⟨this.1,this.2.1,this.2.2.1⟩
theorem Wn {l:List Int}(h:qX l=true):∀ x∈l,inI x/\0<zH x:=fun x hx=>by
 have ⟨h1,h2,h3⟩:=Kc h hx
 exact ⟨by rw [kx];omega,vX h1 h2 h3⟩
theorem QQ {α:Type}{p:Nat->α->Bool}:∀ {l:List α} {n:Nat} {q:α},qD p l n=true->q∈l->∃ i,p i q=true
 | a::r,n,q,h,hq=>by
   unfold qD at h
   rw [Bool.and_eq_true] at h
   rcases List.mem_cons.1 hq with rfl | hq
   . exact ⟨n,h.1⟩
   . exact QQ h.2 hq
theorem Vd {cs:List qi}(h:jT cs=true){q:qi}(hq:q∈cs):QM q=true:=by
 unfold jT at h
 rw [Bool.and_eq_true] at h
 obtain ⟨i,hi⟩:=QQ h.2 hq
 unfold ndP at hi
 rw [Bool.and_eq_true] at hi
 exact hi.1
theorem W7 {q:qi}(h:QM q=true):qX q.label=true:=by
 unfold QM at h
 simp only [Bool.and_eq_true] at h
 exact h.1.2
def qs3 (l:List Int)(t:qj)(q:qi):Bool:=l.any fun x=>!wdB t.nodes q.label x
theorem qad (t:qj)(ht:zc t):qe Tryz.prog 21 [qK t] (rB (qN t)):=by
 refine qe.of qc (fn:=Tryz.f21) (c:=Tryz.f21.body.getD .skip) (dr:=fun n=>qa 0 [] n) Tryz.func21 rfl (by kernel_rfl) (by kernel_rfl) (by kernel_rfl) ?_
 have h1:=ht.len
 have h2:=ht.tlen
 have h3:=ht.nodes
 clear ht
 obtain ⟨f1,hf1⟩:∃ f,f=jT:=⟨_,rfl⟩
 obtain ⟨f2,hf2⟩:∃ f,f=JR:=⟨_,rfl⟩
 obtain ⟨f3,hf3⟩:∃ f,f=qs3:=⟨_,rfl⟩
 have hO:qp Tryz.prog (qJ [(43,Jt f1),(44,qdo f2),(45,w2 kz (qsl 46 true true qI J8) (fun l x=>rB (f3 l x.1 x.2)) (fun l x=>[LLe l maxLen,qse l,LLe x.1.nodes maxLen,qqt x.1.nodes,Y6 x.2]))]):=by
  subst hf1 hf2 hf3
  exact qb qcF (qb qdv (qb (qG fun l x h=>by
   have g1:=(h _ (.head _)).out
   have g2:=(h _ (.tail _ (.head _))).out
   have g3:=(h _ (.tail _ (.tail _ (.head _)))).out
   have g4:=(h _ (.tail _ (.tail _ (.tail _ (.head _))))).out
   have g5:=h _ (.tail _ (.tail _ (.tail _ (.tail _ (.head _)))))
   exact Kh l _ _ _ (fun y hy=>qg3 y x.1 x.2 g3 (fun q hq=>⟨(g4 q hq).len,(g4 q hq).all⟩) ⟨g5.len,g5.all⟩ (g2 y hy).1 (g2 y hy).2) g1) qd))
 obtain ⟨ns,ts,hr⟩:=t
 have h1:ns.length<=maxLen:=h1
 have h2:ts.length<=maxLen:=h2
 have h3:∀ q∈ns,Y6 q:=h3
 have h1':=h1
 unfold maxLen at h1'
 obtain ⟨d,hd⟩:∃ a,a=qdB hr:=⟨_,rfl⟩
 obtain ⟨p,hp⟩:∃ p:Nat->qi->Bool,p=fun _ q=>yg ns q:=⟨_,rfl⟩
 have hs:qN ⟨ns,ts,hr⟩=(f1 ns&&(f2 ns ts&&(d&&qD p ns 0))):=by
  rw [hf1,hp,hf2,hd];unfold qN qiV;dsimp only
  generalize qD (fun _ q=>yg ns q) ns 0=a
  generalize JR ns ts=b
  generalize qdB hr=c
  generalize jT ns=e
  revert a b c e;decide
 rw [hs]
 clear hs
 refine SEx.go (X:=XX) qc (fun n=>qa [] [(4,[1,24,25,26])] n) (fun _=>none) hO 60 ?_
 intro M R L N m0 m1 m2 m3 m4 m5
 cases M
 cbv
 repeat' first | refine m1 _ _ ?_ ?_ | refine m2 _ _ fun h=>?_ | refine m3 _ ?_ | (refine m4 _ _ (Hd.out ?_);generalize hks:(List.cons _ _:List K)=ks) | (refine m5 _ _ ?_;cbv)
 all_goals (clear m1 m2 m3 m4 m5;cases m0;try dsimp only)
 all_goals try simp only [sm] at *
 all_goals first
  | exact ⟨h1⟩
  | exact ⟨h2⟩
  | exact ⟨h3⟩
  | exact ⟨fun q hq=>(h3 q hq).len⟩
  | (refine qV ?_ _;rw [show f1 ns=false by assumption];rfl)
  | (refine qV ?_ _;rw [show f2 ns ts=false by assumption];simp;done)
  | (refine qV ?_ _;rw [hd,qdB,decide_eq_false (by omega)];simp;done)
  | (refine qV ?_ _;rw [hd,qdB,decide_eq_false (show ¬hr<=10 by omega)];simp;done)
  | skip
 have hn1:jT ns=true:=by rw [<-hf1];assumption
 rw [show f1 ns=true by assumption,show f2 ns ts=true by assumption,show d=true by rw [hd,qdB,decide_eq_true (by omega),decide_eq_true (by omega)];rfl,Bool.true_and,Bool.true_and,Bool.true_and]
 obtain ⟨m,hm⟩:∃ m,m=ns.length:=⟨_,rfl⟩
 refine ⟨SEx.same (SEx.idx m (fun i=>⟨35,[(1,bP 4096),(24,bL (.node false none ns)),(25,bI m),(26,bI i)],[(4096,.obx [.fz (.sl (.node false none ns)),.fz (.sl (.tie ts)),.fz (.int .i64 hr)])]⟩) (fun i=>rB (qD p (ns.drop i) i&&true)) ?_) (by rw [hm];rfl) (by rw [Bool.and_true];rfl)⟩
 intro i hi ih
 rw [<-hks]
 have hl:i<m->zi _ _ _:=fun h=>zi.of p ns i true qi.z (by omega)
 have he:i=m->(qD p (ns.drop i) i&&true)=true:=fun h=>qR (by omega)
 have hmem:i<m->Mem (ns.getD i qi.z) ns:=fun h=>qo (by omega)
 have hps:∀ q:qi,f3 q.label ⟨ns,ts,hr⟩ q=!p i q:=fun q=>by
  rw [hf3,hp];show (q.label.any fun x=>!wdB ns q.label x)=!qD (fun _ x=>wdB ns q.label x) q.label 0;rw [KY,List.not_all_eq_any_not]
 refine SEx.go (X:=XX) qc (fun n=>qa [] [(4,[1,24,25,26])] n) (fun _=>none) hO 60 ?_
 intro M R L N m0 m1 m2 m3 m4 m5
 cases M
 cbv
 repeat' first | refine m1 _ _ ?_ ?_ | refine m2 _ _ fun h=>?_ | refine m3 _ ?_ | (refine m4 _ _ (Hd.out ?_);try first | rw [hks] | rw [hk2] | rw [hk3]) | (refine m5 _ _ ?_;cbv)
 all_goals (clear m1 m2 m3 m4 m5;cases m0;(try clear hks;try clear hk2;try clear hk3);try dsimp only)
 all_goals try simp only [sm] at *
 all_goals (try simp only [qg (show i<9223372036854775807 by omega)])
 all_goals first
  | omega
  | exact ⟨h1⟩
  | exact ⟨h3⟩
  | exact ⟨(h3 _ (hmem (by omega)).out).len⟩
  | exact ⟨Wn (W7 (Vd hn1 (hmem (by omega)).out))⟩
  | exact h3 _ (hmem (by omega)).out
  | (refine qV ?_ _;rw [he (by omega)];done)
  | (refine (hl (by omega)).stop _ ?_;have hx:=hps (ns.getD i qi.z);simp_all;done)
  | (refine ⟨(ih (by omega)).same rfl ((hl (by omega)).go ?_)⟩;clear ih;have hx:=hps (ns.getD i qi.z);simp_all;done)
  | skip
def jV (f:qj->Bool):Wr:=w1 qI (fun t=>rB (f t)) (fun t=>[zc t])
theorem Zh:qz Tryz.prog 26 (jV qN):=ze fun t h=>qay t (h _ (.head _))
theorem Q7:qz Tryz.prog 21 (jV qN):=ze fun t h=>qad t (h _ (.head _))
theorem zQ {t:qj}(h:qN t=true):1<=t.hor/\t.hor<=10:=by
 unfold qN qdB at h
 simp only [Bool.and_eq_true,decide_eq_true_eq] at h
 exact h.2.2.2
theorem qF {t:qj}(h:qN t=true):1<=t.nodes.length/\t.nodes.length<=7:=by
 unfold qN jT Qe at h
 simp only [Bool.and_eq_true,decide_eq_true_eq] at h
 omega
theorem zq {t:qj}(h:qN t=true):t.ties.length<=14:=by
 unfold qN JR at h
 simp only [Bool.and_eq_true,decide_eq_true_eq] at h
 exact h.2.2.1.2
theorem kL {t:qj}(h:qN t=true){q:qi}(hq:q∈t.nodes):qX q.label=true:=by
 unfold qN at h
 rw [Bool.and_eq_true] at h
 exact W7 (Vd h.1 hq)
end Go.Proofs.YtfafehnchmelnaaGreat.Ai
namespace Go.Proofs.YtfafehnchmelnaaGreat.Ai
open Go
set_option maxRecDepth 100000
variable [qf]
def QJ (times:List Int)(w:Int):Bool:=decide (0<=w)&&decide (¬times.getD w.toNat 0=-1)
def ZB (now:Int)(i:Nat)(n:Int):Bool:=decide ((i=0->n=0)/\(0<i->-1<=n/\n<=now-1))
def qb2 (cs:List qi)(times:List Int)(i:Nat)(v:Int):Bool:=decide (¬v=0) == QJ times (zr cs ((i:Int)+1))
def jR (t:qj)(x:qh):Bool:=decide (0<=x.now/\x.now<=t.hor+1/\x.times.length=t.nodes.length)&&(qW x.vals&&(qD (ZB x.now) x.times 0&&qD (qb2 t.nodes x.times) x.vals 0))
structure Jv (x:qh):Prop where
 now:inI x.now
 tlen:x.times.length<=maxLen
 vlen:x.vals.length<=maxLen
theorem q9 {l:List Int}(h:qW l=true):l.length=3:=by
 unfold qW at h
 simp only [Bool.and_eq_true,decide_eq_true_eq] at h
 exact h.2
theorem qbD (a b:Int):decide (¬a=b)=!(a == b):=by by_cases h:a=b<;>simp [h]
theorem qhM (t:qj)(x:qh)(ht:qN t=true)(hx:Jv x):qe Tryz.prog 101 [qK t,qQ x] (rB (jR t x)):=by
 refine qe.of qc (fn:=Tryz.f101) (c:=Tryz.f101.body.getD .skip) (dr:=fun n=>qa 0 [] n) Tryz.func101 rfl (by kernel_rfl) (by kernel_rfl) (by kernel_rfl) ?_
 have hh:=zQ ht
 have hn:=qF ht
 have h2:=hx.tlen
 have h3:=hx.vlen
 have h4:=hx.now
 clear ht hx
 rw [kx] at h4
 obtain ⟨f1,hf1⟩:∃ f,f=qW:=⟨_,rfl⟩
 obtain ⟨f2,hf2⟩:∃ f,f=zr:=⟨_,rfl⟩
 have hO:qp Tryz.prog (qJ [(125,Wh f1),(80,KS f2)]):=by
  subst hf1 hf2
  exact qb JP (qb vQ qd)
 obtain ⟨ns,ts,hr⟩:=t
 obtain ⟨now,times,vals⟩:=x
 dsimp only at hh hn h2 h3 h4
 unfold maxLen at h2 h3
 obtain ⟨p,hp⟩:∃ p,p=ZB now:=⟨_,rfl⟩
 obtain ⟨q,hq⟩:∃ q,q=qb2 ns times:=⟨_,rfl⟩
 obtain ⟨d,hd⟩:∃ d,d=qD q vals 0:=⟨_,rfl⟩
 have hs:jR ⟨ns,ts,hr⟩ ⟨now,times,vals⟩=(decide (0<=now/\now<=hr+1/\times.length=ns.length)&&(f1 vals&&(qD p times 0&&d))):=by
  rw [hf1,hp,hd,hq];rfl
 rw [hs]
 clear hs
 obtain ⟨r,hrr⟩:∃ r,r=(decide (0<=now/\now<=hr+1/\times.length=ns.length)&&(f1 vals&&(qD p times 0&&d))):=⟨_,rfl⟩
 rw [<-hrr]
 have h1r:IntKind.i64.wrap (hr+1)=hr+1:=qx (by omega) (by omega)
 refine SEx.go (X:=XX) qc (fun n=>qa [] [(4,[2,3,37,38,39]),(10,[2,3,67,68,69])] n) (fun _=>none) hO 60 ?_
 intro M R L N m0 m1 m2 m3 m4 m5
 cases M
 cbv
 repeat' first | refine m1 _ _ ?_ ?_ | refine m2 _ _ fun h=>?_ | refine m3 _ ?_ | (refine m4 _ _ (Hd.out ?_);generalize hks:(List.cons _ _:List K)=ks) | (refine m5 _ _ ?_;cbv)
 all_goals (clear m1 m2 m3 m4 m5;cases m0;try dsimp only)
 all_goals try simp only [sm] at *
 all_goals (try rw [h1r] at *)
 all_goals first
  | omega
  | exact ⟨h3⟩
  | (refine qV ?_ _;rw [hrr,decide_eq_false (by omega)];rfl)
  | (refine qV ?_ _;rw [hrr,show f1 vals=false by assumption];simp;done)
  | skip
 rw [show f1 vals=true by assumption,decide_eq_true (by omega),Bool.true_and,Bool.true_and] at hrr
 rw [hrr]
 clear hrr
 have hv3:vals.length=3:=by apply q9;rw [<-hf1];assumption
 obtain ⟨m,hm⟩:∃ m,m=times.length:=⟨_,rfl⟩
 refine ⟨SEx.same (SEx.idx m (fun i=>⟨92,[(2,bP 8192),(3,bP 12288),(37,bL (.i times)),(38,bI m),(39,bI i)],[(8192,.obx [.fz (.sl (.node false none ns)),.fz (.sl (.tie ts)),.fz (.int .i64 hr)]),(12288,.obx [.fz (.int .i64 now),.fz (.sl (.i times)),.fz (.sl (.i vals))])]⟩) (fun i=>rB (qD p (times.drop i) i&&d)) ?_) (by rw [hm];rfl) rfl⟩
 intro i hi ih
 rw [<-hks]
 have hl:i<m->zi _ _ _:=fun h=>zi.of p times i d (0:Int) (by omega)
 have he:i=m->(qD p (times.drop i) i&&d)=d:=fun h=>qR (by omega)
 have h1n:IntKind.i64.wrap (now-1)=now-1:=qx (by omega) (by omega)
 refine SEx.go (X:=XX) qc (fun n=>qa [] [(4,[2,3,37,38,39]),(10,[2,3,67,68,69])] n) (fun _=>none) hO 60 ?_
 intro M R L N m0 m1 m2 m3 m4 m5
 cases M
 cbv
 repeat' first | refine m1 _ _ ?_ ?_ | refine m2 _ _ fun h=>?_ | refine m3 _ ?_ | (refine m4 _ _ (Hd.out ?_);first | rw [hks] | generalize hk2:(List.cons _ _:List K)=k2) | (refine m5 _ _ ?_;cbv)
 all_goals (clear m1 m2 m3 m4 m5;cases m0;try dsimp only)
 all_goals try simp only [sm] at *
 all_goals (try simp only [qg (show i<9223372036854775807 by omega),h1n] at *)
 all_goals first
  | omega
  | (refine (hl (by omega)).stop _ ?_;rw [hp,ZB];apply decide_eq_false;omega)
  | (refine ⟨(ih (by omega)).same rfl ((hl (by omega)).go ?_)⟩;rw [hp,ZB];apply decide_eq_true;omega)
  | skip
 have him:i=m:=by omega
 rw [he him]
 clear ih hl he
 rw [hd]
 clear hd
 refine ⟨SEx.same (SEx.idx 3 (fun i=>⟨92,[(2,bP 8192),(3,bP 12288),(67,bL (.i vals)),(68,bI 3),(69,bI i)],[(8192,.obx [.fz (.sl (.node false none ns)),.fz (.sl (.tie ts)),.fz (.int .i64 hr)]),(12288,.obx [.fz (.int .i64 now),.fz (.sl (.i times)),.fz (.sl (.i vals))])]⟩) (fun i=>rB (qD q (vals.drop i) i&&true)) ?_) (by rw [hv3];rfl) (by rw [Bool.and_true];rfl)⟩
 intro k hk ih
 rw [<-hk2]
 have hl:k<3->zi _ _ _:=fun h=>zi.of q vals k true (0:Int) (by omega)
 have he:k=3->(qD q (vals.drop k) k&&true)=true:=fun h=>qR (by omega)
 have hlt:∀ x,f2 ns x<ns.length:=fun x=>by rw [hf2];exact (qbP _ _).1
 have hqk:q k (vals.getD k 0)=(decide (¬vals.getD k 0=0) == QJ times (f2 ns ((k+1:Nat):Int))):=by
  rw [hq,hf2];rfl
 have h5:=hlt ((k+1:Nat):Int)
 refine SEx.go (X:=XX) qc (fun n=>qa [] [(4,[2,3,37,38,39]),(10,[2,3,67,68,69])] n) (fun _=>none) hO 60 ?_
 intro M R L N m0 m1 m2 m3 m4 m5
 cases M
 cbv
 repeat' first | refine m1 _ _ ?_ ?_ | refine m2 _ _ fun h=>?_ | refine m3 _ ?_ | (refine m4 _ _ (Hd.out ?_);try first | rw [hks] | rw [hk2] | rw [hk3]) | (refine m5 _ _ ?_;cbv)
 all_goals (clear m1 m2 m3 m4 m5;cases m0;(try clear hks;try clear hk2;try clear hk3);try dsimp only)
 all_goals try simp only [sm] at *
 all_goals (try simp only [qg (show k<9223372036854775807 by omega)] at *)
 all_goals first
  | omega
  | exact ⟨by omega⟩
  | (refine qV ?_ _;rw [he (by omega)];done)
  | (refine (hl (by omega)).stop _ ?_;rw [hqk];unfold QJ;clear hqk hl he ih;generalize f2 ns ((k+1:Nat):Int)=w at *;rw [decide_eq_true (show 0<=w by assumption)];generalize times.getD w.toNat 0=b at *;generalize vals.getD k 0=a at *;rw [qbD,qbD];generalize (a == 0)=u at *;generalize (b == -1)=v at *;cases u<;>cases v<;>simp_all;done)
  | (refine (hl (by omega)).stop _ ?_;rw [hqk];unfold QJ;clear hqk hl he ih;generalize f2 ns ((k+1:Nat):Int)=w at *;rw [decide_eq_false (show ¬0<=w by omega)];generalize vals.getD k 0=a at *;by_cases ha:a=0<;>simp_all;done)
  | (refine ⟨(ih (by omega)).same rfl ((hl (by omega)).go ?_)⟩;rw [hqk];unfold QJ;clear hqk hl he ih;generalize f2 ns ((k+1:Nat):Int)=w at *;rw [decide_eq_true (show 0<=w by assumption)];generalize times.getD w.toNat 0=b at *;generalize vals.getD k 0=a at *;rw [qbD,qbD];generalize (a == 0)=u at *;generalize (b == -1)=v at *;cases u<;>cases v<;>simp_all;done)
  | (refine ⟨(ih (by omega)).same rfl ((hl (by omega)).go ?_)⟩;rw [hqk];unfold QJ;clear hqk hl he ih;generalize f2 ns ((k+1:Nat):Int)=w at *;rw [decide_eq_false (show ¬0<=w by omega)];generalize vals.getD k 0=a at *;by_cases ha:a=0<;>simp_all;done)
  | skip
def WX (t:qj)(x:qh):Bool:=qN t&&jR t x
structure qsb (t:qj):Prop where out:qN t=true
def qfm (f:qj->qh->Bool):Wr:=w2 qI qP (fun t x=>rB (f t x)) (fun t x=>[qsb t,Jv x])
theorem qfl:qz Tryz.prog 101 (qfm jR):=qG fun t x h=>qhM t x (h _ (.head _)).out (h _ (.tail _ (.head _)))
def qe1 (f:qj->qh->Bool):Wr:=w2 qI qP (fun t x=>rB (f t x)) (fun t x=>[zc t,Jv x])
theorem V7 (t:qj)(x:qh)(ht:zc t)(hx:Jv x):qe Tryz.prog 62 [qK t,qQ x] (rB (WX t x)):=by
 refine qe.of qc (fn:=Tryz.f62) (c:=Tryz.f62.body.getD .skip) (dr:=fun n=>qa 0 [] n) Tryz.func62 rfl (by kernel_rfl) (by kernel_rfl) (by kernel_rfl) ?_
 obtain ⟨f1,hf1⟩:∃ f,f=qN:=⟨_,rfl⟩
 obtain ⟨f2,hf2⟩:∃ f,f=jR:=⟨_,rfl⟩
 have hO:qp Tryz.prog (qJ [(21,jV f1),(101,qfm f2)]):=by
  subst hf1 hf2
  exact qb Q7 (qb qfl qd)
 rw [show WX t x=(f1 t&&f2 t x) by rw [hf1,hf2];rfl]
 have hsh:f1 t=true->qN t=true:=fun h=>by rw [hf1] at h;exact h
 obtain ⟨ns,ts,hr⟩:=t
 obtain ⟨now,times,vals⟩:=x
 refine SEx.go (X:=XX) qc (fun n=>qa [] [] n) (fun _=>none) hO 60 ?_
 intro M R L N m0 m1 m2 m3 m4 m5
 cases M
 cbv
 repeat' first | refine m1 _ _ ?_ ?_ | refine m2 _ _ fun h=>?_ | refine m3 _ ?_ | (refine m4 _ _ (Hd.out ?_);try first | rw [hks] | rw [hk2] | rw [hk3]) | (refine m5 _ _ ?_;cbv)
 all_goals (clear m1 m2 m3 m4 m5;cases m0;(try clear hks;try clear hk2;try clear hk3);try dsimp only)
 all_goals try simp only [sm] at *
 all_goals first
  | exact ht
  | exact hx
  | exact ⟨hsh (by assumption)⟩
  | (refine qV ?_ _;simp_all;done)
  | skip
theorem qcD:qz Tryz.prog 62 (qe1 WX):=qG fun t x h=>V7 t x (h _ (.head _)) (h _ (.tail _ (.head _)))
end Go.Proofs.YtfafehnchmelnaaGreat.Ai
namespace Go.Proofs.YtfafehnchmelnaaGreat.Ai
open Go
set_option maxRecDepth 100000
variable [qf]
def K6 (v:List Int)(x:Int):Int:=if x<0 then -(v.getD (zH x-1).toNat 0) else v.getD (zH x-1).toNat 0
def ZO (v:List Int):List Int->Int->Int
 | [],s=>s
 | x::r,s=>ZO v r (min s (K6 v x))
theorem Wg {v l:List Int}{i:Nat}{s:Int}(h:i<l.length):ZO v (l.drop i) s=ZO v (l.drop (i+1)) (min s (K6 v (l.getD i 0))):=by
 rw [List.drop_eq_getElem_cons h,zu h]
 rfl
theorem QS {v:List Int}(h:qW v=true)(i:Nat):-1<=v.getD i 0/\v.getD i 0<=1:=by
 unfold qW at h
 rw [Bool.and_eq_true] at h
 by_cases hi:i<v.length
 . obtain ⟨j,hj⟩:=QQ h.1 (qo (z:=(0:Int)) hi).out
   simpa [qch] using hj
 . rw [List.getD_eq_getElem?_getD,List.getElem?_eq_none (by omega)]
   exact ⟨by decide,by decide⟩
theorem qiW {v:List Int}(h:qW v=true)(x:Int):-1<=K6 v x/\K6 v x<=1:=by
 unfold K6
 have:=QS h (zH x-1).toNat
 split<;>omega
theorem qiK {v:List Int}(h:qW v=true):∀ (l:List Int) (s:Int),-1<=s->s<=1->-1<=ZO v l s/\ZO v l s<=1
 | [],s,h1,h2=>⟨h1,h2⟩
 | x::r,s,h1,h2=>qiK h r _ (by have:=qiW h x;omega) (by omega)
structure qsX (l:List Int):Prop where out:qX l=true
structure qsf (l:List Int):Prop where out:qW l=true
theorem qeV {l:List Int}(h:qX l=true):l.length<=3:=by
 have key:∀ n,n<=l.length->∀ j,j<n->(j:Int)+1<=zH (l.getD j 0):=by
  intro n hn j hj
  induction j with
  | zero =>
    have:=(Wn h _ (qo (z:=(0:Int)) (show 0<l.length by omega)).out).2
    omega
  | succ j ih =>
    have h1:=ih (by omega)
    have h2:=(of_decide_eq_true (KO h (j+1) (by omega))).2.2.2 (by omega)
    rw [Nat.add_sub_cancel] at h2
    omega
 apply Decidable.byContradiction
 intro hn
 have h1:=key l.length (Nat.le_refl _) 3 (by omega)
 have h2:=Kc h (qo (z:=(0:Int)) (show 3<l.length by omega)).out
 have h3:=Yz h2.2.1 h2.2.2
 omega
theorem qmH (a s:Int):(if a<s then a else s)=min s a:=by rw [Int.min_def];split<;>split<;>omega
theorem Vs (l v:List Int)(hl:qX l=true)(hv:qW v=true):qe Tryz.prog 94 [aIs l,aIs v] (rI (ZO v l 1)):=by
 refine qe.of qc (fn:=Tryz.f94) (c:=Tryz.f94.body.getD .skip) (dr:=fun n=>qa 0 [] n) Tryz.func94 rfl (by kernel_rfl) (by kernel_rfl) (by kernel_rfl) ?_
 obtain ⟨f,hf⟩:∃ f,f=zH:=⟨_,rfl⟩
 have hO:qp Tryz.prog (qJ [(88,WZ f)]):=by subst hf;exact qb Wx qd
 have h3:=qeV hl
 have hv3:=q9 hv
 rw [show ZO v l 1=ZO v (l.drop 0) 1 by rw [List.drop_zero]]
 refine SEx.go (X:=XX) qc (fun n=>qa [] [(3,[1,5,9,10,11])] n) (fun _=>none) hO 60 ?_
 intro M R L N m0 m1 m2 m3 m4 m5
 cases M
 cbv
 repeat' first | refine m1 _ _ ?_ ?_ | refine m2 _ _ fun h=>?_ | refine m3 _ ?_ | (refine m4 _ _ (Hd.out ?_);generalize hks:(List.cons _ _:List K)=ks) | (refine m5 _ _ ?_;cbv)
 all_goals (clear m1 m2 m3 m4 m5;cases m0;try dsimp only)
 all_goals try simp only [sm] at *
 obtain ⟨m,hm⟩:∃ m,m=l.length:=⟨_,rfl⟩
 refine ⟨SEx.same (SEx.idxS m (fun i (s:Int)=>⟨30,[(1,bL (.i v)),(5,bI s),(9,bL (.i l)),(10,bI m),(11,bI i)],[]⟩) (fun i s=>rI (ZO v (l.drop i) s)) (fun _ _=>True) 1 trivial ?_) (by rw [hm];rfl) rfl⟩
 intro i s hi _ ih
 rw [<-hks]
 have hp:i<m->0<f (l.getD i 0)/\f (l.getD i 0)<=3:=fun h=>by
  have h2:=Kc hl (qo (z:=(0:Int)) (show i<l.length by omega)).out
  rw [hf]
  exact ⟨vX h2.1 h2.2.1 h2.2.2,Yz h2.2.1 h2.2.2⟩
 have hw:i<m->IntKind.i64.wrap (f (l.getD i 0)-1)=f (l.getD i 0)-1:=fun h=>by have:=hp h;exact qx (by omega) (by omega)
 refine SEx.go (X:=XX) qc (fun n=>qa [] [(3,[1,5,9,10,11])] n) (fun _=>none) hO 60 ?_
 intro M R L N m0 m1 m2 m3 m4 m5
 cases M
 cbv
 repeat' first | refine m1 _ _ ?_ ?_ | refine m2 _ _ fun h=>?_ | refine m3 _ ?_ | (refine m4 _ _ (Hd.out ?_);try first | rw [hks] | rw [hk2] | rw [hk3]) | (refine m5 _ _ ?_;cbv)
 all_goals (clear m1 m2 m3 m4 m5;cases m0;(try clear hks;try clear hk2;try clear hk3);try dsimp only)
 all_goals try simp only [sm] at *
 all_goals (try (have h7:=hp (by omega)))
 all_goals (try rw [hw (by omega)] at *)
 all_goals (have hvr:=QS hv (f (l.getD i 0)-1).toNat;try rw [qx (n:=0-v.getD (f (l.getD i 0)-1).toNat 0) (by omega) (by omega)])
 all_goals (try simp only [qg (show i<9223372036854775807 by omega),qmH])
 all_goals first
  | omega
  | exact ⟨(Wn hl _ (qo (z:=(0:Int)) (by omega)).out).1⟩
  | (refine ⟨(ih _ (by omega) trivial).same rfl ?_⟩;rw [Wg (show i<l.length by omega),K6,if_pos (by assumption),hf,Int.zero_sub];done)
  | (refine ⟨(ih _ (by omega) trivial).same rfl ?_⟩;rw [Wg (show i<l.length by omega),K6,if_neg (by omega),hf];done)
  | (rw [List.drop_eq_nil_of_le (by omega)];rfl)
  | skip
theorem qdf (x:Int)(v:List Int)(hx:¬x=0/\-3<=x/\x<=3)(hv:qW v=true):qe Tryz.prog 148 [aI x,aIs v] (rI (K6 v x)):=by
 refine qe.of qc (fn:=Tryz.f148) (c:=Tryz.f148.body.getD .skip) (dr:=fun n=>qa 0 [] n) Tryz.func148 rfl (by kernel_rfl) (by kernel_rfl) (by kernel_rfl) ?_
 obtain ⟨f,hf⟩:∃ f,f=zH:=⟨_,rfl⟩
 have hO:qp Tryz.prog (qJ [(81,WZ f)]):=by subst hf;exact qb WC qd
 have hv3:=q9 hv
 have hp:0<f x/\f x<=3:=by rw [hf];exact ⟨vX hx.1 hx.2.1 hx.2.2,Yz hx.2.1 hx.2.2⟩
 have hw:IntKind.i64.wrap (f x-1)=f x-1:=qx (by omega) (by omega)
 refine SEx.go (X:=XX) qc (fun n=>qa [] [] n) (fun _=>none) hO 60 ?_
 intro M R L N m0 m1 m2 m3 m4 m5
 cases M
 cbv
 repeat' first | refine m1 _ _ ?_ ?_ | refine m2 _ _ fun h=>?_ | refine m3 _ ?_ | (refine m4 _ _ (Hd.out ?_);try first | rw [hks] | rw [hk2] | rw [hk3]) | (refine m5 _ _ ?_;cbv)
 all_goals (clear m1 m2 m3 m4 m5;cases m0;(try clear hks;try clear hk2;try clear hk3);try dsimp only)
 all_goals try simp only [sm] at *
 all_goals (try rw [hw] at *)
 all_goals (have hvr:=QS hv (f x-1).toNat;try rw [qx (n:=0-v.getD (f x-1).toNat 0) (by omega) (by omega)])
 all_goals first
  | omega
  | (refine ⟨?_⟩;rw [kx];omega)
  | (simp only [wu];rw [K6,if_pos (by assumption),hf,Int.zero_sub];done)
  | (simp only [wu];rw [K6,if_neg (by omega),hf];done)
  | skip
structure qsL (x:Int):Prop where out:¬x=0/\-3<=x/\x<=3
def qnA (f:List Int->Int->Int):Wr:=w2 dcI kz (fun x v=>rI (f v x)) (fun x v=>[qsL x,qsf v])
theorem qjV:qz Tryz.prog 148 (qnA K6):=qG fun x v h=>qdf x v (h _ (.head _)).out (h _ (.tail _ (.head _))).out
theorem Kn (l v:List Int)(hl:Kb l)(hv:v.length<=maxLen):qe Tryz.prog 140 [aIs l,aIs v] (rI (if qX l=true/\qW v=true then ZO v l 1 else -1)):=by
 refine qe.of qc (fn:=Tryz.f140) (c:=Tryz.f140.body.getD .skip) (dr:=fun n=>qa 0 [] n) Tryz.func140 rfl (by kernel_rfl) (by kernel_rfl) (by kernel_rfl) ?_
 obtain ⟨f,hf⟩:∃ f,f=K6:=⟨_,rfl⟩
 obtain ⟨f1,hf1⟩:∃ f,f=qX:=⟨_,rfl⟩
 obtain ⟨f2,hf2⟩:∃ f,f=qW:=⟨_,rfl⟩
 have hO:qp Tryz.prog (qJ [(114,QK f1),(125,Wh f2),(148,qnA f)]):=by subst hf hf1 hf2;exact qb ZT (qb JP (qb qjV qd))
 rw [<-hf1,<-hf2]
 refine SEx.go (X:=XX) qc (fun n=>qa [] [(5,[1,5,16,17,18])] n) (fun _=>none) hO 60 ?_
 intro M R L N m0 m1 m2 m3 m4 m5
 cases M
 cbv
 repeat' first | refine m1 _ _ ?_ ?_ | refine m2 _ _ fun h=>?_ | refine m3 _ ?_ | (refine m4 _ _ (Hd.out ?_);generalize hks:(List.cons _ _:List K)=ks) | (refine m5 _ _ ?_;cbv)
 all_goals (clear m1 m2 m3 m4 m5;cases m0;try dsimp only)
 all_goals try simp only [sm] at *
 all_goals first
  | exact hl
  | exact ⟨hv⟩
  | (simp only [wu];rw [if_neg];rintro ⟨h1,h2⟩;simp_all;done)
  | skip
 rw [if_pos ⟨by assumption,by assumption⟩]
 have hlb:qX l=true:=by rw [<-hf1];assumption
 have hvb:qW v=true:=by rw [<-hf2];assumption
 have h3:=qeV hlb
 obtain ⟨m,hm⟩:∃ m,m=l.length:=⟨_,rfl⟩
 refine ⟨SEx.same (SEx.idxS m (fun i (s:Int)=>⟨29,[(1,bL (.i v)),(5,bI s),(16,bL (.i l)),(17,bI m),(18,bI i)],[]⟩) (fun i s=>rI (ZO v (l.drop i) s)) (fun _ _=>True) 1 trivial ?_) (by rw [hm];rfl) rfl⟩
 intro i s hi _ ih
 rw [<-hks]
 refine SEx.go (X:=XX) qc (fun n=>qa [] [(5,[1,5,16,17,18])] n) (fun _=>none) hO 60 ?_
 intro M R L N m0 m1 m2 m3 m4 m5
 cases M
 cbv
 repeat' first | refine m1 _ _ ?_ ?_ | refine m2 _ _ fun h=>?_ | refine m3 _ ?_ | (refine m4 _ _ (Hd.out ?_);try first | rw [hks] | rw [hk2] | rw [hk3]) | (refine m5 _ _ ?_;cbv)
 all_goals (clear m1 m2 m3 m4 m5;cases m0;(try clear hks;try clear hk2;try clear hk3);try dsimp only)
 all_goals try simp only [sm] at *
 all_goals (try simp only [qg (show i<9223372036854775807 by omega),qmH])
 all_goals first
  | omega
  | exact ⟨Kc hlb (qo (z:=(0:Int)) (by omega)).out⟩
  | exact ⟨hvb⟩
  | (refine ⟨(ih _ (by omega) trivial).same rfl ?_⟩;rw [Wg (show i<l.length by omega),hf];done)
  | (rw [List.drop_eq_nil_of_le (by omega)];rfl)
  | skip
def nsI (t:qj)(x:qh)(i:Int):Int:=ZO x.vals (nd t.nodes i).label 1
structure StT (t:qj)(x:qh):Prop where
 sh:qN t=true
 st:jR t x=true
theorem StT.vals {t:qj}{x:qh}(h:StT t x):qW x.vals=true:=by
 have:=h.st
 unfold jR at this
 rw [Bool.and_eq_true,Bool.and_eq_true] at this
 exact this.2.1
theorem StT.now {t:qj}{x:qh}(h:StT t x):0<=x.now/\x.now<=t.hor+1/\x.times.length=t.nodes.length:=by
 have:=h.st
 unfold jR at this
 rw [Bool.and_eq_true,decide_eq_true_eq] at this
 exact this.1
theorem WI {α:Type}{p:Nat->α->Bool}:∀ {l:List α} {n i:Nat} (z:α),qD p l n=true->i<l.length->p (n+i) (l.getD i z)=true
 | a::r,n,0,z,h,_=>by
   unfold qD at h
   rw [Bool.and_eq_true] at h
   simpa using h.1
 | a::r,n,i+1,z,h,hi=>by
   unfold qD at h
   rw [Bool.and_eq_true] at h
   have:=WI z h.2 (show i<r.length by simpa using hi)
   rw [List.getD_cons_succ,show n+(i+1)=n+1+i by omega]
   exact this
theorem StT.time {t:qj}{x:qh}(h:StT t x)(i:Nat):-1<=x.times.getD i 0/\x.times.getD i 0<=10:=by
 have hn:=h.now
 have hh:=zQ h.sh
 have:=h.st
 unfold jR at this
 rw [Bool.and_eq_true,Bool.and_eq_true,Bool.and_eq_true] at this
 by_cases hi:i<x.times.length
 . have h1:=WI (0:Int) this.2.2.1 hi
   rw [Nat.zero_add,ZB,decide_eq_true_eq] at h1
   by_cases h0:i=0
   . have:=h1.1 h0;omega
   . have:=h1.2 (by omega);omega
 . rw [List.getD_eq_getElem?_getD,List.getElem?_eq_none (by omega)]
   exact ⟨by decide,by decide⟩
structure kN (t:qj)(x:qh):Prop where
 sh:zc t
 st:Jv x
theorem qbL (t:qj)(x:qh)(i:Int)(hs:kN t x)(h:StT t x)(hi:0<=i/\i<t.nodes.length):qe Tryz.prog 128 [qK t,qQ x,aI i] (rI (nsI t x i)):=by
 refine qe.of qc (fn:=Tryz.f128) (c:=Tryz.f128.body.getD .skip) (dr:=fun n=>qa 0 [(1,8)] n) Tryz.func128 rfl (by kernel_rfl) (by kernel_rfl) (by kernel_rfl) ?_
 have h1:=kL h.sh (qo (z:=qi.z) (show i.toNat<t.nodes.length by omega)).out
 have h2:=h.vals
 have h3:=hs.sh.nodes _ (qo (z:=qi.z) (show i.toNat<t.nodes.length by omega)).out
 have h4:=hs.st.vlen
 unfold nsI nd
 obtain ⟨f,hf⟩:∃ f:List Int->List Int->Int,f=fun l v=>if qX l=true/\qW v=true then ZO v l 1 else -1:=⟨_,rfl⟩
 have hO:qp Tryz.prog (qJ [(140,w2 kz kz (fun l v=>rI (f l v)) (fun l v=>[Kb l,LLe v maxLen]))]):=by
  subst hf
  exact qb (qG fun l v h=>Kn l v (h _ (.head _)) (h _ (.tail _ (.head _))).out) qd
 have he:f (t.nodes.getD i.toNat qi.z).label x.vals=ZO x.vals (t.nodes.getD i.toNat qi.z).label 1:=by rw [hf];exact if_pos ⟨h1,h2⟩
 rw [<-he]
 clear hs h hf he
 obtain ⟨ns,ts,hr⟩:=t
 obtain ⟨now,times,vals⟩:=x
 dsimp only at hi h1 h2 h3 h4
 refine SEx.go (X:=XX) qc (fun n=>qa [] [] n) (fun _=>none) hO 60 ?_
 intro M R L N m0 m1 m2 m3 m4 m5
 cases M
 cbv
 repeat' first | refine m1 _ _ ?_ ?_ | refine m2 _ _ fun h=>?_ | refine m3 _ ?_ | (refine m4 _ _ (Hd.out ?_);try first | rw [hks] | rw [hk2] | rw [hk3]) | (refine m5 _ _ ?_;cbv)
 all_goals (clear m1 m2 m3 m4 m5;cases m0;(try clear hks;try clear hk2;try clear hk3);try dsimp only)
 all_goals try simp only [sm] at *
 all_goals first
  | omega
  | exact ⟨h3.len,h3.all⟩
  | exact ⟨h4⟩
  | rfl
  | skip
end Go.Proofs.YtfafehnchmelnaaGreat.Ai
namespace Go.Proofs.YtfafehnchmelnaaGreat.Ai
open Go
set_option maxRecDepth 100000
variable [qf]
def qkJ (l v:List Int):Int:=ZO v l 1
def QG (f:List Int->List Int->Int):Wr:=w2 kz kz (fun l v=>rI (f l v)) (fun l v=>[qsX l,qsf v])
theorem jF:qz Tryz.prog 94 (QG qkJ):=qG fun l v h=>Vs l v (h _ (.head _)).out (h _ (.tail _ (.head _))).out
def ws (f:qj->qh->Int->Int):Wr:=w3 qI qP dcI (fun t x i=>rI (f t x i)) (fun t x i=>[kN t x,StT t x,InX i t.nodes])
theorem JZ:qz Tryz.prog 128 (ws nsI):=jK fun t x i h=>qbL t x i (h _ (.head _)) (h _ (.tail _ (.head _))) (h _ (.tail _ (.tail _ (.head _)))).out
structure Q1 (t:qj)(q:Tie):Prop where
 src:0<=q.src/\q.src<t.nodes.length
 dst:0<=q.dst/\q.dst<t.nodes.length
theorem kD {t:qj}(h:qN t=true){q:Tie}(hq:q∈t.ties):Q1 t q:=by
 have hn:=qF h
 unfold qN JR at h
 simp only [Bool.and_eq_true] at h
 obtain ⟨i,hi⟩:=QQ h.2.2.1.1 hq
 unfold wg at hi
 rw [Bool.and_eq_true,decide_eq_true_eq] at hi
 exact ⟨by omega,by omega⟩
def Ky (t:qj)(x:qh)(q:Tie):Bool :=
 if ¬x.times.getD q.src.toNat 0=-1/\¬x.times.getD q.dst.toNat 0=-1 then !(decide (q.low<=x.times.getD q.dst.toNat 0-x.times.getD q.src.toNat 0)&&decide (x.times.getD q.dst.toNat 0-x.times.getD q.src.toNat 0<=q.high))
 else if q.free=true then false
 else if ¬x.times.getD q.src.toNat 0=-1 then decide (nsI t x q.dst=1)&&decide (q.high<x.now-x.times.getD q.src.toNat 0)
 else if ¬x.times.getD q.dst.toNat 0=-1 then decide (nsI t x q.src=1)&&decide (x.times.getD q.dst.toNat 0-x.now<q.low)
 else false
theorem qe3 (t:qj)(x:qh)(q:Tie)(h:StT t x)(hq:Q1 t q):qe Tryz.prog 93 [qK t,qQ x,YR q] (rB (Ky t x q)):=by
 refine qe.of qc (fn:=Tryz.f93) (c:=Tryz.f93.body.getD .skip) (dr:=fun n=>qa 0 [(8,18),(10,18)] n) Tryz.func93 rfl (by kernel_rfl) (by kernel_rfl) (by kernel_rfl) ?_
 obtain ⟨f0,hf0⟩:∃ f,f=zV:=⟨_,rfl⟩
 obtain ⟨f1,hf1⟩:∃ f,f=qkJ:=⟨_,rfl⟩
 have hO:qp Tryz.prog (qJ [(39,qb0 f0),(94,QG f1)]):=by
  subst hf0 hf1
  exact qb Zf (qb jF qd)
 have hv:=h.vals
 have hn:=h.now
 have hh:=zQ h.sh
 have ht:=h.time
 have hl:∀ n∈t.nodes,qX n.label=true:=fun n hn=>kL h.sh hn
 have h5:=hq.src
 have h6:=hq.dst
 have hr:Ky t x q=if ¬x.times.getD q.src.toNat 0=-1/\¬x.times.getD q.dst.toNat 0=-1 then !(f0 (x.times.getD q.dst.toNat 0-x.times.getD q.src.toNat 0) q.low q.high)
  else if q.free=true then false
  else if ¬x.times.getD q.src.toNat 0=-1 then decide (f1 (t.nodes.getD q.dst.toNat qi.z).label x.vals=1)&&decide (q.high<x.now-x.times.getD q.src.toNat 0)
  else if ¬x.times.getD q.dst.toNat 0=-1 then decide (f1 (t.nodes.getD q.src.toNat qi.z).label x.vals=1)&&decide (x.times.getD q.dst.toNat 0-x.now<q.low)
  else false:=by rw [hf0,hf1];rfl
 rw [hr]
 clear h hq hr
 obtain ⟨ns,ts,hr⟩:=t
 obtain ⟨now,times,vals⟩:=x
 obtain ⟨x1,x2,x3,x4,x5⟩:=q
 dsimp only at hv hn hh ht h5 h6 hl ⊢
 have hta:=ht x1.toNat
 have htb:=ht x2.toNat
 have hw1:IntKind.i64.wrap (times.getD x2.toNat 0-times.getD x1.toNat 0)=times.getD x2.toNat 0-times.getD x1.toNat 0:=qx (by omega) (by omega)
 have hw2:IntKind.i64.wrap (now-times.getD x1.toNat 0)=now-times.getD x1.toNat 0:=qx (by omega) (by omega)
 have hw3:IntKind.i64.wrap (times.getD x2.toNat 0-now)=times.getD x2.toNat 0-now:=qx (by omega) (by omega)
 refine SEx.go (X:=XX) qc (fun n=>qa [] [] n) (fun _=>none) hO 60 ?_
 intro M R L N m0 m1 m2 m3 m4 m5
 cases M
 cbv
 repeat' first | refine m1 _ _ ?_ ?_ | refine m2 _ _ fun h=>?_ | refine m3 _ ?_ | (refine m4 _ _ (Hd.out ?_);try first | rw [hks] | rw [hk2] | rw [hk3]) | (refine m5 _ _ ?_;cbv)
 all_goals (clear m1 m2 m3 m4 m5;cases m0;(try clear hks;try clear hk2;try clear hk3);try dsimp only)
 all_goals try simp only [sm] at *
 all_goals (clear hO ht)
 all_goals (try simp only [hw1,hw2,hw3] at *)
 all_goals first
  | omega
  | contradiction
  | exact ⟨hv⟩
  | exact ⟨hl _ (qo (z:=qi.z) (by omega)).out⟩
  | (refine qV ?_ _;delta qi.label at *;clear hl;simp_all;done)
  | skip
theorem qi2 {α:Type}{p:Nat->α->Bool}(z:α):∀ (l:List α) (n:Nat),qD p l n=Vw (fun i=>p (n+i) (l.getD i z)) l.length
 | [],n=>rfl
 | a::r,n=>by
   unfold qD Vw
   rw [List.length_cons,List.range_succ_eq_map,List.all_cons,List.all_map,qi2 z r (n+1)]
   show (p n a&&_)=(p n a&&_)
   congr 1
   unfold Vw
   congr 1
   funext i
   show p (n+1+i) _=p (n+(i+1)) _
   rw [show n+1+i=n+(i+1) by omega]
   rfl
theorem v8 {α:Type}{p:Nat->α->Bool}(z:α)(l:List α):qD p l 0=Vw (fun i=>p i (l.getD i z)) l.length:=by
 rw [qi2 z l 0];simp only [Nat.zero_add]
def qnx (t:qj)(x:qh)(i:Nat):Bool:=!(decide (x.times.getD i 0=-1)&&decide (0<=nsI t x i))
def jv (t:qj)(x:qh):Bool:=Vw (qnx t x) t.nodes.length
def z7 (t:qj)(x:qh):Bool:=!(qD (fun _ q=>!Ky t x q) t.ties 0&&(decide (x.now<=t.hor)||jv t x))
theorem qd6 (t:qj)(x:qh)(hs:zc t)(h:StT t x):qe Tryz.prog 53 [qK t,qQ x] (rB (jv t x)):=by
 refine qe.of qc (fn:=Tryz.f53) (c:=Tryz.f53.body.getD .skip) (dr:=fun n=>qa 0 [] n) Tryz.func53 rfl (by kernel_rfl) (by kernel_rfl) (by kernel_rfl) ?_
 obtain ⟨f1,hf1⟩:∃ f,f=qkJ:=⟨_,rfl⟩
 have hO:qp Tryz.prog (qJ [(94,QG f1)]):=by
  subst hf1
  exact qb jF qd
 have hv:=h.vals
 have hn:=h.now
 have h1:=qF h.sh
 have hl:∀ n∈t.nodes,qX n.label=true:=fun n hn=>kL h.sh hn
 obtain ⟨p,hp⟩:∃ p:Nat->qi->Bool,p=fun i q=>!(decide (x.times.getD i 0=-1)&&decide (0<=f1 q.label x.vals)):=⟨_,rfl⟩
 have hr:jv t x=(qD p t.nodes 0&&true):=by
  rw [Bool.and_true,v8 qi.z,hp,hf1];rfl
 rw [hr]
 clear h hs hr
 obtain ⟨ns,ts,hr⟩:=t
 obtain ⟨now,times,vals⟩:=x
 dsimp only at hv hn h1 hl hp ⊢
 refine SEx.go (X:=XX) qc (fun n=>qa [] [(2,[3,8,9,10])] n) (fun _=>none) hO 60 ?_
 intro M R L N m0 m1 m2 m3 m4 m5
 cases M
 cbv
 repeat' first | refine m1 _ _ ?_ ?_ | refine m2 _ _ fun h=>?_ | refine m3 _ ?_ | (refine m4 _ _ (Hd.out ?_);generalize hks:(List.cons _ _:List K)=ks) | (refine m5 _ _ ?_;cbv)
 all_goals (clear m1 m2 m3 m4 m5;cases m0;try dsimp only)
 all_goals try simp only [sm] at *
 obtain ⟨m,hm⟩:∃ m,m=ns.length:=⟨_,rfl⟩
 refine ⟨SEx.same (SEx.idx m (fun i=>⟨30,[(3,bP 12288),(8,bL (.node false none ns)),(9,bI m),(10,bI i)],[(12288,.obx [.fz (.int .i64 now),.fz (.sl (.i times)),.fz (.sl (.i vals))])]⟩) (fun i=>rB (qD p (ns.drop i) i&&true)) ?_) (by rw [hm];rfl) rfl⟩
 intro i hi ih
 rw [<-hks]
 have hl2:i<m->zi _ _ _:=fun h=>zi.of p ns i true qi.z (by omega)
 have he:i=m->(qD p (ns.drop i) i&&true)=true:=fun h=>qR (by omega)
 refine SEx.go (X:=XX) qc (fun n=>qa [] [(2,[3,8,9,10])] n) (fun _=>none) hO 60 ?_
 intro M R L N m0 m1 m2 m3 m4 m5
 cases M
 cbv
 repeat' first | refine m1 _ _ ?_ ?_ | refine m2 _ _ fun h=>?_ | refine m3 _ ?_ | (refine m4 _ _ (Hd.out ?_);try first | rw [hks] | rw [hk2] | rw [hk3]) | (refine m5 _ _ ?_;cbv)
 all_goals (clear m1 m2 m3 m4 m5;cases m0;(try clear hks;try clear hk2;try clear hk3);try dsimp only)
 all_goals try simp only [sm] at *
 all_goals (try simp only [qg (show i<9223372036854775807 by omega)] at *)
 all_goals first
  | omega
  | exact ⟨hv⟩
  | exact ⟨hl _ (qo (z:=qi.z) (by omega)).out⟩
  | (refine qV ?_ _;rw [he (by omega)];done)
  | (refine (hl2 (by omega)).stop _ ?_;rw [hp];delta qi.label at *;clear hl2 he ih hl;simp_all;done)
  | (refine ⟨(ih (by omega)).same rfl ((hl2 (by omega)).go ?_)⟩;rw [hp];delta qi.label at *;clear hl2 he ih hl;simp_all;done)
  | skip
theorem qaB (t:qj)(x:qh)(hs:zc t)(h:StT t x):qe Tryz.prog 52 [qK t,qQ x] (rB (z7 t x)):=by
 refine qe.of qc (fn:=Tryz.f52) (c:=Tryz.f52.body.getD .skip) (dr:=fun n=>qa 0 [] n) Tryz.func52 rfl (by kernel_rfl) (by kernel_rfl) (by kernel_rfl) ?_
 obtain ⟨f1,hf1⟩:∃ f,f=qkJ:=⟨_,rfl⟩
 obtain ⟨f2,hf2⟩:∃ f,f=Ky:=⟨_,rfl⟩
 have hO:qp Tryz.prog (qJ [(94,QG f1),(93,w3 qI qP yZ (fun t x q=>rB (f2 t x q)) (fun t x q=>[StT t x,Q1 t q]))]):=by
  subst hf1 hf2
  exact qb jF (qb (jK fun t x q h=>qe3 t x q (h _ (.head _)) (h _ (.tail _ (.head _)))) qd)
 have hv:=h.vals
 have hn:=h.now
 have h1:=qF h.sh
 have h2:=zq h.sh
 have hl:∀ n∈t.nodes,qX n.label=true:=fun n hn=>kL h.sh hn
 have ht:∀ q∈t.ties,Q1 t q:=fun q hq=>kD h.sh hq
 obtain ⟨p,hp⟩:∃ p:Nat->qi->Bool,p=fun i q=>!(decide (t.hor<x.now)&&(decide (x.times.getD i 0=-1)&&decide (0<=f1 q.label x.vals))):=⟨_,rfl⟩
 obtain ⟨pt,hpt⟩:∃ p:Nat->Tie->Bool,p=fun _ q=>!f2 t x q:=⟨_,rfl⟩
 have e:qD p t.nodes 0=(decide (x.now<=t.hor)||jv t x):=by
  rw [v8 qi.z,hp,hf1]
  by_cases hc:t.hor<x.now
  . rw [decide_eq_true hc,decide_eq_false (show ¬x.now<=t.hor by omega),Bool.false_or];rfl
  . rw [decide_eq_false hc,decide_eq_true (show x.now<=t.hor by omega),Bool.true_or]
    exact Zy fun j hj=>rfl
 obtain ⟨d,hd⟩:∃ d,d=qD p t.nodes 0:=⟨_,rfl⟩
 have hr:z7 t x=!(qD pt t.ties 0&&d):=by
  rw [hd,e,hpt,hf2];rfl
 rw [hr]
 clear hs hr e
 obtain ⟨ns,ts,hr⟩:=t
 obtain ⟨now,times,vals⟩:=x
 dsimp only at hv hn h1 h2 hl hp hd ht ⊢
 refine SEx.go (X:=XX) qc (fun n=>qa [] [(2,[2,3,10,11,12]),(8,[2,3,22,23,24])] n) (fun _=>none) hO 60 ?_
 intro M R L N m0 m1 m2 m3 m4 m5
 cases M
 cbv
 repeat' first | refine m1 _ _ ?_ ?_ | refine m2 _ _ fun h=>?_ | refine m3 _ ?_ | (refine m4 _ _ (Hd.out ?_);generalize hks:(List.cons _ _:List K)=ks) | (refine m5 _ _ ?_;cbv)
 all_goals (clear m1 m2 m3 m4 m5;cases m0;try dsimp only)
 all_goals try simp only [sm] at *
 obtain ⟨m,hm⟩:∃ m,m=ts.length:=⟨_,rfl⟩
 refine ⟨SEx.same (SEx.idx m (fun i=>⟨51,[(2,bP 8192),(3,bP 12288),(10,bL (.tie ts)),(11,bI m),(12,bI i)],[(8192,.obx [.fz (.sl (.node false none ns)),.fz (.sl (.tie ts)),.fz (.int .i64 hr)]),(12288,.obx [.fz (.int .i64 now),.fz (.sl (.i times)),.fz (.sl (.i vals))])]⟩) (fun i=>rB (!(qD pt (ts.drop i) i&&d))) ?_) (by rw [hm];rfl) rfl⟩
 intro i hi ih
 rw [<-hks]
 have hl2:i<m->zi _ _ _:=fun h=>zi.of pt ts i d Tie.z (by omega)
 have he:i=m->(qD pt (ts.drop i) i&&d)=d:=fun h=>qR (by omega)
 refine SEx.go (X:=XX) qc (fun n=>qa [] [(2,[2,3,10,11,12]),(8,[2,3,22,23,24])] n) (fun _=>none) hO 60 ?_
 intro M R L N m0 m1 m2 m3 m4 m5
 cases M
 cbv
 repeat' first | refine m1 _ _ ?_ ?_ | refine m2 _ _ fun h=>?_ | refine m3 _ ?_ | (refine m4 _ _ (Hd.out ?_);first | rw [hks] | generalize hk2:(List.cons _ _:List K)=k2) | (refine m5 _ _ ?_;cbv)
 all_goals (clear m1 m2 m3 m4 m5;cases m0;try dsimp only)
 all_goals try simp only [sm] at *
 all_goals (try simp only [qg (show i<9223372036854775807 by omega)] at *)
 all_goals first
  | omega
  | exact h
  | exact ht _ (qo (z:=Tie.z) (by omega)).out
  | (refine (hl2 (by omega)).stopN _ ?_;rw [hpt];clear hl2 he ih hl ht;simp_all;done)
  | (refine ⟨(ih (by omega)).same rfl ((hl2 (by omega)).goN ?_)⟩;rw [hpt];clear hl2 he ih hl ht;simp_all;done)
  | skip
 have him:i=m:=by omega
 rw [he him,hd]
 clear ih hl2 he hd
 obtain ⟨w,hw⟩:∃ w,w=ns.length:=⟨_,rfl⟩
 refine ⟨SEx.same (SEx.idx w (fun i=>⟨51,[(2,bP 8192),(3,bP 12288),(22,bL (.node false none ns)),(23,bI w),(24,bI i)],[(8192,.obx [.fz (.sl (.node false none ns)),.fz (.sl (.tie ts)),.fz (.int .i64 hr)]),(12288,.obx [.fz (.int .i64 now),.fz (.sl (.i times)),.fz (.sl (.i vals))])]⟩) (fun i=>rB (!(qD p (ns.drop i) i&&true))) ?_) (by rw [hw];rfl) (by rw [Bool.and_true];rfl)⟩
 intro k hk ih
 rw [<-hk2]
 have hl2:k<w->zi _ _ _:=fun h=>zi.of p ns k true qi.z (by omega)
 have he:k=w->(qD p (ns.drop k) k&&true)=true:=fun h=>qR (by omega)
 refine SEx.go (X:=XX) qc (fun n=>qa [] [(2,[2,3,10,11,12]),(8,[2,3,22,23,24])] n) (fun _=>none) hO 60 ?_
 intro M R L N m0 m1 m2 m3 m4 m5
 cases M
 cbv
 repeat' first | refine m1 _ _ ?_ ?_ | refine m2 _ _ fun h=>?_ | refine m3 _ ?_ | (refine m4 _ _ (Hd.out ?_);try first | rw [hks] | rw [hk2] | rw [hk3]) | (refine m5 _ _ ?_;cbv)
 all_goals (clear m1 m2 m3 m4 m5;cases m0;(try clear hks;try clear hk2;try clear hk3);try dsimp only)
 all_goals try simp only [sm] at *
 all_goals (try simp only [qg (show k<9223372036854775807 by omega)] at *)
 all_goals first
  | omega
  | exact ⟨hv⟩
  | exact ⟨hl _ (qo (z:=qi.z) (by omega)).out⟩
  | (refine qV ?_ _;rw [he (by omega)];rfl)
  | (refine (hl2 (by omega)).stopN _ ?_;rw [hp];delta qi.label at *;clear hl2 he ih hl ht;simp_all;done)
  | (refine ⟨(ih (by omega)).same rfl ((hl2 (by omega)).goN ?_)⟩;rw [hp];delta qi.label at *;clear hl2 he ih hl ht;simp_all;done)
  | (refine ⟨(ih (by omega)).same rfl ((hl2 (by omega)).goN ?_)⟩;rw [hp];dsimp only;rw [decide_eq_false (show ¬hr<now by omega)];rfl)
  | skip
end Go.Proofs.YtfafehnchmelnaaGreat.Ai
namespace Go.Proofs.YtfafehnchmelnaaGreat.Ai
open Go
set_option maxRecDepth 100000
variable [qf]
theorem Y0 (t:qj)(x:qh)(q:Tie)(hs:kN t x)(hst:StT t x)(hq:Q1 t q):qe Tryz.prog 127 [qK t,qQ x,YR q] (rB (Ky t x q)):=by
 refine qe.of qc (fn:=Tryz.f127) (c:=Tryz.f127.body.getD .skip) (dr:=fun n=>qa 0 [(1,14)] n) Tryz.func127 rfl (by kernel_rfl) (by kernel_rfl) (by kernel_rfl) ?_
 obtain ⟨f1,hf1⟩:∃ f,f=nsI:=⟨_,rfl⟩
 have hO:qp Tryz.prog (qJ [(128,ws f1)]):=by
  subst hf1
  exact qb JZ qd
 have hn:=hst.now
 have hh:=zQ hst.sh
 have ht:=hst.time
 have h5:=hq.src
 have h6:=hq.dst
 have hr:Ky t x q=if ¬x.times.getD q.src.toNat 0=-1/\¬x.times.getD q.dst.toNat 0=-1 then !(decide (q.low<=x.times.getD q.dst.toNat 0-x.times.getD q.src.toNat 0)&&decide (x.times.getD q.dst.toNat 0-x.times.getD q.src.toNat 0<=q.high))
  else if q.free=true then false
  else if ¬x.times.getD q.src.toNat 0=-1 then decide (f1 t x q.dst=1)&&decide (q.high<x.now-x.times.getD q.src.toNat 0)
  else if ¬x.times.getD q.dst.toNat 0=-1 then decide (f1 t x q.src=1)&&decide (x.times.getD q.dst.toNat 0-x.now<q.low)
  else false:=by rw [hf1];rfl
 rw [hr]
 clear hq hr
 obtain ⟨ns,ts,hr⟩:=t
 obtain ⟨now,times,vals⟩:=x
 obtain ⟨x1,x2,x3,x4,x5⟩:=q
 dsimp only at hn hh ht h5 h6 ⊢
 have hta:=ht x1.toNat
 have htb:=ht x2.toNat
 have hw1:IntKind.i64.wrap (times.getD x2.toNat 0-times.getD x1.toNat 0)=times.getD x2.toNat 0-times.getD x1.toNat 0:=qx (by omega) (by omega)
 have hw2:IntKind.i64.wrap (now-times.getD x1.toNat 0)=now-times.getD x1.toNat 0:=qx (by omega) (by omega)
 have hw3:IntKind.i64.wrap (times.getD x2.toNat 0-now)=times.getD x2.toNat 0-now:=qx (by omega) (by omega)
 refine SEx.go (X:=XX) qc (fun n=>qa [] [] n) (fun _=>none) hO 60 ?_
 intro M R L N m0 m1 m2 m3 m4 m5
 cases M
 cbv
 repeat' first | refine m1 _ _ ?_ ?_ | refine m2 _ _ fun h=>?_ | refine m3 _ ?_ | (refine m4 _ _ (Hd.out ?_);try first | rw [hks] | rw [hk2] | rw [hk3]) | (refine m5 _ _ ?_;cbv)
 all_goals (clear m1 m2 m3 m4 m5;cases m0;(try clear hks;try clear hk2;try clear hk3);try dsimp only)
 all_goals try simp only [sm] at *
 all_goals (clear hO ht)
 all_goals (try simp only [hw1,hw2,hw3] at *)
 all_goals first
  | omega
  | contradiction
  | exact hs
  | exact hst
  | exact ⟨h5⟩
  | exact ⟨h6⟩
  | (refine qV ?_ _;clear hs hst hw1 hw2 hw3;simp_all;done)
  | (refine qV ?_ _;clear hs hst hw1 hw2 hw3;rw [if_pos ⟨by assumption,by assumption⟩];first | (rw [decide_eq_false (show ¬_ by omega)];rfl) | (rw [decide_eq_true (show x3<=_ by omega),Bool.true_and,Bool.eq_iff_iff];simp;done))
  | skip
def qlZ (f:qj->qh->Tie->Bool):Wr:=w3 qI qP yZ (fun t x q=>rB (f t x q)) (fun t x q=>[kN t x,StT t x,Q1 t q])
theorem qke:qz Tryz.prog 127 (qlZ Ky):=jK fun t x q h=>Y0 t x q (h _ (.head _)) (h _ (.tail _ (.head _))) (h _ (.tail _ (.tail _ (.head _))))
theorem qdd (q:Tie)(t:qj)(x:qh)(hs:kN t x)(hst:StT t x)(hq:Q1 t q):qe Tryz.prog 126 [YR q,(false,[.ptr t.d]),(false,[.ptr x.d])] (rB (Ky t x q)):=by
 refine qe.of qc (fn:=Tryz.f126) (c:=Tryz.f126.body.getD .skip) (dr:=fun n=>qa 0 [] n) Tryz.func126 rfl (by kernel_rfl) (by kernel_rfl) (by kernel_rfl) ?_
 obtain ⟨f,hf⟩:∃ f,f=Ky:=⟨_,rfl⟩
 have hO:qp Tryz.prog (qJ [(127,qlZ f)]):=by subst hf;exact qb qke qd
 rw [<-hf]
 obtain ⟨ns,ts,hr⟩:=t
 obtain ⟨now,times,vals⟩:=x
 obtain ⟨x1,x2,x3,x4,x5⟩:=q
 refine SEx.go (X:=XX) qc (fun n=>qa [] [] n) (fun _=>none) hO 60 ?_
 intro M R L N m0 m1 m2 m3 m4 m5
 cases M
 cbv
 repeat' first | refine m1 _ _ ?_ ?_ | refine m2 _ _ fun h=>?_ | refine m3 _ ?_ | (refine m4 _ _ (Hd.out ?_);try first | rw [hks] | rw [hk2] | rw [hk3]) | (refine m5 _ _ ?_;cbv)
 all_goals (clear m1 m2 m3 m4 m5;cases m0;(try clear hks;try clear hk2;try clear hk3);try dsimp only)
 all_goals try simp only [sm] at *
 all_goals first
  | exact hs
  | exact hst
  | exact hq
  | rfl
  | skip
theorem qgK (t:qj)(x:qh)(hs:kN t x)(hst:StT t x):qe Tryz.prog 103 [qK t,qQ x] (rB (jv t x)):=by
 refine qe.of qc (fn:=Tryz.f103) (c:=Tryz.f103.body.getD .skip) (dr:=fun n=>qa 0 [] n) Tryz.func103 rfl (by kernel_rfl) (by kernel_rfl) (by kernel_rfl) ?_
 obtain ⟨f,hf⟩:∃ f,f=nsI:=⟨_,rfl⟩
 have hO:qp Tryz.prog (qJ [(128,ws f)]):=by subst hf;exact qb JZ qd
 have hn:=hst.now
 have h1:=qF hst.sh
 have hge:∀ i,-1<=f t x i:=fun i=>by rw [hf];unfold nsI;exact (qiK hst.vals _ 1 (by decide) (by decide)).1
 obtain ⟨p,hp⟩:∃ p:Nat->Int->Bool,p=fun (i:Nat) (n:Int)=>!(decide (n=-1)&&!decide (f t x (i:Int)=-1)):=⟨_,rfl⟩
 have hr:jv t x=(qD p x.times 0&&true):=by
  rw [Bool.and_true,v8 (0:Int),hn.2.2,hp]
  unfold jv
  congr 1
  funext i
  unfold qnx
  have:=hge i
  rw [hf] at this
  rw [hf,show decide (0<=nsI t x i)=!decide (nsI t x i=-1) by rw [<-decide_not];exact decide_eq_decide.2 (by omega)]
 rw [hr]
 clear hr hf
 obtain ⟨ns,ts,hr⟩:=t
 obtain ⟨now,times,vals⟩:=x
 dsimp only at hn h1 hp ⊢
 refine SEx.go (X:=XX) qc (fun n=>qa [] [(2,[2,3,8,9,10])] n) (fun _=>none) hO 60 ?_
 intro M R L N m0 m1 m2 m3 m4 m5
 cases M
 cbv
 repeat' first | refine m1 _ _ ?_ ?_ | refine m2 _ _ fun h=>?_ | refine m3 _ ?_ | (refine m4 _ _ (Hd.out ?_);generalize hks:(List.cons _ _:List K)=ks) | (refine m5 _ _ ?_;cbv)
 all_goals (clear m1 m2 m3 m4 m5;cases m0;try dsimp only)
 all_goals try simp only [sm] at *
 obtain ⟨m,hm⟩:∃ m,m=times.length:=⟨_,rfl⟩
 refine ⟨SEx.same (SEx.idx m (fun i=>⟨25,[(2,bP 8192),(3,bP 12288),(8,bL (.i times)),(9,bI m),(10,bI i)],[(8192,.obx [.fz (.sl (.node false none ns)),.fz (.sl (.tie ts)),.fz (.int .i64 hr)]),(12288,.obx [.fz (.int .i64 now),.fz (.sl (.i times)),.fz (.sl (.i vals))])]⟩) (fun i=>rB (qD p (times.drop i) i&&true)) ?_) (by rw [hm];rfl) rfl⟩
 intro i hi ih
 rw [<-hks]
 have hl2:i<m->zi _ _ _:=fun h=>zi.of p times i true (0:Int) (by omega)
 have he:i=m->(qD p (times.drop i) i&&true)=true:=fun h=>qR (by omega)
 refine SEx.go (X:=XX) qc (fun n=>qa [] [(2,[2,3,8,9,10])] n) (fun _=>none) hO 60 ?_
 intro M R L N m0 m1 m2 m3 m4 m5
 cases M
 cbv
 repeat' first | refine m1 _ _ ?_ ?_ | refine m2 _ _ fun h=>?_ | refine m3 _ ?_ | (refine m4 _ _ (Hd.out ?_);try first | rw [hks] | rw [hk2] | rw [hk3]) | (refine m5 _ _ ?_;cbv)
 all_goals (clear m1 m2 m3 m4 m5;cases m0;(try clear hks;try clear hk2;try clear hk3);try dsimp only)
 all_goals try simp only [sm] at *
 all_goals (try simp only [qg (show i<9223372036854775807 by omega)] at *)
 all_goals first
  | omega
  | exact hs
  | exact hst
  | exact ⟨⟨by omega,by omega⟩⟩
  | (refine qV ?_ _;rw [he (by omega)];done)
  | (refine (hl2 (by omega)).stop _ ?_;rw [hp];dsimp only;rw [decide_eq_true (by assumption),decide_eq_false (by assumption)];rfl)
  | (refine ⟨(ih (by omega)).same rfl ((hl2 (by omega)).go ?_)⟩;rw [hp];dsimp only;rw [decide_eq_false (by assumption)];rfl)
  | (refine ⟨(ih (by omega)).same rfl ((hl2 (by omega)).go ?_)⟩;rw [hp];dsimp only;rw [decide_eq_true (by assumption),decide_eq_true (by assumption)];rfl)
  | skip
def jr (f:qj->qh->Bool):Wr:=w2 qI qP (fun t x=>rB (f t x)) (fun t x=>[kN t x,StT t x])
theorem W9:qz Tryz.prog 103 (jr jv):=qG fun t x h=>qgK t x (h _ (.head _)) (h _ (.tail _ (.head _)))
theorem qnD:qz Tryz.prog 53 (jr jv):=qG fun t x h=>qd6 t x (h _ (.head _)).sh (h _ (.tail _ (.head _)))
theorem qdR:qz Tryz.prog 52 (jr z7):=qG fun t x h=>qaB t x (h _ (.head _)).sh (h _ (.tail _ (.head _)))
structure qsd (t:qj)(l:List Tie):Prop where out:∀ q∈l,Q1 t q
def qiA (l:List Tie)(t:qj)(x:qh):Bool:=l.any fun q=>Ky t x q
theorem qe0 (t:qj)(x:qh)(hs:kN t x)(hst:StT t x):qe Tryz.prog 102 [qK t,qQ x] (rB (z7 t x)):=by
 refine qe.of qc (fn:=Tryz.f102) (c:=Tryz.f102.body.getD .skip) (dr:=fun n=>qa 0 [] n) Tryz.func102 rfl (by kernel_rfl) (by kernel_rfl) (by kernel_rfl) ?_
 obtain ⟨f,hf⟩:∃ f,f=qiA:=⟨_,rfl⟩
 obtain ⟨g,hg⟩:∃ f,f=jv:=⟨_,rfl⟩
 have hO:qp Tryz.prog (qJ [(103,jr g),(77,w2 Z5 (qsl 126 true true qI qP) (fun l x=>rB (f l x.1 x.2)) (fun l x=>[LLe l maxLen,qsd x.1 l,kN x.1 x.2,StT x.1 x.2]))]):=by
  subst hf hg
  exact qb W9 (qb (qG fun l x h=>by
   have g1:=(h _ (.head _)).out
   have g2:=(h _ (.tail _ (.head _))).out
   have g3:=h _ (.tail _ (.tail _ (.head _)))
   have g4:=h _ (.tail _ (.tail _ (.tail _ (.head _))))
   exact Jb l _ _ _ (fun y hy=>qdd y x.1 x.2 g3 g4 (g2 y hy)) g1) qd)
 have hr:z7 t x=(f t.ties t x||(decide (t.hor<x.now)&&!g t x)):=by
  rw [hf,hg]
  unfold z7 qiA
  rw [KY,Bool.not_and,List.not_all_eq_any_not,Bool.not_or]
  simp only [Bool.not_not]
  congr 2
  rw [<-decide_not]
  exact decide_eq_decide.2 (by omega)
 have h1:=hs.sh.tlen
 have h2:∀ q∈t.ties,Q1 t q:=fun q hq=>kD hst.sh hq
 rw [hr]
 clear hr hf hg
 obtain ⟨ns,ts,hr⟩:=t
 obtain ⟨now,times,vals⟩:=x
 dsimp only at h1 h2 ⊢
 refine SEx.go (X:=XX) qc (fun n=>qa [] [] n) (fun _=>none) hO 60 ?_
 intro M R L N m0 m1 m2 m3 m4 m5
 cases M
 cbv
 repeat' first | refine m1 _ _ ?_ ?_ | refine m2 _ _ fun h=>?_ | refine m3 _ ?_ | (refine m4 _ _ (Hd.out ?_);try first | rw [hks] | rw [hk2] | rw [hk3]) | (refine m5 _ _ ?_;cbv)
 all_goals (clear m1 m2 m3 m4 m5;cases m0;(try clear hks;try clear hk2;try clear hk3);try dsimp only)
 all_goals try simp only [sm] at *
 all_goals first
  | exact ⟨h1⟩
  | exact ⟨h2⟩
  | exact hs
  | exact hst
  | (refine qV ?_ _;clear hs hst;simp_all;done)
  | (refine qV ?_ _;rw [decide_eq_false (show ¬hr<now by omega)];simp_all;done)
  | skip
theorem qfc:qz Tryz.prog 102 (jr z7):=qG fun t x h=>qe0 t x (h _ (.head _)) (h _ (.tail _ (.head _)))
end Go.Proofs.YtfafehnchmelnaaGreat.Ai
namespace Go.Proofs.YtfafehnchmelnaaGreat.Ai
open Go
set_option maxRecDepth 100000
variable [qf]
theorem qct.le {t:qj}(h:qct t):zc t:=⟨h.len,h.tlen,fun q hq=>⟨(h.nodes q hq).name,(h.nodes q hq).len,(h.nodes q hq).label⟩⟩
structure qdc (t:qj)(n:Int):Prop where
 len:t.nodes.length<=1048576
 tlen:t.ties.length<=1048576
 labs:∀ q∈t.nodes,q.label.length<=1048576
 le:n<=1048576
theorem qrC {t:qj}(h:0<=jp t 1048576):qdc t (jp t 1048576):=by
 have:=qkm (n:=1048576) (by decide) h
 exact ⟨by omega,by omega,fun q hq=>by have:=(this.2.2.1 q hq).2;omega,this.2.2.2⟩
end Go.Proofs.YtfafehnchmelnaaGreat.Ai
namespace Go.Proofs.YtfafehnchmelnaaGreat.Ai
open Go
set_option maxRecDepth 100000
variable [qf]
theorem qeM (x:qh)(h1:x.times.length<=1048576)(h2:x.vals.length<=1048576):qe Tryz.prog 99 [qQ x] (kE x):=by
 refine qe.of qc (fn:=Tryz.f99) (c:=Tryz.f99.body.getD .skip) (dr:=fun n=>qa 0 [(1,10)] n) Tryz.func99 rfl (by kernel_rfl) (by kernel_rfl) (by kernel_rfl) ?_
 obtain ⟨now,times,vals⟩:=x
 dsimp only at h1 h2
 refine SEx.go (X:=XX) qc (fun n=>qa [] [] n) (fun _=>none) qd 60 ?_
 intro M R L N m0 m1 m2 m3 m4 m5
 cases M
 cbv
 repeat' first | refine m1 _ _ ?_ ?_ | refine m2 _ _ fun h=>?_ | refine m3 _ ?_ | (refine m4 _ _ (Hd.out ?_);try first | rw [hks] | rw [hk2] | rw [hk3]) | (refine m5 _ _ ?_;cbv)
 all_goals (clear m1 m2 m3 m4 m5;cases m0;(try clear hks;try clear hk2;try clear hk3);try dsimp only)
 all_goals try simp only [sm] at *
 all_goals first
  | (have:=qZ;omega)
  | rfl
structure qaa (x:qh):Prop where
 tlen:x.times.length<=1048576
 vlen:x.vals.length<=1048576
def Jz:Wr:=w1 qP kE (fun x=>[qaa x])
theorem Z8:qz Tryz.prog 99 Jz:=ze fun x h=>qeM x (h _ (.head _)).tlen (h _ (.head _)).vlen
def qnp (t:qj)(x:qh):Bool:=qN t&&(decide (0<=x.now)&&(decide (x.now<=t.hor)&&jR t ⟨x.now+1,x.times,x.vals⟩))
end Go.Proofs.YtfafehnchmelnaaGreat.Ai
namespace Go.Proofs.YtfafehnchmelnaaGreat.Ai
open Go
set_option maxRecDepth 100000
variable [qf]
def JJ (v ps vs:List Int):Nat->List Int
 | 0=>v
 | i+1=>(JJ v ps vs i).set (ps.getD i 0-1).toNat (vs.getD i 0)
theorem ZF (v ps vs:List Int):∀ i,(JJ v ps vs i).length=v.length
 | 0=>rfl
 | i+1=>by simp only [JJ,List.length_set,ZF v ps vs i]
structure PrT (ps:List Int):Prop where out:∀ p∈ps,1<=p/\p<=3
def qhj (x:qh)(ps vs:List Int):qh:=⟨IntKind.i64.wrap (x.now+1),x.times,JJ x.vals ps vs ps.length⟩
theorem qam (x:qh)(ps vs:List Int)(hz:qaa x)(h3:x.vals.length=3)(hl:vs.length=ps.length)(h1:ps.length<=1048576)(hp:∀ p∈ps,1<=p/\p<=3):qe Tryz.prog 124 [qQ x,aIs ps,aIs vs] (kE (qhj x ps vs)):=by
 refine qe.of qc (fn:=Tryz.f124) (c:=Tryz.f124.body.getD .skip) (dr:=fun n=>qa 0 [(5,8)] n) Tryz.func124 rfl (by kernel_rfl) (by kernel_rfl) (by kernel_rfl) ?_
 have hO:qp Tryz.prog (qJ [(99,Jz)]):=qb Z8 qd
 obtain ⟨now,times,vals⟩:=x
 dsimp only at h3
 refine SEx.go (X:=XX) qc (fun n=>qa [] [(3,[2,6,7,12,13,14])] n) (fun _=>none) hO 60 ?_
 intro M R L N m0 m1 m2 m3 m4 m5
 cases M
 cbv
 repeat' first | refine m1 _ _ ?_ ?_ | refine m2 _ _ fun h=>?_ | refine m3 _ ?_ | (refine m4 _ _ (Hd.out ?_);generalize hks:(List.cons _ _:List K)=ks) | (refine m5 _ _ ?_;cbv)
 all_goals (clear m1 m2 m3 m4 m5;cases m0;try dsimp only)
 all_goals try simp only [sm] at *
 all_goals first
  | exact hz
  | skip
 obtain ⟨m,hm⟩:∃ m,m=ps.length:=⟨_,rfl⟩
 refine ⟨SEx.same (SEx.idx m (fun i=>⟨34,[(2,bL (.i vs)),(6,bP 24576),(7,bP 28672),(12,bL (.i ps)),(13,bI m),(14,bI i)],[(24576,.obx [.fz (.int .i64 0),.onil,.onil]),(28672,.obx [.fz (.int .i64 now),.osl (.i times),.osl (.i (JJ vals ps vs i))])]⟩) (fun _=>kE (qhj ⟨now,times,vals⟩ ps vs)) ?_) (by rw [hm];rfl) rfl⟩
 intro i hi ih
 rw [<-hks]
 obtain ⟨c,hc⟩:∃ c,c=JJ vals ps vs i:=⟨_,rfl⟩
 have hcl:c.length=3:=by rw [hc,ZF,h3]
 have hpi:i<m->1<=ps.getD i 0/\ps.getD i 0<=3:=fun h=>hp _ (qo (z:=(0:Int)) (by omega)).out
 have hw:i<m->IntKind.i64.wrap (ps.getD i 0-1)=ps.getD i 0-1:=fun h=>by have:=hpi h;exact qx (by omega) (by omega)
 rw [<-hc]
 refine SEx.go (X:=XX) qc (fun n=>qa [] [(3,[2,6,7,12,13,14])] n) (fun _=>none) hO 60 ?_
 intro M R L N m0 m1 m2 m3 m4 m5
 cases M
 cbv
 repeat' first | refine m1 _ _ ?_ ?_ | refine m2 _ _ fun h=>?_ | refine m3 _ ?_ | (refine m4 _ _ (Hd.out ?_);try first | rw [hks] | rw [hk2] | rw [hk3]) | (refine m5 _ _ ?_;cbv)
 all_goals (clear m1 m2 m3 m4 m5;cases m0;(try clear hks;try clear hk2;try clear hk3);try dsimp only)
 all_goals try simp only [sm] at *
 all_goals (try (have h8:=hpi (by omega)))
 all_goals (try rw [hw (by omega)] at *)
 all_goals (try simp only [qg (show i<9223372036854775807 by omega)])
 all_goals first
  | omega
  | (refine ⟨(ih (by omega)).same ?_ rfl⟩;show _=_;rw [show JJ vals ps vs (i+1)=c.set (ps.getD i 0-1).toNat (vs.getD i 0) by rw [hc];rfl];rfl)
  | (obtain rfl:i=m:=by omega
     unfold qhj
     rw [<-hm,hc];rfl)
  | skip
theorem qlz (l:List Int)(h1:l.length<=1048576):qe Tryz.prog 69 [aIs l] (rIs l):=by
 refine qe.of qc (fn:=Tryz.f69) (c:=Tryz.f69.body.getD .skip) (dr:=fun n=>qa 0 [] n) Tryz.func69 rfl (by kernel_rfl) (by kernel_rfl) (by kernel_rfl) ?_
 refine SEx.go (X:=XX) qc (fun n=>qa [] [] n) (fun _=>none) qd 60 ?_
 intro M R L N m0 m1 m2 m3 m4 m5
 cases M
 cbv
 repeat' first | refine m1 _ _ ?_ ?_ | refine m2 _ _ fun h=>?_ | refine m3 _ ?_ | (refine m4 _ _ (Hd.out ?_);try first | rw [hks] | rw [hk2] | rw [hk3]) | (refine m5 _ _ ?_;cbv)
 all_goals (clear m1 m2 m3 m4 m5;cases m0;(try clear hks;try clear hk2;try clear hk3);try dsimp only)
 all_goals try simp only [sm] at *
 all_goals first
  | (have:=qZ;omega)
  | (have hl:l=[]:=List.eq_nil_of_length_eq_zero (by omega)
     subst hl;rfl)
  | rfl
end Go.Proofs.YtfafehnchmelnaaGreat.Ai
namespace Go.Proofs.YtfafehnchmelnaaGreat.Ai
open Go
set_option maxRecDepth 100000
variable [qf]
def qcp:Wr:=w1 kz rIs (fun l=>[LLe l 1048576])
theorem yl:qz Tryz.prog 69 qcp:=ze fun l h=>qlz l (h _ (.head _)).out
theorem qcn (x:qh)(hz:qaa x):qe Tryz.prog 135 [qQ x] (kE x):=by
 refine qe.of qc (fn:=Tryz.f135) (c:=Tryz.f135.body.getD .skip) (dr:=fun n=>qa 0 [(1,8)] n) Tryz.func135 rfl (by kernel_rfl) (by kernel_rfl) (by kernel_rfl) ?_
 have hO:qp Tryz.prog (qJ [(69,qcp)]):=qb yl qd
 have h1:=hz.tlen
 have h2:=hz.vlen
 clear hz
 obtain ⟨now,times,vals⟩:=x
 dsimp only at h1 h2
 refine SEx.go (X:=XX) qc (fun n=>qa [] [] n) (fun _=>none) hO 60 ?_
 intro M R L N m0 m1 m2 m3 m4 m5
 cases M
 cbv
 repeat' first | refine m1 _ _ ?_ ?_ | refine m2 _ _ fun h=>?_ | refine m3 _ ?_ | (refine m4 _ _ (Hd.out ?_);try first | rw [hks] | rw [hk2] | rw [hk3]) | (refine m5 _ _ ?_;cbv)
 all_goals (clear m1 m2 m3 m4 m5;cases m0;(try clear hks;try clear hk2;try clear hk3);try dsimp only)
 all_goals try simp only [sm] at *
 all_goals first
  | exact ⟨h1⟩
  | exact ⟨h2⟩
  | rfl
def VF:Wr:=w1 qP kE (fun x=>[qaa x])
theorem wl:qz Tryz.prog 135 VF:=ze fun x h=>qcn x (h _ (.head _))
theorem Vt (x:qh)(ps vs:List Int)(hz:qaa x)(h3:x.vals.length=3)(hl:vs.length=ps.length)(h1:ps.length<=1048576)(hp:∀ p∈ps,1<=p/\p<=3):qe Tryz.prog 147 [qQ x,aIs ps,aIs vs] (kE (qhj x ps vs)):=by
 refine qe.of qc (fn:=Tryz.f147) (c:=Tryz.f147.body.getD .skip) (dr:=fun n=>qa 0 [(5,8)] n) Tryz.func147 rfl (by kernel_rfl) (by kernel_rfl) (by kernel_rfl) ?_
 have hO:qp Tryz.prog (qJ [(135,VF)]):=qb wl qd
 obtain ⟨now,times,vals⟩:=x
 dsimp only at h3
 refine SEx.go (X:=XX) qc (fun n=>qa [] [(3,[2,6,7,12,13,14])] n) (fun _=>none) hO 60 ?_
 intro M R L N m0 m1 m2 m3 m4 m5
 cases M
 cbv
 repeat' first | refine m1 _ _ ?_ ?_ | refine m2 _ _ fun h=>?_ | refine m3 _ ?_ | (refine m4 _ _ (Hd.out ?_);generalize hks:(List.cons _ _:List K)=ks) | (refine m5 _ _ ?_;cbv)
 all_goals (clear m1 m2 m3 m4 m5;cases m0;try dsimp only)
 all_goals try simp only [sm] at *
 all_goals first
  | exact hz
  | skip
 obtain ⟨m,hm⟩:∃ m,m=ps.length:=⟨_,rfl⟩
 refine ⟨SEx.same (SEx.idx m (fun i=>⟨34,[(2,bL (.i vs)),(6,bP 24576),(7,bP 28672),(12,bL (.i ps)),(13,bI m),(14,bI i)],[(24576,.obx [.fz (.int .i64 0),.onil,.onil]),(28672,.obx [.fz (.int .i64 now),.osl (.i times),.osl (.i (JJ vals ps vs i))])]⟩) (fun _=>kE (qhj ⟨now,times,vals⟩ ps vs)) ?_) (by rw [hm];rfl) rfl⟩
 intro i hi ih
 rw [<-hks]
 obtain ⟨c,hc⟩:∃ c,c=JJ vals ps vs i:=⟨_,rfl⟩
 have hcl:c.length=3:=by rw [hc,ZF,h3]
 have hpi:i<m->1<=ps.getD i 0/\ps.getD i 0<=3:=fun h=>hp _ (qo (z:=(0:Int)) (by omega)).out
 have hw:i<m->IntKind.i64.wrap (ps.getD i 0-1)=ps.getD i 0-1:=fun h=>by have:=hpi h;exact qx (by omega) (by omega)
 rw [<-hc]
 refine SEx.go (X:=XX) qc (fun n=>qa [] [(3,[2,6,7,12,13,14])] n) (fun _=>none) hO 60 ?_
 intro M R L N m0 m1 m2 m3 m4 m5
 cases M
 cbv
 repeat' first | refine m1 _ _ ?_ ?_ | refine m2 _ _ fun h=>?_ | refine m3 _ ?_ | (refine m4 _ _ (Hd.out ?_);try first | rw [hks] | rw [hk2] | rw [hk3]) | (refine m5 _ _ ?_;cbv)
 all_goals (clear m1 m2 m3 m4 m5;cases m0;(try clear hks;try clear hk2;try clear hk3);try dsimp only)
 all_goals try simp only [sm] at *
 all_goals (try (have h8:=hpi (by omega)))
 all_goals (try rw [hw (by omega)] at *)
 all_goals (try simp only [qg (show i<9223372036854775807 by omega)])
 all_goals first
  | omega
  | (refine ⟨(ih (by omega)).same ?_ rfl⟩;show _=_;rw [show JJ vals ps vs (i+1)=c.set (ps.getD i 0-1).toNat (vs.getD i 0) by rw [hc];rfl];rfl)
  | (obtain rfl:i=m:=by omega
     unfold qhj
     rw [<-hm,hc];rfl)
  | skip
def obF (v ps vs:List Int):List Int:=JJ v ps vs ps.length
structure V3 (v:List Int):Prop where out:v.length=3
structure SLn (a b:List Int):Prop where out:a.length=b.length
def nxI (n:Int):Int:=IntKind.i64.wrap (n+1)
def qpp (g:Int->Int)(f:List Int->List Int->List Int->List Int):Wr:=w3 qP kz kz (fun x ps vs=>kE ⟨g x.now,x.times,f x.vals ps vs⟩) (fun x ps vs=>[qaa x,V3 x.vals,SLn vs ps,LLe ps 1048576,PrT ps])
theorem qnc:qz Tryz.prog 124 (qpp nxI obF):=jK fun x ps vs h=>qam x ps vs (h _ (.head _)) (h _ (.tail _ (.head _))).out (h _ (.tail _ (.tail _ (.head _)))).out (h _ (.tail _ (.tail _ (.tail _ (.head _))))).out (h _ (.tail _ (.tail _ (.tail _ (.tail _ (.head _)))))).out
theorem qn2:qz Tryz.prog 147 (qpp nxI obF):=jK fun x ps vs h=>Vt x ps vs (h _ (.head _)) (h _ (.tail _ (.head _))).out (h _ (.tail _ (.tail _ (.head _)))).out (h _ (.tail _ (.tail _ (.tail _ (.head _))))).out (h _ (.tail _ (.tail _ (.tail _ (.tail _ (.head _)))))).out
end Go.Proofs.YtfafehnchmelnaaGreat.Ai
namespace Go.Proofs.YtfafehnchmelnaaGreat.Ai
open Go
set_option maxRecDepth 100000
variable [qf]
theorem qlH (l:List Tie)(h1:l.length<=1048576):qe Tryz.prog 68 [W5 l] (qet l):=by
 refine qe.of qc (fn:=Tryz.f68) (c:=Tryz.f68.body.getD .skip) (dr:=fun n=>qa 0 [] n) Tryz.func68 rfl (by kernel_rfl) (by kernel_rfl) (by kernel_rfl) ?_
 refine SEx.go (X:=XX) qc (fun n=>qa [] [] n) (fun _=>none) qd 60 ?_
 intro M R L N m0 m1 m2 m3 m4 m5
 cases M
 cbv
 repeat' first | refine m1 _ _ ?_ ?_ | refine m2 _ _ fun h=>?_ | refine m3 _ ?_ | (refine m4 _ _ (Hd.out ?_);try first | rw [hks] | rw [hk2] | rw [hk3]) | (refine m5 _ _ ?_;cbv)
 all_goals (clear m1 m2 m3 m4 m5;cases m0;(try clear hks;try clear hk2;try clear hk3);try dsimp only)
 all_goals try simp only [sm] at *
 all_goals first
  | (have:=qZ;omega)
  | (have hl:l=[]:=List.eq_nil_of_length_eq_zero (by omega)
     subst hl;rfl)
  | rfl
def qiC:Wr:=w1 Z5 qet (fun l=>[LLe l 1048576])
theorem qg0:qz Tryz.prog 68 qiC:=ze fun l h=>qlH l (h _ (.head _)).out
theorem qii {α:Type}{l:List α}{i:Nat}(z:α)(h:i<l.length):l.take (i+1)=l.take i++[l.getD i z]:=by
 rw [List.take_add_one,List.getElem?_eq_getElem h,zu h,Option.toList_some]
structure QA (t:qj):Prop where
 len:t.nodes.length<=1048576
 tlen:t.ties.length<=1048576
 labs:∀ q∈t.nodes,q.label.length<=1048576
theorem qfM (t:qj)(ht:QA t):qe Tryz.prog 36 [qK t] (YN t):=by
 refine qe.of qc (fn:=Tryz.f36) (c:=Tryz.f36.body.getD .skip) (dr:=fun n=>qa 0 [(1,7)] n) Tryz.func36 rfl (by kernel_rfl) (by kernel_rfl) (by kernel_rfl) ?_
 have hO:qp Tryz.prog (qJ [(68,qiC),(69,qcp)]):=qb qg0 (qb yl qd)
 obtain ⟨h1,h2,h3⟩:=ht
 obtain ⟨ns,ts,hr⟩:=t
 dsimp only at h1 h2 h3
 refine SEx.go (X:=XX) qc (fun n=>qa [] [(3,[2,3,13,14,15])] n) (fun _=>none) hO 60 ?_
 intro M R L N m0 m1 m2 m3 m4 m5
 cases M
 cbv
 repeat' first | refine m1 _ _ ?_ ?_ | refine m2 _ _ fun h=>?_ | refine m3 _ ?_ | (refine m4 _ _ (Hd.out ?_);generalize hks:(List.cons _ _:List K)=ks) | (refine m5 _ _ ?_;cbv)
 all_goals (clear m1 m2 m3 m4 m5;cases m0;try dsimp only)
 all_goals try simp only [sm] at *
 all_goals first
  | exact ⟨h2⟩
  | skip
 obtain ⟨m,hm⟩:∃ m,m=ns.length:=⟨_,rfl⟩
 refine ⟨SEx.same (SEx.idx m (fun i=>⟨31,[(2,bP 8192),(3,bP 12288),(13,bL (.node false none ns)),(14,bI m),(15,bI i)],[(8192,.obx [.onil,.onil,.fz (.int .i64 0)]),(12288,.obx [.osl (.node true none (ns.take i)),.osl (.tie ts),.fz (.int .i64 hr)])]⟩) (fun _=>YN ⟨ns,ts,hr⟩) ?_) (by rw [hm];rfl) rfl⟩
 intro i hi ih
 rw [<-hks]
 obtain ⟨c,hc⟩:∃ c,c=ns.take i:=⟨_,rfl⟩
 have hcl:c.length=i:=by rw [hc,List.length_take];omega
 rw [<-hc]
 refine SEx.go (X:=XX) qc (fun n=>qa [] [(3,[2,3,13,14,15])] n) (fun _=>none) hO 60 ?_
 intro M R L N m0 m1 m2 m3 m4 m5
 cases M
 cbv
 repeat' first | refine m1 _ _ ?_ ?_ | refine m2 _ _ fun h=>?_ | refine m3 _ ?_ | (refine m4 _ _ (Hd.out ?_);try first | rw [hks] | rw [hk2] | rw [hk3]) | (refine m5 _ _ ?_;cbv)
 all_goals (clear m1 m2 m3 m4 m5;cases m0;(try clear hks;try clear hk2;try clear hk3);try dsimp only)
 all_goals try simp only [sm] at *
 all_goals (try simp only [qg (show i<9223372036854775807 by omega)])
 all_goals first
  | omega
  | rfl
  | (have:=qZ;omega)
  | (have:=qZ;rw [List.length_singleton];omega)
  | exact ⟨h3 _ (qo (z:=qi.z) (by omega)).out⟩
  | (refine ⟨(ih (by omega)).same ?_ rfl⟩;show _=_;rw [qii qi.z (by omega),<-hc];rfl)
  | (obtain rfl:i=m:=by omega
     rw [hm,List.take_length] at hc
     rw [hc];rfl)
  | skip
def Jl:Wr:=w1 qI YN (fun t=>[QA t])
theorem qcz:qz Tryz.prog 36 Jl:=ze fun t h=>qfM t (h _ (.head _))
theorem qg9 (t:qj)(ht:QA t):qe Tryz.prog 35 [qK t] (YN t):=by
 refine qe.of qc (fn:=Tryz.f35) (c:=Tryz.f35.body.getD .skip) (dr:=fun n=>qa 0 [(1,8),(5,33619979)] n) Tryz.func35 rfl (by kernel_rfl) (by kernel_rfl) (by kernel_rfl) ?_
 have hO:qp Tryz.prog (qJ []):=qd
 obtain ⟨h1,h2,h3⟩:=ht
 obtain ⟨ns,ts,hr⟩:=t
 dsimp only at h1 h2 h3
 refine SEx.go (X:=XX) qc (fun n=>qa [] [(3,[2,3,14,15,16])] n) (fun _=>none) hO 60 ?_
 intro M R L N m0 m1 m2 m3 m4 m5
 cases M
 cbv
 repeat' first | refine m1 _ _ ?_ ?_ | refine m2 _ _ fun h=>?_ | refine m3 _ ?_ | (refine m4 _ _ (Hd.out ?_);generalize hks:(List.cons _ _:List K)=ks) | (refine m5 _ _ ?_;cbv)
 all_goals (clear m1 m2 m3 m4 m5;cases m0;try dsimp only)
 all_goals try simp only [sm] at *
 all_goals first
  | (have:=qZ;omega)
  | skip
 obtain ⟨m,hm⟩:∃ m,m=ns.length:=⟨_,rfl⟩
 refine ⟨SEx.same (SEx.idx m (fun i=>⟨36,[(2,bP 8192),(3,bP 12288),(14,bL (.node false none ns)),(15,bI m),(16,bI i)],[(8192,.obx [.onil,.onil,.fz (.int .i64 0)]),(12288,.obx [.osl (.node true none (ns.take i)),.osl (.tie ts),.fz (.int .i64 hr)])]⟩) (fun _=>YN ⟨ns,ts,hr⟩) ?_) (by rw [hm];rfl) rfl⟩
 intro i hi ih
 rw [<-hks]
 obtain ⟨c,hc⟩:∃ c,c=ns.take i:=⟨_,rfl⟩
 have hcl:c.length=i:=by rw [hc,List.length_take];omega
 rw [<-hc]
 have h4:i<m->(ns.getD i qi.z).label.length<=1048576:=fun h=>h3 _ (qo (z:=qi.z) (by omega)).out
 refine SEx.go (X:=XX) qc (fun n=>qa [] [(3,[2,3,14,15,16])] n) (fun _=>none) hO 60 ?_
 intro M R L N m0 m1 m2 m3 m4 m5
 cases M
 cbv
 repeat' first | refine m1 _ _ ?_ ?_ | refine m2 _ _ fun h=>?_ | refine m3 _ ?_ | (refine m4 _ _ (Hd.out ?_);try first | rw [hks] | rw [hk2] | rw [hk3]) | (refine m5 _ _ ?_;cbv)
 all_goals (clear m1 m2 m3 m4 m5;cases m0;(try clear hks;try clear hk2;try clear hk3);try dsimp only)
 all_goals try simp only [sm] at *
 all_goals (try simp only [qg (show i<9223372036854775807 by omega)])
 all_goals first
  | omega
  | rfl
  | (have:=qZ;omega)
  | (have:=qZ;rw [List.length_singleton];omega)
  | (have:=qZ;exact Nat.le_trans (h4 (by omega)) (by omega))
  | (refine ⟨(ih (by omega)).same ?_ rfl⟩;show _=_;rw [qii qi.z (by omega),<-hc];rfl)
  | (obtain rfl:i=m:=by omega
     rw [hm,List.take_length] at hc
     rw [hc];rfl)
  | skip
theorem qem:qz Tryz.prog 35 Jl:=ze fun t h=>qg9 t (h _ (.head _))
end Go.Proofs.YtfafehnchmelnaaGreat.Ai
namespace Go.Proofs.YtfafehnchmelnaaGreat.Ai
open Go
set_option maxRecDepth 100000
variable [qf]
def KA (t:qj)(k b:Int):qj:=⟨t.nodes,JL Tie.z t.ties k.toNat (fun q=>{ q with high:=IntKind.i64.wrap ((t.ties.getD k.toNat Tie.z).high+b) }),t.hor⟩
def qsv (t:qj)(k:Int)(fr:Bool):Bool:=qN t&&(decide (0<=k/\k<t.ties.length)&&((t.ties.getD k.toNat Tie.z).free == fr))
def Qh (t:qj)(k b:Int)(fr:Bool):Bool:=qsv t k fr&&qN (KA t k b)
def qeo (t:qj)(b:Bool):TV W:=.tup [(true,t.w),(false,[.fz (.bool false b)])]
def qeL (s:qj)(b:Bool):TV W:=match b with | true=>qeo s true | false=>qeo ⟨[],[],0⟩ false
def qbk (t:qj)(k b:Int)(fr:Bool):qj:=match Qh t k b fr with | true=>KA t k b | false=>⟨[],[],0⟩
theorem qmV (t:qj)(k b:Int)(fr:Bool):qeL (KA t k b) (Qh t k b fr)=qeo (qbk t k b fr) (Qh t k b fr):=by
 unfold qbk qeL
 cases Qh t k b fr<;>rfl
theorem yS {t:qj}(h:zc t)(k b:Int):zc (KA t k b):=⟨h.len,by unfold KA;rw [KQ];exact h.tlen,h.nodes⟩
theorem qgj (t:qj)(k b:Int)(fr:Bool)(ht:zc t)(hz:QA t)(hk:inI k):qe Tryz.prog 48 [qK t,aI k,aI b,aB fr] (qeL (KA t k b) (Qh t k b fr)):=by
 refine qe.of qc (fn:=Tryz.f48) (c:=Tryz.f48.body.getD .skip) (dr:=fun n=>qa 0 [] n) Tryz.func48 rfl (by kernel_rfl) (by kernel_rfl) (by kernel_rfl) ?_
 rw [kx] at hk
 have ho:=yS ht k b
 have h1:=ht.tlen
 obtain ⟨f1,hf1⟩:∃ f,f=qN:=⟨_,rfl⟩
 obtain ⟨f0,hf0⟩:∃ f,f=Jy:=⟨_,rfl⟩
 have hO:qp Tryz.prog (qJ [(21,jV f1),(74,qb7 f0),(36,Jl)]):=by
  subst hf1 hf0
  exact qb Q7 (qb YE (qb qcz qd))
 obtain ⟨s,hs⟩:∃ s,s=KA t k b:=⟨_,rfl⟩
 obtain ⟨r,hr⟩:∃ r,r=Qh t k b fr:=⟨_,rfl⟩
 rw [<-hs,<-hr]
 obtain ⟨ns,ts,h0⟩:=t
 dsimp only at h1
 have hre:r=(f1 ⟨ns,ts,h0⟩&&(decide (0<=k/\k<ts.length)&&((ts.getD k.toNat Tie.z).free == fr))&&f1 s):=by rw [hr,hs,hf1];rfl
 have hse:s=⟨ns,JL Tie.z ts k.toNat (fun q=>{ q with high:=IntKind.i64.wrap ((ts.getD k.toNat Tie.z).high+b) }),h0⟩:=hs
 rw [<-hs] at ho
 have hft:f0 ts.length k=true->0<=k/\k<ts.length:=fun h=>by rw [hf0] at h;exact of_decide_eq_true h
 have hff:f0 ts.length k=false->¬(0<=k/\k<ts.length):=fun h=>by rw [hf0] at h;exact of_decide_eq_false h
 have hF1:f1 ⟨ns,ts,h0⟩=false->r=false:=fun h=>by rw [hre,h];rfl
 have hF2:¬(0<=k/\k<ts.length)->r=false:=fun h=>by rw [hre,decide_eq_false h];simp
 have hF3:¬(ts.getD k.toNat Tie.z).free=fr->r=false:=fun h=>by rw [hre,beq_eq_false_iff_ne.2 h];simp
 have hF4:f1 s=false->r=false:=fun h=>by rw [hre,h];simp
 have hF5:f1 ⟨ns,ts,h0⟩=true->(0<=k/\k<ts.length)->(ts.getD k.toNat Tie.z).free=fr->f1 s=true->r=true:=fun a b c d=>by rw [hre,a,decide_eq_true b,beq_iff_eq.2 c,d];rfl
 rw [hse] at hF4 hF5 ho ⊢
 clear hr hs hf1 hre hse
 delta Tie.free at hF3 hF5
 delta Tie.high Tie.src Tie.dst Tie.low Tie.free at hF4 hF5 ho ⊢
 unfold maxLen at h1
 refine SEx.go (X:=XX) qc (fun n=>qa [] [] n) (fun _=>none) hO 90 ?_
 intro M R L N m0 m1 m2 m3 m4 m5
 cases M
 cbv
 repeat' first | refine m1 _ _ ?_ ?_ | refine m2 _ _ fun h=>?_ | refine m3 _ ?_ | (refine m4 _ _ (Hd.out ?_);try first | rw [hks] | rw [hk2] | rw [hk3]) | (refine m5 _ _ ?_;cbv)
 all_goals (clear m1 m2 m3 m4 m5;cases m0;(try clear hks;try clear hk2;try clear hk3);try dsimp only)
 all_goals try simp only [sm] at *
 all_goals (clear hO)
 all_goals (try (have hq:=hft (by assumption)))
 all_goals first
  | exact ht
  | exact hz
  | exact ho
  | exact hq
  | omega
  | (rw [hF1 (by assumption)];rfl)
  | (rw [hF2 (hff (by assumption))];rfl)
  | (rw [hF3 (by assumption)];rfl)
  | (rw [hF4 (by assumption)];rfl)
  | (rw [hF5 (by assumption) hq (by assumption) (by assumption)];rfl)
  | skip
end Go.Proofs.YtfafehnchmelnaaGreat.Ai
namespace Go.Proofs.YtfafehnchmelnaaGreat.Ai
open Go
set_option maxRecDepth 100000
variable [qf]
def sgB (fr:Bool)(y:Int):Int:=match fr with | true=>-y | false=>y
def ji (fr:Bool)(t:qj)(k y:Int):Bool:=decide (0<=y/\y<=20)&&Qh t k (sgB fr y) fr
def JN (fr:Bool)(t:qj)(k y:Int):qj:=match ji fr t k y with | true=>KA t k (sgB fr y) | false=>⟨[],[],0⟩
theorem qpQ (fr:Bool)(t:qj)(k y:Int):qeL (KA t k (sgB fr y)) (ji fr t k y)=qeo (JN fr t k y) (ji fr t k y):=by
 unfold JN qeL
 cases ji fr t k y<;>rfl
theorem qpj {fr:Bool}{t:qj}{k y:Int}(h:0<=y/\y<=20):JN fr t k y=qbk t k (sgB fr y) fr/\ji fr t k y=Qh t k (sgB fr y) fr:=by
 have h1:ji fr t k y=Qh t k (sgB fr y) fr:=by unfold ji;rw [decide_eq_true h];rfl
 refine ⟨?_,h1⟩
 unfold JN qbk
 first
  | (rw [h1];done)
  | (rw [h1];cases Qh t k (sgB fr y) fr<;>rfl)
theorem qmS {fr:Bool}{t:qj}{k y:Int}(h:¬(0<=y/\y<=20)):JN fr t k y=⟨[],[],0⟩/\ji fr t k y=false:=by
 have h1:ji fr t k y=false:=by unfold ji;rw [decide_eq_false h];rfl
 refine ⟨?_,h1⟩
 unfold JN
 rw [h1]
structure qq2 (t:qj)(k y:Int):Prop where
 le:zc t
 mem:QA t
 k:inI k
 y:inI y
structure qrH (t:qj)(k:Int):Prop where
 le:zc t
 mem:QA t
 k:inI k
def qqj (fs:qj->Int->Int->Bool->qj)(f:qj->Int->Int->Bool->Bool):Wr:=w4 qI dcI dcI dcB (fun t k b fr=>qeo (fs t k b fr) (f t k b fr)) (fun t k _ _=>[qrH t k])
theorem ql3:qz Tryz.prog 48 (qqj qbk Qh):=qrN fun t k b fr h=>by
 have h:=h _ (.head _)
 rw [<-qmV]
 exact qgj t k b fr h.le h.mem h.k
def qi6 (fs:qj->Int->Int->qj)(f:qj->Int->Int->Bool):Wr:=w3 qI dcI dcI (fun t k y=>qeo (fs t k y) (f t k y)) (fun t k y=>[qq2 t k y])
theorem Vu (t:qj)(k y:Int)(h:qq2 t k y):qe Tryz.prog 23 [qK t,aI k,aI y] (qeo (JN true t k y) (ji true t k y)):=by
 refine qe.of qc (fn:=Tryz.f23) (c:=Tryz.f23.body.getD .skip) (dr:=fun n=>qa 0 [] n) Tryz.func23 rfl (by kernel_rfl) (by kernel_rfl) (by kernel_rfl) ?_
 obtain ⟨ht,hz,hk,hy⟩:=h
 rw [kx] at hy
 have hin:=qpj (fr:=true) (t:=t) (k:=k) (y:=y)
 have hout:=qmS (fr:=true) (t:=t) (k:=k) (y:=y)
 dsimp only [sgB] at hin
 obtain ⟨fs,hfs⟩:∃ f,f=qbk:=⟨_,rfl⟩
 obtain ⟨f,hf⟩:∃ f,f=Qh:=⟨_,rfl⟩
 have hO:qp Tryz.prog (qJ [(48,qqj fs f)]):=by subst hfs hf;exact qb ql3 qd
 rw [<-hfs,<-hf] at hin
 clear hfs hf
 obtain ⟨s,hs⟩:∃ s,s=JN true t k y:=⟨_,rfl⟩
 obtain ⟨r,hr⟩:∃ r,r=ji true t k y:=⟨_,rfl⟩
 rw [<-hs,<-hr] at hin hout ⊢
 clear hs hr
 have hw:0<=y/\y<=20->IntKind.i64.wrap (0-y)=-y:=fun h=>by rw [qx (by omega) (by omega)];omega
 obtain ⟨ns,ts,h0⟩:=t
 refine SEx.go (X:=XX) qc (fun n=>qa [] [] n) (fun _=>none) hO 60 ?_
 intro M R L N m0 m1 m2 m3 m4 m5
 cases M
 cbv
 repeat' first | refine m1 _ _ ?_ ?_ | refine m2 _ _ fun h=>?_ | refine m3 _ ?_ | (refine m4 _ _ (Hd.out ?_);try first | rw [hks] | rw [hk2] | rw [hk3]) | (refine m5 _ _ ?_;cbv)
 all_goals (clear m1 m2 m3 m4 m5;cases m0;(try clear hks;try clear hk2;try clear hk3);try dsimp only)
 all_goals try simp only [sm] at *
 all_goals (clear hO)
 all_goals first
  | exact ⟨ht,hz,hk⟩
  | (obtain ⟨e1,e2⟩:=hout (by omega);rw [e1,e2];rfl)
  | (obtain ⟨e1,e2⟩:=hin (by omega);rw [hw (by omega)];rw [e1,e2];rfl)
  | skip
theorem Vo (t:qj)(k y:Int)(h:qq2 t k y):qe Tryz.prog 37 [qK t,aI k,aI y] (qeo (JN true t k y) (ji true t k y)):=by
 refine qe.of qc (fn:=Tryz.f37) (c:=Tryz.f37.body.getD .skip) (dr:=fun n=>qa 0 [(4,11)] n) Tryz.func37 rfl (by kernel_rfl) (by kernel_rfl) (by kernel_rfl) ?_
 obtain ⟨ht,hz,hk,hy⟩:=h
 rw [kx] at hk hy
 have ho:=yS ht k (sgB true y)
 have h1:=ht.tlen
 rw [<-qpQ]
 obtain ⟨f1,hf1⟩:∃ f,f=qN:=⟨_,rfl⟩
 obtain ⟨f0,hf0⟩:∃ f,f=zV:=⟨_,rfl⟩
 have hO:qp Tryz.prog (qJ [(26,jV f1),(39,qb0 f0),(35,Jl)]):=by
  subst hf1 hf0
  exact qb Zh (qb Zf (qb qem qd))
 obtain ⟨s,hs⟩:∃ s,s=KA t k (sgB true y):=⟨_,rfl⟩
 obtain ⟨r,hr⟩:∃ r,r=ji true t k y:=⟨_,rfl⟩
 rw [<-hs,<-hr]
 obtain ⟨ns,ts,h0⟩:=t
 dsimp only at h1
 have hre:r=(decide (0<=y/\y<=20)&&((f1 ⟨ns,ts,h0⟩&&(decide (0<=k/\k<ts.length)&&((ts.getD k.toNat Tie.z).free == true)))&&f1 s)):=by rw [hr,hs,hf1];rfl
 have hse:s=⟨ns,JL Tie.z ts k.toNat (fun q=>{ q with high:=IntKind.i64.wrap ((ts.getD k.toNat Tie.z).high-y) }),h0⟩:=by rw [hs];unfold KA sgB;dsimp only;rw [Int.sub_eq_add_neg]
 rw [<-hs] at ho
 have h1':ts.length<=9223372036854775807:=h1
 have hw1:IntKind.i64.wrap ((ts.length:Int)-1)=(ts.length:Int)-1:=qx (by omega) (by omega)
 have hft:f0 k 0 ((ts.length:Int)-1)=true->0<=k/\k<ts.length:=fun h=>by rw [hf0] at h;unfold zV at h;simp only [Bool.and_eq_true,decide_eq_true_eq] at h;omega
 have hff:f0 k 0 ((ts.length:Int)-1)=false->¬(0<=k/\k<ts.length):=fun h h2=>by rw [hf0] at h;unfold zV at h;rw [decide_eq_true h2.1,decide_eq_true (show k<=(ts.length:Int)-1 by omega)] at h;cases h
 have hyt:f0 y 0 20=true->0<=y/\y<=20:=fun h=>by rw [hf0] at h;unfold zV at h;simp only [Bool.and_eq_true,decide_eq_true_eq] at h;exact h
 have hyf:f0 y 0 20=false->¬(0<=y/\y<=20):=fun h h2=>by rw [hf0] at h;unfold zV at h;rw [decide_eq_true h2.1,decide_eq_true h2.2] at h;cases h
 have hF0:¬(0<=y/\y<=20)->r=false:=fun h=>by rw [hre,decide_eq_false h];rfl
 have hF1:f1 ⟨ns,ts,h0⟩=false->r=false:=fun h=>by rw [hre,h];simp
 have hF2:¬(0<=k/\k<ts.length)->r=false:=fun h=>by rw [hre,decide_eq_false h];simp
 have hF3:(ts.getD k.toNat Tie.z).free=!true->r=false:=fun h=>by rw [hre,h];simp
 have hF4:f1 s=false->r=false:=fun h=>by rw [hre,h];simp
 have hF5:(0<=y/\y<=20)->f1 ⟨ns,ts,h0⟩=true->(0<=k/\k<ts.length)->(ts.getD k.toNat Tie.z).free=true->f1 s=true->r=true:=fun e a b c d=>by rw [hre,decide_eq_true e,a,decide_eq_true b,c,d];rfl
 rw [hse] at hF4 hF5 ho ⊢
 clear hr hs hf1 hre hse hf0 h1
 delta Tie.free at hF3
 delta Tie.high Tie.src Tie.dst Tie.low Tie.free at hF4 hF5 ho ⊢
 refine SEx.go (X:=XX) qc (fun n=>qa [] [] n) (fun _=>none) hO 90 ?_
 intro M R L N m0 m1 m2 m3 m4 m5
 cases M
 cbv
 repeat' first | refine m1 _ _ ?_ ?_ | refine m2 _ _ fun h=>?_ | refine m3 _ ?_ | (refine m4 _ _ (Hd.out ?_);try first | rw [hks] | rw [hk2] | rw [hk3]) | (refine m5 _ _ ?_;cbv)
 all_goals (clear m1 m2 m3 m4 m5;cases m0;(try clear hks;try clear hk2;try clear hk3);try dsimp only)
 all_goals try simp only [sm] at *
 all_goals (clear hO)
 all_goals (try simp only [hw1] at *)
 all_goals (try (have hq:=hft (by assumption)))
 all_goals first
  | exact ht
  | exact hz
  | exact ho
  | exact hq
  | omega
  | (rw [hF1 (by assumption)];rfl)
  | (rw [hF2 (hff (by assumption))];rfl)
  | (rw [hF3 (by assumption)];rfl)
  | (rw [hF0 (hyf (by assumption))];rfl)
  | (rw [hF4 (by assumption)];rfl)
  | (rw [hF5 (hyt (by assumption)) (by assumption) hq (by assumption) (by assumption)];rfl)
  | skip
theorem qaw:qz Tryz.prog 37 (qi6 (JN true) (ji true)):=jK fun t k y h=>Vo t k y (h _ (.head _))
theorem qau:qz Tryz.prog 23 (qi6 (JN true) (ji true)):=jK fun t k y h=>Vu t k y (h _ (.head _))
end Go.Proofs.YtfafehnchmelnaaGreat.Ai
namespace Go.Proofs.YtfafehnchmelnaaGreat.Ai
open Go
set_option maxRecDepth 100000
variable [qf]
theorem qdc.mem {t:qj}{n:Int}(h:qdc t n):QA t:=⟨h.len,h.tlen,h.labs⟩
end Go.Proofs.YtfafehnchmelnaaGreat.Ai
namespace Go.Proofs.YtfafehnchmelnaaGreat.Ai
open Go
set_option maxRecDepth 100000
variable [qf]
def z8 (p:Int->Bool)(l:List Int):List Int:=l.filter fun x=>!p x
def YQ (p:Int->Bool)(l:List Int):List Int:=z8 p l++List.replicate (l.length-(z8 p l).length) 0
def qn9 (g:FuncId)(caps:List D)(l:List Int)(p:Int->Bool)(L:List (Nat×Wr)):Qg:=fun g' as'=>match as' with
 | (false,[.int .i64 q])::r=>some ([qnd g' g r caps,Mem q l],rB (p q))
 | xs=>qJ L g' xs
theorem qnJ {P:Program}{g:FuncId}{caps:List D}{l:List Int}{p:Int->Bool}{L:List (Nat×Wr)}(hp:∀ q∈l,qe P g (aI q::Qt caps) (rB (p q)))(hL:qp P (qJ L)):qp P (qn9 g caps l p L):=by
 intro g' as'
 unfold qn9
 split
 . refine R.Sim.mk fun hq=>?_
   obtain ⟨rfl,rfl⟩:=hq _ (.head _)
   exact hp _ (hq _ (.tail _ (.head _))).out
 . exact hL _ _
theorem wz {α:Type}(p:α->Bool)(z:α):∀ (l:List α) (n:Nat),(zR p l n=-1/\∀ q∈l,p q=false)\/∃ i,i<l.length/\zR p l n=((n+i:Nat):Int)/\p (l.getD i z)=true/\∀ q∈l.take i,p q=false
 | [],n=>.inl ⟨rfl,fun q h=>by cases h⟩
 | a::r,n=>by
   unfold zR
   cases h:p a with
   | true=>exact .inr ⟨0,by simp,by simp,by simpa using h,fun q h=>by simp at h⟩
   | false =>
     rw [if_neg (by simp)]
     rcases wz p z r (n+1) with ⟨h1,h2⟩ | ⟨i,h1,h2,h3,h4⟩
     . exact .inl ⟨h1,fun q hq=>(List.mem_cons.1 hq).elim (fun e=>e▸h) (h2 q)⟩
     . refine .inr ⟨i+1,by simpa using h1,by rw [h2];congr 1;omega,by simpa using h3,fun q hq=>?_⟩
       rw [List.take_succ_cons] at hq
       exact (List.mem_cons.1 hq).elim (fun e=>e▸h) (h4 q)
theorem qaK {p:Int->Bool}{l:List Int}(h:∀ q∈l,p q=false):z8 p l=l:=by
 unfold z8
 rw [List.filter_eq_self]
 intro q hq
 rw [h q hq];rfl
theorem qia {p:Int->Bool}{l:List Int}{j:Nat}(h:j<l.length):z8 p (l.take (j+1))=z8 p (l.take j)++(if p (l.getD j 0)=true then [] else [l.getD j 0]):=by
 unfold z8
 rw [List.take_add_one,List.filter_append,zu h,List.getElem?_eq_getElem h,Option.toList_some,List.filter_cons,List.filter_nil]
 cases p l[j]<;>rfl
end Go.Proofs.YtfafehnchmelnaaGreat.Ai
