/- The law's proof, part 5 of 11: what of its author's texts it needs; no condition. -/
import Derived.Test.YtfafehnchmelnaaGreatProg
import Derived.KernelRfl
import Derived.Test.YtfafehnchmelnaaGreatZdD
set_option linter.unusedSectionVars false
set_option linter.unusedSimpArgs false
set_option linter.unusedVariables false
namespace Go.Proofs.YtfafehnchmelnaaGreat.Ai
open Go
set_option maxRecDepth 100000
variable [qf]
def tr3:Ty:={ kind:=TK.int IntKind.i64,agg:=false,size:=1,bytes:=8,zero:=[C.int IntKind.i64 (Int.ofNat 0)] }
theorem ty3:kV Tryz.prog 3=some tr3:=by kernel_rfl
def tr4:Ty:={ kind:=TK.bool,agg:=false,size:=1,bytes:=1,zero:=[C.bool false] }
theorem ty4:kV Tryz.prog 4=some tr4:=by kernel_rfl
def tr5:Ty:={ kind:=TK.int IntKind.u8,agg:=false,size:=1,bytes:=1,zero:=[C.int IntKind.u8 (Int.ofNat 0)] }
theorem ty5:kV Tryz.prog 5=some tr5:=by kernel_rfl
def tr9:Ty:={ kind:=TK.str,agg:=false,size:=1,bytes:=16,zero:=[C.str { data:={ toList:=[] } }] }
theorem ty9:kV Tryz.prog 9=some tr9:=by kernel_rfl
def tr22:Ty:={ kind:=TK.sl 69,agg:=false,size:=1,bytes:=24,zero:=[C.nilsl] }
theorem ty22:kV Tryz.prog 22=some tr22:=by kernel_rfl
def tr23:Ty:={ kind:=TK.sl 81,agg:=false,size:=1,bytes:=24,zero:=[C.nilsl] }
theorem ty23:kV Tryz.prog 23=some tr23:=by kernel_rfl
def tr25:Ty:={ kind:=TK.st [(0,1,false),(1,1,false),(2,1,false)],agg:=true,size:=3,bytes:=56,zero:=[C.nilsl,C.nilsl,C.int IntKind.i64 (Int.ofNat 0)] }
theorem ty25:kV Tryz.prog 25=some tr25:=by kernel_rfl
def tr28:Ty:={ kind:=TK.sl 63,agg:=false,size:=1,bytes:=24,zero:=[C.nilsl] }
theorem ty28:kV Tryz.prog 28=some tr28:=by kernel_rfl
def tr29:Ty:={ kind:=TK.sl 79,agg:=false,size:=1,bytes:=24,zero:=[C.nilsl] }
theorem ty29:kV Tryz.prog 29=some tr29:=by kernel_rfl
def tr31:Ty:={ kind:=TK.st [(0,1,false),(1,1,false),(2,1,false)],agg:=true,size:=3,bytes:=56,zero:=[C.nilsl,C.nilsl,C.int IntKind.i64 (Int.ofNat 0)] }
theorem ty31:kV Tryz.prog 31=some tr31:=by kernel_rfl
def tr40:Ty:={ kind:=TK.sl 5,agg:=false,size:=1,bytes:=24,zero:=[C.nilsl] }
theorem ty40:kV Tryz.prog 40=some tr40:=by kernel_rfl
def tr48:Ty:={ kind:=TK.sl 3,agg:=false,size:=1,bytes:=24,zero:=[C.nilsl] }
theorem ty48:kV Tryz.prog 48=some tr48:=by kernel_rfl
def tr50:Ty:={ kind:=TK.st [(0,1,false),(1,1,false),(2,1,false)],agg:=true,size:=3,bytes:=56,zero:=[C.int IntKind.i64 (Int.ofNat 0),C.nilsl,C.nilsl] }
theorem ty50:kV Tryz.prog 50=some tr50:=by kernel_rfl
def tr63:Ty:={ kind:=TK.st [(0,1,false),(1,1,false),(2,1,false)],agg:=true,size:=3,bytes:=48,zero:=[C.str { data:={ toList:=[] } },C.nilsl,C.int IntKind.i64 (Int.ofNat 0)] }
theorem ty63:kV Tryz.prog 63=some tr63:=by kernel_rfl
def tr69:Ty:={ kind:=TK.st [(0,1,false),(1,1,false),(2,1,false)],agg:=true,size:=3,bytes:=48,zero:=[C.str { data:={ toList:=[] } },C.nilsl,C.int IntKind.i64 (Int.ofNat 0)] }
theorem ty69:kV Tryz.prog 69=some tr69:=by kernel_rfl
def tr73:Ty:={ kind:=TK.int IntKind.u64,agg:=false,size:=1,bytes:=8,zero:=[C.int IntKind.u64 (Int.ofNat 0)] }
theorem ty73:kV Tryz.prog 73=some tr73:=by kernel_rfl
def tr79:Ty:={ kind:=TK.st [(0,1,false),(1,1,false),(2,1,false),(3,1,false),(4,1,false)],agg:=true,size:=5,bytes:=40,zero:=[C.int IntKind.i64 (Int.ofNat 0),C.int IntKind.i64 (Int.ofNat 0),C.int IntKind.i64 (Int.ofNat 0),C.int IntKind.i64 (Int.ofNat 0),C.bool false] }
theorem ty79:kV Tryz.prog 79=some tr79:=by kernel_rfl
def tr81:Ty:={ kind:=TK.st [(0,1,false),(1,1,false),(2,1,false),(3,1,false),(4,1,false)],agg:=true,size:=5,bytes:=40,zero:=[C.int IntKind.i64 (Int.ofNat 0),C.int IntKind.i64 (Int.ofNat 0),C.int IntKind.i64 (Int.ofNat 0),C.int IntKind.i64 (Int.ofNat 0),C.bool false] }
theorem ty81:kV Tryz.prog 81=some tr81:=by kernel_rfl
def tr91:Ty:={ kind:=TK.st [(0,1,false),(1,1,false),(2,1,false)],agg:=true,size:=3,bytes:=40,zero:=[C.nilsl,C.int IntKind.i64 (Int.ofNat 0),C.int IntKind.i64 (Int.ofNat 0)] }
theorem ty91:kV Tryz.prog 91=some tr91:=by kernel_rfl
def tr105:Ty:={ kind:=TK.sl 4,agg:=false,size:=1,bytes:=24,zero:=[C.nilsl] }
theorem ty105:kV Tryz.prog 105=some tr105:=by kernel_rfl
def tr111:Ty:={ kind:=TK.mp 9 4,agg:=false,size:=1,bytes:=8,zero:=[C.un] }
theorem ty111:kV Tryz.prog 111=some tr111:=by kernel_rfl
def tr113:Ty:={ kind:=TK.st [(0,3,true),(3,1,false)],agg:=true,size:=4,bytes:=64,zero:=[C.nilsl,C.nilsl,C.int IntKind.i64 (Int.ofNat 0),C.un] }
theorem ty113:kV Tryz.prog 113=some tr113:=by kernel_rfl
def tr116:Ty:={ kind:=TK.sl 48,agg:=false,size:=1,bytes:=24,zero:=[C.nilsl] }
theorem ty116:kV Tryz.prog 116=some tr116:=by kernel_rfl
def tr137:Ty:={ kind:=TK.int IntKind.u32,agg:=false,size:=1,bytes:=4,zero:=[C.int IntKind.u32 (Int.ofNat 0)] }
theorem ty137:kV Tryz.prog 137=some tr137:=by kernel_rfl
def tr140:Ty:={ kind:=TK.int IntKind.u64,agg:=false,size:=1,bytes:=8,zero:=[C.int IntKind.u64 (Int.ofNat 0)] }
theorem ty140:kV Tryz.prog 140=some tr140:=by kernel_rfl
def tr144:Ty:={ kind:=TK.sl 9,agg:=false,size:=1,bytes:=24,zero:=[C.nilsl] }
theorem ty144:kV Tryz.prog 144=some tr144:=by kernel_rfl
def tr149:Ty:={ kind:=TK.int IntKind.i64,agg:=false,size:=1,bytes:=8,zero:=[C.int IntKind.i64 (Int.ofNat 0)] }
theorem ty149:kV Tryz.prog 149=some tr149:=by kernel_rfl
def TT:List (Nat×Option Ty):=[(3,some tr3),(48,some tr48),(31,some tr31),(79,some tr79),(63,some tr63),(50,some tr50),(28,some tr28),(29,some tr29),(4,some tr4),(9,some tr9),(5,some tr5),(73,some tr73),(116,some tr116),(25,some tr25),(69,some tr69),(40,some tr40),(81,some tr81),(22,some tr22),(23,some tr23),(113,some tr113),(137,some tr137),(140,some tr140),(91,some tr91),(105,some tr105),(111,some tr111),(144,some tr144),(149,some tr149)]
def XX:SX:={ T:=qa none TT,K:=fun t=>qa none [(3,some .i),(48,some .ii),(79,some .tie),(63,some .node),(4,some .b),(9,some .s),(5,some .u),(69,some .node),(81,some .tie),(149,some .i)] t }
theorem qc:kA Tryz.prog XX.T:=qlS (by simp only [TT,List.mem_cons,List.not_mem_nil,or_false,forall_eq_or_imp,forall_eq,ty3,ty48,ty31,ty79,ty63,ty50,ty28,ty29,ty4,ty9,ty5,ty73,ty116,ty25,ty69,ty40,ty81,ty22,ty23,ty113,ty137,ty140,ty91,ty105,ty111,ty144,ty149];simp)
def qsU:List (Nat×Option (List Nat)):=[(2,some [0]),(3,some [1]),(4,some [1,2]),(5,some [1,2,3]),(6,some [1,2,3,4]),(7,some [1,2,3,5]),(8,some [1,2,3,6]),(9,some [1,2,3]),(10,some [1,2,3,8]),(11,some [1,2,3,9]),(12,some [1,2,3,10]),(13,some [1,2,3]),(14,some [2,3,12]),(15,some [2,3,13]),(16,some [2,3])]
end Go.Proofs.YtfafehnchmelnaaGreat.Ai
namespace Go.Proofs.YtfafehnchmelnaaGreat.Ai
open Go
set_option maxRecDepth 100000
variable [qf]
def bI (n:Int):TV B:=.v (false,[.fz (.int .i64 n)])
def bS (s:ByteArray):TV B:=.v (false,[.fz (.str s)])
def bL (x:LL):TV B:=.v (false,[.fz (.sl x)])
def bR (r len:Nat):TV B:=.v (false,[.rf (r,[]) true 0 len])
def bP (r:Nat):TV B:=.v (false,[.pp (r,[]) (true,0) 0])
theorem sm:type_of% (Bool.not_eq_true')/\type_of% (Bool.not_eq_false')/\type_of% (@decide_eq_true_eq)/\type_of% (@decide_eq_false_iff_not)/\type_of% (@Int.not_le)/\type_of% (@Int.not_lt)/\type_of% (@beq_iff_eq.{0})/\type_of% (@beq_eq_false_iff_ne.{0})/\type_of% (@ne_eq.{1})/\type_of% (@Int.ofNat_eq_natCast)/\type_of% (@Int.toNat_natCast)/\type_of% (@List.length_replicate.{0})/\type_of% (@qfC)/\type_of% (@Nat.sub_zero)/\type_of% (@List.drop_zero.{0})/\type_of% (@Cue.eta)/\type_of% (@Tie.eta)/\type_of% (@Edge.eta)/\type_of% (@Qq.eta)/\type_of% (@qi.eta):=⟨Bool.not_eq_true',Bool.not_eq_false',@decide_eq_true_eq,@decide_eq_false_iff_not,@Int.not_le,@Int.not_lt,@beq_iff_eq.{0},@beq_eq_false_iff_ne.{0},@ne_eq.{1},@Int.ofNat_eq_natCast,@Int.toNat_natCast,@List.length_replicate.{0},@qfC,@Nat.sub_zero,@List.drop_zero.{0},@Cue.eta,@Tie.eta,@Edge.eta,@Qq.eta,@qi.eta⟩
theorem SEx.idx {P:Program}{T:Nat->Option Ty}{dr:Nat->Nat}{rs:Array ResultVar}{ks:List K}(n:Nat)(f:Nat->SF)(R:Nat->TV W)
 (step:∀ i,i<=n->(i<n->SEx P T dr rs ks (f (i+1)) (R (i+1)))->SEx P T dr rs ks (f i) (R i)):SEx P T dr rs ks (f 0) (R 0) :=
 SEx.ind f R (fun i=>i<=n) (fun i=>n-i) 0 (Nat.zero_le _) fun i hi ih=>step i hi fun h=>ih (i+1) (by omega) (by omega)
theorem SEx.idxS {P:Program}{T:Nat->Option Ty}{dr:Nat->Nat}{rs:Array ResultVar}{ks:List K}{α:Type}(n:Nat)(f:Nat->α->SF)(R:Nat->α->TV W)(Inv:Nat->α->Prop)(s0:α)(h0:Inv 0 s0)
 (step:∀ i s,i<=n->Inv i s->(∀ s',i<n->Inv (i+1) s'->SEx P T dr rs ks (f (i+1) s') (R (i+1) s'))->SEx P T dr rs ks (f i s) (R i s)):SEx P T dr rs ks (f 0 s0) (R 0 s0) :=
 SEx.ind (fun x:Nat×α=>f x.1 x.2) (fun x=>R x.1 x.2) (fun x=>x.1<=n/\Inv x.1 x.2) (fun x=>n-x.1) (0,s0) ⟨Nat.zero_le _,h0⟩ fun x hx ih=>step x.1 x.2 hx.1 hx.2 fun s' h hI=>ih (x.1+1,s') ⟨by show x.1+1<=n;omega,hI⟩ (by show n-(x.1+1)<n-x.1;omega)
structure yS {α:Type}(a b:α):Prop where out:a=b
structure LLe {α:Type}(l:List α)(n:Nat):Prop where out:l.length<=n
theorem qx {n:Int}(h1:-9223372036854775808<=n)(h2:n<=9223372036854775807):IntKind.i64.wrap n=n:=IntWalk.i64_in n ⟨h1,h2⟩
theorem qg {i:Nat}(h:i<9223372036854775807):IntKind.i64.wrap ((i:Int)+1)=((i+1:Nat):Int):=by
 rw [qx (by omega) (by omega)];rfl
structure qsN (s:ByteArray):Prop where out:s.size<=maxLen
structure qkx (n:Int):Prop where out:0<=n/\n<=9223372036854775807
structure Hd (p:Prop):Prop where out:p
theorem qZ:(1048576:Int)<=lim:=by decide
theorem zy {α:Type}{l:List α}{i:Nat}{z:α}(h:i<l.length):l.getD i z=l[i]:=by rw [List.getD_eq_getElem?_getD,List.getElem?_eq_getElem h,Option.getD_some]
def eqS (a b:ByteArray):Bool:=a.toList == b.toList
def zV {α:Type}(p:α->Bool):List α->Nat->Int
 | [],_=>-1
 | a::r,n=>if p a=true then n else zV p r (n+1)
theorem qi8 {α:Type}{p:α->Bool}{l:List α}{i n:Nat}(z:α)(h:i<l.length):zV p (l.drop i) n=if p (l.getD i z)=true then (n:Int) else zV p (l.drop (i+1)) (n+1):=by
 rw [List.drop_eq_getElem_cons h,List.getD_eq_getElem?_getD,List.getElem?_eq_getElem h,Option.getD_some];rfl
theorem Qc {α:Type}{p:α->Bool}{l:List α}{i n:Nat}(z:α)(h:i<l.length)(hp:p (l.getD i z)=true):zV p (l.drop i) n=n:=by rw [qi8 z h,if_pos hp]
theorem Zg {α:Type}{p:α->Bool}{l:List α}{i n:Nat}(z:α)(h:i<l.length)(hp:p (l.getD i z)=false):zV p (l.drop i) n=zV p (l.drop (i+1)) (n+1):=by rw [qi8 z h,hp];rfl
theorem Qd {α:Type}{p:α->Bool}{l:List α}{i n:Nat}(h:l.length<=i):zV p (l.drop i) n=-1:=by rw [List.drop_eq_nil_of_le h];rfl
def qs8 (k:Nat):Dc ByteArray:=⟨fun s=>aF k [.ptr [.str s]],fun | (false,[.fn f [.ptr [.str s]]])=>(match nq f k with | true=>some s | false=>none) | _=>none,by
 intro x a h
 split at h
 . split at h
   . rename_i hk
     obtain rfl:=Qk.1 hk
     simp only [Option.some.injEq] at h;subst h;rfl
   . cases h
 . cases h⟩
structure qni (g' g:FuncId)(r:List (V1 D))(caps:List D):Prop where
 fn:g'=g
 caps:r=Qu caps
structure Mem {α:Type}(x:α)(l:List α):Prop where out:x∈l
theorem qo {α:Type}{l:List α}{i:Nat}{z:α}(h:i<l.length):Mem (l.getD i z) l:=⟨by rw [List.getD_eq_getElem?_getD,List.getElem?_eq_getElem h,Option.getD_some];exact List.getElem_mem _⟩
def qn9 {α:Type}(d:Dc α)(g:FuncId)(caps:List D)(l:List α)(p:α->Bool):Qp:=fun g' as'=>match as' with
 | x::r=>(match d.dec x with
   | some q=>some ([qni g' g r caps,Mem q l],rB (p q))
   | none=>none)
 | []=>none
theorem qbN {P:Program}{α:Type}{d:Dc α}{g:FuncId}{caps:List D}{l:List α}{p:α->Bool}(hp:∀ q∈l,qe P g (d.enc q::Qu caps) (rB (p q))):qp P (qn9 d g caps l p):=by
 intro g' as'
 unfold qn9
 split
 . split
   . rename_i hx
     refine R.Sim.mk fun hq=>?_
     obtain ⟨rfl,rfl⟩:=hq _ (.head _)
     exact (hp _ (hq _ (.tail _ (.head _))).out).er (by simp only [qw,d.ok _ _ hx]) rfl
   . exact R.Sim.none'
 . exact R.Sim.none'
theorem w7 {α:Type}(p:α->Bool):∀ (l:List α) (n:Nat),decide (0<=zV p l n)=l.any p
 | [],n=>rfl
 | a::r,n=>by
   unfold zV
   rw [List.any_cons]
   cases h:p a with
   | true=>rw [if_pos rfl];simp
   | false=>rw [if_neg (by simp)];exact w7 p r (n+1)
def qD {α:Type}(p:Nat->α->Bool):List α->Nat->Bool
 | [],_=>true
 | a::r,n=>p n a&&qD p r (n+1)
theorem V4 {α:Type}{p:Nat->α->Bool}{l:List α}{i n:Nat}(z:α)(h:i<l.length):qD p (l.drop i) n=(p n (l.getD i z)&&qD p (l.drop (i+1)) (n+1)):=by
 rw [List.drop_eq_getElem_cons h,List.getD_eq_getElem?_getD,List.getElem?_eq_getElem h,Option.getD_some];rfl
theorem vK {α:Type}{p:Nat->α->Bool}{l:List α}{i n:Nat}(z:α)(h:i<l.length)(hp:p n (l.getD i z)=true):qD p (l.drop i) n=qD p (l.drop (i+1)) (n+1):=by rw [V4 z h,hp];rfl
theorem V2 {α:Type}{p:Nat->α->Bool}{l:List α}{i n:Nat}(z:α)(h:i<l.length)(hp:p n (l.getD i z)=false):qD p (l.drop i) n=false:=by rw [V4 z h,hp];rfl
theorem qnU {α:Type}{p:Nat->α->Bool}{l:List α}{i n:Nat}(h:l.length<=i):qD p (l.drop i) n=true:=by rw [List.drop_eq_nil_of_le h];rfl
theorem wx {α:Type}{p q:Nat->α->Bool}:∀ (l:List α) (n:Nat),(∀ i a,l[i]?=some a->p (n+i) a=q (n+i) a)->qD p l n=qD q l n
 | [],_,_=>rfl
 | a::r,n,h=>by
   have h1:qD p r (n+1)=qD q r (n+1):=wx r (n+1) fun i b hi=>by
    have:=h (i+1) b (by simpa using hi)
    rwa [show n+(i+1)=n+1+i by omega] at this
   show (p n a&&qD p r (n+1))=(q n a&&qD q r (n+1))
   rw [h1,show p n a=q n a from h 0 a rfl]
def wCl {α:Type}(d:Dc α)(g:FuncId)(caps:List D)(f:α->TV W)(p:α->List Prop):Wr
 | [x,(false,[.fn g' caps'])]=>(match d.dec x with | some l=>some (yS g' g::yS caps' caps::p l,f l) | none=>none)
 | _=>none
theorem qcs {P:Program}{k:FuncId}{α:Type}{d:Dc α}{g:FuncId}{caps:List D}{f:α->TV W}{p:α->List Prop}(h:∀ l,Holds (p l)->qe P k [d.enc l,aF g caps] (f l)):qz P k (wCl d g caps f p):=by
 intro xs
 unfold wCl
 split
 . split
   . rename_i hx
     refine R.Sim.mk fun hq=>?_
     obtain ⟨rfl⟩:=hq _ (.head _)
     obtain ⟨rfl⟩:=hq _ (.tail _ (.head _))
     exact (h _ fun r hr=>hq r (.tail _ (.tail _ hr))).er (by simp only [qw,d.ok _ _ hx];rfl) rfl
   . exact R.Sim.none'
 . exact R.Sim.none'
theorem qc3 {α:Type}{p:Nat->α->Bool}{l:List α}{i:Nat}{c:Bool}(z:α)(h:i<l.length)(hp:p i (l.getD i z)=true):(qD p (l.drop i) i&&c)=(qD p (l.drop (i+1)) (i+1)&&c):=by rw [vK z h hp]
theorem qen {α:Type}{p:Nat->α->Bool}{l:List α}{i:Nat}{c:Bool}(z:α)(h:i<l.length)(hp:p i (l.getD i z)=false):(qD p (l.drop i) i&&c)=false:=by rw [V2 z h hp];rfl
theorem qR {α:Type}{p:Nat->α->Bool}{l:List α}{i:Nat}{c:Bool}(h:l.length<=i):(qD p (l.drop i) i&&c)=c:=by rw [qnU h];rfl
theorem V0 {α:Type}(p:α->Bool):∀ (l:List α) (n:Nat),zV p l n<n+l.length/\(zV p l n=-1\/(n:Int)<=zV p l n)
 | [],n=>by simp [zV];omega
 | a::r,n=>by
   have:=V0 p r (n+1)
   unfold zV
   simp only [List.length_cons]
   split<;>omega
theorem V9 {m i z:Nat}(h:i<m):(List.range m).getD i z=i:=by simp [List.getD_eq_getElem?_getD,h]
theorem qV {a b:Bool}(h:b=a)(k:Bool):eR (.v (false,[.fz (.bool k a)]))=eR (rB b):=by rw [jH];exact h.symm
structure zh (p A B:Bool):Prop where
 yes:p=true->A=B
 no:p=false->A=false
theorem zh.of {α:Type}(p:Nat->α->Bool)(l:List α)(i:Nat)(c:Bool)(z:α)(h:i<l.length):zh (p i (l.getD i z)) (qD p (l.drop i) i&&c) (qD p (l.drop (i+1)) (i+1)&&c):=⟨qc3 z h,qen z h⟩
theorem zh.stop {p A B:Bool}(h:zh p A B)(k:Bool)(hp:p=false):eR (.v (false,[.fz (.bool k false)]))=eR (rB A):=qV (h.no hp) k
theorem zh.go {p A B:Bool}(h:zh p A B)(hp:p=true):eR (rB B)=eR (rB A):=by rw [h.yes hp]
theorem zh.stopN {p A B:Bool}(h:zh p A B)(k:Bool)(hp:p=false):eR (.v (false,[.fz (.bool k true)]))=eR (rB (!A)):=qV (by rw [h.no hp];rfl) k
theorem zh.goN {p A B:Bool}(h:zh p A B)(hp:p=true):eR (rB (!B))=eR (rB (!A)):=by rw [h.yes hp]
end Go.Proofs.YtfafehnchmelnaaGreat.Ai
namespace Go.Proofs.YtfafehnchmelnaaGreat.Ai
open Go
set_option maxRecDepth 100000
variable [qf]
theorem WV (l:List Int)(g:FuncId)(caps:List D)(p:Int->Bool)(hp:∀ q∈l,qe Tryz.prog g (aI q::Qu caps) (rB (p q)))(h1:l.length<=maxLen):qe Tryz.prog 79 [aIs l,aF g caps] (rI (zV p l 0)):=by
 refine qe.of qc (fn:=Tryz.f79) (c:=Tryz.f79.body.getD .skip) (dr:=fun n=>qa 0 [] n) Tryz.func79 rfl (by kernel_rfl) (by kernel_rfl) (by kernel_rfl) ?_
 unfold maxLen at h1
 have hO:qp Tryz.prog (qn9 dcI g caps l p):=qbN hp
 refine SEx.go (X:=XX) qc (fun n=>qa [] [(2,[0,1,7,8])] n) (fun _=>none) hO 60 ?_
 intro M R L N m0 m1 m2 m3 m4 m5
 cases M
 cbv
 repeat' first | refine m1 _ _ ?_ ?_ | refine m2 _ _ fun h=>?_ | refine m3 _ ?_ | (refine m4 _ _ (Hd.out ?_);generalize hks:(List.cons _ _:List K)=ks) | (refine m5 _ _ ?_;cbv)
 all_goals (clear m1 m2 m3 m4 m5;cases m0;try dsimp only)
 all_goals try simp only [sm] at *
 obtain ⟨n,hn⟩:∃ n,n=l.length:=⟨_,rfl⟩
 refine ⟨SEx.same (SEx.idx n (fun i=>⟨19,[(0,bL (.i l)),(1,.v (false,[.fz (.fn g caps)])),(7,bI n),(8,bI i)],[]⟩) (fun i=>rI (zV p (l.drop i) i)) ?_) (by rw [hn];rfl) rfl⟩
 intro i hi ih
 rw [<-hks]
 refine SEx.go (X:=XX) qc (fun n=>qa [] [(2,[0,1,7,8])] n) (fun _=>none) hO 60 ?_
 intro M R L N m0 m1 m2 m3 m4 m5
 cases M
 cbv
 repeat' first | refine m1 _ _ ?_ ?_ | refine m2 _ _ fun h=>?_ | refine m3 _ ?_ | (refine m4 _ _ (Hd.out ?_);try first | rw [hks] | rw [hk2] | rw [hk3]) | (refine m5 _ _ ?_;cbv)
 all_goals (clear m1 m2 m3 m4 m5;cases m0;(try clear hks;try clear hk2;try clear hk3);try dsimp only)
 all_goals try simp only [sm] at *
 all_goals first
  | omega
  | exact ⟨rfl,by cases caps<;>rfl⟩
  | exact ⟨rfl,rfl⟩
  | exact qo (z:=(0:Int)) (by omega)
  | (rw [Qc (p:=p) (l:=l) (i:=i) (0:Int) (by omega) (by first | assumption | exact beq_iff_eq.2 (by assumption))];rfl)
  | (rw [Qd (by omega)];rfl)
  | (simp only [qg (show i<9223372036854775807 by omega)];exact ⟨(ih (by omega)).same rfl (by rw [Zg (p:=p) (l:=l) (i:=i) (0:Int) (by omega) (by first | assumption | exact beq_eq_false_iff_ne.2 (by assumption) | (simp_all;done))])⟩)
theorem Kd (l:List Int)(g:FuncId)(caps:List D)(p:Int->Bool)(hp:∀ q∈l,qe Tryz.prog g (aI q::Qu caps) (rB (p q)))(h1:l.length<=maxLen):qe Tryz.prog 45 [aIs l,aF g caps] (rB (l.any p)):=by
 refine qe.of qc (fn:=Tryz.f45) (c:=Tryz.f45.body.getD .skip) (dr:=fun n=>qa 0 [] n) Tryz.func45 rfl (by kernel_rfl) (by kernel_rfl) (by kernel_rfl) ?_
 obtain ⟨f,hf⟩:∃ f:List Int->Int,f=fun l=>zV p l 0:=⟨_,rfl⟩
 have hO:qp Tryz.prog (qJ [(79,wCl kw g caps (fun l=>rI (f l)) (fun m=>[yS m l]))]):=by subst hf;exact qb (qcs fun m h=>by obtain rfl:=(h _ (.head _)).out;exact WV m g caps p hp h1) qd
 refine SEx.go (X:=XX) qc (fun n=>qa [] [] n) (fun _=>none) hO 60 ?_
 intro M R L N m0 m1 m2 m3 m4 m5
 cases M
 cbv
 repeat' first | refine m1 _ _ ?_ ?_ | refine m2 _ _ fun h=>?_ | refine m3 _ ?_ | (refine m4 _ _ (Hd.out ?_);try first | rw [hks] | rw [hk2] | rw [hk3]) | (refine m5 _ _ ?_;cbv)
 all_goals (clear m1 m2 m3 m4 m5;cases m0;(try clear hks;try clear hk2;try clear hk3);try dsimp only)
 all_goals try simp only [sm] at *
 all_goals first
  | exact ⟨rfl⟩
  | (rw [<-w7 p l 0,hf];rfl)
theorem JW (l:List Tie)(g:FuncId)(caps:List D)(p:Tie->Bool)(hp:∀ q∈l,qe Tryz.prog g (Y4 q::Qu caps) (rB (p q)))(h1:l.length<=maxLen):qe Tryz.prog 115 [WS l,aF g caps] (rI (zV p l 0)):=by
 refine qe.of qc (fn:=Tryz.f115) (c:=Tryz.f115.body.getD .skip) (dr:=fun n=>qa 0 [] n) Tryz.func115 rfl (by kernel_rfl) (by kernel_rfl) (by kernel_rfl) ?_
 unfold maxLen at h1
 have hO:qp Tryz.prog (qn9 yz g caps l p):=qbN hp
 refine SEx.go (X:=XX) qc (fun n=>qa [] [(2,[0,1,7,8])] n) (fun _=>none) hO 60 ?_
 intro M R L N m0 m1 m2 m3 m4 m5
 cases M
 cbv
 repeat' first | refine m1 _ _ ?_ ?_ | refine m2 _ _ fun h=>?_ | refine m3 _ ?_ | (refine m4 _ _ (Hd.out ?_);generalize hks:(List.cons _ _:List K)=ks) | (refine m5 _ _ ?_;cbv)
 all_goals (clear m1 m2 m3 m4 m5;cases m0;try dsimp only)
 all_goals try simp only [sm] at *
 obtain ⟨n,hn⟩:∃ n,n=l.length:=⟨_,rfl⟩
 refine ⟨SEx.same (SEx.idx n (fun i=>⟨19,[(0,bL (.tie l)),(1,.v (false,[.fz (.fn g caps)])),(7,bI n),(8,bI i)],[]⟩) (fun i=>rI (zV p (l.drop i) i)) ?_) (by rw [hn];rfl) rfl⟩
 intro i hi ih
 rw [<-hks]
 refine SEx.go (X:=XX) qc (fun n=>qa [] [(2,[0,1,7,8])] n) (fun _=>none) hO 60 ?_
 intro M R L N m0 m1 m2 m3 m4 m5
 cases M
 cbv
 repeat' first | refine m1 _ _ ?_ ?_ | refine m2 _ _ fun h=>?_ | refine m3 _ ?_ | (refine m4 _ _ (Hd.out ?_);try first | rw [hks] | rw [hk2] | rw [hk3]) | (refine m5 _ _ ?_;cbv)
 all_goals (clear m1 m2 m3 m4 m5;cases m0;(try clear hks;try clear hk2;try clear hk3);try dsimp only)
 all_goals try simp only [sm] at *
 all_goals first
  | omega
  | exact ⟨rfl,by cases caps<;>rfl⟩
  | exact ⟨rfl,rfl⟩
  | exact qo (z:=Tie.z) (by omega)
  | (rw [Qc (p:=p) (l:=l) (i:=i) Tie.z (by omega) (by first | assumption | exact beq_iff_eq.2 (by assumption))];rfl)
  | (rw [Qd (by omega)];rfl)
  | (simp only [qg (show i<9223372036854775807 by omega)];exact ⟨(ih (by omega)).same rfl (by rw [Zg (p:=p) (l:=l) (i:=i) Tie.z (by omega) (by first | assumption | exact beq_eq_false_iff_ne.2 (by assumption) | (simp_all;done))])⟩)
theorem KM (l:List Tie)(g:FuncId)(caps:List D)(p:Tie->Bool)(hp:∀ q∈l,qe Tryz.prog g (Y4 q::Qu caps) (rB (p q)))(h1:l.length<=maxLen):qe Tryz.prog 77 [WS l,aF g caps] (rB (l.any p)):=by
 refine qe.of qc (fn:=Tryz.f77) (c:=Tryz.f77.body.getD .skip) (dr:=fun n=>qa 0 [] n) Tryz.func77 rfl (by kernel_rfl) (by kernel_rfl) (by kernel_rfl) ?_
 obtain ⟨f,hf⟩:∃ f:List Tie->Int,f=fun l=>zV p l 0:=⟨_,rfl⟩
 have hO:qp Tryz.prog (qJ [(115,wCl Z0 g caps (fun l=>rI (f l)) (fun m=>[yS m l]))]):=by subst hf;exact qb (qcs fun m h=>by obtain rfl:=(h _ (.head _)).out;exact JW m g caps p hp h1) qd
 refine SEx.go (X:=XX) qc (fun n=>qa [] [] n) (fun _=>none) hO 60 ?_
 intro M R L N m0 m1 m2 m3 m4 m5
 cases M
 cbv
 repeat' first | refine m1 _ _ ?_ ?_ | refine m2 _ _ fun h=>?_ | refine m3 _ ?_ | (refine m4 _ _ (Hd.out ?_);try first | rw [hks] | rw [hk2] | rw [hk3]) | (refine m5 _ _ ?_;cbv)
 all_goals (clear m1 m2 m3 m4 m5;cases m0;(try clear hks;try clear hk2;try clear hk3);try dsimp only)
 all_goals try simp only [sm] at *
 all_goals first
  | exact ⟨rfl⟩
  | (rw [<-w7 p l 0,hf];rfl)
theorem Y2 (l:List qi)(g:FuncId)(caps:List D)(p:qi->Bool)(hp:∀ q∈l,qe Tryz.prog g (wV q::Qu caps) (rB (p q)))(h1:l.length<=maxLen):qe Tryz.prog 116 [vU l,aF g caps] (rI (zV p l 0)):=by
 refine qe.of qc (fn:=Tryz.f116) (c:=Tryz.f116.body.getD .skip) (dr:=fun n=>qa 0 [] n) Tryz.func116 rfl (by kernel_rfl) (by kernel_rfl) (by kernel_rfl) ?_
 unfold maxLen at h1
 have hO:qp Tryz.prog (qn9 wc g caps l p):=qbN hp
 refine SEx.go (X:=XX) qc (fun n=>qa [] [(2,[0,1,7,8])] n) (fun _=>none) hO 60 ?_
 intro M R L N m0 m1 m2 m3 m4 m5
 cases M
 cbv
 repeat' first | refine m1 _ _ ?_ ?_ | refine m2 _ _ fun h=>?_ | refine m3 _ ?_ | (refine m4 _ _ (Hd.out ?_);generalize hks:(List.cons _ _:List K)=ks) | (refine m5 _ _ ?_;cbv)
 all_goals (clear m1 m2 m3 m4 m5;cases m0;try dsimp only)
 all_goals try simp only [sm] at *
 obtain ⟨n,hn⟩:∃ n,n=l.length:=⟨_,rfl⟩
 refine ⟨SEx.same (SEx.idx n (fun i=>⟨19,[(0,bL (.node false none l)),(1,.v (false,[.fz (.fn g caps)])),(7,bI n),(8,bI i)],[]⟩) (fun i=>rI (zV p (l.drop i) i)) ?_) (by rw [hn];rfl) rfl⟩
 intro i hi ih
 rw [<-hks]
 refine SEx.go (X:=XX) qc (fun n=>qa [] [(2,[0,1,7,8])] n) (fun _=>none) hO 60 ?_
 intro M R L N m0 m1 m2 m3 m4 m5
 cases M
 cbv
 repeat' first | refine m1 _ _ ?_ ?_ | refine m2 _ _ fun h=>?_ | refine m3 _ ?_ | (refine m4 _ _ (Hd.out ?_);try first | rw [hks] | rw [hk2] | rw [hk3]) | (refine m5 _ _ ?_;cbv)
 all_goals (clear m1 m2 m3 m4 m5;cases m0;(try clear hks;try clear hk2;try clear hk3);try dsimp only)
 all_goals try simp only [sm] at *
 all_goals first
  | omega
  | exact ⟨rfl,by cases caps<;>rfl⟩
  | exact ⟨rfl,rfl⟩
  | exact qo (z:=qi.z) (by omega)
  | (rw [Qc (p:=p) (l:=l) (i:=i) qi.z (by omega) (by first | assumption | exact beq_iff_eq.2 (by assumption))];rfl)
  | (rw [Qd (by omega)];rfl)
  | (simp only [qg (show i<9223372036854775807 by omega)];exact ⟨(ih (by omega)).same rfl (by rw [Zg (p:=p) (l:=l) (i:=i) qi.z (by omega) (by first | assumption | exact beq_eq_false_iff_ne.2 (by assumption) | (simp_all;done))])⟩)
theorem qkn (l:List Int)(v:Int)(h1:l.length<=maxLen):qe Tryz.prog 118 [aIs l,aI v] (rI (zV (fun x=>v == x) l 0)):=by
 refine qe.of qc (fn:=Tryz.f118) (c:=Tryz.f118.body.getD .skip) (dr:=fun n=>qa 0 [] n) Tryz.func118 rfl (by kernel_rfl) (by kernel_rfl) (by kernel_rfl) ?_
 unfold maxLen at h1
 refine SEx.go (X:=XX) qc (fun n=>qa [] [(2,[0,1,7,8])] n) (fun _=>none) qd 60 ?_
 intro M R L N m0 m1 m2 m3 m4 m5
 cases M
 cbv
 repeat' first | refine m1 _ _ ?_ ?_ | refine m2 _ _ fun h=>?_ | refine m3 _ ?_ | (refine m4 _ _ (Hd.out ?_);generalize hks:(List.cons _ _:List K)=ks) | (refine m5 _ _ ?_;cbv)
 all_goals (clear m1 m2 m3 m4 m5;cases m0;try dsimp only)
 all_goals try simp only [sm] at *
 obtain ⟨n,hn⟩:∃ n,n=l.length:=⟨_,rfl⟩
 refine ⟨SEx.same (SEx.idx n (fun i=>⟨19,[(0,bL (.i l)),(1,bI v),(7,bI n),(8,bI i)],[]⟩) (fun i=>rI (zV (fun x=>v == x) (l.drop i) i)) ?_) (by rw [hn];rfl) rfl⟩
 intro i hi ih
 rw [<-hks]
 refine SEx.go (X:=XX) qc (fun n=>qa [] [(2,[0,1,7,8])] n) (fun _=>none) qd 60 ?_
 intro M R L N m0 m1 m2 m3 m4 m5
 cases M
 cbv
 repeat' first | refine m1 _ _ ?_ ?_ | refine m2 _ _ fun h=>?_ | refine m3 _ ?_ | (refine m4 _ _ (Hd.out ?_);try first | rw [hks] | rw [hk2] | rw [hk3]) | (refine m5 _ _ ?_;cbv)
 all_goals (clear m1 m2 m3 m4 m5;cases m0;(try clear hks;try clear hk2;try clear hk3);try dsimp only)
 all_goals try simp only [sm] at *
 all_goals first
  | omega
  | exact ⟨rfl,by cases caps<;>rfl⟩
  | exact ⟨rfl,rfl⟩
  | exact qo (z:=(0:Int)) (by omega)
  | (rw [Qc (p:=fun x=>v == x) (l:=l) (i:=i) (0:Int) (by omega) (by first | assumption | exact beq_iff_eq.2 (by assumption))];rfl)
  | (rw [Qd (by omega)];rfl)
  | (simp only [qg (show i<9223372036854775807 by omega)];exact ⟨(ih (by omega)).same rfl (by rw [Zg (p:=fun x=>v == x) (l:=l) (i:=i) (0:Int) (by omega) (by first | assumption | exact beq_eq_false_iff_ne.2 (by assumption) | (simp_all;done))])⟩)
def qis (f:List Int->Int->Int):Wr:=w2 kw dcI (fun l v=>rI (f l v)) (fun l _=>[LLe l maxLen])
theorem qgO:qz Tryz.prog 118 (qis fun l v=>zV (fun x=>v == x) l 0):=qF fun l v h=>qkn l v (h _ (.head _)).out
end Go.Proofs.YtfafehnchmelnaaGreat.Ai
namespace Go.Proofs.YtfafehnchmelnaaGreat.Ai
open Go
set_option maxRecDepth 100000
variable [qf]
def inB (n lo hi:Int):Bool:=decide (lo<=n/\n<=hi)
def bt (s:ByteArray)(i:Nat):Int:=(s[i]?.getD 0).toNat
def qir (s:ByteArray)(i:Nat):Bool:=decide (97<=bt s i/\bt s i<=122\/i≠0/\48<=bt s i/\bt s i<=57)
def Qg (s:ByteArray)(i:Nat):Bool:=(List.range' i (s.size-i)).all (qir s)&&decide (1<=s.size/\s.size<=8)
theorem qfj {s:ByteArray}{i:Nat}(h:i<s.size):Qg s i=(qir s i&&Qg s (i+1)):=by
 unfold Qg
 rw [show s.size-i=(s.size-(i+1))+1 by omega,List.range'_succ,List.all_cons,Bool.and_assoc]
theorem qeY {s:ByteArray}{i:Nat}(h:i<s.size)(hc:¬(97<=bt s i/\bt s i<=122\/i≠0/\48<=bt s i/\bt s i<=57)):Qg s i=false:=by
 rw [qfj h,qir,decide_eq_false hc,Bool.false_and]
theorem qaJ {s:ByteArray}{i:Nat}(h:i<s.size)(hc:97<=bt s i/\bt s i<=122\/i≠0/\48<=bt s i/\bt s i<=57):Qg s i=Qg s (i+1):=by
 rw [qfj h,qir,decide_eq_true hc,Bool.true_and]
theorem qfO {s:ByteArray}{i:Nat}(h:s.size<=i):Qg s i=decide (1<=s.size/\s.size<=8):=by
 unfold Qg
 rw [show s.size-i=0 by omega]
 simp
theorem qnY (a b c:Int):qe Tryz.prog 39 [aI a,aI b,aI c] (rB (inB a b c)):=by
 refine qe.of qc (fn:=Tryz.f39) (c:=Tryz.f39.body.getD .skip) (dr:=fun n=>qa 0 [] n) Tryz.func39 rfl (by kernel_rfl) (by kernel_rfl) (by kernel_rfl) ?_
 refine SEx.walk (X:=XX) qc (fun n=>qa [] [] n) qd 100 ?_
 intro M R L N hM hR hL hN
 cases M
 cbv
 cases hM
 try dsimp only
 repeat' first | apply And.intro | (intro h;try simp only [Bool.not_eq_true',Bool.not_eq_false',decide_eq_true_eq,decide_eq_false_iff_not,Int.not_le,Int.not_lt,beq_iff_eq,beq_eq_false_iff_ne,ne_eq,Int.ofNat_eq_natCast,Int.toNat_natCast,List.length_replicate,qfC,Nat.sub_zero,List.drop_zero,Cue.eta,Tie.eta,Edge.eta,Qq.eta,qi.eta] at h) | (refine hR _ ?_) | (refine hL _ _ (Hd.out ?_)) | (refine hN _ _ (Hd.out ?_))
 all_goals simp only [jH,inB]
 all_goals (rw [Bool.eq_iff_iff];simp;try omega)
def qr2 (f:Int->Int->Int->Bool):Wr:=w3 dcI dcI dcI (fun x y z=>rB (f x y z)) (fun _ _ _=>[])
theorem qoz:qz Tryz.prog 39 (qr2 inB):=jL fun x y z _=>qnY x y z
theorem qam (s:ByteArray)(hs:s.size<=maxLen):qe Tryz.prog 120 [aS s] (rB (Qg s 0)):=by
 refine qe.of qc (fn:=Tryz.f120) (c:=Tryz.f120.body.getD .skip) (dr:=fun n=>qa 0 [] n) Tryz.func120 rfl (by kernel_rfl) (by kernel_rfl) (by kernel_rfl) ?_
 obtain ⟨f,hf⟩:∃ f,f=inB:=⟨_,rfl⟩
 have hO:qp Tryz.prog (qJ [(39,qr2 f)]):=by subst hf;exact qb qoz qd
 unfold maxLen at hs
 refine SEx.walk (X:=XX) qc (fun n=>qa [] [(2,[0,3])] n) hO 100 ?_
 intro M R L N hM hR hL hN
 cases M
 cbv
 cases hM
 try dsimp only
 refine hL _ _ ?_
 clear hR hL hN R L N
 generalize hks:(List.cons _ _:List K)=ks
 refine SEx.same (SEx.ind (fun i:Nat=>⟨42,[(0,.v (false,[.fz (.str s)])),(3,.v (false,[.fz (.int .i64 i)]))],[]⟩) (fun i=>rB (Qg s i)) (fun i=>i<=s.size) (fun i=>s.size-i) 0 (Nat.zero_le _) ?_) rfl rfl
 intro i hi ih
 rw [<-hks]
 refine SEx.walk (X:=XX) qc (fun n=>qa [] [(2,[0,3])] n) hO 100 ?_
 intro M R L N hM hR hL hN
 cases M
 cbv
 cases hM
 try dsimp only
 repeat' first | apply And.intro | (intro h;try simp only [Bool.not_eq_true',Bool.not_eq_false',decide_eq_true_eq,decide_eq_false_iff_not,Int.not_le,Int.not_lt,beq_iff_eq,beq_eq_false_iff_ne,ne_eq,Int.ofNat_eq_natCast,Int.toNat_natCast,List.length_replicate,qfC,Nat.sub_zero,List.drop_zero,Cue.eta,Tie.eta,Edge.eta,Qq.eta,qi.eta] at h) | (refine hR _ ?_) | (refine hL _ _ (Hd.out ?_)) | (refine hN _ _ (Hd.out ?_))
 all_goals simp only [Int.ofNat_eq_natCast,hks,jH]
 all_goals (try simp only [qg (show i<9223372036854775807 by omega)])
 all_goals first
  | omega
  | (rw [qeY]<;>(try unfold bt)<;>omega)
  | (rw [qaJ (by omega) (by unfold bt;omega)];exact ⟨ih (i+1) (by omega) (by omega)⟩)
  | (rw [hf,qfO (by omega)];unfold inB;rw [Bool.eq_iff_iff];simp only [decide_eq_true_eq];omega)
theorem qaw (s:ByteArray)(hs:s.size<=maxLen):qe Tryz.prog 113 [aS s] (rB (Qg s 0)):=by
 refine qe.of qc (fn:=Tryz.f113) (c:=Tryz.f113.body.getD .skip) (dr:=fun n=>qa 0 [(4,22)] n) Tryz.func113 rfl (by kernel_rfl) (by kernel_rfl) (by kernel_rfl) ?_
 unfold maxLen at hs
 refine SEx.walk (X:=XX) qc (fun n=>qa [] [(2,[0,3])] n) qd 100 ?_
 intro M R L N hM hR hL hN
 cases M
 cbv
 cases hM
 try dsimp only
 refine hL _ _ ?_
 clear hR hL hN R L N
 generalize hks:(List.cons _ _:List K)=ks
 refine SEx.same (SEx.ind (fun i:Nat=>⟨50,[(0,.v (false,[.fz (.str s)])),(3,.v (false,[.fz (.int .i64 i)]))],[]⟩) (fun i=>rB (Qg s i)) (fun i=>i<=s.size) (fun i=>s.size-i) 0 (Nat.zero_le _) ?_) rfl rfl
 intro i hi ih
 rw [<-hks]
 refine SEx.walk (X:=XX) qc (fun n=>qa [] [(2,[0,3])] n) qd 100 ?_
 intro M R L N hM hR hL hN
 cases M
 cbv
 cases hM
 try dsimp only
 repeat' first | apply And.intro | (intro h;try simp only [Bool.not_eq_true',Bool.not_eq_false',decide_eq_true_eq,decide_eq_false_iff_not,Int.not_le,Int.not_lt,beq_iff_eq,beq_eq_false_iff_ne,ne_eq,Int.ofNat_eq_natCast,Int.toNat_natCast,List.length_replicate,qfC,Nat.sub_zero,List.drop_zero,Cue.eta,Tie.eta,Edge.eta,Qq.eta,qi.eta] at h) | (refine hR _ ?_) | (refine hL _ _ (Hd.out ?_)) | (refine hN _ _ (Hd.out ?_))
 all_goals simp only [Int.ofNat_eq_natCast,hks,jH]
 all_goals (try simp only [qg (show i<9223372036854775807 by omega)])
 all_goals first
  | omega
  | (rw [qeY]<;>(try unfold bt)<;>omega)
  | (rw [qaJ (by omega) (by unfold bt;omega)];exact ⟨ih (i+1) (by omega) (by omega)⟩)
  | (rw [qfO (by omega),Bool.eq_iff_iff];simp only [decide_eq_true_eq,Bool.false_eq_true,false_iff];omega)
def qcm (f:ByteArray->Bool):Wr:=w1 dcS (fun x=>rB (f x)) (fun x=>[qsN x])
theorem qkS:qz Tryz.prog 120 (qcm (Qg · 0)):=zl fun x h=>qam x (h _ List.mem_cons_self).out
theorem qkd:qz Tryz.prog 113 (qcm (Qg · 0)):=zl fun x h=>qaw x (h _ List.mem_cons_self).out
end Go.Proofs.YtfafehnchmelnaaGreat.Ai
namespace Go.Proofs.YtfafehnchmelnaaGreat.Ai
open Go
set_option maxRecDepth 100000
variable [qf]
def szL {α:Type}(l:List α)(n:Int):Int:=if n<l.length then -1 else n-l.length
theorem qlp (l:List Int)(n:Int)(hs:l.length<=maxLen)(hn:0<=n/\n<=9223372036854775807):qe Tryz.prog 84 [aIs l,aI n] (rI (szL l n)):=by
 refine qe.of qc (fn:=Tryz.f84) (c:=Tryz.f84.body.getD .skip) (dr:=fun n=>qa 0 [] n) Tryz.func84 rfl (by kernel_rfl) (by kernel_rfl) (by kernel_rfl) ?_
 unfold maxLen at hs
 refine SEx.go (X:=XX) qc (fun n=>qa [] [] n) (fun _=>none) qd 60 ?_
 intro M R L N m0 m1 m2 m3 m4 m5
 cases M
 cbv
 repeat' first | refine m1 _ _ ?_ ?_ | refine m2 _ _ fun h=>?_ | refine m3 _ ?_ | (refine m4 _ _ (Hd.out ?_);try first | rw [hks] | rw [hk2] | rw [hk3]) | (refine m5 _ _ ?_;cbv)
 all_goals (clear m1 m2 m3 m4 m5;cases m0;(try clear hks;try clear hk2;try clear hk3);try dsimp only)
 all_goals try simp only [sm] at *
 all_goals rw [qx (by omega) (by omega)] at *
 all_goals simp only [wh,szL]
 all_goals split<;>omega
def ZC {α:Type}(z:α)(l:List α)(n i:Nat):List α:=l.take i++List.replicate (n-i) z
theorem Wg {α:Type}{z:α}{l:List α}{n i:Nat}(h:l.length=n)(hi:i<=n):(ZC z l n i).length=n:=by simp [ZC];omega
theorem wj {α:Type}{z d:α}{l:List α}{n i:Nat}(h:l.length=n)(hi:i<n):(ZC z l n i).set i (l.getD i d)=ZC z l n (i+1):=by
 have hl:i<l.length:=by omega
 unfold ZC
 rw [show n-i=(n-(i+1))+1 by omega,List.replicate_succ,List.set_append_right _ _ (by simp;omega)]
 rw [show i-(l.take i).length=0 by simp;omega,List.set_cons_zero,List.take_add_one,List.getElem?_eq_getElem hl]
 simp only [Option.toList_some,List.append_assoc,List.singleton_append,List.getD_eq_getElem?_getD,List.getElem?_eq_getElem hl,Option.getD_some]
theorem We {α:Type}{z:α}{l:List α}{n:Nat}(h:l.length=n):ZC z l n n=l:=by simp [ZC,<-h]
theorem qjT (l:List Int)(hs:l.length<=1048576):qe Tryz.prog 100 [aIs l] (rIs l):=by
 refine qe.of qc (fn:=Tryz.f100) (c:=Tryz.f100.body.getD .skip) (dr:=fun n=>qa 0 [] n) Tryz.func100 rfl (by kernel_rfl) (by kernel_rfl) (by kernel_rfl) ?_
 refine SEx.go (X:=XX) qc (fun n=>qa [] [(3,[0,3,4])] n) (fun _=>none) qd 60 ?_
 intro M R L N m0 m1 m2 m3 m4 m5
 cases M
 cbv
 repeat' first | refine m1 _ _ ?_ ?_ | refine m2 _ _ fun h=>?_ | refine m3 _ ?_ | (refine m4 _ _ (Hd.out ?_);generalize hks:(List.cons _ _:List K)=ks) | (refine m5 _ _ ?_;cbv)
 all_goals (clear m1 m2 m3 m4 m5;cases m0;try dsimp only)
 all_goals try simp only [sm] at *
 . have:=qZ;omega
 generalize hn:l.length=n at *
 refine ⟨SEx.same (SEx.ind (fun i:Nat=>⟨22,[(0,.v (false,[.fz (.sl (.i l))])),(3,.v (false,[.rf (12288,[]) true 0 n])),(4,.v (false,[.fz (.int .i64 i)]))],[(12288,.osl (.i (ZC 0 l n i)))]⟩) (fun _=>rIs l) (fun i=>i<=n) (fun i=>n-i) 0 (Nat.zero_le _) ?_) rfl rfl⟩
 intro i hi ih
 rw [<-hks]
 obtain ⟨fl,hfl⟩:∃ x,x=ZC 0 l n i:=⟨_,rfl⟩
 have hf:=Wg (z:=(0:Int)) hn hi
 rw [<-hfl] at hf ⊢
 refine SEx.go (X:=XX) qc (fun n=>qa [] [(3,[0,3,4])] n) (fun _=>none) qd 60 ?_
 intro M R L N m0 m1 m2 m3 m4 m5
 cases M
 cbv
 repeat' first | refine m1 _ _ ?_ ?_ | refine m2 _ _ fun h=>?_ | refine m3 _ ?_ | (refine m4 _ _ (Hd.out ?_);try first | rw [hks] | rw [hk2] | rw [hk3]) | (refine m5 _ _ ?_;cbv)
 all_goals (clear m1 m2 m3 m4 m5;cases m0;(try clear hks;try clear hk2;try clear hk3);try dsimp only)
 all_goals try simp only [sm] at *
 all_goals first
  | omega
  | (simp only [qg (show i<9223372036854775807 by omega),hfl,wj hn (show i<n by omega)];exact ⟨ih (i+1) (by omega) (by omega)⟩)
  | (obtain rfl:i=n:=by omega
     rw [hfl,We hn];rfl)
def qjo:Wr:=w1 kw rIs (fun l=>[LLe l 1048576])
theorem qie:qz Tryz.prog 100 qjo:=zl fun l h=>qjT l (h _ (.head _)).out
def qpy:Wr:=w2 kw dcI (fun l n=>rI (szL l n)) (fun l n=>[LLe l maxLen,qkx n])
theorem qhf:qz Tryz.prog 84 qpy:=qF fun l n h=>qlp l n (h _ (.head _)).out (h _ (.tail _ (.head _))).out
theorem qlV (l:List Int)(hs:l.length<=maxLen):qe Tryz.prog 109 [aIs l,aIs l] (rB true):=by
 refine qe.of qc (fn:=Tryz.f109) (c:=Tryz.f109.body.getD .skip) (dr:=fun n=>qa 0 [(6,8)] n) Tryz.func109 rfl (by kernel_rfl) (by kernel_rfl) (by kernel_rfl) ?_
 unfold maxLen at hs
 refine SEx.go (X:=XX) qc (fun n=>qa [] [(4,[0,1,5])] n) (fun _=>none) qd 60 ?_
 intro M R L N m0 m1 m2 m3 m4 m5
 cases M
 cbv
 repeat' first | refine m1 _ _ ?_ ?_ | refine m2 _ _ fun h=>?_ | refine m3 _ ?_ | (refine m4 _ _ (Hd.out ?_);generalize hks:(List.cons _ _:List K)=ks) | (refine m5 _ _ ?_;cbv)
 all_goals (clear m1 m2 m3 m4 m5;cases m0;try dsimp only)
 all_goals try simp only [sm] at *
 . exact absurd trivial (by assumption)
 generalize hn:l.length=n at *
 refine ⟨SEx.same (SEx.ind (fun i:Nat=>⟨26,[(0,.v (false,[.fz (.sl (.i l))])),(1,.v (false,[.fz (.sl (.i l))])),(5,.v (false,[.fz (.int .i64 i)]))],[]⟩) (fun _=>rB true) (fun i=>i<=n) (fun i=>n-i) 0 (Nat.zero_le _) ?_) rfl rfl⟩
 intro i hi ih
 rw [<-hks]
 refine SEx.go (X:=XX) qc (fun n=>qa [] [(4,[0,1,5])] n) (fun _=>none) qd 60 ?_
 intro M R L N m0 m1 m2 m3 m4 m5
 cases M
 cbv
 repeat' first | refine m1 _ _ ?_ ?_ | refine m2 _ _ fun h=>?_ | refine m3 _ ?_ | (refine m4 _ _ (Hd.out ?_);try first | rw [hks] | rw [hk2] | rw [hk3]) | (refine m5 _ _ ?_;cbv)
 all_goals (clear m1 m2 m3 m4 m5;cases m0;(try clear hks;try clear hk2;try clear hk3);try dsimp only)
 all_goals try simp only [sm] at *
 all_goals first
  | omega
  | exact absurd trivial (by assumption)
  | rfl
  | (simp only [qg (show i<9223372036854775807 by omega)];exact ⟨ih (i+1) (by omega) (by omega)⟩)
def qjF:Wr:=w2 kw kw (fun _ _=>rB true) (fun l m=>[yS l m,LLe l maxLen])
theorem qia:qz Tryz.prog 109 qjF:=qF fun l m h=>by
 obtain rfl:=(h _ (.head _)).out
 exact qlV l (h _ (.tail _ (.head _))).out
end Go.Proofs.YtfafehnchmelnaaGreat.Ai
namespace Go.Proofs.YtfafehnchmelnaaGreat.Ai
open Go
set_option maxRecDepth 100000
variable [qf]
def wR (n:Nat):V1 B:=(false,[.rf (lrt 0,[]) true 0 n])
end Go.Proofs.YtfafehnchmelnaaGreat.Ai
namespace Go.Proofs.YtfafehnchmelnaaGreat.Ai
open Go
set_option maxRecDepth 100000
variable [qf]
def pI (l:List Int)(i:Nat):Bool:=decide (1<=l.getD i 0/\l.getD i 0<=3/\(0<i->l.getD (i-1) 0<l.getD i 0))
def okP (l:List Int):Bool:=(List.range l.length).all (pI l)
theorem qmr {l:List Int}{i:Nat}(hi:i<l.length)(h:pI l i=false):okP l=false:=by
 unfold okP
 rw [List.all_eq_false]
 exact ⟨i,List.mem_range.2 hi,by rw [h];simp⟩
theorem qc9 {l:List Int}(h:∀ j,j<l.length->pI l j=true):okP l=true:=by
 unfold okP
 rw [List.all_eq_true]
 exact fun j hj=>h j (List.mem_range.1 hj)
theorem qqA {l:List Int}{n:Nat}(h:∀ j,j<n->pI l j=true):∀ j,j<n->(j:Int)+1<=l.getD j 0
 | 0,hj=>by have:=of_decide_eq_true (h 0 hj);omega
 | j+1,hj=>by
   have h1:=of_decide_eq_true (h (j+1) hj)
   have h2:=qqA h j (by omega)
   have h3:=h1.2.2 (by omega)
   rw [Nat.add_sub_cancel] at h3
   omega
theorem yb {l:List Int}{n:Nat}(h:∀ j,j<n->pI l j=true):n<=3:=by
 apply Decidable.byContradiction
 intro hn
 have h1:=qqA h 3 (by omega)
 have h2:=of_decide_eq_true (h 3 (by omega))
 omega
theorem qnR {l:List Int}{i:Nat}(h1:1<=l.getD i 0)(h2:l.getD i 0<=3)(h3:0<i->l.getD (i-1) 0<l.getD i 0):pI l i=true:=decide_eq_true ⟨h1,h2,h3⟩
def zp (a b c:Int):Bool:=decide (b<=a)&&decide (a<=c)
theorem qpO (a b c:Int):qe Tryz.prog 39 [aI a,aI b,aI c] (rB (zp a b c)):=by
 refine qe.of qc (fn:=Tryz.f39) (c:=Tryz.f39.body.getD .skip) (dr:=fun n=>qa 0 [] n) Tryz.func39 rfl (by kernel_rfl) (by kernel_rfl) (by kernel_rfl) ?_
 refine SEx.go (X:=XX) qc (fun n=>qa [] [] n) (fun _=>none) qd 60 ?_
 intro M R L N m0 m1 m2 m3 m4 m5
 cases M
 cbv
 repeat' first | refine m1 _ _ ?_ ?_ | refine m2 _ _ fun h=>?_ | refine m3 _ ?_ | (refine m4 _ _ (Hd.out ?_);try first | rw [hks] | rw [hk2] | rw [hk3]) | (refine m5 _ _ ?_;cbv)
 all_goals (clear m1 m2 m3 m4 m5;cases m0;(try clear hks;try clear hk2;try clear hk3);try dsimp only)
 all_goals try simp only [sm] at *
 . simp only [jH,zp]
   rw [decide_eq_true (show b<=a by assumption),Bool.true_and]
 . simp only [jH,zp]
   rw [decide_eq_false (show ¬b<=a by omega),Bool.false_and]
theorem ZK {n:Nat}(h:n<18446744073709551616):IntKind.u64.wrap (n:Int)=(n:Int):=by
 simp [IntKind.wrap,IntKind.bits,IntKind.signed];omega
theorem qet {m:Nat}(h:m<=3):IntKind.i64.wrap (1 * 2 ^ min m IntKind.i64.bits)=((2 ^ m:Nat):Int):=by
 have:m=0\/m=1\/m=2\/m=3:=by omega
 rcases this with rfl | rfl | rfl | rfl<;>decide
theorem WI {m:Nat}(h:m<=3):2 ^ m<=8:=by
 have:m=0\/m=1\/m=2\/m=3:=by omega
 rcases this with rfl | rfl | rfl | rfl<;>decide
def qkT (n i:Nat):Int:=IntKind.i64.wrap (1-IntKind.i64.wrap (2 * IntKind.i64.wrap (((BitVec.ofInt IntKind.i64.bits ((n:Int).fdiv (2 ^ min i IntKind.i64.bits)) &&& BitVec.ofInt IntKind.i64.bits 1).toNat:Nat):Int)))
def v6 (n i:Nat):List Int:=(List.range i).map (qkT n)
def vk (m n:Nat):List (List Int):=(List.range n).map fun n=>v6 n m
theorem qbj (n i:Nat):v6 n (i+1)=v6 n i++[qkT n i]:=by simp [v6,List.range_succ]
theorem qaF (m n:Nat):vk m (n+1)=vk m n++[v6 n m]:=by simp [vk,List.range_succ]
theorem KD (n i:Nat):(v6 n i).length=i:=by simp [v6]
theorem yQ (m n:Nat):(vk m n).length=n:=by simp [vk]
def QA (l:List Int):List (List Int):=if okP l then vk l.length (2 ^ l.length) else []
def YK (f:Int->Int->Int->Bool):Wr:=w3 dcI dcI dcI (fun a b c=>rB (f a b c)) (fun _ _ _=>[])
theorem jW:qz Tryz.prog 39 (YK zp):=jL fun a b c _=>qpO a b c
theorem qhr (l:List Int)(h1:l.length<=1048576):qe Tryz.prog 146 [aIs l] (Kv (QA l)):=by
 refine qe.of qc (fn:=Tryz.f146) (c:=Tryz.f146.body.getD .skip) (dr:=fun n=>qa 0 [] n) Tryz.func146 rfl (by kernel_rfl) (by kernel_rfl) (by kernel_rfl) ?_
 obtain ⟨m,hm⟩:∃ m,m=l.length:=⟨_,rfl⟩
 obtain ⟨r,hr⟩:∃ r,r=QA l:=⟨_,rfl⟩
 rw [<-hr]
 refine SEx.go (X:=XX) qc (fun n=>qa [] [(2,[0,9,10,11]),(9,[0,5,6]),(13,[0,5,6,7,44,45])] n) (fun _=>none) qd 60 ?_
 intro M R L N m0 m1 m2 m3 m4 m5
 cases M
 cbv
 repeat' first | refine m1 _ _ ?_ ?_ | refine m2 _ _ fun h=>?_ | refine m3 _ ?_ | (refine m4 _ _ (Hd.out ?_);generalize hks:(List.cons _ _:List K)=ks) | (refine m5 _ _ ?_;cbv)
 all_goals (clear m1 m2 m3 m4 m5;cases m0;try dsimp only)
 all_goals try simp only [sm] at *
 refine ⟨SEx.same (SEx.ind (α:=Nat) (fun i=>⟨63,[(0,bL (.i l)),(9,bL (.i l)),(10,bI m),(11,bI i)],[]⟩) (fun _=>Kv r) (fun i=>i<=m/\∀ j,j<i->pI l j=true) (fun i=>m-i) 0 ⟨by omega,fun j h=>by omega⟩ ?_) (by rw [hm];rfl) rfl⟩
 rintro i ⟨hi,hj⟩ ih
 rw [<-hks]
 have hw:0<(i:Int)->IntKind.i64.wrap ((i:Int)-1)=((i-1:Nat):Int):=fun h=>by rw [qx (by omega) (by omega)];omega
 have hbad:i<l.length->pI l i=false->r=[]:=fun h h2=>by rw [hr,QA,qmr h h2];rfl
 have hgo:∀ (h:i<m) (h2:pI l i=true),i+1<=m/\∀ j,j<i+1->pI l j=true:=fun h h2=>⟨h,fun j hj'=>by
  by_cases e:j=i
  . rw [e];exact h2
  . exact hj j (by omega)⟩
 refine SEx.go (X:=XX) qc (fun n=>qa [] [(2,[0,9,10,11]),(9,[0,5,6]),(13,[0,5,6,7,44,45])] n) (fun _=>none) qd 60 ?_
 intro M R L N m0 m1 m2 m3 m4 m5
 cases M
 cbv
 repeat' first | refine m1 _ _ ?_ ?_ | refine m2 _ _ fun h=>?_ | refine m3 _ ?_ | (refine m4 _ _ (Hd.out ?_);first | rw [hks] | generalize hk2:(List.cons _ _:List K)=k2) | (refine m5 _ _ ?_;cbv)
 all_goals (clear m1 m2 m3 m4 m5;cases m0;try dsimp only)
 all_goals try simp only [sm] at *
 all_goals (try rw [hw (by omega)] at *)
 all_goals (try simp only [Int.toNat_natCast] at *)
 all_goals first
  | omega
  | (have hb:=hbad (by omega) (decide_eq_false (by rintro ⟨h1,h2,h3⟩;first | omega | (have:=h3 (by omega);omega)))
     rw [hb];rfl)
  | (have hp:=qnR (l:=l) (i:=i) (by assumption) (by assumption) (fun h=>by first | assumption | (exfalso;omega))
     simp only [qg (show i<9223372036854775807 by omega)]
     exact ⟨(ih (i+1) (hgo (by omega) hp) (by omega)).same rfl rfl⟩)
  | skip
 clear ih hbad hgo hw
 have him:i=m:=by omega
 subst him
 have hm3:i<=3:=yb hj
 have hrr:r=vk i (2 ^ i):=by rw [hr,QA,if_pos (qc9 (by rw [<-hm];exact hj)),<-hm]
 clear hr hj
 refine ⟨SEx.same (SEx.idx (2 ^ i) (fun n=>⟨63,[(0,bL (.i l)),(5,bR 20480 n),(6,bI n)],[(20480,.osl (.ii true none (vk i n)))]⟩) (fun _=>Kv r) ?_) rfl rfl⟩
 intro n hn ih
 rw [<-hk2]
 obtain ⟨o,ho⟩:∃ o,o=vk i n:=⟨_,rfl⟩
 have hol:o.length=n:=by rw [ho,yQ]
 rw [<-ho]
 have hs:IntKind.i64.wrap (1 * 2 ^ min l.length IntKind.i64.bits)=((2 ^ i:Nat):Int):=by rw [<-hm];exact qet hm3
 have hp:=WI hm3
 obtain ⟨p,hpp⟩:∃ p,p=2 ^ i:=⟨_,rfl⟩
 rw [<-hpp] at hs hp hn ih hrr
 refine SEx.go (X:=XX) qc (fun n=>qa [] [(2,[0,9,10,11]),(9,[0,5,6]),(13,[0,5,6,7,44,45])] n) (fun _=>none) qd 60 ?_
 intro M R L N m0 m1 m2 m3 m4 m5
 cases M
 cbv
 repeat' first | refine m1 _ _ ?_ ?_ | refine m2 _ _ fun h=>?_ | refine m3 _ ?_ | (refine m4 _ _ (Hd.out ?_);first | rw [hks] | rw [hk2] | generalize hk3:(List.cons _ _:List K)=k3) | (refine m5 _ _ ?_;cbv)
 all_goals (clear m1 m2 m3 m4 m5;cases m0;try dsimp only)
 all_goals try simp only [sm] at *
 all_goals (try rw [hs] at *)
 all_goals first
  | omega
  | (have hnp:n=p:=by omega
     subst hnp
     rw [ho,hrr];rfl)
  | skip
 have hm0:=hm
 obtain ⟨m,hmm⟩:∃ m,m=l.length:=⟨_,rfl⟩
 rw [<-hmm] at hm0 ⊢
 refine ⟨SEx.same (SEx.idx m (fun j=>⟨63,[(0,bL (.i l)),(5,bR 20480 n),(6,bI n),(7,bR 28672 j),(44,bI m),(45,bI j)],[(20480,.osl (.ii true none o)),(28672,.osl (.i (v6 n j)))]⟩) (fun _=>Kv r) ?_) rfl rfl⟩
 intro j hj ihj
 rw [<-hk3]
 obtain ⟨w,hw⟩:∃ w,w=v6 n j:=⟨_,rfl⟩
 have hwl:w.length=j:=by rw [hw,KD]
 rw [<-hw]
 refine SEx.go (X:=XX) qc (fun n=>qa [] [(2,[0,9,10,11]),(9,[0,5,6]),(13,[0,5,6,7,44,45])] n) (fun _=>none) qd 60 ?_
 intro M R L N m0 m1 m2 m3 m4 m5
 cases M
 cbv
 repeat' first | refine m1 _ _ ?_ ?_ | refine m2 _ _ fun h=>?_ | refine m3 _ ?_ | (refine m4 _ _ (Hd.out ?_);try first | rw [hks] | rw [hk2] | rw [hk3]) | (refine m5 _ _ ?_;cbv)
 all_goals (clear m1 m2 m3 m4 m5;cases m0;(try clear hks;try clear hk2;try clear hk3);try dsimp only)
 all_goals try simp only [sm] at *
 all_goals first
  | omega
  | rfl
  | (have:=qZ;simp only [List.length_cons,List.length_nil];omega)
  | (have ihj':=ihj (by omega)
     simp only [qg (show j<9223372036854775807 by omega)]
     rw [qbj,<-hw] at ihj'
     simp only [List.length_append,List.length_cons,List.length_nil,hwl]
     exact ⟨ihj'.same rfl rfl⟩)
  | (have hjm:j=m:=by omega
     have ih':=ih (by omega)
     simp only [qg (show n<9223372036854775807 by omega)]
     rw [qaF,<-ho,hm0,<-hjm,<-hw] at ih'
     simp only [List.length_append,List.length_cons,List.length_nil,hol]
     exact ⟨ih'.same rfl rfl⟩)
theorem qf9 (l:List Int)(h1:l.length<=1048576):qe Tryz.prog 123 [aIs l] (Kv (QA l)):=by
 refine qe.of qc (fn:=Tryz.f123) (c:=Tryz.f123.body.getD .skip) (dr:=fun n=>qa 0 [] n) Tryz.func123 rfl (by kernel_rfl) (by kernel_rfl) (by kernel_rfl) ?_
 obtain ⟨f0,hf0⟩:∃ f,f=zp:=⟨_,rfl⟩
 have hO:qp Tryz.prog (qJ [(39,YK f0)]):=by subst hf0;exact qb jW qd
 obtain ⟨m,hm⟩:∃ m,m=l.length:=⟨_,rfl⟩
 obtain ⟨r,hr⟩:∃ r,r=QA l:=⟨_,rfl⟩
 rw [<-hr]
 refine SEx.go (X:=XX) qc (fun n=>qa [] [(2,[0,9,10,11]),(9,[0,5,6]),(13,[0,5,6,7,44,45])] n) (fun _=>none) hO 60 ?_
 intro M R L N m0 m1 m2 m3 m4 m5
 cases M
 cbv
 repeat' first | refine m1 _ _ ?_ ?_ | refine m2 _ _ fun h=>?_ | refine m3 _ ?_ | (refine m4 _ _ (Hd.out ?_);generalize hks:(List.cons _ _:List K)=ks) | (refine m5 _ _ ?_;cbv)
 all_goals (clear m1 m2 m3 m4 m5;cases m0;try dsimp only)
 all_goals try simp only [sm] at *
 refine ⟨SEx.same (SEx.ind (α:=Nat) (fun i=>⟨64,[(0,bL (.i l)),(9,bL (.i l)),(10,bI m),(11,bI i)],[]⟩) (fun _=>Kv r) (fun i=>i<=m/\∀ j,j<i->pI l j=true) (fun i=>m-i) 0 ⟨by omega,fun j h=>by omega⟩ ?_) (by rw [hm];rfl) rfl⟩
 rintro i ⟨hi,hj⟩ ih
 rw [<-hks]
 have hw:0<(i:Int)->IntKind.i64.wrap ((i:Int)-1)=((i-1:Nat):Int):=fun h=>by rw [qx (by omega) (by omega)];omega
 have hbad:i<l.length->pI l i=false->r=[]:=fun h h2=>by rw [hr,QA,qmr h h2];rfl
 have hgo:∀ (h:i<m) (h2:pI l i=true),i+1<=m/\∀ j,j<i+1->pI l j=true:=fun h h2=>⟨h,fun j hj'=>by
  by_cases e:j=i
  . rw [e];exact h2
  . exact hj j (by omega)⟩
 have hft:f0 (l.getD i 0) 1 3=true->1<=l.getD i 0/\l.getD i 0<=3:=by subst hf0;intro h;simpa [zp] using h
 have hff:f0 (l.getD i 0) 1 3=false->¬(1<=l.getD i 0/\l.getD i 0<=3):=by subst hf0;intro h h2;simp only [zp,decide_eq_true h2.1,decide_eq_true h2.2] at h;cases h
 refine SEx.go (X:=XX) qc (fun n=>qa [] [(2,[0,9,10,11]),(9,[0,5,6]),(13,[0,5,6,7,44,45])] n) (fun _=>none) hO 60 ?_
 intro M R L N m0 m1 m2 m3 m4 m5
 cases M
 cbv
 repeat' first | refine m1 _ _ ?_ ?_ | refine m2 _ _ fun h=>?_ | refine m3 _ ?_ | (refine m4 _ _ (Hd.out ?_);first | rw [hks] | generalize hk2:(List.cons _ _:List K)=k2) | (refine m5 _ _ ?_;cbv)
 all_goals (clear m1 m2 m3 m4 m5;cases m0;try dsimp only)
 all_goals try simp only [sm] at *
 all_goals (try (have hA:=hft (by assumption);have hA1:=hA.1;have hA2:=hA.2))
 all_goals (try have hB:=hff (by assumption))
 all_goals (try rw [hw (by omega)] at *)
 all_goals (try simp only [Int.toNat_natCast] at *)
 all_goals first
  | omega
  | (have hb:=hbad (by omega) (decide_eq_false (by rintro ⟨h1,h2,h3⟩;first | omega | (have:=h3 (by omega);omega)))
     rw [hb];rfl)
  | (have hp:=qnR (l:=l) (i:=i) (by assumption) (by assumption) (fun h=>by first | assumption | (exfalso;omega))
     simp only [qg (show i<9223372036854775807 by omega)]
     exact ⟨(ih (i+1) (hgo (by omega) hp) (by omega)).same rfl rfl⟩)
  | skip
 clear ih hbad hgo hw hft hff
 have him:i=m:=by omega
 subst him
 have hm3:i<=3:=yb hj
 have hrr:r=vk i (2 ^ i):=by rw [hr,QA,if_pos (qc9 (by rw [<-hm];exact hj)),<-hm]
 clear hr hj
 refine ⟨SEx.same (SEx.idx (2 ^ i) (fun n=>⟨64,[(0,bL (.i l)),(5,bR 20480 n),(6,bI n)],[(20480,.osl (.ii true none (vk i n)))]⟩) (fun _=>Kv r) ?_) rfl rfl⟩
 intro n hn ih
 rw [<-hk2]
 obtain ⟨o,ho⟩:∃ o,o=vk i n:=⟨_,rfl⟩
 have hol:o.length=n:=by rw [ho,yQ]
 rw [<-ho]
 have hs:IntKind.i64.wrap (1 * 2 ^ min l.length IntKind.i64.bits)=((2 ^ i:Nat):Int):=by rw [<-hm];exact qet hm3
 have hp:=WI hm3
 obtain ⟨p,hpp⟩:∃ p,p=2 ^ i:=⟨_,rfl⟩
 rw [<-hpp] at hs hp hn ih hrr
 have hu:IntKind.u64.wrap (l.length:Int)=(l.length:Int):=ZK (by omega)
 refine SEx.go (X:=XX) qc (fun n=>qa [] [(2,[0,9,10,11]),(9,[0,5,6]),(13,[0,5,6,7,44,45])] n) (fun _=>none) hO 60 ?_
 intro M R L N m0 m1 m2 m3 m4 m5
 cases M
 cbv
 repeat' first | refine m1 _ _ ?_ ?_ | refine m2 _ _ fun h=>?_ | refine m3 _ ?_ | (refine m4 _ _ (Hd.out ?_);first | rw [hks] | rw [hk2] | generalize hk3:(List.cons _ _:List K)=k3) | (refine m5 _ _ ?_;cbv)
 all_goals (clear m1 m2 m3 m4 m5;cases m0;try dsimp only)
 all_goals try simp only [sm] at *
 all_goals (try simp only [hu,Int.toNat_natCast] at *)
 all_goals (try rw [hs] at *)
 all_goals first
  | omega
  | (have hnp:n=p:=by omega
     subst hnp
     rw [ho,hrr];rfl)
  | skip
 have hm0:=hm
 obtain ⟨m,hmm⟩:∃ m,m=l.length:=⟨_,rfl⟩
 rw [<-hmm] at hm0 ⊢
 refine ⟨SEx.same (SEx.idx m (fun j=>⟨64,[(0,bL (.i l)),(5,bR 20480 n),(6,bI n),(7,bR 28672 j),(44,bI m),(45,bI j)],[(20480,.osl (.ii true none o)),(28672,.osl (.i (v6 n j)))]⟩) (fun _=>Kv r) ?_) rfl rfl⟩
 intro j hj ihj
 rw [<-hk3]
 obtain ⟨w,hw⟩:∃ w,w=v6 n j:=⟨_,rfl⟩
 have hwl:w.length=j:=by rw [hw,KD]
 rw [<-hw]
 have hv:j<m->IntKind.u64.wrap (j:Int)=(j:Int):=fun h=>ZK (by omega)
 refine SEx.go (X:=XX) qc (fun n=>qa [] [(2,[0,9,10,11]),(9,[0,5,6]),(13,[0,5,6,7,44,45])] n) (fun _=>none) hO 60 ?_
 intro M R L N m0 m1 m2 m3 m4 m5
 cases M
 cbv
 repeat' first | refine m1 _ _ ?_ ?_ | refine m2 _ _ fun h=>?_ | refine m3 _ ?_ | (refine m4 _ _ (Hd.out ?_);try first | rw [hks] | rw [hk2] | rw [hk3]) | (refine m5 _ _ ?_;cbv)
 all_goals (clear m1 m2 m3 m4 m5;cases m0;(try clear hks;try clear hk2;try clear hk3);try dsimp only)
 all_goals try simp only [sm] at *
 all_goals (try rw [hv (by omega)] at *)
 all_goals (try simp only [Int.toNat_natCast] at *)
 all_goals first
  | omega
  | rfl
  | trivial
  | (have:=qZ;simp only [List.length_cons,List.length_nil];omega)
  | (have ihj':=ihj (by omega)
     simp only [qg (show j<9223372036854775807 by omega)]
     rw [qbj,<-hw] at ihj'
     simp only [List.length_append,List.length_cons,List.length_nil,hwl]
     exact ⟨ihj'.same rfl rfl⟩)
  | (have hjm:j=m:=by omega
     have ih':=ih (by omega)
     simp only [qg (show n<9223372036854775807 by omega)]
     rw [qaF,<-ho,hm0,<-hjm,<-hw] at ih'
     simp only [List.length_append,List.length_cons,List.length_nil,hol]
     exact ⟨ih'.same rfl rfl⟩)
theorem yf (l:List Int):(QA l).length<=8/\∀ x∈QA l,x.length<=3:=by
 unfold QA
 split
 . rename_i h
   have h3:l.length<=3:=by
    unfold okP at h
    rw [List.all_eq_true] at h
    exact yb (fun j hj=>h j (List.mem_range.2 hj))
   refine ⟨by rw [yQ];exact WI h3,fun x hx=>?_⟩
   simp only [vk,List.mem_map] at hx
   obtain ⟨n,_,rfl⟩:=hx
   rw [KD];exact h3
 . exact ⟨by simp,fun x hx=>by cases hx⟩
def qpE (f:List Int->List (List Int)):Wr:=w1 kw (fun l=>Kv (f l)) (fun l=>[LLe l 1048576])
theorem qnw:qz Tryz.prog 123 (qpE QA):=zl fun l h=>qf9 l (h _ (.head _)).out
theorem qny:qz Tryz.prog 146 (qpE QA):=zl fun l h=>qhr l (h _ (.head _)).out
end Go.Proofs.YtfafehnchmelnaaGreat.Ai
namespace Go.Proofs.YtfafehnchmelnaaGreat.Ai
open Go
set_option maxRecDepth 100000
variable [qf]
def rUs (l:List Int):TV W:=.v (false,[.osl (.i l)])
end Go.Proofs.YtfafehnchmelnaaGreat.Ai
namespace Go.Proofs.YtfafehnchmelnaaGreat.Ai
open Go
set_option maxRecDepth 100000
variable [qf]
structure InX {α:Type}(c:Int)(l:List α):Prop where out:0<=c/\c<l.length
def Jn (n x:Int):Bool:=decide (0<=x/\x<n)
theorem qj2 (n m:Int):qe Tryz.prog 74 [aI n,aI m] (rB (Jn n m)):=by
 refine qe.of qc (fn:=Tryz.f74) (c:=Tryz.f74.body.getD .skip) (dr:=fun n=>qa 0 [] n) Tryz.func74 rfl (by kernel_rfl) (by kernel_rfl) (by kernel_rfl) ?_
 refine SEx.go (X:=XX) qc (fun n=>qa [] [] n) (fun _=>none) qd 60 ?_
 intro M R L N m0 m1 m2 m3 m4 m5
 cases M
 cbv
 repeat' first | refine m1 _ _ ?_ ?_ | refine m2 _ _ fun h=>?_ | refine m3 _ ?_ | (refine m4 _ _ (Hd.out ?_);try first | rw [hks] | rw [hk2] | rw [hk3]) | (refine m5 _ _ ?_;cbv)
 all_goals (clear m1 m2 m3 m4 m5;cases m0;(try clear hks;try clear hk2;try clear hk3);try dsimp only)
 all_goals try simp only [sm] at *
 all_goals simp only [jH,Jn]
 all_goals (first | (rw [decide_eq_false (by omega)];done) | (symm;apply decide_eq_decide.2;omega) | (rw [Bool.eq_iff_iff];simp;omega))
def qb0 (f:Int->Int->Bool):Wr:=w2 dcI dcI (fun x y=>rB (f x y)) (fun _ _=>[])
theorem yN:qz Tryz.prog 74 (qb0 Jn):=qF fun x y _=>qj2 x y
end Go.Proofs.YtfafehnchmelnaaGreat.Ai
namespace Go.Proofs.YtfafehnchmelnaaGreat.Ai
open Go
set_option maxRecDepth 100000
variable [qf]
theorem qlf (l:List Tie)(n:Int)(hs:l.length<=maxLen)(hn:0<=n/\n<=9223372036854775807):qe Tryz.prog 25 [WS l,aI n] (rI (szL l n)):=by
 refine qe.of qc (fn:=Tryz.f25) (c:=Tryz.f25.body.getD .skip) (dr:=fun n=>qa 0 [] n) Tryz.func25 rfl (by kernel_rfl) (by kernel_rfl) (by kernel_rfl) ?_
 unfold maxLen at hs
 refine SEx.go (X:=XX) qc (fun n=>qa [] [] n) (fun _=>none) qd 60 ?_
 intro M R L N m0 m1 m2 m3 m4 m5
 cases M
 cbv
 repeat' first | refine m1 _ _ ?_ ?_ | refine m2 _ _ fun h=>?_ | refine m3 _ ?_ | (refine m4 _ _ (Hd.out ?_);try first | rw [hks] | rw [hk2] | rw [hk3]) | (refine m5 _ _ ?_;cbv)
 all_goals (clear m1 m2 m3 m4 m5;cases m0;(try clear hks;try clear hk2;try clear hk3);try dsimp only)
 all_goals try simp only [sm] at *
 all_goals rw [qx (by omega) (by omega)] at *
 all_goals simp only [wh,szL]
 all_goals split<;>omega
def qi9 (f:List Tie->Int->Int):Wr:=w2 Z0 dcI (fun l n=>rI (f l n)) (fun l n=>[LLe l maxLen,qkx n])
theorem qgK:qz Tryz.prog 25 (qi9 szL):=qF fun l n h=>qlf l n (h _ (.head _)).out (h _ (.tail _ (.head _))).out
theorem qn8 (q:Tie):qe Tryz.prog 61 [Y4 q] (qrX q):=by
 refine qe.of qc (fn:=Tryz.f61) (c:=Tryz.f61.body.getD .skip) (dr:=fun n=>qa 0 [] n) Tryz.func61 rfl (by kernel_rfl) (by kernel_rfl) (by kernel_rfl) ?_
 obtain ⟨x1,x2,x3,x4,x5⟩:=q
 refine SEx.go (X:=XX) qc (fun n=>qa [] [] n) (fun _=>none) qd 60 ?_
 intro M R L N m0 m1 m2 m3 m4 m5
 cases M
 cbv
 repeat' first | refine m1 _ _ ?_ ?_ | refine m2 _ _ fun h=>?_ | refine m3 _ ?_ | (refine m4 _ _ (Hd.out ?_);try first | rw [hks] | rw [hk2] | rw [hk3]) | (refine m5 _ _ ?_;cbv)
 all_goals (clear m1 m2 m3 m4 m5;cases m0;(try clear hks;try clear hk2;try clear hk3);try dsimp only)
 all_goals try simp only [sm] at *
 all_goals rfl
def qmW:Wr:=w1 yz qrX (fun _=>[])
theorem qko:qz Tryz.prog 61 qmW:=zl fun q _=>qn8 q
theorem qlc (l:List Tie)(hs:l.length<=1048576):qe Tryz.prog 30 [WS l] (qfv l):=by
 refine qe.of qc (fn:=Tryz.f30) (c:=Tryz.f30.body.getD .skip) (dr:=fun n=>qa 0 [] n) Tryz.func30 rfl (by kernel_rfl) (by kernel_rfl) (by kernel_rfl) ?_
 have hO:qp Tryz.prog (qJ [(61,qmW)]):=qb qko qd
 refine SEx.go (X:=XX) qc (fun n=>qa [] [(3,[0,3,4])] n) (fun _=>none) hO 60 ?_
 intro M R L N m0 m1 m2 m3 m4 m5
 cases M
 cbv
 repeat' first | refine m1 _ _ ?_ ?_ | refine m2 _ _ fun h=>?_ | refine m3 _ ?_ | (refine m4 _ _ (Hd.out ?_);generalize hks:(List.cons _ _:List K)=ks) | (refine m5 _ _ ?_;cbv)
 all_goals (clear m1 m2 m3 m4 m5;cases m0;try dsimp only)
 all_goals try simp only [sm] at *
 . have:=qZ;omega
 generalize hn:l.length=n at *
 refine ⟨SEx.same (SEx.idx n (fun i:Nat=>⟨23,[(0,bL (.tie l)),(3,bR 12288 n),(4,bI i)],[(12288,.osl (.tie (ZC ⟨0,0,0,0,false⟩ l n i)))]⟩) (fun _=>qfv l) ?_) rfl rfl⟩
 intro i hi ih
 rw [<-hks]
 obtain ⟨fl,hfl⟩:∃ x,x=ZC (⟨0,0,0,0,false⟩:Tie) l n i:=⟨_,rfl⟩
 have hf:=Wg (z:=(⟨0,0,0,0,false⟩:Tie)) hn hi
 rw [<-hfl] at hf ⊢
 refine SEx.go (X:=XX) qc (fun n=>qa [] [(3,[0,3,4])] n) (fun _=>none) hO 60 ?_
 intro M R L N m0 m1 m2 m3 m4 m5
 cases M
 cbv
 repeat' first | refine m1 _ _ ?_ ?_ | refine m2 _ _ fun h=>?_ | refine m3 _ ?_ | (refine m4 _ _ (Hd.out ?_);try first | rw [hks] | rw [hk2] | rw [hk3]) | (refine m5 _ _ ?_;cbv)
 all_goals (clear m1 m2 m3 m4 m5;cases m0;(try clear hks;try clear hk2;try clear hk3);try dsimp only)
 all_goals try simp only [sm] at *
 all_goals (try simp only [KZ] at *)
 all_goals (try omega)
 . simp only [qg (show i<9223372036854775807 by omega),qkN,qhD,hfl]
   have e:=wj (z:=(⟨0,0,0,0,false⟩:Tie)) (d:=Tie.z) hn (show i<n by omega)
   have ih':=ih (by omega)
   rw [<-e] at ih'
   exact ⟨ih'⟩
 . obtain rfl:i=n:=by omega
   rw [hfl,We hn];rfl
def qjm:Wr:=w1 Z0 qfv (fun l=>[LLe l 1048576])
theorem qg7:qz Tryz.prog 30 qjm:=zl fun l h=>qlc l (h _ (.head _)).out
theorem qm8 (q:Tie):qe Tryz.prog 67 [Y4 q,Y4 q] (rB true):=by
 refine qe.of qc (fn:=Tryz.f67) (c:=Tryz.f67.body.getD .skip) (dr:=fun n=>qa 0 [] n) Tryz.func67 rfl (by kernel_rfl) (by kernel_rfl) (by kernel_rfl) ?_
 obtain ⟨x1,x2,x3,x4,x5⟩:=q
 refine SEx.go (X:=XX) qc (fun n=>qa [] [] n) (fun _=>none) qd 60 ?_
 intro M R L N m0 m1 m2 m3 m4 m5
 cases M
 cbv
 repeat' first | refine m1 _ _ ?_ ?_ | refine m2 _ _ fun h=>?_ | refine m3 _ ?_ | (refine m4 _ _ (Hd.out ?_);try first | rw [hks] | rw [hk2] | rw [hk3]) | (refine m5 _ _ ?_;cbv)
 all_goals (clear m1 m2 m3 m4 m5;cases m0;(try clear hks;try clear hk2;try clear hk3);try dsimp only)
 all_goals try simp only [sm] at *
 all_goals first
  | exact absurd trivial (by assumption)
  | rfl
  | (exfalso;simp_all;done)
def qmG:Wr:=w2 yz yz (fun _ _=>rB true) (fun q r=>[yS q r])
theorem qjZ:qz Tryz.prog 67 qmG:=qF fun q r h=>by
 obtain rfl:=(h _ (.head _)).out
 exact qm8 q
theorem qkM (l:List Tie)(hs:l.length<=maxLen):qe Tryz.prog 34 [WS l,WS l] (rB true):=by
 refine qe.of qc (fn:=Tryz.f34) (c:=Tryz.f34.body.getD .skip) (dr:=fun n=>qa 0 [(6,8)] n) Tryz.func34 rfl (by kernel_rfl) (by kernel_rfl) (by kernel_rfl) ?_
 unfold maxLen at hs
 have hO:qp Tryz.prog (qJ [(67,qmG)]):=qb qjZ qd
 refine SEx.go (X:=XX) qc (fun n=>qa [] [(4,[0,1,5])] n) (fun _=>none) hO 60 ?_
 intro M R L N m0 m1 m2 m3 m4 m5
 cases M
 cbv
 repeat' first | refine m1 _ _ ?_ ?_ | refine m2 _ _ fun h=>?_ | refine m3 _ ?_ | (refine m4 _ _ (Hd.out ?_);generalize hks:(List.cons _ _:List K)=ks) | (refine m5 _ _ ?_;cbv)
 all_goals (clear m1 m2 m3 m4 m5;cases m0;try dsimp only)
 all_goals try simp only [sm] at *
 . exact absurd trivial (by assumption)
 generalize hn:l.length=n at *
 refine ⟨SEx.same (SEx.idx n (fun i:Nat=>⟨27,[(0,bL (.tie l)),(1,bL (.tie l)),(5,bI i)],[]⟩) (fun _=>rB true) ?_) rfl rfl⟩
 intro i hi ih
 rw [<-hks]
 refine SEx.go (X:=XX) qc (fun n=>qa [] [(4,[0,1,5])] n) (fun _=>none) hO 60 ?_
 intro M R L N m0 m1 m2 m3 m4 m5
 cases M
 cbv
 repeat' first | refine m1 _ _ ?_ ?_ | refine m2 _ _ fun h=>?_ | refine m3 _ ?_ | (refine m4 _ _ (Hd.out ?_);try first | rw [hks] | rw [hk2] | rw [hk3]) | (refine m5 _ _ ?_;cbv)
 all_goals (clear m1 m2 m3 m4 m5;cases m0;(try clear hks;try clear hk2;try clear hk3);try dsimp only)
 all_goals try simp only [sm] at *
 all_goals first
  | omega
  | exact absurd trivial (by assumption)
  | rfl
  | exact ⟨rfl⟩
  | contradiction
  | (simp only [qg (show i<9223372036854775807 by omega)];exact ⟨ih (by omega)⟩)
def qiZ:Wr:=w2 Z0 Z0 (fun _ _=>rB true) (fun l m=>[yS l m,LLe l maxLen])
theorem qg3:qz Tryz.prog 34 qiZ:=qF fun l m h=>by
 obtain rfl:=(h _ (.head _)).out
 exact qkM l (h _ (.tail _ (.head _))).out
end Go.Proofs.YtfafehnchmelnaaGreat.Ai
namespace Go.Proofs.YtfafehnchmelnaaGreat.Ai
open Go
set_option maxRecDepth 100000
variable [qf]
def zC (q:qi)(n:Int):Int:=if n<q.name.size then -1 else szL q.label (n-q.name.size)
def qdv (g:List Int->Int->Int):Wr:=w2 kw dcI (fun l n=>rI (g l n)) (fun l n=>[LLe l maxLen,qkx n])
theorem qfc:qz Tryz.prog 84 (qdv szL):=qhf
theorem qm9 {α:Type}(l:List α){n:Int}(h:0<=n):szL l n<=n:=by unfold szL;split<;>omega
theorem qjM (q:qi)(n:Int)(hs:q.name.size<=maxLen)(hl:q.label.length<=maxLen)(hn:0<=n/\n<=9223372036854775807):qe Tryz.prog 49 [wV q,aI n] (rI (zC q n)):=by
 refine qe.of qc (fn:=Tryz.f49) (c:=Tryz.f49.body.getD .skip) (dr:=fun n=>qa 0 [] n) Tryz.func49 rfl (by kernel_rfl) (by kernel_rfl) (by kernel_rfl) ?_
 unfold maxLen at hs
 obtain ⟨g,hg⟩:∃ g:List Int->Int->Int,g=szL:=⟨_,rfl⟩
 have hO:qp Tryz.prog (qJ [(84,qdv g)]):=by subst hg;exact qb qfc qd
 obtain ⟨x1,x2,x3⟩:=q
 have hs:x1.size<=2 ^ 63-1:=hs
 have hl:x2.length<=maxLen:=hl
 refine SEx.go (X:=XX) qc (fun n=>qa [] [] n) (fun _=>none) hO 60 ?_
 intro M R L N m0 m1 m2 m3 m4 m5
 cases M
 cbv
 repeat' first | refine m1 _ _ ?_ ?_ | refine m2 _ _ fun h=>?_ | refine m3 _ ?_ | (refine m4 _ _ (Hd.out ?_);try first | rw [hks] | rw [hk2] | rw [hk3]) | (refine m5 _ _ ?_;cbv)
 all_goals (clear m1 m2 m3 m4 m5;cases m0;(try clear hks;try clear hk2;try clear hk3);try dsimp only)
 all_goals try simp only [sm] at *
 all_goals (try rw [qx (by omega) (by omega)] at *)
 all_goals first
  | exact ⟨hl⟩
  | exact ⟨⟨by omega,by omega⟩⟩
  | (simp only [wh,zC];rw [if_pos (by omega)];done)
  | (subst hg;simp only [wh,zC];rw [if_neg (by omega)];done)
  | (subst hg;simp only [wh,zC];rw [if_neg (by omega)];unfold szL at *;split<;>omega)
theorem yt (q:qi){n:Int}(h:0<=n):zC q n<=n:=by
 unfold zC
 split
 . omega
 . have:=qm9 q.label (n:=n-q.name.size) (by omega)
   omega
structure WK (q:qi)(n:Nat):Prop where
 name:q.name.size<=n
 label:q.label.length<=n
theorem qgr {q:qi}{n:Int}(h:0<=zC q n):(q.name.size:Int)<=n/\(q.label.length:Int)<=n:=by
 unfold zC szL at h
 split at h
 . omega
 . split at h<;>omega
def qiV (f:qi->Int->Int):Wr:=w2 wc dcI (fun q n=>rI (f q n)) (fun q n=>[WK q maxLen,qkx n])
theorem qhs:qz Tryz.prog 49 (qiV zC):=qF fun q n h=>qjM q n (h _ (.head _)).name (h _ (.head _)).label (h _ (.tail _ (.head _))).out
def szF {α:Type}(f:α->Int->Int):List α->Int->Int
 | [],n=>n
 | q::r,n=>if f q n<0 then -1 else szF f r (f q n)
theorem qfx {α:Type}{f:α->Int->Int}{l:List α}{i:Nat}{m:Int}(z:α)(h:i<l.length):szF f (l.drop i) m=if f (l.getD i z) m<0 then -1 else szF f (l.drop (i+1)) (f (l.getD i z) m):=by
 rw [List.drop_eq_getElem_cons h,zy h]
 rfl
def ko (l:List qi)(n:Int):Int:=if n<l.length then -1 else szF zC l (n-l.length)
theorem qg5 (l:List qi)(n:Int)(hs:l.length<=maxLen)(hq:∀ q∈l,WK q maxLen)(hn:0<=n/\n<=9223372036854775807):qe Tryz.prog 24 [vU l,aI n] (rI (ko l n)):=by
 refine qe.of qc (fn:=Tryz.f24) (c:=Tryz.f24.body.getD .skip) (dr:=fun n=>qa 0 [] n) Tryz.func24 rfl (by kernel_rfl) (by kernel_rfl) (by kernel_rfl) ?_
 unfold maxLen at hs
 obtain ⟨g,hg⟩:∃ g,g=zC:=⟨_,rfl⟩
 have hO:qp Tryz.prog (qJ [(49,qiV g)]):=by subst hg;exact qb qhs qd
 refine SEx.go (X:=XX) qc (fun n=>qa [] [(5,[0,1,5])] n) (fun _=>none) hO 60 ?_
 intro M R L N m0 m1 m2 m3 m4 m5
 cases M
 cbv
 repeat' first | refine m1 _ _ ?_ ?_ | refine m2 _ _ fun h=>?_ | refine m3 _ ?_ | (refine m4 _ _ (Hd.out ?_);generalize hks:(List.cons _ _:List K)=ks) | (refine m5 _ _ ?_;cbv)
 all_goals (clear m1 m2 m3 m4 m5;cases m0;try dsimp only)
 all_goals try simp only [sm] at *
 . rw [qx (by omega) (by omega)] at *
   simp only [wh,ko]
   split<;>omega
 rw [qx (by omega) (by omega)] at *
 have h0:0<=n-l.length:=by assumption
 rw [show ko l n=szF zC (l.drop 0) (n-l.length) by unfold ko;rw [if_neg (by omega)];rfl]
 refine ⟨SEx.same (SEx.ind (fun x:Nat×Int=>⟨27,[(0,bL (.node false none l)),(1,.v (false,[.fz (.int .i64 x.2)])),(5,bI x.1)],[]⟩) (fun x=>rI (szF zC (l.drop x.1) x.2)) (fun x=>x.1<=l.length/\0<=x.2/\x.2<=n) (fun x=>l.length-x.1) (0,n-l.length) ⟨by omega,h0,by omega⟩ ?_) rfl rfl⟩
 rintro ⟨i,m⟩ ⟨hi,hm1,hm2⟩ ih
 dsimp only at hi hm1 hm2 ih ⊢
 rw [<-hks]
 refine SEx.go (X:=XX) qc (fun n=>qa [] [(5,[0,1,5])] n) (fun _=>none) hO 60 ?_
 intro M R L N m0 m1 m2 m3 m4 m5
 cases M
 cbv
 repeat' first | refine m1 _ _ ?_ ?_ | refine m2 _ _ fun h=>?_ | refine m3 _ ?_ | (refine m4 _ _ (Hd.out ?_);try first | rw [hks] | rw [hk2] | rw [hk3]) | (refine m5 _ _ ?_;cbv)
 all_goals (clear m1 m2 m3 m4 m5;cases m0;(try clear hks;try clear hk2;try clear hk3);try dsimp only)
 all_goals try simp only [sm] at *
 all_goals first
  | omega
  | exact hq _ (qo (z:=qi.z) (by omega)).out
  | exact ⟨⟨hm1,by omega⟩⟩
  | (subst hg
     have hi':i<l.length:=by omega
     rw [qfx qi.z hi',if_pos (by assumption)]
     rfl)
  | (subst hg
     have hi':i<l.length:=by omega
     have h2:0<=zC (l.getD i qi.z) m:=by assumption
     have h3:=yt (l.getD i qi.z) hm1
     simp only [qg (show i<9223372036854775807 by omega)]
     exact ⟨(ih (i+1,zC (l.getD i qi.z) m) ⟨by show i+1<=l.length;omega,h2,by show zC _ m<=n;omega⟩ (by show l.length-(i+1)<_;omega)).same rfl (by rw [qfx qi.z hi',if_neg (by omega)])⟩)
  | (obtain rfl:i=l.length:=by omega
     rw [List.drop_length]
     rfl)
  | trace_state
theorem qj4 (q:qi)(hl:q.label.length<=1048576):qe Tryz.prog 60 [wV q] (qqn q):=by
 refine qe.of qc (fn:=Tryz.f60) (c:=Tryz.f60.body.getD .skip) (dr:=fun n=>qa 0 [] n) Tryz.func60 rfl (by kernel_rfl) (by kernel_rfl) (by kernel_rfl) ?_
 have hO:qp Tryz.prog (qJ [(100,qjo)]):=qb qie qd
 obtain ⟨x1,x2,x3⟩:=q
 have hl:x2.length<=1048576:=hl
 refine SEx.go (X:=XX) qc (fun n=>qa [] [] n) (fun _=>none) hO 60 ?_
 intro M R L N m0 m1 m2 m3 m4 m5
 cases M
 cbv
 repeat' first | refine m1 _ _ ?_ ?_ | refine m2 _ _ fun h=>?_ | refine m3 _ ?_ | (refine m4 _ _ (Hd.out ?_);try first | rw [hks] | rw [hk2] | rw [hk3]) | (refine m5 _ _ ?_;cbv)
 all_goals (clear m1 m2 m3 m4 m5;cases m0;(try clear hks;try clear hk2;try clear hk3);try dsimp only)
 all_goals try simp only [sm] at *
 all_goals first
  | rfl
  | exact ⟨hl⟩
theorem qkW (q:qi)(hl:q.label.length<=maxLen):qe Tryz.prog 66 [wV q,wV q] (rB true):=by
 refine qe.of qc (fn:=Tryz.f66) (c:=Tryz.f66.body.getD .skip) (dr:=fun n=>qa 0 [] n) Tryz.func66 rfl (by kernel_rfl) (by kernel_rfl) (by kernel_rfl) ?_
 have hO:qp Tryz.prog (qJ [(109,qjF)]):=qb qia qd
 obtain ⟨x1,x2,x3⟩:=q
 have hl:x2.length<=maxLen:=hl
 refine SEx.go (X:=XX) qc (fun n=>qa [] [] n) (fun _=>none) hO 60 ?_
 intro M R L N m0 m1 m2 m3 m4 m5
 cases M
 cbv
 repeat' first | refine m1 _ _ ?_ ?_ | refine m2 _ _ fun h=>?_ | refine m3 _ ?_ | (refine m4 _ _ (Hd.out ?_);try first | rw [hks] | rw [hk2] | rw [hk3]) | (refine m5 _ _ ?_;cbv)
 all_goals (clear m1 m2 m3 m4 m5;cases m0;(try clear hks;try clear hk2;try clear hk3);try dsimp only)
 all_goals try simp only [sm] at *
 all_goals first
  | exact absurd trivial (by assumption)
  | rfl
  | exact ⟨rfl⟩
  | exact ⟨hl⟩
  | (exfalso;simp_all;done)
structure qqt (q:qi)(n:Nat):Prop where out:q.label.length<=n
def qiu:Wr:=w1 wc qqn (fun q=>[qqt q 1048576])
theorem qhR:qz Tryz.prog 60 qiu:=zl fun q h=>qj4 q (h _ (.head _)).out
def qip:Wr:=w2 wc wc (fun _ _=>rB true) (fun q r=>[yS q r,qqt q maxLen])
theorem qg9:qz Tryz.prog 66 qip:=qF fun q r h=>by
 obtain rfl:=(h _ (.head _)).out
 exact qkW q (h _ (.tail _ (.head _))).out
theorem qlO {fl:List qi}{i:Nat}(h:i<fl.length)(s:ByteArray)(lab:List Int)(w:Int) :
 JJ qi.z ((fl.set i ⟨s,(fl.getD i qi.z).2,(fl.getD i qi.z).3⟩).set i ⟨((fl.set i ⟨s,(fl.getD i qi.z).2,(fl.getD i qi.z).3⟩).getD i qi.z).1,lab,((fl.set i ⟨s,(fl.getD i qi.z).2,(fl.getD i qi.z).3⟩).getD i qi.z).3⟩) i (fun q=>⟨q.name,q.label,w⟩)=fl.set i ⟨s,lab,w⟩:=by
 simp [JJ,List.getD_eq_getElem?_getD,h]
theorem qgB (l:List qi)(hs:l.length<=1048576)(hl:∀ q∈l,q.label.length<=1048576):qe Tryz.prog 29 [vU l] (qgy l):=by
 refine qe.of qc (fn:=Tryz.f29) (c:=Tryz.f29.body.getD .skip) (dr:=fun n=>qa 0 [] n) Tryz.func29 rfl (by kernel_rfl) (by kernel_rfl) (by kernel_rfl) ?_
 have hO:qp Tryz.prog (qJ [(60,qiu)]):=qb qhR qd
 refine SEx.go (X:=XX) qc (fun n=>qa [] [(3,[0,3,4])] n) (fun _=>none) hO 60 ?_
 intro M R L N m0 m1 m2 m3 m4 m5
 cases M
 cbv
 repeat' first | refine m1 _ _ ?_ ?_ | refine m2 _ _ fun h=>?_ | refine m3 _ ?_ | (refine m4 _ _ (Hd.out ?_);generalize hks:(List.cons _ _:List K)=ks) | (refine m5 _ _ ?_;cbv)
 all_goals (clear m1 m2 m3 m4 m5;cases m0;try dsimp only)
 all_goals try simp only [sm] at *
 . have:=qZ;omega
 generalize hn:l.length=n at *
 refine ⟨SEx.same (SEx.idx n (fun i:Nat=>⟨23,[(0,bL (.node false none l)),(3,bR 12288 n),(4,bI i)],[(12288,.osl (.node true none (ZC ⟨⟨#[]⟩,[],0⟩ l n i)))]⟩) (fun _=>qgy l) ?_) rfl rfl⟩
 intro i hi ih
 rw [<-hks]
 obtain ⟨fl,hfl⟩:∃ x,x=ZC (⟨⟨#[]⟩,[],0⟩:qi) l n i:=⟨_,rfl⟩
 have hf:=Wg (z:=(⟨⟨#[]⟩,[],0⟩:qi)) hn hi
 rw [<-hfl] at hf ⊢
 refine SEx.go (X:=XX) qc (fun n=>qa [] [(3,[0,3,4])] n) (fun _=>none) hO 60 ?_
 intro M R L N m0 m1 m2 m3 m4 m5
 cases M
 cbv
 repeat' first | refine m1 _ _ ?_ ?_ | refine m2 _ _ fun h=>?_ | refine m3 _ ?_ | (refine m4 _ _ (Hd.out ?_);try first | rw [hks] | rw [hk2] | rw [hk3]) | (refine m5 _ _ ?_;cbv)
 all_goals (clear m1 m2 m3 m4 m5;cases m0;(try clear hks;try clear hk2;try clear hk3);try dsimp only)
 all_goals try simp only [sm] at *
 all_goals (try simp only [List.length_set,KZ])
 all_goals (try omega)
 . exact ⟨hl _ (qo (z:=qi.z) (by omega)).out⟩
 . simp only [qg (show i<9223372036854775807 by omega)]
   have e:=wj (z:=(⟨⟨#[]⟩,[],0⟩:qi)) (d:=qi.z) hn (show i<n by omega)
   have ih':=ih (by omega)
   rw [<-e,<-hfl] at ih'
   refine ⟨ih'.same ?_ rfl⟩
   rw [qlO (by omega)]
   rfl
 . obtain rfl:i=n:=by omega
   rw [hfl,We hn];rfl
theorem qg4 (l:List qi)(hs:l.length<=maxLen)(hl:∀ q∈l,q.label.length<=maxLen):qe Tryz.prog 33 [vU l,vU l] (rB true):=by
 refine qe.of qc (fn:=Tryz.f33) (c:=Tryz.f33.body.getD .skip) (dr:=fun n=>qa 0 [(6,8)] n) Tryz.func33 rfl (by kernel_rfl) (by kernel_rfl) (by kernel_rfl) ?_
 unfold maxLen at hs
 have hO:qp Tryz.prog (qJ [(66,qip)]):=qb qg9 qd
 refine SEx.go (X:=XX) qc (fun n=>qa [] [(4,[0,1,5])] n) (fun _=>none) hO 60 ?_
 intro M R L N m0 m1 m2 m3 m4 m5
 cases M
 cbv
 repeat' first | refine m1 _ _ ?_ ?_ | refine m2 _ _ fun h=>?_ | refine m3 _ ?_ | (refine m4 _ _ (Hd.out ?_);generalize hks:(List.cons _ _:List K)=ks) | (refine m5 _ _ ?_;cbv)
 all_goals (clear m1 m2 m3 m4 m5;cases m0;try dsimp only)
 all_goals try simp only [sm] at *
 . exact absurd trivial (by assumption)
 generalize hn:l.length=n at *
 refine ⟨SEx.same (SEx.idx n (fun i:Nat=>⟨27,[(0,bL (.node false none l)),(1,bL (.node false none l)),(5,bI i)],[]⟩) (fun _=>rB true) ?_) rfl rfl⟩
 intro i hi ih
 rw [<-hks]
 refine SEx.go (X:=XX) qc (fun n=>qa [] [(4,[0,1,5])] n) (fun _=>none) hO 60 ?_
 intro M R L N m0 m1 m2 m3 m4 m5
 cases M
 cbv
 repeat' first | refine m1 _ _ ?_ ?_ | refine m2 _ _ fun h=>?_ | refine m3 _ ?_ | (refine m4 _ _ (Hd.out ?_);try first | rw [hks] | rw [hk2] | rw [hk3]) | (refine m5 _ _ ?_;cbv)
 all_goals (clear m1 m2 m3 m4 m5;cases m0;(try clear hks;try clear hk2;try clear hk3);try dsimp only)
 all_goals try simp only [sm] at *
 all_goals first
  | omega
  | exact absurd trivial (by assumption)
  | rfl
  | exact ⟨rfl⟩
  | contradiction
  | exact ⟨hl _ (qo (z:=qi.z) (by omega)).out⟩
  | (simp only [qg (show i<9223372036854775807 by omega)];exact ⟨ih (by omega)⟩)
structure WH (l:List qi)(n:Nat):Prop where out:∀ q∈l,q.label.length<=n
structure qiF (l:List qi)(n:Nat):Prop where out:∀ q∈l,WK q n
def qdU (f:List qi->Int->Int):Wr:=w2 vr dcI (fun l n=>rI (f l n)) (fun l n=>[LLe l maxLen,qiF l maxLen,qkx n])
theorem qdz:qz Tryz.prog 24 (qdU ko):=qF fun l n h=>qg5 l n (h _ (.head _)).out (h _ (.tail _ (.head _))).out (h _ (.tail _ (.tail _ (.head _)))).out
def qds:Wr:=w1 vr qgy (fun l=>[LLe l 1048576,WH l 1048576])
theorem qfd:qz Tryz.prog 29 qds:=zl fun l h=>qgB l (h _ (.head _)).out (h _ (.tail _ (.head _))).out
def qe3:Wr:=w2 vr vr (fun _ _=>rB true) (fun l m=>[yS l m,LLe l maxLen,WH l maxLen])
theorem qdA:qz Tryz.prog 33 qe3:=qF fun l m h=>by
 obtain rfl:=(h _ (.head _)).out
 exact qg4 l (h _ (.tail _ (.head _))).out (h _ (.tail _ (.tail _ (.head _)))).out
end Go.Proofs.YtfafehnchmelnaaGreat.Ai
namespace Go.Proofs.YtfafehnchmelnaaGreat.Ai
open Go
set_option maxRecDepth 100000
variable [qf]
def jA (t:qj)(n:Int):Int:=if ko t.nodes n<0 then -1 else if szL t.ties (ko t.nodes n)<0 then -1 else szL t.ties (ko t.nodes n)
theorem ql3:∀ (l:List qi) (n:Int),0<=n->szF zC l n<=n/\(0<=szF zC l n->∀ q∈l,(q.name.size:Int)<=n/\(q.label.length:Int)<=n)
 | [],n,h=>⟨Int.le_refl _,fun _ q hq=>by cases hq⟩
 | q::r,n,h=>by
   have h0:=yt q h
   unfold szF
   by_cases hn:zC q n<0
   . rw [if_pos hn];exact ⟨by omega,fun h=>by omega⟩
   . rw [if_neg hn]
     have ih:=ql3 r (zC q n) (by omega)
     refine ⟨by omega,fun h1 x hx=>?_⟩
     rcases List.mem_cons.1 hx with rfl | hx
     . exact qgr (by omega)
     . have:=ih.2 h1 x hx;omega
theorem Va {l:List qi}{n:Int}(h:0<=n):ko l n<=n/\(0<=ko l n->(l.length:Int)<=n/\∀ q∈l,(q.name.size:Int)<=n/\(q.label.length:Int)<=n):=by
 unfold ko
 split
 . exact ⟨by omega,fun h=>by omega⟩
 . have:=ql3 l (n-l.length) (by omega)
   refine ⟨by omega,fun h1=>⟨by omega,fun q hq=>?_⟩⟩
   have:=this.2 h1 q hq
   omega
theorem qk0 (t:qj)(n:Int)(h1:t.nodes.length<=maxLen)(h2:t.ties.length<=maxLen)(h3:∀ q∈t.nodes,WK q maxLen)(hn:0<=n/\n<=9223372036854775807):qe Tryz.prog 9 [qH t,aI n] (rI (jA t n)):=by
 refine qe.of qc (fn:=Tryz.f9) (c:=Tryz.f9.body.getD .skip) (dr:=fun n=>qa 0 [] n) Tryz.func9 rfl (by kernel_rfl) (by kernel_rfl) (by kernel_rfl) ?_
 obtain ⟨f,hf⟩:∃ f,f=ko:=⟨_,rfl⟩
 obtain ⟨g,hg⟩:∃ g:List Tie->Int->Int,g=szL:=⟨_,rfl⟩
 have hO:qp Tryz.prog (qJ [(24,qdU f),(25,qi9 g)]):=by subst hf hg;exact qb qdz (qb qgK qd)
 obtain ⟨cs,ps,hr⟩:=t
 have h1:cs.length<=maxLen:=h1
 have h2:ps.length<=maxLen:=h2
 have h3:∀ q∈cs,WK q maxLen:=h3
 have h4:f cs n<=n:=by rw [hf];exact (Va hn.1).1
 refine SEx.go (X:=XX) qc (fun n=>qa [] [] n) (fun _=>none) hO 60 ?_
 intro M R L N m0 m1 m2 m3 m4 m5
 cases M
 cbv
 repeat' first | refine m1 _ _ ?_ ?_ | refine m2 _ _ fun h=>?_ | refine m3 _ ?_ | (refine m4 _ _ (Hd.out ?_);try first | rw [hks] | rw [hk2] | rw [hk3]) | (refine m5 _ _ ?_;cbv)
 all_goals (clear m1 m2 m3 m4 m5;cases m0;(try clear hks;try clear hk2;try clear hk3);try dsimp only)
 all_goals try simp only [sm] at *
 all_goals first
  | exact ⟨h1⟩
  | exact ⟨h2⟩
  | exact ⟨h3⟩
  | exact ⟨hn⟩
  | exact ⟨⟨by omega,by omega⟩⟩
  | (subst hf hg;simp only [wh,jA];rw [if_pos (by assumption)];done)
  | (subst hf hg;simp only [wh,jA];rw [if_neg (by omega),if_pos (by assumption)];done)
  | (subst hf hg;simp only [wh,jA];rw [if_neg (by omega),if_neg (by omega)];done)
  | trace_state
theorem qkj (t:qj)(h1:t.nodes.length<=1048576)(h2:t.ties.length<=1048576)(h3:∀ q∈t.nodes,q.label.length<=1048576):qe Tryz.prog 11 [qH t] (Yj t):=by
 refine qe.of qc (fn:=Tryz.f11) (c:=Tryz.f11.body.getD .skip) (dr:=fun n=>qa 0 [] n) Tryz.func11 rfl (by kernel_rfl) (by kernel_rfl) (by kernel_rfl) ?_
 have hO:qp Tryz.prog (qJ [(29,qds),(30,qjm)]):=qb qfd (qb qg7 qd)
 obtain ⟨cs,ps,hr⟩:=t
 have h1:cs.length<=1048576:=h1
 have h2:ps.length<=1048576:=h2
 have h3:∀ q∈cs,q.label.length<=1048576:=h3
 refine SEx.go (X:=XX) qc (fun n=>qa [] [] n) (fun n=>qa none qsU n) hO 8 ?_
 intro M R L N m0 m1 m2 m3 m4 m5
 cases M
 cbv
 repeat' first | refine m1 _ _ ?_ ?_ | refine m2 _ _ fun h=>?_ | refine m3 _ ?_ | (refine m4 _ _ (Hd.out ?_);try first | rw [hks] | rw [hk2] | rw [hk3]) | (refine m5 _ _ ?_;cbv)
 all_goals (clear m1 m2 m3 m4 m5;cases m0;(try clear hks;try clear hk2;try clear hk3);try dsimp only)
 all_goals try simp only [sm] at *
 all_goals first
  | exact ⟨h1⟩
  | exact ⟨h2⟩
  | exact ⟨h3⟩
  | rfl
  | trace_state
theorem qj3 (t:qj)(h1:t.nodes.length<=maxLen)(h2:t.ties.length<=maxLen)(h3:∀ q∈t.nodes,q.label.length<=maxLen):qe Tryz.prog 13 [qH t,qH t] (rB true):=by
 refine qe.of qc (fn:=Tryz.f13) (c:=Tryz.f13.body.getD .skip) (dr:=fun n=>qa 0 [] n) Tryz.func13 rfl (by kernel_rfl) (by kernel_rfl) (by kernel_rfl) ?_
 have hO:qp Tryz.prog (qJ [(33,qe3),(34,qiZ)]):=qb qdA (qb qg3 qd)
 obtain ⟨cs,ps,hr⟩:=t
 have h1:cs.length<=maxLen:=h1
 have h2:ps.length<=maxLen:=h2
 have h3:∀ q∈cs,q.label.length<=maxLen:=h3
 refine SEx.go (X:=XX) qc (fun n=>qa [] [] n) (fun _=>none) hO 60 ?_
 intro M R L N m0 m1 m2 m3 m4 m5
 cases M
 cbv
 repeat' first | refine m1 _ _ ?_ ?_ | refine m2 _ _ fun h=>?_ | refine m3 _ ?_ | (refine m4 _ _ (Hd.out ?_);try first | rw [hks] | rw [hk2] | rw [hk3]) | (refine m5 _ _ ?_;cbv)
 all_goals (clear m1 m2 m3 m4 m5;cases m0;(try clear hks;try clear hk2;try clear hk3);try dsimp only)
 all_goals try simp only [sm] at *
 all_goals first
  | exact ⟨h1⟩
  | exact ⟨h2⟩
  | exact ⟨h3⟩
  | exact ⟨rfl⟩
  | rfl
  | contradiction
  | exact absurd trivial (by assumption)
  | trace_state
def qi4 (f:qj->Int->Int):Wr:=w2 qK dcI (fun t n=>rI (f t n)) (fun t n=>[LLe t.nodes maxLen,LLe t.ties maxLen,qiF t.nodes maxLen,qkx n])
theorem qgl:qz Tryz.prog 9 (qi4 jA):=qF fun t n h=>qk0 t n (h _ (.head _)).out (h _ (.tail _ (.head _))).out (h _ (.tail _ (.tail _ (.head _)))).out (h _ (.tail _ (.tail _ (.tail _ (.head _))))).out
def qiN:Wr:=w1 qK Yj (fun t=>[LLe t.nodes 1048576,LLe t.ties 1048576,WH t.nodes 1048576])
theorem qgp:qz Tryz.prog 11 qiN:=zl fun t h=>qkj t (h _ (.head _)).out (h _ (.tail _ (.head _))).out (h _ (.tail _ (.tail _ (.head _)))).out
def qi5:Wr:=w2 qK qK (fun _ _=>rB true) (fun t u=>[yS t u,LLe t.nodes maxLen,LLe t.ties maxLen,WH t.nodes maxLen])
theorem qhm:qz Tryz.prog 13 qi5:=qF fun t u h=>by
 obtain rfl:=(h _ (.head _)).out
 exact qj3 t (h _ (.tail _ (.head _))).out (h _ (.tail _ (.tail _ (.head _)))).out (h _ (.tail _ (.tail _ (.tail _ (.head _))))).out
theorem qjP {t:qj}{n:Int}(h0:0<=n)(h:0<=jA t n):(t.nodes.length:Int)<=n/\(t.ties.length:Int)<=n/\(∀ q∈t.nodes,(q.name.size:Int)<=n/\(q.label.length:Int)<=n)/\jA t n<=n:=by
 unfold jA at h ⊢
 have h1:=Va (l:=t.nodes) h0
 split at h
 . omega
 . rename_i ha
   rw [if_neg ha]
   split at h
   . omega
   . rename_i hb
     rw [if_neg hb]
     have h2:=h1.2 (by omega)
     have h3:=qm9 t.ties (n:=ko t.nodes n) (by omega)
     refine ⟨h2.1,?_,h2.2,by omega⟩
     unfold szL at hb
     split at hb<;>omega
end Go.Proofs.YtfafehnchmelnaaGreat.Ai
namespace Go.Proofs.YtfafehnchmelnaaGreat.Ai
open Go
set_option maxRecDepth 100000
variable [qf]
def Vo (p:Nat->Bool)(n:Nat):Bool:=(List.range n).all p
theorem qjD {p:Nat->Bool}{n i:Nat}(hi:i<n)(h:p i=false):Vo p n=false:=by
 unfold Vo
 rw [List.all_eq_false]
 exact ⟨i,List.mem_range.2 hi,by rw [h];simp⟩
theorem ZM {p:Nat->Bool}{n:Nat}(h:∀ j,j<n->p j=true):Vo p n=true:=by
 unfold Vo
 rw [List.all_eq_true]
 exact fun j hj=>h j (List.mem_range.1 hj)
theorem Je {p:Nat->Bool}{n:Nat}(h:Vo p n=true):∀ j,j<n->p j=true:=by
 unfold Vo at h
 rw [List.all_eq_true] at h
 exact fun j hj=>h j (List.mem_range.2 hj)
structure IIn (n:Int):Prop where out:inI n
def zH (n:Int):Int:=if n<0 then IntKind.i64.wrap (-n) else n
theorem qnQ {n:Int}(h:inI n):IntKind.i64.wrap (-n)=if n=-9223372036854775808 then n else -n:=by
 rw [kv] at h
 split
 . rename_i e;subst e;decide
 . exact qx (by omega) (by omega)
theorem qfp (n:Int):qe Tryz.prog 88 [aI n] (rI (zH n)):=by
 refine qe.of qc (fn:=Tryz.f88) (c:=Tryz.f88.body.getD .skip) (dr:=fun n=>qa 0 [] n) Tryz.func88 rfl (by kernel_rfl) (by kernel_rfl) (by kernel_rfl) ?_
 refine SEx.go (X:=XX) qc (fun n=>qa [] [] n) (fun _=>none) qd 60 ?_
 intro M R L N m0 m1 m2 m3 m4 m5
 cases M
 cbv
 repeat' first | refine m1 _ _ ?_ ?_ | refine m2 _ _ fun h=>?_ | refine m3 _ ?_ | (refine m4 _ _ (Hd.out ?_);try first | rw [hks] | rw [hk2] | rw [hk3]) | (refine m5 _ _ ?_;cbv)
 all_goals (clear m1 m2 m3 m4 m5;cases m0;(try clear hks;try clear hk2;try clear hk3);try dsimp only)
 all_goals try simp only [sm] at *
 . simp only [wh,zH];rw [if_pos (by assumption),Int.zero_sub]
 . simp only [wh,zH];rw [if_neg (by omega)]
theorem qew (n:Int)(h:inI n):qe Tryz.prog 81 [aI n] (rI (zH n)):=by
 refine qe.of qc (fn:=Tryz.f81) (c:=Tryz.f81.body.getD .skip) (dr:=fun n=>qa 0 [] n) Tryz.func81 rfl (by kernel_rfl) (by kernel_rfl) (by kernel_rfl) ?_
 refine SEx.go (X:=XX) qc (fun n=>qa [] [] n) (fun _=>none) qd 60 ?_
 intro M R L N m0 m1 m2 m3 m4 m5
 cases M
 cbv
 repeat' first | refine m1 _ _ ?_ ?_ | refine m2 _ _ fun h=>?_ | refine m3 _ ?_ | (refine m4 _ _ (Hd.out ?_);try first | rw [hks] | rw [hk2] | rw [hk3]) | (refine m5 _ _ ?_;cbv)
 all_goals (clear m1 m2 m3 m4 m5;cases m0;(try clear hks;try clear hk2;try clear hk3);try dsimp only)
 all_goals try simp only [sm] at *
 all_goals simp only [wh,zH,Int.zero_sub]
 all_goals rw [qnQ h]
 all_goals rw [kv] at h
 all_goals (split<;>split<;>(try split at *)<;>omega)
def Vl (f:Int->Int):Wr:=w1 dcI (fun n=>rI (f n)) (fun n=>[IIn n])
theorem vZ:qz Tryz.prog 88 (Vl zH):=zl fun n _=>qfp n
theorem Wc:qz Tryz.prog 81 (Vl zH):=zl fun n h=>qew n (h _ (.head _)).out
def lP (l:List Int)(i:Nat):Bool:=decide (¬l.getD i 0=0/\-3<=l.getD i 0/\l.getD i 0<=3/\(0<i->zH (l.getD (i-1) 0)<zH (l.getD i 0)))
def qX (l:List Int):Bool:=Vo (lP l) l.length
theorem yU (l:List Int)(h1:l.length<=maxLen)(hx:∀ n∈l,inI n):qe Tryz.prog 114 [aIs l] (rB (qX l)):=by
 refine qe.of qc (fn:=Tryz.f114) (c:=Tryz.f114.body.getD .skip) (dr:=fun n=>qa 0 [] n) Tryz.func114 rfl (by kernel_rfl) (by kernel_rfl) (by kernel_rfl) ?_
 obtain ⟨m,hm⟩:∃ m,m=l.length:=⟨_,rfl⟩
 obtain ⟨r,hr⟩:∃ r,r=qX l:=⟨_,rfl⟩
 obtain ⟨f,hf⟩:∃ f,f=zH:=⟨_,rfl⟩
 have hO:qp Tryz.prog (qJ [(81,Vl f)]):=by subst hf;exact qb Wc qd
 unfold maxLen at h1
 rw [<-hr]
 refine SEx.go (X:=XX) qc (fun n=>qa [] [(2,[0,5,6,7])] n) (fun _=>none) hO 60 ?_
 intro M R L N m0 m1 m2 m3 m4 m5
 cases M
 cbv
 repeat' first | refine m1 _ _ ?_ ?_ | refine m2 _ _ fun h=>?_ | refine m3 _ ?_ | (refine m4 _ _ (Hd.out ?_);generalize hks:(List.cons _ _:List K)=ks) | (refine m5 _ _ ?_;cbv)
 all_goals (clear m1 m2 m3 m4 m5;cases m0;try dsimp only)
 all_goals try simp only [sm] at *
 refine ⟨SEx.same (SEx.ind (α:=Nat) (fun i=>⟨38,[(0,bL (.i l)),(5,bL (.i l)),(6,bI m),(7,bI i)],[]⟩) (fun _=>rB r) (fun i=>i<=m/\∀ j,j<i->lP l j=true) (fun i=>m-i) 0 ⟨by omega,fun j h=>by omega⟩ ?_) (by rw [hm];rfl) rfl⟩
 rintro i ⟨hi,hj⟩ ih
 rw [<-hks]
 have hw:0<(i:Int)->IntKind.i64.wrap ((i:Int)-1)=((i-1:Nat):Int):=fun h=>by rw [qx (by omega) (by omega)];omega
 have hbad:i<l.length->lP l i=false->r=false:=fun h h2=>by rw [hr,qX,qjD h h2]
 have hgo:∀ (h:i<m) (h2:lP l i=true),i+1<=m/\∀ j,j<i+1->lP l j=true:=fun h h2=>⟨h,fun j hj'=>by
  by_cases e:j=i
  . rw [e];exact h2
  . exact hj j (by omega)⟩
 refine SEx.go (X:=XX) qc (fun n=>qa [] [(2,[0,5,6,7])] n) (fun _=>none) hO 60 ?_
 intro M R L N m0 m1 m2 m3 m4 m5
 cases M
 cbv
 repeat' first | refine m1 _ _ ?_ ?_ | refine m2 _ _ fun h=>?_ | refine m3 _ ?_ | (refine m4 _ _ (Hd.out ?_);try first | rw [hks] | rw [hk2] | rw [hk3]) | (refine m5 _ _ ?_;cbv)
 all_goals (clear m1 m2 m3 m4 m5;cases m0;(try clear hks;try clear hk2;try clear hk3);try dsimp only)
 all_goals try simp only [sm] at *
 all_goals (try rw [hw (by omega)] at *)
 all_goals (try simp only [Int.toNat_natCast] at *)
 all_goals (clear hO;subst hf)
 all_goals first
  | omega
  | exact ⟨hx _ (qo (z:=(0:Int)) (by omega)).out⟩
  | (have hb:=hbad (by omega) (decide_eq_false (by rintro ⟨h1,h2,h3,h4⟩;first | contradiction | omega | (have:=h4 (by omega);omega)))
     rw [hb];rfl)
  | (have hp:lP l i=true:=decide_eq_true ⟨by assumption,by assumption,by assumption,fun h=>by first | assumption | (exfalso;omega)⟩
     simp only [qg (show i<9223372036854775807 by omega)]
     exact ⟨(ih (i+1) (hgo (by omega) hp) (by omega)).same rfl rfl⟩)
  | (have hee:i=m:=by omega
     subst hee
     rw [hr,qX,ZM (by rw [<-hm];exact hj)];rfl)
theorem yY (l:List Int)(h1:l.length<=maxLen)(hx:∀ n∈l,inI n):qe Tryz.prog 121 [aIs l] (rB (qX l)):=by
 refine qe.of qc (fn:=Tryz.f121) (c:=Tryz.f121.body.getD .skip) (dr:=fun n=>qa 0 [] n) Tryz.func121 rfl (by kernel_rfl) (by kernel_rfl) (by kernel_rfl) ?_
 obtain ⟨m,hm⟩:∃ m,m=l.length:=⟨_,rfl⟩
 obtain ⟨r,hr⟩:∃ r,r=qX l:=⟨_,rfl⟩
 obtain ⟨f0,hf0⟩:∃ f,f=zp:=⟨_,rfl⟩
 obtain ⟨f,hf⟩:∃ f,f=zH:=⟨_,rfl⟩
 have hO:qp Tryz.prog (qJ [(39,YK f0),(88,Vl f)]):=by subst hf hf0;exact qb jW (qb vZ qd)
 unfold maxLen at h1
 rw [<-hr]
 refine SEx.go (X:=XX) qc (fun n=>qa [] [(2,[0,5,6,7])] n) (fun _=>none) hO 60 ?_
 intro M R L N m0 m1 m2 m3 m4 m5
 cases M
 cbv
 repeat' first | refine m1 _ _ ?_ ?_ | refine m2 _ _ fun h=>?_ | refine m3 _ ?_ | (refine m4 _ _ (Hd.out ?_);generalize hks:(List.cons _ _:List K)=ks) | (refine m5 _ _ ?_;cbv)
 all_goals (clear m1 m2 m3 m4 m5;cases m0;try dsimp only)
 all_goals try simp only [sm] at *
 refine ⟨SEx.same (SEx.ind (α:=Nat) (fun i=>⟨35,[(0,bL (.i l)),(5,bL (.i l)),(6,bI m),(7,bI i)],[]⟩) (fun _=>rB r) (fun i=>i<=m/\∀ j,j<i->lP l j=true) (fun i=>m-i) 0 ⟨by omega,fun j h=>by omega⟩ ?_) (by rw [hm];rfl) rfl⟩
 rintro i ⟨hi,hj⟩ ih
 rw [<-hks]
 have hw:0<(i:Int)->IntKind.i64.wrap ((i:Int)-1)=((i-1:Nat):Int):=fun h=>by rw [qx (by omega) (by omega)];omega
 have hbad:i<l.length->lP l i=false->r=false:=fun h h2=>by rw [hr,qX,qjD h h2]
 have hgo:∀ (h:i<m) (h2:lP l i=true),i+1<=m/\∀ j,j<i+1->lP l j=true:=fun h h2=>⟨h,fun j hj'=>by
  by_cases e:j=i
  . rw [e];exact h2
  . exact hj j (by omega)⟩
 have hft:f0 (l.getD i 0) (-3) 3=true->-3<=l.getD i 0/\l.getD i 0<=3:=by subst hf0;intro h;simpa [zp] using h
 have hff:f0 (l.getD i 0) (-3) 3=false->¬(-3<=l.getD i 0/\l.getD i 0<=3):=by subst hf0;intro h h2;simp only [zp,decide_eq_true h2.1,decide_eq_true h2.2] at h;cases h
 refine SEx.go (X:=XX) qc (fun n=>qa [] [(2,[0,5,6,7])] n) (fun _=>none) hO 60 ?_
 intro M R L N m0 m1 m2 m3 m4 m5
 cases M
 cbv
 repeat' first | refine m1 _ _ ?_ ?_ | refine m2 _ _ fun h=>?_ | refine m3 _ ?_ | (refine m4 _ _ (Hd.out ?_);try first | rw [hks] | rw [hk2] | rw [hk3]) | (refine m5 _ _ ?_;cbv)
 all_goals (clear m1 m2 m3 m4 m5;cases m0;(try clear hks;try clear hk2;try clear hk3);try dsimp only)
 all_goals try simp only [sm] at *
 all_goals (try (have hA:=hft (by assumption);have hA1:=hA.1;have hA2:=hA.2))
 all_goals (try have hB:=hff (by assumption))
 all_goals (try rw [hw (by omega)] at *)
 all_goals (try simp only [Int.toNat_natCast] at *)
 all_goals (clear hO;subst hf)
 all_goals first
  | omega
  | exact ⟨hx _ (qo (z:=(0:Int)) (by omega)).out⟩
  | (have hb:=hbad (by omega) (decide_eq_false (by rintro ⟨h1,h2,h3,h4⟩;first | contradiction | omega | (have:=h4 (by omega);omega)))
     rw [hb];rfl)
  | (have hp:lP l i=true:=decide_eq_true ⟨by assumption,by assumption,by assumption,fun h=>by first | assumption | (exfalso;omega)⟩
     simp only [qg (show i<9223372036854775807 by omega)]
     exact ⟨(ih (i+1) (hgo (by omega) hp) (by omega)).same rfl rfl⟩)
  | (have hee:i=m:=by omega
     subst hee
     rw [hr,qX,ZM (by rw [<-hm];exact hj)];rfl)
structure Kf (l:List Int):Prop where
 len:l.length<=maxLen
 all:∀ n∈l,inI n
def QU (f:List Int->Bool):Wr:=w1 kw (fun l=>rB (f l)) (fun l=>[Kf l])
theorem vz:qz Tryz.prog 121 (QU qX):=zl fun l h=>yY l (h _ (.head _)).len (h _ (.head _)).all
theorem ZZ:qz Tryz.prog 114 (QU qX):=zl fun l h=>yU l (h _ (.head _)).len (h _ (.head _)).all
end Go.Proofs.YtfafehnchmelnaaGreat.Ai
namespace Go.Proofs.YtfafehnchmelnaaGreat.Ai
open Go
set_option maxRecDepth 100000
variable [qf]
def ZE (l:List Int)(v:Int):Bool:=decide (0<=zV (fun x=>v == x) l 0)
theorem qnv (l:List Int)(v:Int)(h1:l.length<=maxLen):qe Tryz.prog 82 [aIs l,aI v] (rB (ZE l v)):=by
 refine qe.of qc (fn:=Tryz.f82) (c:=Tryz.f82.body.getD .skip) (dr:=fun n=>qa 0 [] n) Tryz.func82 rfl (by kernel_rfl) (by kernel_rfl) (by kernel_rfl) ?_
 obtain ⟨f,hf⟩:∃ f:List Int->Int->Int,f=fun l v=>zV (fun x=>v == x) l 0:=⟨_,rfl⟩
 have hO:qp Tryz.prog (qJ [(118,qis f)]):=by subst hf;exact qb qgO qd
 refine SEx.go (X:=XX) qc (fun n=>qa [] [] n) (fun _=>none) hO 60 ?_
 intro M R L N m0 m1 m2 m3 m4 m5
 cases M
 cbv
 repeat' first | refine m1 _ _ ?_ ?_ | refine m2 _ _ fun h=>?_ | refine m3 _ ?_ | (refine m4 _ _ (Hd.out ?_);try first | rw [hks] | rw [hk2] | rw [hk3]) | (refine m5 _ _ ?_;cbv)
 all_goals (clear m1 m2 m3 m4 m5;cases m0;(try clear hks;try clear hk2;try clear hk3);try dsimp only)
 all_goals try simp only [sm] at *
 all_goals first
  | exact ⟨h1⟩
  | (subst hf;rfl)
theorem qrd (l:List Int)(v:Int)(h1:l.length<=maxLen):qe Tryz.prog 89 [aIs l,aI v] (rB (ZE l v)):=by
 refine qe.of qc (fn:=Tryz.f89) (c:=Tryz.f89.body.getD .skip) (dr:=fun n=>qa 0 [] n) Tryz.func89 rfl (by kernel_rfl) (by kernel_rfl) (by kernel_rfl) ?_
 unfold maxLen at h1
 obtain ⟨g,hg⟩:∃ g:Nat->Bool,g=fun i=>decide (0<=zV (fun x=>v == x) (l.drop i) i):=⟨_,rfl⟩
 rw [show ZE l v=g 0 by rw [hg];rfl]
 refine SEx.go (X:=XX) qc (fun n=>qa [] [(2,[1,7,8,9])] n) (fun _=>none) qd 60 ?_
 intro M R L N m0 m1 m2 m3 m4 m5
 cases M
 cbv
 repeat' first | refine m1 _ _ ?_ ?_ | refine m2 _ _ fun h=>?_ | refine m3 _ ?_ | (refine m4 _ _ (Hd.out ?_);generalize hks:(List.cons _ _:List K)=ks) | (refine m5 _ _ ?_;cbv)
 all_goals (clear m1 m2 m3 m4 m5;cases m0;try dsimp only)
 all_goals try simp only [sm] at *
 obtain ⟨m,hm⟩:∃ m,m=l.length:=⟨_,rfl⟩
 refine ⟨SEx.same (SEx.idx m (fun i=>⟨17,[(1,bI v),(7,bL (.i l)),(8,bI m),(9,bI i)],[]⟩) (fun i=>rB (g i)) ?_) (by rw [hm];rfl) rfl⟩
 intro i hi ih
 rw [<-hks]
 refine SEx.go (X:=XX) qc (fun n=>qa [] [(2,[1,7,8,9])] n) (fun _=>none) qd 60 ?_
 intro M R L N m0 m1 m2 m3 m4 m5
 cases M
 cbv
 repeat' first | refine m1 _ _ ?_ ?_ | refine m2 _ _ fun h=>?_ | refine m3 _ ?_ | (refine m4 _ _ (Hd.out ?_);try first | rw [hks] | rw [hk2] | rw [hk3]) | (refine m5 _ _ ?_;cbv)
 all_goals (clear m1 m2 m3 m4 m5;cases m0;(try clear hks;try clear hk2;try clear hk3);try dsimp only)
 all_goals try simp only [sm] at *
 all_goals first
  | omega
  | (have hh:l.getD i 0=v:=by assumption
     rw [hg];simp only [jH];rw [Qc (z:=(0:Int)) (by omega) (by rw [hh];simp),decide_eq_true (by omega)])
  | (have hh:¬l.getD i 0=v:=by assumption
     simp only [qg (show i<9223372036854775807 by omega)]
     have e:g i=g (i+1):=by rw [hg];simp only;rw [Zg (z:=(0:Int)) (by omega) (beq_eq_false_iff_ne.2 (fun e=>hh e.symm))]
     exact ⟨(ih (by omega)).same rfl (by rw [e])⟩)
  | (rw [hg];simp only [jH];rw [Qd (by omega)];rfl)
  | trace_state
def qgc (f:List Int->Int->Bool):Wr:=w2 kw dcI (fun l v=>rB (f l v)) (fun l _=>[LLe l maxLen])
theorem qad:qz Tryz.prog 89 (qgc ZE):=qF fun l v h=>qrd l v (h _ (.head _)).out
theorem qeE:qz Tryz.prog 82 (qgc ZE):=qF fun l v h=>qnv l v (h _ (.head _)).out
def QL (q:qi):Bool:=Qg q.name 0&&qX q.label&&(decide (0<=q.watch)&&decide (q.watch<=3))
theorem qaA (q:qi)(hs:q.name.size<=maxLen)(hl:q.label.length<=maxLen)(hx:∀ n∈q.label,inI n):qe Tryz.prog 85 [wV q] (rB (QL q)):=by
 refine qe.of qc (fn:=Tryz.f85) (c:=Tryz.f85.body.getD .skip) (dr:=fun n=>qa 0 [] n) Tryz.func85 rfl (by kernel_rfl) (by kernel_rfl) (by kernel_rfl) ?_
 obtain ⟨f0,hf0⟩:∃ f,f=zp:=⟨_,rfl⟩
 obtain ⟨f1,hf1⟩:∃ f,f=(Qg · 0):=⟨_,rfl⟩
 obtain ⟨f2,hf2⟩:∃ f,f=qX:=⟨_,rfl⟩
 have hO:qp Tryz.prog (qJ [(120,qcm f1),(121,QU f2),(39,YK f0)]):=by subst hf0 hf1 hf2;exact qb qkS (qb vz (qb jW qd))
 obtain ⟨x1,x2,x3⟩:=q
 refine SEx.go (X:=XX) qc (fun n=>qa [] [] n) (fun _=>none) hO 60 ?_
 intro M R L N m0 m1 m2 m3 m4 m5
 cases M
 cbv
 repeat' first | refine m1 _ _ ?_ ?_ | refine m2 _ _ fun h=>?_ | refine m3 _ ?_ | (refine m4 _ _ (Hd.out ?_);try first | rw [hks] | rw [hk2] | rw [hk3]) | (refine m5 _ _ ?_;cbv)
 all_goals (clear m1 m2 m3 m4 m5;cases m0;(try clear hks;try clear hk2;try clear hk3);try dsimp only)
 all_goals try simp only [sm] at *
 all_goals first
  | exact ⟨hs⟩
  | exact ⟨hl,hx⟩
  | (subst hf0 hf1 hf2;simp only [jH,QL];simp_all [zp];done)
  | trace_state
theorem qao (q:qi)(hs:q.name.size<=maxLen)(hl:q.label.length<=maxLen)(hx:∀ n∈q.label,inI n):qe Tryz.prog 73 [wV q] (rB (QL q)):=by
 refine qe.of qc (fn:=Tryz.f73) (c:=Tryz.f73.body.getD .skip) (dr:=fun n=>qa 0 [] n) Tryz.func73 rfl (by kernel_rfl) (by kernel_rfl) (by kernel_rfl) ?_
 obtain ⟨f1,hf1⟩:∃ f,f=(Qg · 0):=⟨_,rfl⟩
 obtain ⟨f2,hf2⟩:∃ f,f=qX:=⟨_,rfl⟩
 have hO:qp Tryz.prog (qJ [(113,qcm f1),(114,QU f2)]):=by subst hf1 hf2;exact qb qkd (qb ZZ qd)
 obtain ⟨x1,x2,x3⟩:=q
 refine SEx.go (X:=XX) qc (fun n=>qa [] [] n) (fun _=>none) hO 60 ?_
 intro M R L N m0 m1 m2 m3 m4 m5
 cases M
 cbv
 repeat' first | refine m1 _ _ ?_ ?_ | refine m2 _ _ fun h=>?_ | refine m3 _ ?_ | (refine m4 _ _ (Hd.out ?_);try first | rw [hks] | rw [hk2] | rw [hk3]) | (refine m5 _ _ ?_;cbv)
 all_goals (clear m1 m2 m3 m4 m5;cases m0;(try clear hks;try clear hk2;try clear hk3);try dsimp only)
 all_goals try simp only [sm] at *
 all_goals first
  | exact ⟨hs⟩
  | exact ⟨hl,hx⟩
  | (subst hf1 hf2;simp only [jH,QL];simp_all;done)
  | (subst hf1 hf2;simp only [jH,QL];rw [decide_eq_false (by omega)];simp;done)
  | trace_state
end Go.Proofs.YtfafehnchmelnaaGreat.Ai
namespace Go.Proofs.YtfafehnchmelnaaGreat.Ai
open Go
set_option maxRecDepth 100000
variable [qf]
def qcK (x:Int):Bool:=decide (-1<=x)&&decide (x<=1)
def qW (l:List Int):Bool:=qD (fun _ x=>qcK x) l 0&&decide (l.length=3)
theorem Yc (n:Int):qe Tryz.prog 139 [aI n] (rB (!qcK n)):=by
 refine qe.of qc (fn:=Tryz.f139) (c:=Tryz.f139.body.getD .skip) (dr:=fun n=>qa 0 [] n) Tryz.func139 rfl (by kernel_rfl) (by kernel_rfl) (by kernel_rfl) ?_
 refine SEx.go (X:=XX) qc (fun n=>qa [] [] n) (fun _=>none) qd 60 ?_
 intro M R L N m0 m1 m2 m3 m4 m5
 cases M
 cbv
 repeat' first | refine m1 _ _ ?_ ?_ | refine m2 _ _ fun h=>?_ | refine m3 _ ?_ | (refine m4 _ _ (Hd.out ?_);try first | rw [hks] | rw [hk2] | rw [hk3]) | (refine m5 _ _ ?_;cbv)
 all_goals (clear m1 m2 m3 m4 m5;cases m0;(try clear hks;try clear hk2;try clear hk3);try dsimp only)
 all_goals try simp only [sm] at *
 all_goals simp only [jH,qcK]
 all_goals first
  | (rw [decide_eq_false (show ¬-1<=n by omega)];rfl)
  | (rw [decide_eq_true (show -1<=n by omega)];rw [Bool.eq_iff_iff];simp;done)
theorem Vy (l:List Int)(h1:l.length<=maxLen):qe Tryz.prog 125 [aIs l] (rB (qW l)):=by
 refine qe.of qc (fn:=Tryz.f125) (c:=Tryz.f125.body.getD .skip) (dr:=fun n=>qa 0 [] n) Tryz.func125 rfl (by kernel_rfl) (by kernel_rfl) (by kernel_rfl) ?_
 obtain ⟨f,hf⟩:∃ f:List Int->Bool,f=fun l=>l.any (fun n=>!qcK n):=⟨_,rfl⟩
 have hO:qp Tryz.prog (qJ [(45,wCl kw 139 [] (fun l=>rB (f l)) (fun l=>[LLe l maxLen]))]):=by
  subst hf
  exact qb (qcs fun l h=>Kd l _ _ _ (fun q _=>Yc q) (h _ (.head _)).out) qd
 have ha:qD (fun _ x=>qcK x) l 0=!f l:=by
  rw [hf,show (!List.any l fun n=>!qcK n)=l.all qcK by rw [List.not_any_eq_all_not];simp]
  generalize 0=k
  induction l generalizing k with
  | nil=>rfl
  | cons x r ih=>simp only [qD,List.all_cons];rw [ih (by simp at h1;omega)]
 rw [show qW l=(!f l&&decide (l.length=3)) by unfold qW;rw [ha]]
 clear ha hf
 refine SEx.go (X:=XX) qc (fun n=>qa [] [] n) (fun _=>none) hO 60 ?_
 intro M R L N m0 m1 m2 m3 m4 m5
 cases M
 cbv
 repeat' first | refine m1 _ _ ?_ ?_ | refine m2 _ _ fun h=>?_ | refine m3 _ ?_ | (refine m4 _ _ (Hd.out ?_);try first | rw [hks] | rw [hk2] | rw [hk3]) | (refine m5 _ _ ?_;cbv)
 all_goals (clear m1 m2 m3 m4 m5;cases m0;(try clear hks;try clear hk2;try clear hk3);try dsimp only)
 all_goals try simp only [sm] at *
 all_goals first
  | exact ⟨rfl⟩
  | exact ⟨h1⟩
  | (simp only [jH];rw [decide_eq_true (by omega),Bool.and_true];done)
  | (simp only [jH];rw [decide_eq_false (by omega),Bool.and_false];done)
def Wp (f:List Int->Bool):Wr:=w1 kw (fun l=>rB (f l)) (fun l=>[LLe l maxLen])
theorem JQ:qz Tryz.prog 125 (Wp qW):=zl fun l h=>Vy l (h _ (.head _)).out
theorem qc5 (t:qj)(s:ByteArray)(h1:t.nodes.length<=maxLen):qe Tryz.prog 86 [qH t,aS s] (rI (zV (fun q=>eqS q.name s) t.nodes 0)):=by
 refine qe.of qc (fn:=Tryz.f86) (c:=Tryz.f86.body.getD .skip) (dr:=fun n=>qa 0 [] n) Tryz.func86 rfl (by kernel_rfl) (by kernel_rfl) (by kernel_rfl) ?_
 obtain ⟨cs,ps,hr⟩:=t
 have h1:cs.length<=maxLen:=h1
 unfold maxLen at h1
 show SEx _ _ _ _ _ _ (rI (zV _ cs 0))
 refine SEx.go (X:=XX) qc (fun n=>qa [] [(2,[1,8,9,10])] n) (fun _=>none) qd 60 ?_
 intro M R L N m0 m1 m2 m3 m4 m5
 cases M
 cbv
 repeat' first | refine m1 _ _ ?_ ?_ | refine m2 _ _ fun h=>?_ | refine m3 _ ?_ | (refine m4 _ _ (Hd.out ?_);generalize hks:(List.cons _ _:List K)=ks) | (refine m5 _ _ ?_;cbv)
 all_goals (clear m1 m2 m3 m4 m5;cases m0;try dsimp only)
 all_goals try simp only [sm] at *
 obtain ⟨n,hn⟩:∃ n,n=cs.length:=⟨_,rfl⟩
 refine ⟨SEx.same (SEx.idx n (fun i=>⟨21,[(1,bS s),(8,bL (.node false none cs)),(9,bI n),(10,bI i)],[]⟩) (fun i=>rI (zV (fun q=>eqS q.name s) (cs.drop i) i)) ?_) (by rw [hn];rfl) rfl⟩
 intro i hi ih
 rw [<-hks]
 refine SEx.go (X:=XX) qc (fun n=>qa [] [(2,[1,8,9,10])] n) (fun _=>none) qd 60 ?_
 intro M R L N m0 m1 m2 m3 m4 m5
 cases M
 cbv
 repeat' first | refine m1 _ _ ?_ ?_ | refine m2 _ _ fun h=>?_ | refine m3 _ ?_ | (refine m4 _ _ (Hd.out ?_);try first | rw [hks] | rw [hk2] | rw [hk3]) | (refine m5 _ _ ?_;cbv)
 all_goals (clear m1 m2 m3 m4 m5;cases m0;(try clear hks;try clear hk2;try clear hk3);try dsimp only)
 all_goals try simp only [sm] at *
 all_goals first
  | omega
  | exact ⟨rfl,by cases caps<;>rfl⟩
  | exact ⟨rfl,rfl⟩
  | exact qo (z:=qi.z) (by omega)
  | (rw [Qc (p:=fun q=>eqS q.name s) (l:=cs) (i:=i) qi.z (by omega) (by first | assumption | exact beq_iff_eq.2 (by assumption))];rfl)
  | (rw [Qd (by omega)];rfl)
  | (simp only [qg (show i<9223372036854775807 by omega)];exact ⟨(ih (by omega)).same rfl (by rw [Zg (p:=fun q=>eqS q.name s) (l:=cs) (i:=i) qi.z (by omega) (by first | assumption | exact beq_eq_false_iff_ne.2 (by assumption) | (simp_all;done))])⟩)
def qrV (k:Nat):Dc (List Int):=⟨fun s=>aF k [.ptr [.sl (.i s)]],fun | (false,[.fn f [.ptr [.sl (.i s)]]])=>(match nq f k with | true=>some s | false=>none) | _=>none,by
 intro x a h
 split at h
 . split at h
   . rename_i hk
     obtain rfl:=Qk.1 hk
     simp only [Option.some.injEq] at h;subst h;rfl
   . cases h
 . cases h⟩
def JZ (a b:List Int):Bool:=qX a&&qX b&&b.all (ZE a)
theorem KL {α:Type}(p:α->Bool):∀ (l:List α) (k:Nat),qD (fun _ x=>p x) l k=l.all p
 | [],_=>rfl
 | a::r,k=>by simp only [qD,List.all_cons,KL p r]
theorem Vu (x:Int)(a:List Int)(h1:a.length<=maxLen):qe Tryz.prog 119 [aI x,(false,[.ptr [.sl (.i a)]])] (rB (!ZE a x)):=by
 refine qe.of qc (fn:=Tryz.f119) (c:=Tryz.f119.body.getD .skip) (dr:=fun n=>qa 0 [] n) Tryz.func119 rfl (by kernel_rfl) (by kernel_rfl) (by kernel_rfl) ?_
 obtain ⟨f,hf⟩:∃ f,f=ZE:=⟨_,rfl⟩
 have hO:qp Tryz.prog (qJ [(82,qgc f)]):=by subst hf;exact qb qeE qd
 rw [<-hf]
 refine SEx.go (X:=XX) qc (fun n=>qa [] [] n) (fun _=>none) hO 60 ?_
 intro M R L N m0 m1 m2 m3 m4 m5
 cases M
 cbv
 repeat' first | refine m1 _ _ ?_ ?_ | refine m2 _ _ fun h=>?_ | refine m3 _ ?_ | (refine m4 _ _ (Hd.out ?_);try first | rw [hks] | rw [hk2] | rw [hk3]) | (refine m5 _ _ ?_;cbv)
 all_goals (clear m1 m2 m3 m4 m5;cases m0;(try clear hks;try clear hk2;try clear hk3);try dsimp only)
 all_goals try simp only [sm] at *
 all_goals first
  | exact ⟨h1⟩
  | rfl
theorem yM (a b:List Int)(ha:Kf a)(hb:Kf b):qe Tryz.prog 83 [aIs a,aIs b] (rB (JZ a b)):=by
 refine qe.of qc (fn:=Tryz.f83) (c:=Tryz.f83.body.getD .skip) (dr:=fun n=>qa 0 [] n) Tryz.func83 rfl (by kernel_rfl) (by kernel_rfl) (by kernel_rfl) ?_
 obtain ⟨f,hf⟩:∃ f,f=qX:=⟨_,rfl⟩
 obtain ⟨g,hg⟩:∃ g:List Int->List Int->Bool,g=fun l a=>l.any (fun x=>!ZE a x):=⟨_,rfl⟩
 have hO:qp Tryz.prog (qJ [(114,QU f),(45,w2 kw (qrV 119) (fun l s=>rB (g l s)) (fun l s=>[LLe l maxLen,LLe s maxLen]))]):=by
  subst hf hg
  exact qb ZZ (qb (qF fun l s h=>Kd l _ _ _ (fun q _=>Vu q s (h _ (.tail _ (.head _))).out) (h _ (.head _)).out) qd)
 rw [show JZ a b=(f a&&f b&&!g b a) by rw [hf,hg];unfold JZ;rw [show (!List.any b fun x=>!ZE a x)=b.all (ZE a) by rw [List.not_any_eq_all_not];simp]]
 clear hf hg
 refine SEx.go (X:=XX) qc (fun n=>qa [] [] n) (fun _=>none) hO 60 ?_
 intro M R L N m0 m1 m2 m3 m4 m5
 cases M
 cbv
 repeat' first | refine m1 _ _ ?_ ?_ | refine m2 _ _ fun h=>?_ | refine m3 _ ?_ | (refine m4 _ _ (Hd.out ?_);try first | rw [hks] | rw [hk2] | rw [hk3]) | (refine m5 _ _ ?_;cbv)
 all_goals (clear m1 m2 m3 m4 m5;cases m0;(try clear hks;try clear hk2;try clear hk3);try dsimp only)
 all_goals try simp only [sm] at *
 all_goals first
  | exact ha
  | exact hb
  | exact ⟨rfl⟩
  | exact ⟨ha.len⟩
  | exact ⟨hb.len⟩
  | (simp only [jH];simp_all;done)
  | trace_state
theorem Yo (a b:List Int)(ha:Kf a)(hb:Kf b):qe Tryz.prog 90 [aIs a,aIs b] (rB (JZ a b)):=by
 refine qe.of qc (fn:=Tryz.f90) (c:=Tryz.f90.body.getD .skip) (dr:=fun n=>qa 0 [] n) Tryz.func90 rfl (by kernel_rfl) (by kernel_rfl) (by kernel_rfl) ?_
 obtain ⟨f,hf⟩:∃ f,f=qX:=⟨_,rfl⟩
 obtain ⟨g,hg⟩:∃ f,f=ZE:=⟨_,rfl⟩
 have hO:qp Tryz.prog (qJ [(121,QU f),(89,qgc g)]):=by subst hf hg;exact qb vz (qb qad qd)
 rw [show JZ a b=(f a&&f b&&qD (fun _ x=>g a x) (b.drop 0) 0) by rw [hf,hg,List.drop_zero,KL];rfl]
 clear hf hg
 have hal:=ha.len
 have hbl:=hb.len
 unfold maxLen at hbl
 refine SEx.go (X:=XX) qc (fun n=>qa [] [(4,[0,15,16,17])] n) (fun _=>none) hO 60 ?_
 intro M R L N m0 m1 m2 m3 m4 m5
 cases M
 cbv
 repeat' first | refine m1 _ _ ?_ ?_ | refine m2 _ _ fun h=>?_ | refine m3 _ ?_ | (refine m4 _ _ (Hd.out ?_);generalize hks:(List.cons _ _:List K)=ks) | (refine m5 _ _ ?_;cbv)
 all_goals (clear m1 m2 m3 m4 m5;cases m0;try dsimp only)
 all_goals try simp only [sm] at *
 all_goals first
  | exact ha
  | exact hb
  | (simp only [jH];simp_all;done)
  | skip
 rw [show f a=true by assumption,show f b=true by assumption,Bool.true_and,Bool.true_and]
 obtain ⟨m,hm⟩:∃ m,m=b.length:=⟨_,rfl⟩
 refine ⟨SEx.same (SEx.idx m (fun i=>⟨26,[(0,bL (.i a)),(15,bL (.i b)),(16,bI m),(17,bI i)],[]⟩) (fun i=>rB (qD (fun _ x=>g a x) (b.drop i) i)) ?_) (by rw [hm];rfl) rfl⟩
 intro i hi ih
 rw [<-hks]
 refine SEx.go (X:=XX) qc (fun n=>qa [] [(4,[0,15,16,17])] n) (fun _=>none) hO 60 ?_
 intro M R L N m0 m1 m2 m3 m4 m5
 cases M
 cbv
 repeat' first | refine m1 _ _ ?_ ?_ | refine m2 _ _ fun h=>?_ | refine m3 _ ?_ | (refine m4 _ _ (Hd.out ?_);try first | rw [hks] | rw [hk2] | rw [hk3]) | (refine m5 _ _ ?_;cbv)
 all_goals (clear m1 m2 m3 m4 m5;cases m0;(try clear hks;try clear hk2;try clear hk3);try dsimp only)
 all_goals try simp only [sm] at *
 all_goals first
  | omega
  | exact ⟨hal⟩
  | (rw [V2 (p:=fun _ x=>g a x) (l:=b) (i:=i) (0:Int) (by omega) (by assumption)];rfl)
  | (simp only [qg (show i<9223372036854775807 by omega)];exact ⟨(ih (by omega)).same rfl (by rw [vK (p:=fun _ x=>g a x) (l:=b) (i:=i) (0:Int) (by omega) (by assumption)])⟩)
  | (rw [List.drop_eq_nil_of_le (by omega)];rfl)
  | trace_state
def wJ (f:List Int->List Int->Bool):Wr:=w2 kw kw (fun a b=>rB (f a b)) (fun a b=>[Kf a,Kf b])
theorem qdm:qz Tryz.prog 90 (wJ JZ):=qF fun a b h=>Yo a b (h _ (.head _)) (h _ (.tail _ (.head _)))
theorem qcS:qz Tryz.prog 83 (wJ JZ):=qF fun a b h=>yM a b (h _ (.head _)) (h _ (.tail _ (.head _)))
end Go.Proofs.YtfafehnchmelnaaGreat.Ai
namespace Go.Proofs.YtfafehnchmelnaaGreat.Ai
open Go
set_option maxRecDepth 100000
variable [qf]
structure qqz (p:Int):Prop where out:0<p
def zt (l:List qi)(p:Int):Int:=zV (fun q=>q.watch == p) l 0
theorem KU (t:qj)(p:Int)(h1:t.nodes.length<=maxLen):qe Tryz.prog 87 [qH t,aI p] (rI (zt t.nodes p)):=by
 refine qe.of qc (fn:=Tryz.f87) (c:=Tryz.f87.body.getD .skip) (dr:=fun n=>qa 0 [] n) Tryz.func87 rfl (by kernel_rfl) (by kernel_rfl) (by kernel_rfl) ?_
 obtain ⟨cs,ps,hr⟩:=t
 have h1:cs.length<=maxLen:=h1
 unfold maxLen at h1
 show SEx _ _ _ _ _ _ (rI (zV _ cs 0))
 refine SEx.go (X:=XX) qc (fun n=>qa [] [(2,[1,8,9,10])] n) (fun _=>none) qd 60 ?_
 intro M R L N m0 m1 m2 m3 m4 m5
 cases M
 cbv
 repeat' first | refine m1 _ _ ?_ ?_ | refine m2 _ _ fun h=>?_ | refine m3 _ ?_ | (refine m4 _ _ (Hd.out ?_);generalize hks:(List.cons _ _:List K)=ks) | (refine m5 _ _ ?_;cbv)
 all_goals (clear m1 m2 m3 m4 m5;cases m0;try dsimp only)
 all_goals try simp only [sm] at *
 obtain ⟨n,hn⟩:∃ n,n=cs.length:=⟨_,rfl⟩
 refine ⟨SEx.same (SEx.idx n (fun i=>⟨21,[(1,bI p),(8,bL (.node false none cs)),(9,bI n),(10,bI i)],[]⟩) (fun i=>rI (zV (fun q=>q.watch == p) (cs.drop i) i)) ?_) (by rw [hn];rfl) rfl⟩
 intro i hi ih
 rw [<-hks]
 refine SEx.go (X:=XX) qc (fun n=>qa [] [(2,[1,8,9,10])] n) (fun _=>none) qd 60 ?_
 intro M R L N m0 m1 m2 m3 m4 m5
 cases M
 cbv
 repeat' first | refine m1 _ _ ?_ ?_ | refine m2 _ _ fun h=>?_ | refine m3 _ ?_ | (refine m4 _ _ (Hd.out ?_);try first | rw [hks] | rw [hk2] | rw [hk3]) | (refine m5 _ _ ?_;cbv)
 all_goals (clear m1 m2 m3 m4 m5;cases m0;(try clear hks;try clear hk2;try clear hk3);try dsimp only)
 all_goals try simp only [sm] at *
 all_goals first
  | omega
  | exact ⟨rfl,by cases caps<;>rfl⟩
  | exact ⟨rfl,rfl⟩
  | exact qo (z:=qi.z) (by omega)
  | (rw [Qc (p:=fun q=>q.watch == p) (l:=cs) (i:=i) qi.z (by omega) (by first | assumption | exact beq_iff_eq.2 (by assumption))];rfl)
  | (rw [Qd (by omega)];rfl)
  | (simp only [qg (show i<9223372036854775807 by omega)];exact ⟨(ih (by omega)).same rfl (by rw [Zg (p:=fun q=>q.watch == p) (l:=cs) (i:=i) qi.z (by omega) (by first | assumption | exact beq_eq_false_iff_ne.2 (by assumption) | (simp_all;done))])⟩)
 all_goals trace_state
def qsR (k:Nat):Dc Int:=⟨fun s=>aF k [.ptr [.int .i64 s]],fun | (false,[.fn f [.ptr [.int .i64 s]]])=>(match nq f k with | true=>some s | false=>none) | _=>none,by
 intro x a h
 split at h
 . split at h
   . rename_i hk
     obtain rfl:=Qk.1 hk
     simp only [Option.some.injEq] at h;subst h;rfl
   . cases h
 . cases h⟩
theorem Vx (q:qi)(p:Int)(hp:0<p):qe Tryz.prog 117 [wV q,(false,[.ptr [.int .i64 p]])] (rB (q.watch == p)):=by
 refine qe.of qc (fn:=Tryz.f117) (c:=Tryz.f117.body.getD .skip) (dr:=fun n=>qa 0 [] n) Tryz.func117 rfl (by kernel_rfl) (by kernel_rfl) (by kernel_rfl) ?_
 obtain ⟨x1,x2,x3⟩:=q
 refine SEx.go (X:=XX) qc (fun n=>qa [] [] n) (fun _=>none) qd 60 ?_
 intro M R L N m0 m1 m2 m3 m4 m5
 cases M
 cbv
 repeat' first | refine m1 _ _ ?_ ?_ | refine m2 _ _ fun h=>?_ | refine m3 _ ?_ | (refine m4 _ _ (Hd.out ?_);try first | rw [hks] | rw [hk2] | rw [hk3]) | (refine m5 _ _ ?_;cbv)
 all_goals (clear m1 m2 m3 m4 m5;cases m0;(try clear hks;try clear hk2;try clear hk3);try dsimp only)
 all_goals try simp only [sm] at *
 all_goals first
  | rfl
  | (exfalso;omega)
  | trace_state
theorem Y8 (t:qj)(p:Int)(h1:t.nodes.length<=maxLen)(hp:0<p):qe Tryz.prog 80 [qH t,aI p] (rI (zt t.nodes p)):=by
 refine qe.of qc (fn:=Tryz.f80) (c:=Tryz.f80.body.getD .skip) (dr:=fun n=>qa 0 [] n) Tryz.func80 rfl (by kernel_rfl) (by kernel_rfl) (by kernel_rfl) ?_
 obtain ⟨f,hf⟩:∃ f,f=zt:=⟨_,rfl⟩
 have hO:qp Tryz.prog (qJ [(116,w2 vr (qsR 117) (fun l s=>rI (f l s)) (fun l s=>[LLe l maxLen,qqz s]))]):=by
  subst hf
  exact qb (qF fun l s h=>Y2 l _ _ _ (fun q _=>Vx q s (h _ (.tail _ (.head _))).out) (h _ (.head _)).out) qd
 obtain ⟨cs,ps,hr⟩:=t
 have h1:cs.length<=maxLen:=h1
 refine SEx.go (X:=XX) qc (fun n=>qa [] [] n) (fun _=>none) hO 60 ?_
 intro M R L N m0 m1 m2 m3 m4 m5
 cases M
 cbv
 repeat' first | refine m1 _ _ ?_ ?_ | refine m2 _ _ fun h=>?_ | refine m3 _ ?_ | (refine m4 _ _ (Hd.out ?_);try first | rw [hks] | rw [hk2] | rw [hk3]) | (refine m5 _ _ ?_;cbv)
 all_goals (clear m1 m2 m3 m4 m5;cases m0;(try clear hks;try clear hk2;try clear hk3);try dsimp only)
 all_goals try simp only [sm] at *
 all_goals first
  | exact ⟨h1⟩
  | exact ⟨hp⟩
  | (subst hf;rfl)
  | trace_state
def KG (f:List qi->Int->Int):Wr:=w2 qK dcI (fun t p=>rI (f t.nodes p)) (fun t p=>[LLe t.nodes maxLen,qqz p])
theorem qcn:qz Tryz.prog 87 (KG zt):=qF fun t p h=>KU t p (h _ (.head _)).out
theorem wE:qz Tryz.prog 80 (KG zt):=qF fun t p h=>Y8 t p (h _ (.head _)).out (h _ (.tail _ (.head _))).out
end Go.Proofs.YtfafehnchmelnaaGreat.Ai
namespace Go.Proofs.YtfafehnchmelnaaGreat.Ai
open Go
set_option maxRecDepth 100000
variable [qf]
def qee (n:Int):Bool:=decide (-20<=n)&&decide (n<=20)
theorem qlJ (n:Int):qe Tryz.prog 75 [aI n] (rB (qee n)):=by
 refine qe.of qc (fn:=Tryz.f75) (c:=Tryz.f75.body.getD .skip) (dr:=fun n=>qa 0 [] n) Tryz.func75 rfl (by kernel_rfl) (by kernel_rfl) (by kernel_rfl) ?_
 refine SEx.go (X:=XX) qc (fun n=>qa [] [] n) (fun _=>none) qd 60 ?_
 intro M R L N m0 m1 m2 m3 m4 m5
 cases M
 cbv
 repeat' first | refine m1 _ _ ?_ ?_ | refine m2 _ _ fun h=>?_ | refine m3 _ ?_ | (refine m4 _ _ (Hd.out ?_);try first | rw [hks] | rw [hk2] | rw [hk3]) | (refine m5 _ _ ?_;cbv)
 all_goals (clear m1 m2 m3 m4 m5;cases m0;(try clear hks;try clear hk2;try clear hk3);try dsimp only)
 all_goals try simp only [sm] at *
 all_goals simp only [jH,qee]
 all_goals first
  | (rw [decide_eq_false (show ¬-20<=n by omega)];rfl)
  | (rw [decide_eq_true (show -20<=n by omega),Bool.true_and])
def qqD (f:Int->Bool):Wr:=w1 dcI (fun n=>rB (f n)) (fun _=>[])
theorem qow:qz Tryz.prog 75 (qqD qee):=zl fun n _=>qlJ n
def Q8 (a b:List Int):Bool:=decide (a.length=b.length)&&qD (fun i x=>x == b.getD i 0) a 0
theorem qh6 (a b:List Int)(h1:a.length<=maxLen)(h2:b.length<=maxLen):qe Tryz.prog 91 [aIs a,aIs b] (rB (Q8 a b)):=by
 refine qe.of qc (fn:=Tryz.f91) (c:=Tryz.f91.body.getD .skip) (dr:=fun n=>qa 0 [] n) Tryz.func91 rfl (by kernel_rfl) (by kernel_rfl) (by kernel_rfl) ?_
 unfold maxLen at h1 h2
 rw [show Q8 a b=(decide (a.length=b.length)&&qD (fun i x=>x == b.getD i 0) (a.drop 0) 0) by rw [List.drop_zero];rfl]
 refine SEx.go (X:=XX) qc (fun n=>qa [] [(4,[1,12,13,14])] n) (fun _=>none) qd 60 ?_
 intro M R L N m0 m1 m2 m3 m4 m5
 cases M
 cbv
 repeat' first | refine m1 _ _ ?_ ?_ | refine m2 _ _ fun h=>?_ | refine m3 _ ?_ | (refine m4 _ _ (Hd.out ?_);generalize hks:(List.cons _ _:List K)=ks) | (refine m5 _ _ ?_;cbv)
 all_goals (clear m1 m2 m3 m4 m5;cases m0;try dsimp only)
 all_goals try simp only [sm] at *
 . simp only [jH];rw [decide_eq_false (by omega)];rfl
 have hab:a.length=b.length:=by omega
 rw [decide_eq_true hab,Bool.true_and]
 obtain ⟨m,hm⟩:∃ m,m=a.length:=⟨_,rfl⟩
 refine ⟨SEx.same (SEx.idx m (fun i=>⟨26,[(1,bL (.i b)),(12,bL (.i a)),(13,bI m),(14,bI i)],[]⟩) (fun i=>rB (qD (fun i x=>x == b.getD i 0) (a.drop i) i)) ?_) (by rw [hm];rfl) rfl⟩
 intro i hi ih
 rw [<-hks]
 refine SEx.go (X:=XX) qc (fun n=>qa [] [(4,[1,12,13,14])] n) (fun _=>none) qd 60 ?_
 intro M R L N m0 m1 m2 m3 m4 m5
 cases M
 cbv
 repeat' first | refine m1 _ _ ?_ ?_ | refine m2 _ _ fun h=>?_ | refine m3 _ ?_ | (refine m4 _ _ (Hd.out ?_);try first | rw [hks] | rw [hk2] | rw [hk3]) | (refine m5 _ _ ?_;cbv)
 all_goals (clear m1 m2 m3 m4 m5;cases m0;(try clear hks;try clear hk2;try clear hk3);try dsimp only)
 all_goals try simp only [sm] at *
 all_goals first
  | omega
  | (rw [V2 (p:=fun i x=>x == b.getD i 0) (l:=a) (i:=i) (0:Int) (by omega) (beq_eq_false_iff_ne.2 (by assumption))];rfl)
  | (simp only [qg (show i<9223372036854775807 by omega)];exact ⟨(ih (by omega)).same rfl (by rw [vK (p:=fun i x=>x == b.getD i 0) (l:=a) (i:=i) (0:Int) (by omega) (beq_iff_eq.2 (by assumption))])⟩)
  | (rw [List.drop_eq_nil_of_le (by omega)];rfl)
  | trace_state
theorem qkw (a b:List Int)(h1:a.length<=maxLen)(h2:b.length<=maxLen):qe Tryz.prog 76 [aIs a,aIs b] (rB (Q8 a b)):=by
 refine qe.of qc (fn:=Tryz.f76) (c:=Tryz.f76.body.getD .skip) (dr:=fun n=>qa 0 [(6,8)] n) Tryz.func76 rfl (by kernel_rfl) (by kernel_rfl) (by kernel_rfl) ?_
 unfold maxLen at h1 h2
 rw [show Q8 a b=(decide (a.length=b.length)&&qD (fun i x=>x == b.getD i 0) (a.drop 0) 0) by rw [List.drop_zero];rfl]
 refine SEx.go (X:=XX) qc (fun n=>qa [] [(4,[0,1,12,13])] n) (fun _=>none) qd 60 ?_
 intro M R L N m0 m1 m2 m3 m4 m5
 cases M
 cbv
 repeat' first | refine m1 _ _ ?_ ?_ | refine m2 _ _ fun h=>?_ | refine m3 _ ?_ | (refine m4 _ _ (Hd.out ?_);generalize hks:(List.cons _ _:List K)=ks) | (refine m5 _ _ ?_;cbv)
 all_goals (clear m1 m2 m3 m4 m5;cases m0;try dsimp only)
 all_goals try simp only [sm] at *
 . simp only [jH];rw [decide_eq_false (by omega)];rfl
 have hab:a.length=b.length:=by omega
 rw [decide_eq_true hab,Bool.true_and]
 obtain ⟨m,hm⟩:∃ m,m=a.length:=⟨_,rfl⟩
 refine ⟨SEx.same (SEx.idx m (fun i=>⟨26,[(0,bL (.i a)),(1,bL (.i b)),(12,bI m),(13,bI i)],[]⟩) (fun i=>rB (qD (fun i x=>x == b.getD i 0) (a.drop i) i)) ?_) (by rw [hm];rfl) rfl⟩
 intro i hi ih
 rw [<-hks]
 refine SEx.go (X:=XX) qc (fun n=>qa [] [(4,[0,1,12,13])] n) (fun _=>none) qd 60 ?_
 intro M R L N m0 m1 m2 m3 m4 m5
 cases M
 cbv
 repeat' first | refine m1 _ _ ?_ ?_ | refine m2 _ _ fun h=>?_ | refine m3 _ ?_ | (refine m4 _ _ (Hd.out ?_);try first | rw [hks] | rw [hk2] | rw [hk3]) | (refine m5 _ _ ?_;cbv)
 all_goals (clear m1 m2 m3 m4 m5;cases m0;(try clear hks;try clear hk2;try clear hk3);try dsimp only)
 all_goals try simp only [sm] at *
 all_goals first
  | omega
  | (rw [V2 (p:=fun i x=>x == b.getD i 0) (l:=a) (i:=i) (0:Int) (by omega) (beq_eq_false_iff_ne.2 (by assumption))];rfl)
  | (simp only [qg (show i<9223372036854775807 by omega)];exact ⟨(ih (by omega)).same rfl (by rw [vK (p:=fun i x=>x == b.getD i 0) (l:=a) (i:=i) (0:Int) (by omega) (beq_iff_eq.2 (by assumption))])⟩)
  | (rw [List.drop_eq_nil_of_le (by omega)];rfl)
  | trace_state
theorem qbz:∀ (a c:List Int) (b:List Int) (k:Nat),c=b.drop k->a.length=c.length->(qD (fun i x=>x == b.getD i 0) a k=decide (a=c))
 | [],[],_,_,_,_=>rfl
 | [],_::_,_,_,_,h=>by simp at h
 | _::_,[],_,_,_,h=>by simp at h
 | x::r,y::s,b,k,hc,hl=>by
   have hk:k<b.length:=by
    apply Decidable.byContradiction;intro h
    rw [List.drop_eq_nil_of_le (by omega)] at hc;cases hc
   rw [List.drop_eq_getElem_cons hk] at hc
   injection hc with h1 h2
   unfold qD
   rw [qbz r s b (k+1) h2 (by simpa using hl),List.getD_eq_getElem?_getD,List.getElem?_eq_getElem hk,Option.getD_some,<-h1]
   rw [Bool.eq_iff_iff];simp
theorem qd0 (a b:List Int):Q8 a b=decide (a=b):=by
 unfold Q8
 by_cases h:a.length=b.length
 . rw [decide_eq_true h,Bool.true_and,qbz a b b 0 rfl h]
 . rw [decide_eq_false h,Bool.false_and,decide_eq_false (fun e=>h (by rw [e]))]
def qdn (f:List Int->List Int->Bool):Wr:=w2 kw kw (fun a b=>rB (f a b)) (fun a b=>[LLe a maxLen,LLe b maxLen])
theorem qkL:qz Tryz.prog 91 (qdn Q8):=qF fun a b h=>qh6 a b (h _ (.head _)).out (h _ (.tail _ (.head _))).out
theorem qlw:qz Tryz.prog 76 (qdn Q8):=qF fun a b h=>qkw a b (h _ (.head _)).out (h _ (.tail _ (.head _))).out
structure Y3 (q:qi):Prop where
 name:q.name.size<=maxLen
 len:q.label.length<=maxLen
 all:∀ n∈q.label,inI n
def VE (f:qi->Bool):Wr:=w1 wc (fun q=>rB (f q)) (fun q=>[Y3 q])
theorem qdx:qz Tryz.prog 85 (VE QL):=zl fun q h=>qaA q (h _ (.head _)).name (h _ (.head _)).len (h _ (.head _)).all
theorem qff:qz Tryz.prog 73 (VE QL):=zl fun q h=>qao q (h _ (.head _)).name (h _ (.head _)).len (h _ (.head _)).all
end Go.Proofs.YtfafehnchmelnaaGreat.Ai
namespace Go.Proofs.YtfafehnchmelnaaGreat.Ai
open Go
set_option maxRecDepth 100000
variable [qf]
def KW (l:List Tie)(x:Int):Int:=zV (fun q=>q.free&&q.dst == x) l 0
theorem qfF (t:qj)(x:Int)(h1:t.ties.length<=maxLen):qe Tryz.prog 92 [qH t,aI x] (rI (KW t.ties x)):=by
 refine qe.of qc (fn:=Tryz.f92) (c:=Tryz.f92.body.getD .skip) (dr:=fun n=>qa 0 [] n) Tryz.func92 rfl (by kernel_rfl) (by kernel_rfl) (by kernel_rfl) ?_
 obtain ⟨ns,cs,hr⟩:=t
 have h1:cs.length<=maxLen:=h1
 unfold maxLen at h1
 show SEx _ _ _ _ _ _ (rI (zV _ cs 0))
 refine SEx.go (X:=XX) qc (fun n=>qa [] [(2,[1,8,9,10])] n) (fun _=>none) qd 60 ?_
 intro M R L N m0 m1 m2 m3 m4 m5
 cases M
 cbv
 repeat' first | refine m1 _ _ ?_ ?_ | refine m2 _ _ fun h=>?_ | refine m3 _ ?_ | (refine m4 _ _ (Hd.out ?_);generalize hks:(List.cons _ _:List K)=ks) | (refine m5 _ _ ?_;cbv)
 all_goals (clear m1 m2 m3 m4 m5;cases m0;try dsimp only)
 all_goals try simp only [sm] at *
 obtain ⟨n,hn⟩:∃ n,n=cs.length:=⟨_,rfl⟩
 refine ⟨SEx.same (SEx.idx n (fun i=>⟨25,[(1,bI x),(8,bL (.tie cs)),(9,bI n),(10,bI i)],[]⟩) (fun i=>rI (zV (fun q=>q.free&&q.dst == x) (cs.drop i) i)) ?_) (by rw [hn];rfl) rfl⟩
 intro i hi ih
 rw [<-hks]
 refine SEx.go (X:=XX) qc (fun n=>qa [] [(2,[1,8,9,10])] n) (fun _=>none) qd 60 ?_
 intro M R L N m0 m1 m2 m3 m4 m5
 cases M
 cbv
 repeat' first | refine m1 _ _ ?_ ?_ | refine m2 _ _ fun h=>?_ | refine m3 _ ?_ | (refine m4 _ _ (Hd.out ?_);try first | rw [hks] | rw [hk2] | rw [hk3]) | (refine m5 _ _ ?_;cbv)
 all_goals (clear m1 m2 m3 m4 m5;cases m0;(try clear hks;try clear hk2;try clear hk3);try dsimp only)
 all_goals try simp only [sm] at *
 all_goals first
  | omega
  | (rw [Qc (p:=fun q=>q.free&&q.dst == x) (l:=cs) (i:=i) Tie.z (by omega) (by simp_all)];rfl)
  | (rw [Qd (by omega)];rfl)
  | (simp only [qg (show i<9223372036854775807 by omega)];exact ⟨(ih (by omega)).same rfl (by rw [Zg (p:=fun q=>q.free&&q.dst == x) (l:=cs) (i:=i) Tie.z (by omega) (by simp_all)])⟩)
def qdw (f:List Tie->Int->Int):Wr:=w2 qK dcI (fun t x=>rI (f t.ties x)) (fun t _=>[LLe t.ties maxLen])
theorem qaT:qz Tryz.prog 92 (qdw KW):=qF fun t x h=>qfF t x (h _ (.head _)).out
end Go.Proofs.YtfafehnchmelnaaGreat.Ai
namespace Go.Proofs.YtfafehnchmelnaaGreat.Ai
open Go
set_option maxRecDepth 100000
variable [qf]
def nd (ns:List qi)(x:Int):qi:=ns.getD x.toNat qi.z
def wt (ns:List qi)(ts:List Tie)(i:Nat)(q:Tie):Bool :=
 decide (0<=q.src/\q.src<=ns.length-1/\0<=q.dst/\q.dst<=ns.length-1/\¬q.src=q.dst/\-20<=q.low/\q.high<=20/\q.low<=q.high)&&(!q.free||(decide (1<=q.low/\¬q.dst=0/\(nd ns q.dst).watch=0)&&Q8 (nd ns q.src).label (nd ns q.dst).label&&decide (KW ts q.dst=i)))
theorem qgA (t:qj)(i:Int)(hi:0<=i/\i<t.ties.length)(h1:t.nodes.length<=maxLen)(h2:t.ties.length<=maxLen)(h3:∀ q∈t.nodes,q.label.length<=maxLen):qe Tryz.prog 51 [qH t,aI i] (rB (wt t.nodes t.ties i.toNat (t.ties.getD i.toNat Tie.z))):=by
 refine qe.of qc (fn:=Tryz.f51) (c:=Tryz.f51.body.getD .skip) (dr:=fun n=>qa 0 [(5,45)] n) Tryz.func51 rfl (by kernel_rfl) (by kernel_rfl) (by kernel_rfl) ?_
 obtain ⟨f0,hf0⟩:∃ f,f=zp:=⟨_,rfl⟩
 obtain ⟨f1,hf1⟩:∃ f,f=Q8:=⟨_,rfl⟩
 obtain ⟨f2,hf2⟩:∃ f,f=KW:=⟨_,rfl⟩
 have hO:qp Tryz.prog (qJ [(39,YK f0),(91,qdn f1),(92,qdw f2)]):=by subst hf0 hf1 hf2;exact qb jW (qb qkL (qb qaT qd))
 obtain ⟨ns,ts,hr⟩:=t
 have hi:0<=i/\i<ts.length:=hi
 have h1:ns.length<=maxLen:=h1
 have h2:ts.length<=maxLen:=h2
 have h3:∀ q∈ns,q.label.length<=maxLen:=h3
 show SEx _ _ _ _ _ _ (rB (wt ns ts i.toNat (ts.getD i.toNat Tie.z)))
 obtain ⟨n,rfl⟩:∃ n:Nat,i=n:=⟨i.toNat,by omega⟩
 refine SEx.go (X:=XX) qc (fun n=>qa [] [] n) (fun _=>none) hO 60 ?_
 intro M R L N m0 m1 m2 m3 m4 m5
 cases M
 cbv
 repeat' first | refine m1 _ _ ?_ ?_ | refine m2 _ _ fun h=>?_ | refine m3 _ ?_ | (refine m4 _ _ (Hd.out ?_);try first | rw [hks] | rw [hk2] | rw [hk3]) | (refine m5 _ _ ?_;cbv)
 all_goals (clear m1 m2 m3 m4 m5;cases m0;(try clear hks;try clear hk2;try clear hk3);try dsimp only)
 all_goals try simp only [sm] at *
 all_goals (have hQ:=qo (z:=Tie.z) (l:=ts) (i:=n) (by omega);generalize ts.getD n Tie.z=q at *;obtain ⟨x1,x2,x3,x4,x5⟩:=q)
 all_goals (clear hO;subst hf0 hf1 hf2;unfold maxLen at h1 h2;try dsimp only at *)
 all_goals (try simp only [qx (n:=(ns.length:Int)-1) (by omega) (by omega),zp,Bool.and_eq_true,Bool.and_eq_false_iff,decide_eq_true_eq,decide_eq_false_iff_not] at *)
 all_goals first
  | omega
  | exact ⟨h2⟩
  | exact ⟨h3 _ (qo (z:=qi.z) (by omega)).out⟩
  | (simp only [jH];symm;rw [Bool.eq_false_iff];intro h;simp only [wt,Bool.and_eq_true,Bool.or_eq_true,Bool.not_eq_true',decide_eq_true_eq] at h;simp only [nd] at h;first | omega | (simp_all;done) | (simp_all;omega))
  | (simp only [jH];symm;simp only [wt,Bool.and_eq_true,Bool.or_eq_true,Bool.not_eq_true',decide_eq_true_eq];first | (refine ⟨by omega,.inl ?_⟩;assumption) | (refine ⟨by omega,.inr ⟨⟨by omega,?_⟩,?_⟩⟩<;>assumption))
  | (simp only [jH];simp only [wt,nd];rw [Bool.eq_iff_iff];simp only [Bool.and_eq_true,Bool.or_eq_true,Bool.not_eq_true',decide_eq_true_eq,beq_iff_eq];constructor;(· intro h;exact ⟨by omega,.inr ⟨⟨⟨by assumption,by assumption,by assumption⟩,by assumption⟩,h⟩⟩);(· rintro ⟨-,h | h⟩;(· have:=h.symm.trans (by assumption:_=true);cases this);(· exact h.2)))
  | (simp only [jH];rw [Bool.eq_iff_iff];simp only [wt,Bool.and_eq_true,Bool.or_eq_true,Bool.not_eq_true',decide_eq_true_eq,beq_iff_eq];simp only [nd];constructor;(· intro h;exact ⟨by omega,.inr ⟨⟨⟨by assumption,by assumption,by assumption⟩,by assumption⟩,h⟩⟩);(· rintro ⟨-,h | h⟩;(· have:=h.symm.trans (by assumption:_=true);cases this);(· exact h.2)))
def qrY {α:Type}(k:Nat)(g:Bool)(d:Dc α)(hg:∀ a,(d.enc a).1=g):Dc α:=⟨fun a=>aF k [.ptr (d.enc a).2],fun | (false,[.fn f [.ptr x]])=>(match nq f k with | true=>d.dec (g,x) | false=>none) | _=>none,by
 intro x a h
 split at h
 . split at h
   . rename_i hk
     obtain rfl:=Qk.1 hk
     have:=d.ok _ _ h
     have e:=congrArg Prod.snd this
     simp only [zY] at e
     simp only [zY,D.erL,D.er,aF,e]
   . cases h
 . cases h⟩
theorem qdF (u t:Tie):qe Tryz.prog 78 [Y4 u,(false,[.ptr t.d])] (rB (u.free&&u.dst == t.dst)):=by
 refine qe.of qc (fn:=Tryz.f78) (c:=Tryz.f78.body.getD .skip) (dr:=fun n=>qa 0 [] n) Tryz.func78 rfl (by kernel_rfl) (by kernel_rfl) (by kernel_rfl) ?_
 obtain ⟨x1,x2,x3,x4,x5⟩:=u
 obtain ⟨y1,y2,y3,y4,y5⟩:=t
 refine SEx.go (X:=XX) qc (fun n=>qa [] [] n) (fun _=>none) qd 60 ?_
 intro M R L N m0 m1 m2 m3 m4 m5
 cases M
 cbv
 repeat' first | refine m1 _ _ ?_ ?_ | refine m2 _ _ fun h=>?_ | refine m3 _ ?_ | (refine m4 _ _ (Hd.out ?_);try first | rw [hks] | rw [hk2] | rw [hk3]) | (refine m5 _ _ ?_;cbv)
 all_goals (clear m1 m2 m3 m4 m5;cases m0;(try clear hks;try clear hk2;try clear hk3);try dsimp only)
 all_goals try simp only [sm] at *
 all_goals simp only [jH]
 all_goals (rw [show x5=_ by assumption];rfl)
def qsL (k:Nat):Dc Tie:=qrY k true yz fun _=>rfl
def qdE (ns:List qi)(ts:List Tie)(i:Nat)(q:Tie):Bool :=
 decide (0<=q.src/\q.src<=ns.length-1/\0<=q.dst/\q.dst<=ns.length-1/\¬q.src=q.dst/\-20<=q.low/\q.high<=20/\q.low<=q.high)&&(!q.free||(decide (1<=q.low/\¬q.dst=0/\(nd ns q.dst).watch=0)&&Q8 (nd ns q.dst).label (nd ns q.src).label&&!((ts.take i).any fun u=>u.free&&u.dst == q.dst)))
theorem qhB (t:qj)(h1:t.nodes.length<=maxLen)(h2:t.ties.length<=maxLen)(h3:∀ q∈t.nodes,q.label.length<=maxLen):qe Tryz.prog 44 [qH t] (rB (qD (qdE t.nodes t.ties) t.ties 0&&decide (t.ties.length<=14))):=by
 refine qe.of qc (fn:=Tryz.f44) (c:=Tryz.f44.body.getD .skip) (dr:=fun n=>qa 0 [(7,33)] n) Tryz.func44 rfl (by kernel_rfl) (by kernel_rfl) (by kernel_rfl) ?_
 obtain ⟨f0,hf0⟩:∃ f,f=Jn:=⟨_,rfl⟩
 obtain ⟨f1,hf1⟩:∃ f,f=Q8:=⟨_,rfl⟩
 obtain ⟨f2,hf2⟩:∃ f,f=qee:=⟨_,rfl⟩
 obtain ⟨f3,hf3⟩:∃ f:List Tie->Tie->Bool,f=fun l q=>l.any fun u=>u.free&&u.dst == q.dst:=⟨_,rfl⟩
 have hO:qp Tryz.prog (qJ [(74,qb0 f0),(75,qqD f2),(76,qdn f1),(77,w2 Z0 (qsL 78) (fun l q=>rB (f3 l q)) (fun l q=>[LLe l maxLen]))]):=by
  subst hf0 hf1 hf2 hf3
  exact qb yN (qb qow (qb qlw (qb (qF fun l q h=>KM l _ _ _ (fun u _=>qdF u q) (h _ (.head _)).out) qd)))
 obtain ⟨ns,ts,hr⟩:=t
 have h1:ns.length<=maxLen:=h1
 have h2:ts.length<=maxLen:=h2
 have h3:∀ q∈ns,q.label.length<=maxLen:=h3
 unfold maxLen at h1 h2
 show SEx _ _ _ _ _ _ (rB (qD (qdE ns ts) ts 0&&decide (ts.length<=14)))
 obtain ⟨c,hc⟩:∃ c,c=decide (ts.length<=14):=⟨_,rfl⟩
 obtain ⟨p,hp⟩:∃ p,p=qdE ns ts:=⟨_,rfl⟩
 rw [<-hc,<-hp]
 refine SEx.go (X:=XX) qc (fun n=>qa [] [(2,[1,6,7,8])] n) (fun _=>none) hO 60 ?_
 intro M R L N m0 m1 m2 m3 m4 m5
 cases M
 cbv
 repeat' first | refine m1 _ _ ?_ ?_ | refine m2 _ _ fun h=>?_ | refine m3 _ ?_ | (refine m4 _ _ (Hd.out ?_);generalize hks:(List.cons _ _:List K)=ks) | (refine m5 _ _ ?_;cbv)
 all_goals (clear m1 m2 m3 m4 m5;cases m0;try dsimp only)
 all_goals try simp only [sm] at *
 obtain ⟨m,hm⟩:∃ m,m=ts.length:=⟨_,rfl⟩
 refine ⟨SEx.same (SEx.idx m (fun i=>⟨105,[(1,bP 4096),(6,bL (.tie ts)),(7,bI m),(8,bI i)],[(4096,.obx [.fz (.sl (.node false none ns)),.fz (.sl (.tie ts)),.fz (.int .i64 hr)])]⟩) (fun i=>rB (qD p (ts.drop i) i&&c)) ?_) (by rw [hm];rfl) rfl⟩
 intro i hi ih
 rw [<-hks]
 have hl:i<m->zh _ _ _:=fun h=>zh.of p ts i c Tie.z (by omega)
 have he:i=m->(qD p (ts.drop i) i&&c)=c:=fun h=>qR (by omega)
 refine SEx.go (X:=XX) qc (fun n=>qa [] [(2,[1,6,7,8])] n) (fun _=>none) hO 60 ?_
 intro M R L N m0 m1 m2 m3 m4 m5
 cases M
 cbv
 repeat' first | refine m1 _ _ ?_ ?_ | refine m2 _ _ fun h=>?_ | refine m3 _ ?_ | (refine m4 _ _ (Hd.out ?_);try first | rw [hks] | rw [hk2] | rw [hk3]) | (refine m5 _ _ ?_;cbv)
 all_goals (clear m1 m2 m3 m4 m5;cases m0;(try clear hks;try clear hk2;try clear hk3);try dsimp only)
 all_goals try simp only [sm] at *
 all_goals (clear hO;subst hf0 hf1 hf2 hf3)
 all_goals (try simp only [qg (show i<9223372036854775807 by omega)])
 all_goals (try refine ⟨(ih (by omega)).same rfl ?_⟩)
 all_goals (clear ih)
 all_goals (generalize ts.getD i Tie.z=q at *;obtain ⟨x1,x2,x3,x4,x5⟩:=q;try dsimp only at *)
 all_goals (try simp only [Jn,qee,Bool.and_eq_true,Bool.and_eq_false_iff,decide_eq_true_eq,decide_eq_false_iff_not] at *)
 all_goals first
  | omega
  | exact ⟨h3 _ (qo (z:=qi.z) (by omega)).out⟩
  | (refine ⟨?_⟩;simp only [List.length_take];omega)
  | (rw [he (by omega),hc];simp only [jH];apply decide_eq_decide.2;omega)
  | (refine (hl (by omega)).stop _ ?_;clear hl he;rw [hp,Bool.eq_false_iff];intro h;simp only [qdE,Bool.and_eq_true,Bool.or_eq_true,Bool.not_eq_true',decide_eq_true_eq] at h;simp only [nd] at h;first | omega | (rcases h with ⟨-,h | h⟩;(· simp_all;done);(· refine absurd h.2 ?_;rw [Bool.not_eq_false];assumption)) | (generalize ns.getD x2.toNat qi.z=r2 at *;generalize ns.getD x1.toNat qi.z=r1 at *;cases r1;cases r2;simp_all;done) | (simp_all;omega))
  | (refine (hl (by omega)).go ?_;clear hl he;rw [hp];simp only [qdE,Bool.and_eq_true,Bool.or_eq_true,Bool.not_eq_true',decide_eq_true_eq];first | (refine ⟨by omega,.inl ?_⟩;assumption) | (refine ⟨by omega,.inr ⟨⟨⟨by omega,by omega,by assumption⟩,?_⟩,?_⟩⟩<;>assumption))
  | trace_state
theorem Jq {α:Type}{p:α->Bool}:∀ {l:List α} {i:Nat} (n:Nat) (z:α),i<l.length->p (l.getD i z)=true->(zV p l n=(n+i:Nat)↔(l.take i).any p=false)
 | [],i,n,z,h,_=>absurd h (Nat.not_lt_zero _)
 | a::r,0,n,z,_,hp=>by simp only [List.getD_cons_zero] at hp;simp [zV,hp]
 | a::r,i+1,n,z,h,hp=>by
   simp only [List.getD_cons_succ] at hp
   simp only [List.length_cons] at h
   have ih:=Jq (l:=r) (i:=i) (n+1) z (by omega) hp
   have hge:=(V0 p r (n+1)).2
   unfold zV
   simp only [List.take_succ_cons,List.any_cons]
   cases ha:p a with
   | true=>simp;omega
   | false =>
     simp only [Bool.false_or,Bool.false_eq_true,if_false]
     rw [<-ih,show n+1+i=n+(i+1) by omega]
theorem qgk (a b:List Int):Q8 a b=Q8 b a:=by
 rw [qd0,qd0,Bool.eq_iff_iff]
 simp only [decide_eq_true_eq]
 exact ⟨fun h=>h.symm,fun h=>h.symm⟩
theorem qp0 {ns:List qi}{ts:List Tie}{i:Nat}{q:Tie}(h:ts[i]?=some q):qdE ns ts i q=wt ns ts i q:=by
 have hi:i<ts.length:=by rw [List.getElem?_eq_some_iff] at h;exact h.1
 have hq:ts.getD i Tie.z=q:=by rw [List.getD_eq_getElem?_getD,h];rfl
 unfold qdE wt
 cases hf:q.free with
 | false=>rfl
 | true =>
   have e:decide (KW ts q.dst=i)=!((ts.take i).any fun u=>u.free&&u.dst == q.dst):=by
    have:=Jq (p:=fun u:Tie=>u.free&&u.dst == q.dst) (l:=ts) (i:=i) 0 Tie.z hi (by rw [hq,hf];simp)
    rw [Nat.zero_add] at this
    rw [Bool.eq_iff_iff]
    simp only [decide_eq_true_eq,Bool.not_eq_true']
    exact this
   rw [e,qgk]
theorem qpY (ns:List qi)(ts:List Tie):qD (qdE ns ts) ts 0=qD (wt ns ts) ts 0:=wx ts 0 fun i q h=>by rw [Nat.zero_add];exact qp0 h
def qrS (f:List qi->List Tie->Nat->Tie->Bool):Wr:=w2 qK dcI (fun t i=>rB (f t.nodes t.ties i.toNat (t.ties.getD i.toNat Tie.z))) (fun t i=>[InX i t.ties,LLe t.nodes maxLen,LLe t.ties maxLen,WH t.nodes maxLen])
theorem qpk:qz Tryz.prog 51 (qrS wt):=qF fun t i h=>qgA t i (h _ (.head _)).out (h _ (.tail _ (.head _))).out (h _ (.tail _ (.tail _ (.head _)))).out (h _ (.tail _ (.tail _ (.tail _ (.head _))))).out
def qfi (f:List qi->List Tie->Bool):Wr:=w1 qK (fun t=>rB (f t.nodes t.ties)) (fun t=>[LLe t.nodes maxLen,LLe t.ties maxLen,WH t.nodes maxLen])
def JY (ns:List qi)(ts:List Tie):Bool:=qD (wt ns ts) ts 0&&decide (ts.length<=14)
theorem qe9:qz Tryz.prog 44 (qfi JY):=zl fun t h=>by unfold JY;rw [<-qpY];exact qhB t (h _ (.head _)).out (h _ (.tail _ (.head _))).out (h _ (.tail _ (.tail _ (.head _)))).out
end Go.Proofs.YtfafehnchmelnaaGreat.Ai
namespace Go.Proofs.YtfafehnchmelnaaGreat.Ai
open Go
set_option maxRecDepth 100000
variable [qf]
def qlL (x:Int):Int:=IntKind.i64.wrap (-x)
def Vi (cs:List qi)(x:Int):List Int:=(cs.getD x.toNat qi.z).label
def wdB (cs:List qi)(l:List Int)(x:Int):Bool:=decide (0<=zt cs (zH x))&&(!ZE (Vi cs (zt cs (zH x))) x&&(!ZE (Vi cs (zt cs (zH x))) (qlL x)&&JZ l (Vi cs (zt cs (zH x)))))
def qbf (f:List qi->Int->Int):Wr:=w2 qK dcI (fun t p=>rI (f t.nodes p)) (fun t p=>[LLe t.nodes maxLen])
theorem qcU:qz Tryz.prog 87 (qbf zt):=qF fun t p h=>KU t p (h _ (.head _)).out
def qnL (f:List qi->ByteArray->Int):Wr:=w2 qK dcS (fun t p=>rI (f t.nodes p)) (fun t p=>[LLe t.nodes maxLen])
def qiO (l:List qi)(s:ByteArray):Int:=zV (fun q=>eqS q.name s) l 0
theorem qky:qz Tryz.prog 86 (qnL qiO):=qF fun t p h=>qc5 t p (h _ (.head _)).out
theorem qbG (l:List qi)(p:Int):zt l p<l.length/\(0<=zt l p\/zt l p=-1):=by
 unfold zt
 have:=V0 (fun q:qi=>q.watch == p) l 0
 omega
theorem qcI (t:qj)(l:List Int)(x:Int)(h1:t.nodes.length<=maxLen)(h2:∀ q∈t.nodes,Kf q.label)(hl:Kf l)(hx:inI x)(hp:0<zH x):qe Tryz.prog 47 [qH t,aIs l,aI x] (rB (wdB t.nodes l x)):=by
 refine qe.of qc (fn:=Tryz.f47) (c:=Tryz.f47.body.getD .skip) (dr:=fun n=>qa 0 [(1,3)] n) Tryz.func47 rfl (by kernel_rfl) (by kernel_rfl) (by kernel_rfl) ?_
 obtain ⟨f0,hf0⟩:∃ f,f=zH:=⟨_,rfl⟩
 obtain ⟨f1,hf1⟩:∃ f,f=zt:=⟨_,rfl⟩
 obtain ⟨f2,hf2⟩:∃ f,f=ZE:=⟨_,rfl⟩
 obtain ⟨f3,hf3⟩:∃ f,f=JZ:=⟨_,rfl⟩
 have hO:qp Tryz.prog (qJ [(81,Vl f0),(80,KG f1),(82,qgc f2),(83,wJ f3)]):=by
  subst hf0 hf1 hf2 hf3
  exact qb Wc (qb wE (qb qeE (qb qcS qd)))
 obtain ⟨ns,ts,hr⟩:=t
 have h1:ns.length<=maxLen:=h1
 have h2:∀ q∈ns,Kf q.label:=h2
 show SEx _ _ _ _ _ _ (rB (wdB ns l x))
 rw [<-hf0] at hp
 have hlt:f1 ns (f0 x)<ns.length:=by rw [hf1];exact (qbG _ _).1
 refine SEx.go (X:=XX) qc (fun n=>qa [] [] n) (fun _=>none) hO 60 ?_
 intro M R L N m0 m1 m2 m3 m4 m5
 cases M
 cbv
 repeat' first | refine m1 _ _ ?_ ?_ | refine m2 _ _ fun h=>?_ | refine m3 _ ?_ | (refine m4 _ _ (Hd.out ?_);try first | rw [hks] | rw [hk2] | rw [hk3]) | (refine m5 _ _ ?_;cbv)
 all_goals (clear m1 m2 m3 m4 m5;cases m0;(try clear hks;try clear hk2;try clear hk3);try dsimp only)
 all_goals try simp only [sm] at *
 all_goals (clear hO;subst hf0 hf1 hf2 hf3)
 all_goals first
  | exact ⟨hx⟩
  | exact ⟨h1⟩
  | exact ⟨hp⟩
  | exact hl
  | omega
  | exact ⟨(h2 _ (qo (z:=qi.z) (by omega)).out).len⟩
  | exact h2 _ (qo (z:=qi.z) (by omega)).out
  | (simp only [jH];unfold wdB Vi qlL;delta qi.label;rw [decide_eq_false (by omega)];rfl)
  | (simp only [jH];unfold wdB Vi qlL;delta qi.label;rw [decide_eq_true (by omega)];simp_all;done)
  | skip
structure qsD (x:Int):Prop where out:0<zH x
structure qrF (cs:List qi):Prop where out:∀ q∈cs,Kf q.label
theorem qhT (x:Int)(t:qj)(q:qi)(h1:t.nodes.length<=maxLen)(h2:∀ q∈t.nodes,Kf q.label)(hl:Kf q.label)(hx:inI x)(hp:0<zH x):qe Tryz.prog 46 [aI x,(false,[.ptr t.d]),(false,[.ptr q.d])] (rB (!wdB t.nodes q.label x)):=by
 refine qe.of qc (fn:=Tryz.f46) (c:=Tryz.f46.body.getD .skip) (dr:=fun n=>qa 0 [] n) Tryz.func46 rfl (by kernel_rfl) (by kernel_rfl) (by kernel_rfl) ?_
 obtain ⟨f,hf⟩:∃ f,f=wdB:=⟨_,rfl⟩
 have hO:qp Tryz.prog (qJ [(47,w3 qK kw dcI (fun t l x=>rB (f t.nodes l x)) (fun t l x=>[LLe t.nodes maxLen,qrF t.nodes,Kf l,IIn x,qsD x]))]):=by
  subst hf
  exact qb (jL fun t l x h=>qcI t l x (h _ (.head _)).out (h _ (.tail _ (.head _))).out (h _ (.tail _ (.tail _ (.head _)))) (h _ (.tail _ (.tail _ (.tail _ (.head _))))).out (h _ (.tail _ (.tail _ (.tail _ (.tail _ (.head _)))))).out) qd
 obtain ⟨ns,ts,hr⟩:=t
 obtain ⟨x1,x2,x3⟩:=q
 have h1:ns.length<=maxLen:=h1
 have h2:∀ q∈ns,Kf q.label:=h2
 have hl:Kf x2:=hl
 refine SEx.go (X:=XX) qc (fun n=>qa [] [] n) (fun _=>none) hO 60 ?_
 intro M R L N m0 m1 m2 m3 m4 m5
 cases M
 cbv
 repeat' first | refine m1 _ _ ?_ ?_ | refine m2 _ _ fun h=>?_ | refine m3 _ ?_ | (refine m4 _ _ (Hd.out ?_);try first | rw [hks] | rw [hk2] | rw [hk3]) | (refine m5 _ _ ?_;cbv)
 all_goals (clear m1 m2 m3 m4 m5;cases m0;(try clear hks;try clear hk2;try clear hk3);try dsimp only)
 all_goals try simp only [sm] at *
 all_goals first
  | exact ⟨h1⟩
  | exact ⟨h2⟩
  | exact hl
  | exact ⟨hx⟩
  | exact ⟨hp⟩
  | (subst hf;rfl)
def ndP (cs:List qi)(i:Nat)(q:qi):Bool:=QL q&&(decide (qiO cs q.name=i)&&(decide (q.watch=0)||decide (zt cs q.watch=i)))
def yB (cs:List qi)(q:qi):Bool:=qD (fun _ x=>wdB cs q.label x) q.label 0
def Qa (cs:List qi):Bool:=decide (1<=(cs.length:Int)/\(cs.length:Int)<=7)&&(decide (((nd cs 0).label.length:Int)<=0)&&decide ((nd cs 0).watch=0))
theorem qcF (t:qj)(h1:t.nodes.length<=maxLen)(h2:∀ q∈t.nodes,Y3 q):qe Tryz.prog 50 [qH t] (rB (Qa t.nodes&&(qD (ndP t.nodes) t.nodes 0&&qD (fun _ q=>yB t.nodes q) t.nodes 0))):=by
 refine qe.of qc (fn:=Tryz.f50) (c:=Tryz.f50.body.getD .skip) (dr:=fun n=>qa 0 [(15,3),(16,32)] n) Tryz.func50 rfl (by kernel_rfl) (by kernel_rfl) (by kernel_rfl) ?_
 obtain ⟨f0,hf0⟩:∃ f,f=zp:=⟨_,rfl⟩
 obtain ⟨f1,hf1⟩:∃ f,f=QL:=⟨_,rfl⟩
 obtain ⟨f2,hf2⟩:∃ f,f=qiO:=⟨_,rfl⟩
 obtain ⟨f3,hf3⟩:∃ f,f=zt:=⟨_,rfl⟩
 obtain ⟨f4,hf4⟩:∃ f,f=zH:=⟨_,rfl⟩
 obtain ⟨f5,hf5⟩:∃ f,f=ZE:=⟨_,rfl⟩
 obtain ⟨f6,hf6⟩:∃ f,f=JZ:=⟨_,rfl⟩
 have hO:qp Tryz.prog (qJ [(39,YK f0),(85,VE f1),(86,qnL f2),(87,qbf f3),(88,Vl f4),(89,qgc f5),(90,wJ f6)]):=by
  subst hf0 hf1 hf2 hf3 hf4 hf5 hf6
  exact qb jW (qb qdx (qb qky (qb qcU (qb vZ (qb qad (qb qdm qd))))))
 obtain ⟨cs,ts,hr⟩:=t
 have h1:cs.length<=maxLen:=h1
 have h2:∀ q∈cs,Y3 q:=h2
 unfold maxLen at h1
 show SEx _ _ _ _ _ _ (rB (Qa cs&&(qD (ndP cs) cs 0&&qD (fun _ q=>yB cs q) cs 0)))
 obtain ⟨c,hc⟩:∃ c,c=qD (fun _ q=>yB cs q) cs 0:=⟨_,rfl⟩
 obtain ⟨p,hp⟩:∃ p,p=ndP cs:=⟨_,rfl⟩
 rw [<-hc,<-hp]
 refine SEx.go (X:=XX) qc (fun n=>qa [] [(4,[1,33,34,35]),(10,[1,66,67,68]),(13,[1,6,66,67,68,73,74,75])] n) (fun _=>none) hO 60 ?_
 intro M R L N m0 m1 m2 m3 m4 m5
 cases M
 cbv
 repeat' first | refine m1 _ _ ?_ ?_ | refine m2 _ _ fun h=>?_ | refine m3 _ ?_ | (refine m4 _ _ (Hd.out ?_);generalize hks:(List.cons _ _:List K)=ks) | (refine m5 _ _ ?_;cbv)
 all_goals (clear m1 m2 m3 m4 m5;cases m0;try dsimp only)
 all_goals try simp only [sm] at *
 all_goals (try simp only [hf0,zp,Bool.and_eq_true,Bool.and_eq_false_iff,decide_eq_true_eq,decide_eq_false_iff_not] at *)
 all_goals first
  | omega
  | (refine qV ?_ _;unfold Qa nd;delta qi.label qi.watch;rw [decide_eq_false (by omega)];rfl)
  | (refine qV ?_ _;unfold Qa nd;delta qi.label qi.watch;rw [Bool.and_assoc,decide_eq_true (by omega),Bool.true_and,decide_eq_false (by omega)];rfl)
  | (refine qV ?_ _;unfold Qa nd;delta qi.label qi.watch;rw [decide_eq_true (by omega),decide_eq_true (by omega),decide_eq_false (by assumption)];rfl)
  | skip
 have hh:Qa cs=true:=by
  unfold Qa nd;delta qi.label qi.watch;rw [decide_eq_true (by omega),decide_eq_true (by omega),decide_eq_true (by assumption)];rfl
 rw [hh,Bool.true_and]
 obtain ⟨m,hm⟩:∃ m,m=cs.length:=⟨_,rfl⟩
 refine ⟨SEx.same (SEx.idx m (fun i=>⟨120,[(1,bP 4096),(33,bL (.node false none cs)),(34,bI m),(35,bI i)],[(4096,.obx [.fz (.sl (.node false none cs)),.fz (.sl (.tie ts)),.fz (.int .i64 hr)])]⟩) (fun i=>rB (qD p (cs.drop i) i&&c)) ?_) (by rw [hm];rfl) rfl⟩
 intro i hi ih
 rw [<-hks]
 have hl:i<m->zh _ _ _:=fun h=>zh.of p cs i c qi.z (by omega)
 have he:i=m->(qD p (cs.drop i) i&&c)=c:=fun h=>qR (by omega)
 refine SEx.go (X:=XX) qc (fun n=>qa [] [(4,[1,33,34,35]),(10,[1,66,67,68]),(13,[1,6,66,67,68,73,74,75])] n) (fun _=>none) hO 60 ?_
 intro M R L N m0 m1 m2 m3 m4 m5
 cases M
 cbv
 repeat' first | refine m1 _ _ ?_ ?_ | refine m2 _ _ fun h=>?_ | refine m3 _ ?_ | (refine m4 _ _ (Hd.out ?_);first | rw [hks] | generalize hk2:(List.cons _ _:List K)=k2) | (refine m5 _ _ ?_;cbv)
 all_goals (clear m1 m2 m3 m4 m5;cases m0;try dsimp only)
 all_goals try simp only [sm] at *
 all_goals (try simp only [qg (show i<9223372036854775807 by omega)])
 all_goals first
  | omega
  | exact h2 _ (qo (z:=qi.z) (by omega)).out
  | exact ⟨h1⟩
  | (refine (hl (by omega)).stop _ ?_;subst hf1 hf2 hf3;rw [hp];unfold ndP;delta qi.name qi.watch;simp_all;done)
  | (refine ⟨(ih (by omega)).same rfl ((hl (by omega)).go ?_)⟩;clear ih;subst hf1 hf2 hf3;rw [hp];unfold ndP;delta qi.name qi.watch;simp_all;done)
  | skip
 have him:i=m:=by omega
 rw [he him]
 clear ih hl he
 obtain ⟨pl,hpl⟩:∃ pl:Nat->qi->Bool,pl=fun _ q=>yB cs q:=⟨_,rfl⟩
 rw [<-hpl] at hc
 refine ⟨SEx.same (SEx.idx m (fun i=>⟨120,[(1,bP 4096),(66,bL (.node false none cs)),(67,bI m),(68,bI i)],[(4096,.obx [.fz (.sl (.node false none cs)),.fz (.sl (.tie ts)),.fz (.int .i64 hr)])]⟩) (fun i=>rB (qD pl (cs.drop i) i&&true)) ?_) (by rw [hm];rfl) (by rw [hc,Bool.and_true];rfl)⟩
 intro k hk ih
 rw [<-hk2]
 have hl:k<m->zh _ _ _:=fun h=>zh.of pl cs k true qi.z (by omega)
 have he:k=m->(qD pl (cs.drop k) k&&true)=true:=fun h=>qR (by omega)
 refine SEx.go (X:=XX) qc (fun n=>qa [] [(4,[1,33,34,35]),(10,[1,66,67,68]),(13,[1,6,66,67,68,73,74,75])] n) (fun _=>none) hO 60 ?_
 intro M R L N m0 m1 m2 m3 m4 m5
 cases M
 cbv
 repeat' first | refine m1 _ _ ?_ ?_ | refine m2 _ _ fun h=>?_ | refine m3 _ ?_ | (refine m4 _ _ (Hd.out ?_);first | rw [hks] | rw [hk2] | generalize hk3:(List.cons _ _:List K)=k3) | (refine m5 _ _ ?_;cbv)
 all_goals (clear m1 m2 m3 m4 m5;cases m0;try dsimp only)
 all_goals try simp only [sm] at *
 all_goals first
  | omega
  | (refine qV ?_ _;rw [he (by omega)];done)
  | skip
 have hkm:k<m:=by omega
 obtain ⟨q,hq⟩:∃ q,q=cs.getD k qi.z:=⟨_,rfl⟩
 have hnq:Y3 q:=by rw [hq];exact h2 _ (qo (z:=qi.z) (by omega)).out
 obtain ⟨d,hd⟩:∃ d,d=(qD pl (cs.drop (k+1)) (k+1)&&true):=⟨_,rfl⟩
 have hs:(qD pl (cs.drop k) k&&true)=(qD (fun _ x=>wdB cs q.label x) (q.label.drop 0) 0&&d):=by
  rw [V4 qi.z (show k<cs.length by omega),hd,<-hq,hpl,Bool.and_assoc];rfl
 rw [hs]
 rw [<-hd] at ih
 clear hl he hs hd
 obtain ⟨x1,x2,x3⟩:=q
 obtain ⟨w,hw⟩:∃ w,w=x2.length:=⟨_,rfl⟩
 have hlw:=hnq.len
 have hall:=hnq.all
 dsimp only at hlw hall
 unfold maxLen at hlw
 refine ⟨SEx.same (SEx.idx w (fun j=>⟨120,[(1,bP 4096),(6,bP 24576),(66,bL (.node false none cs)),(67,bI m),(68,bI k),(73,bL (.i x2)),(74,bI w),(75,bI j)],[(4096,.obx [.fz (.sl (.node false none cs)),.fz (.sl (.tie ts)),.fz (.int .i64 hr)]),(24576,.obx [.fz (.str x1),.fz (.sl (.i x2)),.fz (.int .i64 x3)])]⟩) (fun j=>rB (qD (fun _ x=>wdB cs x2 x) (x2.drop j) j&&d)) ?_) (by rw [hw,<-hq];rfl) rfl⟩
 intro j hj ihj
 rw [<-hk3]
 have hl:j<w->zh _ _ _:=fun h=>zh.of (fun _ x=>wdB cs x2 x) x2 j d (0:Int) (by omega)
 have he:j=w->(qD (fun _ x=>wdB cs x2 x) (x2.drop j) j&&d)=d:=fun h=>qR (by omega)
 have hlt:∀ x,f3 cs x<cs.length:=fun x=>by rw [hf3];exact (qbG _ _).1
 refine SEx.go (X:=XX) qc (fun n=>qa [] [(4,[1,33,34,35]),(10,[1,66,67,68]),(13,[1,6,66,67,68,73,74,75])] n) (fun _=>none) hO 60 ?_
 intro M R L N m0 m1 m2 m3 m4 m5
 cases M
 cbv
 repeat' first | refine m1 _ _ ?_ ?_ | refine m2 _ _ fun h=>?_ | refine m3 _ ?_ | (refine m4 _ _ (Hd.out ?_);try first | rw [hks] | rw [hk2] | rw [hk3]) | (refine m5 _ _ ?_;cbv)
 all_goals (clear m1 m2 m3 m4 m5;cases m0;(try clear hks;try clear hk2;try clear hk3);try dsimp only)
 all_goals try simp only [sm] at *
 all_goals (try simp only [qg (show j<9223372036854775807 by omega)])
 all_goals (try have h5:=hlt (f4 (x2.getD j 0)))
 all_goals first
  | omega
  | exact ⟨h1⟩
  | exact ⟨hall _ (qo (z:=(0:Int)) (by omega)).out⟩
  | exact ⟨(h2 _ (qo (z:=qi.z) (by omega)).out).len⟩
  | exact ⟨hlw,hall⟩
  | exact ⟨(h2 _ (qo (z:=qi.z) (by omega)).out).len,(h2 _ (qo (z:=qi.z) (by omega)).out).all⟩
  | (have hjw:j=w:=by omega
     rw [he hjw]
     simp only [qg (show k<9223372036854775807 by omega)]
     exact ⟨(ih hkm).same rfl rfl⟩)
  | (refine (hl (by omega)).stop _ ?_;subst hf3 hf4 hf5 hf6;unfold wdB Vi qlL;delta qi.label;rw [decide_eq_false (by omega)];rfl)
  | (refine (hl (by omega)).stop _ ?_;subst hf3 hf4 hf5 hf6;unfold wdB Vi qlL;delta qi.label;rw [decide_eq_true (by omega)];simp_all;done)
  | (refine ⟨(ihj (by omega)).same rfl ((hl (by omega)).go ?_)⟩;clear ih ihj;subst hf3 hf4 hf5 hf6;unfold wdB Vi qlL;delta qi.label;rw [decide_eq_true (by omega)];simp_all;done)
  | skip
def Ky (q m:qi):Bool:=eqS m.name q.name||(decide (¬q.watch=0)&&m.watch == q.watch)
def ndI (cs:List qi)(i:Nat)(q:qi):Bool:=QL q&&qD (fun _ m=>!Ky q m) (cs.take i) 0
theorem qev (t:qj)(h1:t.nodes.length<=maxLen)(h2:∀ q∈t.nodes,Y3 q):qe Tryz.prog 43 [qH t] (rB (Qa t.nodes&&qD (ndI t.nodes) t.nodes 0)):=by
 refine qe.of qc (fn:=Tryz.f43) (c:=Tryz.f43.body.getD .skip) (dr:=fun n=>qa 0 [] n) Tryz.func43 rfl (by kernel_rfl) (by kernel_rfl) (by kernel_rfl) ?_
 obtain ⟨f1,hf1⟩:∃ f,f=QL:=⟨_,rfl⟩
 have hO:qp Tryz.prog (qJ [(73,VE f1)]):=by
  subst hf1
  exact qb qff qd
 obtain ⟨cs,ts,hr⟩:=t
 have h1:cs.length<=maxLen:=h1
 have h2:∀ q∈cs,Y3 q:=h2
 unfold maxLen at h1
 show SEx _ _ _ _ _ _ (rB (Qa cs&&qD (ndI cs) cs 0))
 obtain ⟨p,hp⟩:∃ p,p=ndI cs:=⟨_,rfl⟩
 rw [<-hp]
 refine SEx.go (X:=XX) qc (fun n=>qa [] [(4,[1,35,36,37]),(9,[1,4,35,36,37,48,49,50])] n) (fun _=>none) hO 60 ?_
 intro M R L N m0 m1 m2 m3 m4 m5
 cases M
 cbv
 repeat' first | refine m1 _ _ ?_ ?_ | refine m2 _ _ fun h=>?_ | refine m3 _ ?_ | (refine m4 _ _ (Hd.out ?_);generalize hks:(List.cons _ _:List K)=ks) | (refine m5 _ _ ?_;cbv)
 all_goals (clear m1 m2 m3 m4 m5;cases m0;try dsimp only)
 all_goals try simp only [sm] at *
 all_goals first
  | omega
  | (refine qV ?_ _;unfold Qa nd;delta qi.label qi.watch;rw [decide_eq_false (by omega)];rfl)
  | (refine qV ?_ _;unfold Qa nd;delta qi.label qi.watch;rw [Bool.and_assoc,decide_eq_true (by omega),Bool.true_and,decide_eq_false (by omega)];rfl)
  | (refine qV ?_ _;unfold Qa nd;delta qi.label qi.watch;rw [decide_eq_true (by omega),decide_eq_true (by omega),decide_eq_false (by assumption)];rfl)
  | skip
 have hh:Qa cs=true:=by
  unfold Qa nd;delta qi.label qi.watch;rw [decide_eq_true (by omega),decide_eq_true (by omega),decide_eq_true (by assumption)];rfl
 rw [hh,Bool.true_and]
 obtain ⟨m,hm⟩:∃ m,m=cs.length:=⟨_,rfl⟩
 refine ⟨SEx.same (SEx.idx m (fun i=>⟨73,[(1,bP 4096),(35,bL (.node false none cs)),(36,bI m),(37,bI i)],[(4096,.obx [.fz (.sl (.node false none cs)),.fz (.sl (.tie ts)),.fz (.int .i64 hr)])]⟩) (fun i=>rB (qD p (cs.drop i) i&&true)) ?_) (by rw [hm];rfl) (by rw [Bool.and_true];rfl)⟩
 intro i hi ih
 rw [<-hks]
 have hl:i<m->zh _ _ _:=fun h=>zh.of p cs i true qi.z (by omega)
 have he:i=m->(qD p (cs.drop i) i&&true)=true:=fun h=>qR (by omega)
 refine SEx.go (X:=XX) qc (fun n=>qa [] [(4,[1,35,36,37]),(9,[1,4,35,36,37,48,49,50])] n) (fun _=>none) hO 60 ?_
 intro M R L N m0 m1 m2 m3 m4 m5
 cases M
 cbv
 repeat' first | refine m1 _ _ ?_ ?_ | refine m2 _ _ fun h=>?_ | refine m3 _ ?_ | (refine m4 _ _ (Hd.out ?_);first | rw [hks] | generalize hk2:(List.cons _ _:List K)=k2) | (refine m5 _ _ ?_;cbv)
 all_goals (clear m1 m2 m3 m4 m5;cases m0;try dsimp only)
 all_goals try simp only [sm] at *
 all_goals (try simp only [qg (show i<9223372036854775807 by omega)])
 all_goals first
  | omega
  | exact h2 _ (qo (z:=qi.z) (by omega)).out
  | (refine qV ?_ _;rw [he (by omega)];done)
  | (refine (hl (by omega)).stop _ ?_;subst hf1;rw [hp];unfold ndI;simp_all;done)
  | skip
 have him:i<m:=by omega
 have hq1:f1 (cs.getD i qi.z)=true:=by assumption
 obtain ⟨q,hq⟩:∃ q,q=cs.getD i qi.z:=⟨_,rfl⟩
 rw [<-hq] at hq1
 obtain ⟨l,hll⟩:∃ l,l=cs.take i:=⟨_,rfl⟩
 obtain ⟨d,hd⟩:∃ d,d=(qD p (cs.drop (i+1)) (i+1)&&true):=⟨_,rfl⟩
 have hs:(qD p (cs.drop i) i&&true)=(qD (fun _ m=>!Ky q m) (l.drop 0) 0&&d):=by
  rw [V4 qi.z (show i<cs.length by omega),hd,<-hq,hp,Bool.and_assoc,ndI,<-hf1,hq1,<-hll,Bool.true_and];rfl
 rw [hs]
 rw [<-hd] at ih
 clear hl he hs hd
 obtain ⟨x1,x2,x3⟩:=q
 obtain ⟨w,hw⟩:∃ w,w=l.length:=⟨_,rfl⟩
 have hwl:w<=cs.length:=by rw [hw,hll,List.length_take];omega
 refine ⟨SEx.same (SEx.idx w (fun j=>⟨73,[(1,bP 4096),(4,bP 16384),(35,bL (.node false none cs)),(36,bI m),(37,bI i),(48,bL (.node false none l)),(49,bI w),(50,bI j)],[(4096,.obx [.fz (.sl (.node false none cs)),.fz (.sl (.tie ts)),.fz (.int .i64 hr)]),(16384,.obx [.fz (.str x1),.fz (.sl (.i x2)),.fz (.int .i64 x3)])]⟩) (fun j=>rB (qD (fun _ m=>!Ky ⟨x1,x2,x3⟩ m) (l.drop j) j&&d)) ?_) (by rw [hw,<-hq,hll];rfl) rfl⟩
 intro j hj ihj
 rw [<-hk2]
 have hl:j<w->zh _ _ _:=fun h=>zh.of (fun _ m=>!Ky ⟨x1,x2,x3⟩ m) l j d qi.z (by omega)
 have he:j=w->(qD (fun _ m=>!Ky ⟨x1,x2,x3⟩ m) (l.drop j) j&&d)=d:=fun h=>qR (by omega)
 refine SEx.go (X:=XX) qc (fun n=>qa [] [(4,[1,35,36,37]),(9,[1,4,35,36,37,48,49,50])] n) (fun _=>none) hO 60 ?_
 intro M R L N m0 m1 m2 m3 m4 m5
 cases M
 cbv
 repeat' first | refine m1 _ _ ?_ ?_ | refine m2 _ _ fun h=>?_ | refine m3 _ ?_ | (refine m4 _ _ (Hd.out ?_);try first | rw [hks] | rw [hk2] | rw [hk3]) | (refine m5 _ _ ?_;cbv)
 all_goals (clear m1 m2 m3 m4 m5;cases m0;(try clear hks;try clear hk2;try clear hk3);try dsimp only)
 all_goals try simp only [sm] at *
 all_goals (try simp only [qg (show j<9223372036854775807 by omega)])
 all_goals first
  | omega
  | (refine (hl (by omega)).stop _ ?_;unfold Ky eqS;delta qi.name qi.watch;simp_all;done)
  | (refine ⟨(ihj (by omega)).same rfl ((hl (by omega)).go ?_)⟩;clear ih ihj;unfold Ky eqS;delta qi.name qi.watch;simp_all;done)
  | (rw [he (by omega)];simp only [qg (show i<9223372036854775807 by omega)];exact ⟨(ih (by omega)).same rfl rfl⟩)
  | skip
theorem qnH {α:Type}(p q:α->Bool):∀ l:List α,(l.any fun x=>p x||q x)=(l.any p||l.any q)
 | []=>rfl
 | a::r=>by simp only [List.any_cons,qnH p q r];cases p a<;>cases q a<;>cases r.any p<;>cases r.any q<;>rfl
theorem qjk {α:Type}(c:Bool)(q:α->Bool):∀ l:List α,(l.any fun x=>c&&q x)=(c&&l.any q)
 | []=>by simp
 | a::r=>by simp only [List.any_cons,qjk c q r];cases c<;>rfl
theorem qm5 (s:ByteArray):eqS s s=true:=by unfold eqS;simp
theorem qrl {cs:List qi}{i:Nat}{q:qi}(h:cs[i]?=some q):ndI cs i q=ndP cs i q:=by
 have hi:i<cs.length:=by rw [List.getElem?_eq_some_iff] at h;exact h.1
 have hq:cs.getD i qi.z=q:=by rw [List.getD_eq_getElem?_getD,h];rfl
 have e1:decide (qiO cs q.name=i)=!((cs.take i).any fun r=>eqS r.name q.name):=by
  have:=Jq (p:=fun r:qi=>eqS r.name q.name) (l:=cs) (i:=i) 0 qi.z hi (by rw [hq];exact qm5 _)
  rw [Nat.zero_add] at this
  rw [Bool.eq_iff_iff]
  simp only [decide_eq_true_eq,Bool.not_eq_true']
  exact this
 have e2:decide (zt cs q.watch=i)=!((cs.take i).any fun r=>r.watch == q.watch):=by
  have:=Jq (p:=fun r:qi=>r.watch == q.watch) (l:=cs) (i:=i) 0 qi.z hi (by rw [hq];exact beq_self_eq_true _)
  rw [Nat.zero_add] at this
  rw [Bool.eq_iff_iff]
  simp only [decide_eq_true_eq,Bool.not_eq_true']
  exact this
 have e3:qD (fun _ m=>!Ky q m) (cs.take i) 0=!(((cs.take i).any fun r=>eqS r.name q.name)||(decide (¬q.watch=0)&&(cs.take i).any fun r=>r.watch == q.watch)):=by
  rw [KL,<-qjk,<-qnH,List.not_any_eq_all_not];rfl
 unfold ndI ndP
 rw [e1,e2,e3,Bool.not_or,Bool.not_and,decide_not,Bool.not_not]
theorem qn6 (cs:List qi):qD (ndI cs) cs 0=qD (ndP cs) cs 0:=wx cs 0 fun i q h=>by rw [Nat.zero_add];exact qrl h
structure qqy (cs:List qi):Prop where out:∀ q∈cs,Y3 q
def jO (cs:List qi):Bool:=Qa cs&&qD (ndP cs) cs 0
def qiC (cs:List qi):Bool:=qD (fun _ q=>yB cs q) cs 0
def Ju (f:List qi->Bool):Wr:=w1 qK (fun t=>rB (f t.nodes)) (fun t=>[LLe t.nodes maxLen,qqy t.nodes])
def nlB (cs:List qi):Bool:=jO cs&&qiC cs
theorem qau:qz Tryz.prog 50 (Ju nlB):=zl fun t h=>by
 unfold nlB jO qiC
 rw [Bool.and_assoc]
 exact qcF t (h _ (.head _)).out (h _ (.tail _ (.head _))).out
theorem qbZ:qz Tryz.prog 43 (Ju jO):=zl fun t h=>by
 unfold jO
 rw [<-qn6]
 exact qev t (h _ (.head _)).out (h _ (.tail _ (.head _))).out
def qeT (n:Int):Bool:=decide (1<=n)&&decide (n<=10)
def qM (t:qj):Bool:=jO t.nodes&&(qiC t.nodes&&(JY t.nodes t.ties&&qeT t.hor))
structure za (t:qj):Prop where
 len:t.nodes.length<=maxLen
 tlen:t.ties.length<=maxLen
 nodes:∀ q∈t.nodes,Y3 q
theorem qae (t:qj)(ht:za t):qe Tryz.prog 26 [qH t] (rB (qM t)):=by
 refine qe.of qc (fn:=Tryz.f26) (c:=Tryz.f26.body.getD .skip) (dr:=fun n=>qa 0 [] n) Tryz.func26 rfl (by kernel_rfl) (by kernel_rfl) (by kernel_rfl) ?_
 have h1:=ht.len
 have h2:=ht.tlen
 have h3:=ht.nodes
 clear ht
 obtain ⟨f1,hf1⟩:∃ f,f=nlB:=⟨_,rfl⟩
 obtain ⟨f3,hf3⟩:∃ f,f=zp:=⟨_,rfl⟩
 obtain ⟨f4,hf4⟩:∃ f,f=wt:=⟨_,rfl⟩
 have hO:qp Tryz.prog (qJ [(50,Ju f1),(39,YK f3),(51,qrS f4)]):=by
  subst hf1 hf3 hf4
  exact qb qau (qb jW (qb qpk qd))
 obtain ⟨ns,ts,hr⟩:=t
 have h1:ns.length<=maxLen:=h1
 have h2:ts.length<=maxLen:=h2
 have h3:∀ q∈ns,Y3 q:=h3
 unfold maxLen at h2
 obtain ⟨a,ha⟩:∃ a,a=decide (ts.length<=14):=⟨_,rfl⟩
 obtain ⟨d,hd⟩:∃ a,a=qeT hr:=⟨_,rfl⟩
 obtain ⟨p,hp⟩:∃ p:Nat->Tie->Bool,p=f4 ns ts:=⟨_,rfl⟩
 have hs:qM ⟨ns,ts,hr⟩=(f1 ns&&(qD p ts 0&&(a&&d))):=by
  rw [hf1,hp,hf4,ha,hd];unfold qM JY nlB;rw [Bool.and_assoc,Bool.and_assoc]
 rw [hs]
 have hdd:f3 hr 1 10=d:=by rw [hf3,hd];rfl
 clear hd hs
 refine SEx.go (X:=XX) qc (fun n=>qa [] [(4,[1,21,22])] n) (fun _=>none) hO 60 ?_
 intro M R L N m0 m1 m2 m3 m4 m5
 cases M
 cbv
 repeat' first | refine m1 _ _ ?_ ?_ | refine m2 _ _ fun h=>?_ | refine m3 _ ?_ | (refine m4 _ _ (Hd.out ?_);generalize hks:(List.cons _ _:List K)=ks) | (refine m5 _ _ ?_;cbv)
 all_goals (clear m1 m2 m3 m4 m5;cases m0;try dsimp only)
 all_goals try simp only [sm] at *
 all_goals (try rw [hdd] at *)
 all_goals first
  | exact ⟨h1⟩
  | exact ⟨h3⟩
  | (refine qV ?_ _;simp_all;done)
  | (refine qV ?_ _;rw [ha,decide_eq_false (by omega)];simp;done)
  | skip
 rw [show f1 ns=true by assumption,Bool.true_and,show a=true by rw [ha];exact decide_eq_true (by omega),show d=true by assumption,Bool.true_and]
 obtain ⟨m,hm⟩:∃ m,m=ts.length:=⟨_,rfl⟩
 refine ⟨SEx.same (SEx.idx m (fun i=>⟨30,[(1,bP 4096),(21,bI m),(22,bI i)],[(4096,.obx [.fz (.sl (.node false none ns)),.fz (.sl (.tie ts)),.fz (.int .i64 hr)])]⟩) (fun i=>rB (qD p (ts.drop i) i&&true)) ?_) (by rw [hm];rfl) rfl⟩
 intro i hi ih
 rw [<-hks]
 have hl:i<m->zh _ _ _:=fun h=>zh.of p ts i true Tie.z (by omega)
 have he:i=m->(qD p (ts.drop i) i&&true)=true:=fun h=>qR (by omega)
 refine SEx.go (X:=XX) qc (fun n=>qa [] [(4,[1,21,22])] n) (fun _=>none) hO 60 ?_
 intro M R L N m0 m1 m2 m3 m4 m5
 cases M
 cbv
 repeat' first | refine m1 _ _ ?_ ?_ | refine m2 _ _ fun h=>?_ | refine m3 _ ?_ | (refine m4 _ _ (Hd.out ?_);try first | rw [hks] | rw [hk2] | rw [hk3]) | (refine m5 _ _ ?_;cbv)
 all_goals (clear m1 m2 m3 m4 m5;cases m0;(try clear hks;try clear hk2;try clear hk3);try dsimp only)
 all_goals try simp only [sm] at *
 all_goals (try simp only [qg (show i<9223372036854775807 by omega)])
 all_goals first
  | omega
  | exact ⟨h1⟩
  | exact ⟨h2⟩
  | exact ⟨fun q hq=>(h3 q hq).len⟩
  | exact ⟨⟨by omega,by omega⟩⟩
  | (refine qV ?_ _;rw [he (by omega)];done)
  | (refine (hl (by omega)).stop _ ?_;rw [hp];assumption)
  | (refine ⟨(ih (by omega)).same rfl ((hl (by omega)).go ?_)⟩;rw [hp];assumption)
  | skip
end Go.Proofs.YtfafehnchmelnaaGreat.Ai
namespace Go.Proofs.YtfafehnchmelnaaGreat.Ai
open Go
set_option maxRecDepth 100000
variable [qf]
def qr5 {α β:Type}(k:Nat)(g h:Bool)(d:Dc α)(e:Dc β):Dc (α×β):=⟨fun a=>aF k [.ptr (d.enc a.1).2,.ptr (e.enc a.2).2],fun | (false,[.fn f [.ptr x,.ptr y]])=>(match nq f k with | true=>(match d.dec (g,x),e.dec (h,y) with | some a,some b=>some (a,b) | _,_=>none) | false=>none) | _=>none,by
 intro x a hh
 split at hh
 . split at hh
   . rename_i hk
     obtain rfl:=Qk.1 hk
     split at hh
     . rename_i a' b' ha hb
       simp only [Option.some.injEq] at hh
       subst hh
       have e1:=congrArg Prod.snd (d.ok _ _ ha)
       have e2:=congrArg Prod.snd (e.ok _ _ hb)
       simp only [zY] at e1 e2
       simp only [zY,D.erL,D.er,aF,e1,e2]
     . cases hh
   . cases hh
 . cases hh⟩
structure qrR (l:List Int):Prop where out:∀ x∈l,inI x/\0<zH x
theorem vR {x:Int}(h0:¬x=0)(h1:-3<=x)(h2:x<=3):0<zH x:=by
 unfold zH
 split
 . rw [qx (by omega) (by omega)];omega
 . omega
theorem Yi {x:Int}(h1:-3<=x)(h2:x<=3):zH x<=3:=by
 unfold zH
 split
 . rw [qx (by omega) (by omega)];omega
 . omega
theorem Kl {l:List Int}(h:qX l=true){x:Int}(hx:x∈l):¬x=0/\-3<=x/\x<=3:=by
 obtain ⟨i,hi,rfl⟩:=List.mem_iff_getElem.1 hx
 have:=of_decide_eq_true (Je h i hi)
 rw [zy hi] at this
 exact ⟨this.1,this.2.1,this.2.2.1⟩
theorem vW {l:List Int}(h:qX l=true):∀ x∈l,inI x/\0<zH x:=fun x hx=>by
 have ⟨h1,h2,h3⟩:=Kl h hx
 exact ⟨by rw [kv];omega,vR h1 h2 h3⟩
theorem QO {α:Type}{p:Nat->α->Bool}:∀ {l:List α} {n:Nat} {q:α},qD p l n=true->q∈l->∃ i,p i q=true
 | a::r,n,q,h,hq=>by
   unfold qD at h
   rw [Bool.and_eq_true] at h
   rcases List.mem_cons.1 hq with rfl | hq
   . exact ⟨n,h.1⟩
   . exact QO h.2 hq
theorem Vd {cs:List qi}(h:jO cs=true){q:qi}(hq:q∈cs):QL q=true:=by
 unfold jO at h
 rw [Bool.and_eq_true] at h
 obtain ⟨i,hi⟩:=QO h.2 hq
 unfold ndP at hi
 rw [Bool.and_eq_true] at hi
 exact hi.1
theorem W3 {q:qi}(h:QL q=true):qX q.label=true:=by
 unfold QL at h
 simp only [Bool.and_eq_true] at h
 exact h.1.2
def qsH (l:List Int)(t:qj)(q:qi):Bool:=l.any fun x=>!wdB t.nodes q.label x
theorem qan (t:qj)(ht:za t):qe Tryz.prog 21 [qH t] (rB (qM t)):=by
 refine qe.of qc (fn:=Tryz.f21) (c:=Tryz.f21.body.getD .skip) (dr:=fun n=>qa 0 [] n) Tryz.func21 rfl (by kernel_rfl) (by kernel_rfl) (by kernel_rfl) ?_
 have h1:=ht.len
 have h2:=ht.tlen
 have h3:=ht.nodes
 clear ht
 obtain ⟨f1,hf1⟩:∃ f,f=jO:=⟨_,rfl⟩
 obtain ⟨f2,hf2⟩:∃ f,f=JY:=⟨_,rfl⟩
 obtain ⟨f3,hf3⟩:∃ f,f=qsH:=⟨_,rfl⟩
 have hO:qp Tryz.prog (qJ [(43,Ju f1),(44,qfi f2),(45,w2 kw (qr5 46 true true qK wc) (fun l x=>rB (f3 l x.1 x.2)) (fun l x=>[LLe l maxLen,qrR l,LLe x.1.nodes maxLen,qqy x.1.nodes,Y3 x.2]))]):=by
  subst hf1 hf2 hf3
  exact qb qbZ (qb qe9 (qb (qF fun l x h=>by
   have g1:=(h _ (.head _)).out
   have g2:=(h _ (.tail _ (.head _))).out
   have g3:=(h _ (.tail _ (.tail _ (.head _)))).out
   have g4:=(h _ (.tail _ (.tail _ (.tail _ (.head _))))).out
   have g5:=h _ (.tail _ (.tail _ (.tail _ (.tail _ (.head _)))))
   exact Kd l _ _ _ (fun y hy=>qhT y x.1 x.2 g3 (fun q hq=>⟨(g4 q hq).len,(g4 q hq).all⟩) ⟨g5.len,g5.all⟩ (g2 y hy).1 (g2 y hy).2) g1) qd))
 obtain ⟨ns,ts,hr⟩:=t
 have h1:ns.length<=maxLen:=h1
 have h2:ts.length<=maxLen:=h2
 have h3:∀ q∈ns,Y3 q:=h3
 have h1':=h1
 unfold maxLen at h1'
 obtain ⟨d,hd⟩:∃ a,a=qeT hr:=⟨_,rfl⟩
 obtain ⟨p,hp⟩:∃ p:Nat->qi->Bool,p=fun _ q=>yB ns q:=⟨_,rfl⟩
 have hs:qM ⟨ns,ts,hr⟩=(f1 ns&&(f2 ns ts&&(d&&qD p ns 0))):=by
  rw [hf1,hp,hf2,hd];unfold qM qiC;dsimp only
  generalize qD (fun _ q=>yB ns q) ns 0=a
  generalize JY ns ts=b
  generalize qeT hr=c
  generalize jO ns=e
  revert a b c e;decide
 rw [hs]
 clear hs
 refine SEx.go (X:=XX) qc (fun n=>qa [] [(4,[1,24,25,26])] n) (fun _=>none) hO 60 ?_
 intro M R L N m0 m1 m2 m3 m4 m5
 cases M
 cbv
 repeat' first | refine m1 _ _ ?_ ?_ | refine m2 _ _ fun h=>?_ | refine m3 _ ?_ | (refine m4 _ _ (Hd.out ?_);generalize hks:(List.cons _ _:List K)=ks) | (refine m5 _ _ ?_;cbv)
 all_goals (clear m1 m2 m3 m4 m5;cases m0;try dsimp only)
 all_goals try simp only [sm] at *
 all_goals first
  | exact ⟨h1⟩
  | exact ⟨h2⟩
  | exact ⟨h3⟩
  | exact ⟨fun q hq=>(h3 q hq).len⟩
  | (refine qV ?_ _;rw [show f1 ns=false by assumption];rfl)
  | (refine qV ?_ _;rw [show f2 ns ts=false by assumption];simp;done)
  | (refine qV ?_ _;rw [hd,qeT,decide_eq_false (by omega)];simp;done)
  | (refine qV ?_ _;rw [hd,qeT,decide_eq_false (show ¬hr<=10 by omega)];simp;done)
  | skip
 have hn1:jO ns=true:=by rw [<-hf1];assumption
 rw [show f1 ns=true by assumption,show f2 ns ts=true by assumption,show d=true by rw [hd,qeT,decide_eq_true (by omega),decide_eq_true (by omega)];rfl,Bool.true_and,Bool.true_and,Bool.true_and]
 obtain ⟨m,hm⟩:∃ m,m=ns.length:=⟨_,rfl⟩
 refine ⟨SEx.same (SEx.idx m (fun i=>⟨35,[(1,bP 4096),(24,bL (.node false none ns)),(25,bI m),(26,bI i)],[(4096,.obx [.fz (.sl (.node false none ns)),.fz (.sl (.tie ts)),.fz (.int .i64 hr)])]⟩) (fun i=>rB (qD p (ns.drop i) i&&true)) ?_) (by rw [hm];rfl) (by rw [Bool.and_true];rfl)⟩
 intro i hi ih
 rw [<-hks]
 have hl:i<m->zh _ _ _:=fun h=>zh.of p ns i true qi.z (by omega)
 have he:i=m->(qD p (ns.drop i) i&&true)=true:=fun h=>qR (by omega)
 have hmem:i<m->Mem (ns.getD i qi.z) ns:=fun h=>qo (by omega)
 have hps:∀ q:qi,f3 q.label ⟨ns,ts,hr⟩ q=!p i q:=fun q=>by
  rw [hf3,hp];show (q.label.any fun x=>!wdB ns q.label x)=!qD (fun _ x=>wdB ns q.label x) q.label 0;rw [KL,List.not_all_eq_any_not]
 refine SEx.go (X:=XX) qc (fun n=>qa [] [(4,[1,24,25,26])] n) (fun _=>none) hO 60 ?_
 intro M R L N m0 m1 m2 m3 m4 m5
 cases M
 cbv
 repeat' first | refine m1 _ _ ?_ ?_ | refine m2 _ _ fun h=>?_ | refine m3 _ ?_ | (refine m4 _ _ (Hd.out ?_);try first | rw [hks] | rw [hk2] | rw [hk3]) | (refine m5 _ _ ?_;cbv)
 all_goals (clear m1 m2 m3 m4 m5;cases m0;(try clear hks;try clear hk2;try clear hk3);try dsimp only)
 all_goals try simp only [sm] at *
 all_goals (try simp only [qg (show i<9223372036854775807 by omega)])
 all_goals first
  | omega
  | exact ⟨h1⟩
  | exact ⟨h3⟩
  | exact ⟨(h3 _ (hmem (by omega)).out).len⟩
  | exact ⟨vW (W3 (Vd hn1 (hmem (by omega)).out))⟩
  | exact h3 _ (hmem (by omega)).out
  | (refine qV ?_ _;rw [he (by omega)];done)
  | (refine (hl (by omega)).stop _ ?_;have hx:=hps (ns.getD i qi.z);simp_all;done)
  | (refine ⟨(ih (by omega)).same rfl ((hl (by omega)).go ?_)⟩;clear ih;have hx:=hps (ns.getD i qi.z);simp_all;done)
  | skip
def jx (f:qj->Bool):Wr:=w1 qK (fun t=>rB (f t)) (fun t=>[za t])
theorem Qb:qz Tryz.prog 26 (jx qM):=zl fun t h=>qae t (h _ (.head _))
theorem Q9:qz Tryz.prog 21 (jx qM):=zl fun t h=>qan t (h _ (.head _))
theorem zR {t:qj}(h:qM t=true):1<=t.hor/\t.hor<=10:=by
 unfold qM qeT at h
 simp only [Bool.and_eq_true,decide_eq_true_eq] at h
 exact h.2.2.2
theorem qG {t:qj}(h:qM t=true):1<=t.nodes.length/\t.nodes.length<=7:=by
 unfold qM jO Qa at h
 simp only [Bool.and_eq_true,decide_eq_true_eq] at h
 omega
theorem zq {t:qj}(h:qM t=true):t.ties.length<=14:=by
 unfold qM JY at h
 simp only [Bool.and_eq_true,decide_eq_true_eq] at h
 exact h.2.2.1.2
theorem kI {t:qj}(h:qM t=true){q:qi}(hq:q∈t.nodes):qX q.label=true:=by
 unfold qM at h
 rw [Bool.and_eq_true] at h
 exact W3 (Vd h.1 hq)
end Go.Proofs.YtfafehnchmelnaaGreat.Ai
namespace Go.Proofs.YtfafehnchmelnaaGreat.Ai
open Go
set_option maxRecDepth 100000
variable [qf]
def QN (times:List Int)(w:Int):Bool:=decide (0<=w)&&decide (¬times.getD w.toNat 0=-1)
def ZI (now:Int)(i:Nat)(n:Int):Bool:=decide ((i=0->n=0)/\(0<i->-1<=n/\n<=now-1))
def qcy (cs:List qi)(times:List Int)(i:Nat)(v:Int):Bool:=decide (¬v=0) == QN times (zt cs ((i:Int)+1))
def jR (t:qj)(x:qh):Bool:=decide (0<=x.now/\x.now<=t.hor+1/\x.times.length=t.nodes.length)&&(qW x.vals&&(qD (ZI x.now) x.times 0&&qD (qcy t.nodes x.times) x.vals 0))
structure JB (x:qh):Prop where
 now:inI x.now
 tlen:x.times.length<=maxLen
 vlen:x.vals.length<=maxLen
theorem q9 {l:List Int}(h:qW l=true):l.length=3:=by
 unfold qW at h
 simp only [Bool.and_eq_true,decide_eq_true_eq] at h
 exact h.2
theorem qcj (a b:Int):decide (¬a=b)=!(a == b):=by by_cases h:a=b<;>simp [h]
theorem qhE (t:qj)(x:qh)(ht:qM t=true)(hx:JB x):qe Tryz.prog 101 [qH t,qQ x] (rB (jR t x)):=by
 refine qe.of qc (fn:=Tryz.f101) (c:=Tryz.f101.body.getD .skip) (dr:=fun n=>qa 0 [] n) Tryz.func101 rfl (by kernel_rfl) (by kernel_rfl) (by kernel_rfl) ?_
 have hh:=zR ht
 have hn:=qG ht
 have h2:=hx.tlen
 have h3:=hx.vlen
 have h4:=hx.now
 clear ht hx
 rw [kv] at h4
 obtain ⟨f1,hf1⟩:∃ f,f=qW:=⟨_,rfl⟩
 obtain ⟨f2,hf2⟩:∃ f,f=zt:=⟨_,rfl⟩
 have hO:qp Tryz.prog (qJ [(125,Wp f1),(80,KG f2)]):=by
  subst hf1 hf2
  exact qb JQ (qb wE qd)
 obtain ⟨ns,ts,hr⟩:=t
 obtain ⟨now,times,vals⟩:=x
 dsimp only at hh hn h2 h3 h4
 unfold maxLen at h2 h3
 obtain ⟨p,hp⟩:∃ p,p=ZI now:=⟨_,rfl⟩
 obtain ⟨q,hq⟩:∃ q,q=qcy ns times:=⟨_,rfl⟩
 obtain ⟨d,hd⟩:∃ d,d=qD q vals 0:=⟨_,rfl⟩
 have hs:jR ⟨ns,ts,hr⟩ ⟨now,times,vals⟩=(decide (0<=now/\now<=hr+1/\times.length=ns.length)&&(f1 vals&&(qD p times 0&&d))):=by
  rw [hf1,hp,hd,hq];rfl
 rw [hs]
 clear hs
 obtain ⟨r,hrr⟩:∃ r,r=(decide (0<=now/\now<=hr+1/\times.length=ns.length)&&(f1 vals&&(qD p times 0&&d))):=⟨_,rfl⟩
 rw [<-hrr]
 have h1r:IntKind.i64.wrap (hr+1)=hr+1:=qx (by omega) (by omega)
 refine SEx.go (X:=XX) qc (fun n=>qa [] [(4,[2,3,37,38,39]),(10,[2,3,67,68,69])] n) (fun _=>none) hO 60 ?_
 intro M R L N m0 m1 m2 m3 m4 m5
 cases M
 cbv
 repeat' first | refine m1 _ _ ?_ ?_ | refine m2 _ _ fun h=>?_ | refine m3 _ ?_ | (refine m4 _ _ (Hd.out ?_);generalize hks:(List.cons _ _:List K)=ks) | (refine m5 _ _ ?_;cbv)
 all_goals (clear m1 m2 m3 m4 m5;cases m0;try dsimp only)
 all_goals try simp only [sm] at *
 all_goals (try rw [h1r] at *)
 all_goals first
  | omega
  | exact ⟨h3⟩
  | (refine qV ?_ _;rw [hrr,decide_eq_false (by omega)];rfl)
  | (refine qV ?_ _;rw [hrr,show f1 vals=false by assumption];simp;done)
  | skip
 rw [show f1 vals=true by assumption,decide_eq_true (by omega),Bool.true_and,Bool.true_and] at hrr
 rw [hrr]
 clear hrr
 have hv3:vals.length=3:=by apply q9;rw [<-hf1];assumption
 obtain ⟨m,hm⟩:∃ m,m=times.length:=⟨_,rfl⟩
 refine ⟨SEx.same (SEx.idx m (fun i=>⟨92,[(2,bP 8192),(3,bP 12288),(37,bL (.i times)),(38,bI m),(39,bI i)],[(8192,.obx [.fz (.sl (.node false none ns)),.fz (.sl (.tie ts)),.fz (.int .i64 hr)]),(12288,.obx [.fz (.int .i64 now),.fz (.sl (.i times)),.fz (.sl (.i vals))])]⟩) (fun i=>rB (qD p (times.drop i) i&&d)) ?_) (by rw [hm];rfl) rfl⟩
 intro i hi ih
 rw [<-hks]
 have hl:i<m->zh _ _ _:=fun h=>zh.of p times i d (0:Int) (by omega)
 have he:i=m->(qD p (times.drop i) i&&d)=d:=fun h=>qR (by omega)
 have h1n:IntKind.i64.wrap (now-1)=now-1:=qx (by omega) (by omega)
 refine SEx.go (X:=XX) qc (fun n=>qa [] [(4,[2,3,37,38,39]),(10,[2,3,67,68,69])] n) (fun _=>none) hO 60 ?_
 intro M R L N m0 m1 m2 m3 m4 m5
 cases M
 cbv
 repeat' first | refine m1 _ _ ?_ ?_ | refine m2 _ _ fun h=>?_ | refine m3 _ ?_ | (refine m4 _ _ (Hd.out ?_);first | rw [hks] | generalize hk2:(List.cons _ _:List K)=k2) | (refine m5 _ _ ?_;cbv)
 all_goals (clear m1 m2 m3 m4 m5;cases m0;try dsimp only)
 all_goals try simp only [sm] at *
 all_goals (try simp only [qg (show i<9223372036854775807 by omega),h1n] at *)
 all_goals first
  | omega
  | (refine (hl (by omega)).stop _ ?_;rw [hp,ZI];apply decide_eq_false;omega)
  | (refine ⟨(ih (by omega)).same rfl ((hl (by omega)).go ?_)⟩;rw [hp,ZI];apply decide_eq_true;omega)
  | skip
 have him:i=m:=by omega
 rw [he him]
 clear ih hl he
 rw [hd]
 clear hd
 refine ⟨SEx.same (SEx.idx 3 (fun i=>⟨92,[(2,bP 8192),(3,bP 12288),(67,bL (.i vals)),(68,bI 3),(69,bI i)],[(8192,.obx [.fz (.sl (.node false none ns)),.fz (.sl (.tie ts)),.fz (.int .i64 hr)]),(12288,.obx [.fz (.int .i64 now),.fz (.sl (.i times)),.fz (.sl (.i vals))])]⟩) (fun i=>rB (qD q (vals.drop i) i&&true)) ?_) (by rw [hv3];rfl) (by rw [Bool.and_true];rfl)⟩
 intro k hk ih
 rw [<-hk2]
 have hl:k<3->zh _ _ _:=fun h=>zh.of q vals k true (0:Int) (by omega)
 have he:k=3->(qD q (vals.drop k) k&&true)=true:=fun h=>qR (by omega)
 have hlt:∀ x,f2 ns x<ns.length:=fun x=>by rw [hf2];exact (qbG _ _).1
 have hqk:q k (vals.getD k 0)=(decide (¬vals.getD k 0=0) == QN times (f2 ns ((k+1:Nat):Int))):=by
  rw [hq,hf2];rfl
 have h5:=hlt ((k+1:Nat):Int)
 refine SEx.go (X:=XX) qc (fun n=>qa [] [(4,[2,3,37,38,39]),(10,[2,3,67,68,69])] n) (fun _=>none) hO 60 ?_
 intro M R L N m0 m1 m2 m3 m4 m5
 cases M
 cbv
 repeat' first | refine m1 _ _ ?_ ?_ | refine m2 _ _ fun h=>?_ | refine m3 _ ?_ | (refine m4 _ _ (Hd.out ?_);try first | rw [hks] | rw [hk2] | rw [hk3]) | (refine m5 _ _ ?_;cbv)
 all_goals (clear m1 m2 m3 m4 m5;cases m0;(try clear hks;try clear hk2;try clear hk3);try dsimp only)
 all_goals try simp only [sm] at *
 all_goals (try simp only [qg (show k<9223372036854775807 by omega)] at *)
 all_goals first
  | omega
  | exact ⟨by omega⟩
  | (refine qV ?_ _;rw [he (by omega)];done)
  | (refine (hl (by omega)).stop _ ?_;rw [hqk];unfold QN;clear hqk hl he ih;generalize f2 ns ((k+1:Nat):Int)=w at *;rw [decide_eq_true (show 0<=w by assumption)];generalize times.getD w.toNat 0=b at *;generalize vals.getD k 0=a at *;rw [qcj,qcj];generalize (a == 0)=u at *;generalize (b == -1)=v at *;cases u<;>cases v<;>simp_all;done)
  | (refine (hl (by omega)).stop _ ?_;rw [hqk];unfold QN;clear hqk hl he ih;generalize f2 ns ((k+1:Nat):Int)=w at *;rw [decide_eq_false (show ¬0<=w by omega)];generalize vals.getD k 0=a at *;by_cases ha:a=0<;>simp_all;done)
  | (refine ⟨(ih (by omega)).same rfl ((hl (by omega)).go ?_)⟩;rw [hqk];unfold QN;clear hqk hl he ih;generalize f2 ns ((k+1:Nat):Int)=w at *;rw [decide_eq_true (show 0<=w by assumption)];generalize times.getD w.toNat 0=b at *;generalize vals.getD k 0=a at *;rw [qcj,qcj];generalize (a == 0)=u at *;generalize (b == -1)=v at *;cases u<;>cases v<;>simp_all;done)
  | (refine ⟨(ih (by omega)).same rfl ((hl (by omega)).go ?_)⟩;rw [hqk];unfold QN;clear hqk hl he ih;generalize f2 ns ((k+1:Nat):Int)=w at *;rw [decide_eq_false (show ¬0<=w by omega)];generalize vals.getD k 0=a at *;by_cases ha:a=0<;>simp_all;done)
  | skip
def W9 (t:qj)(x:qh):Bool:=qM t&&jR t x
structure qsu (t:qj):Prop where out:qM t=true
def qej (f:qj->qh->Bool):Wr:=w2 qK qP (fun t x=>rB (f t x)) (fun t x=>[qsu t,JB x])
theorem qeW:qz Tryz.prog 101 (qej jR):=qF fun t x h=>qhE t x (h _ (.head _)).out (h _ (.tail _ (.head _)))
def qfN (f:qj->qh->Bool):Wr:=w2 qK qP (fun t x=>rB (f t x)) (fun t x=>[za t,JB x])
theorem Yq (t:qj)(x:qh)(ht:za t)(hx:JB x):qe Tryz.prog 62 [qH t,qQ x] (rB (W9 t x)):=by
 refine qe.of qc (fn:=Tryz.f62) (c:=Tryz.f62.body.getD .skip) (dr:=fun n=>qa 0 [] n) Tryz.func62 rfl (by kernel_rfl) (by kernel_rfl) (by kernel_rfl) ?_
 obtain ⟨f1,hf1⟩:∃ f,f=qM:=⟨_,rfl⟩
 obtain ⟨f2,hf2⟩:∃ f,f=jR:=⟨_,rfl⟩
 have hO:qp Tryz.prog (qJ [(21,jx f1),(101,qej f2)]):=by
  subst hf1 hf2
  exact qb Q9 (qb qeW qd)
 rw [show W9 t x=(f1 t&&f2 t x) by rw [hf1,hf2];rfl]
 have hsh:f1 t=true->qM t=true:=fun h=>by rw [hf1] at h;exact h
 obtain ⟨ns,ts,hr⟩:=t
 obtain ⟨now,times,vals⟩:=x
 refine SEx.go (X:=XX) qc (fun n=>qa [] [] n) (fun _=>none) hO 60 ?_
 intro M R L N m0 m1 m2 m3 m4 m5
 cases M
 cbv
 repeat' first | refine m1 _ _ ?_ ?_ | refine m2 _ _ fun h=>?_ | refine m3 _ ?_ | (refine m4 _ _ (Hd.out ?_);try first | rw [hks] | rw [hk2] | rw [hk3]) | (refine m5 _ _ ?_;cbv)
 all_goals (clear m1 m2 m3 m4 m5;cases m0;(try clear hks;try clear hk2;try clear hk3);try dsimp only)
 all_goals try simp only [sm] at *
 all_goals first
  | exact ht
  | exact hx
  | exact ⟨hsh (by assumption)⟩
  | (refine qV ?_ _;simp_all;done)
  | skip
theorem qcL:qz Tryz.prog 62 (qfN W9):=qF fun t x h=>Yq t x (h _ (.head _)) (h _ (.tail _ (.head _)))
end Go.Proofs.YtfafehnchmelnaaGreat.Ai
namespace Go.Proofs.YtfafehnchmelnaaGreat.Ai
open Go
set_option maxRecDepth 100000
variable [qf]
def Kx (v:List Int)(x:Int):Int:=if x<0 then -(v.getD (zH x-1).toNat 0) else v.getD (zH x-1).toNat 0
def ZG (v:List Int):List Int->Int->Int
 | [],s=>s
 | x::r,s=>ZG v r (min s (Kx v x))
theorem Wk {v l:List Int}{i:Nat}{s:Int}(h:i<l.length):ZG v (l.drop i) s=ZG v (l.drop (i+1)) (min s (Kx v (l.getD i 0))):=by
 rw [List.drop_eq_getElem_cons h,zy h]
 rfl
theorem QK {v:List Int}(h:qW v=true)(i:Nat):-1<=v.getD i 0/\v.getD i 0<=1:=by
 unfold qW at h
 rw [Bool.and_eq_true] at h
 by_cases hi:i<v.length
 . obtain ⟨j,hj⟩:=QO h.1 (qo (z:=(0:Int)) hi).out
   simpa [qcK] using hj
 . rw [List.getD_eq_getElem?_getD,List.getElem?_eq_none (by omega)]
   exact ⟨by decide,by decide⟩
theorem qjB {v:List Int}(h:qW v=true)(x:Int):-1<=Kx v x/\Kx v x<=1:=by
 unfold Kx
 have:=QK h (zH x-1).toNat
 split<;>omega
theorem qiB {v:List Int}(h:qW v=true):∀ (l:List Int) (s:Int),-1<=s->s<=1->-1<=ZG v l s/\ZG v l s<=1
 | [],s,h1,h2=>⟨h1,h2⟩
 | x::r,s,h1,h2=>qiB h r _ (by have:=qjB h x;omega) (by omega)
structure qs4 (l:List Int):Prop where out:qX l=true
structure qsc (l:List Int):Prop where out:qW l=true
theorem qfJ {l:List Int}(h:qX l=true):l.length<=3:=by
 have key:∀ n,n<=l.length->∀ j,j<n->(j:Int)+1<=zH (l.getD j 0):=by
  intro n hn j hj
  induction j with
  | zero =>
    have:=(vW h _ (qo (z:=(0:Int)) (show 0<l.length by omega)).out).2
    omega
  | succ j ih =>
    have h1:=ih (by omega)
    have h2:=(of_decide_eq_true (Je h (j+1) (by omega))).2.2.2 (by omega)
    rw [Nat.add_sub_cancel] at h2
    omega
 apply Decidable.byContradiction
 intro hn
 have h1:=key l.length (Nat.le_refl _) 3 (by omega)
 have h2:=Kl h (qo (z:=(0:Int)) (show 3<l.length by omega)).out
 have h3:=Yi h2.2.1 h2.2.2
 omega
theorem ql6 (a s:Int):(if a<s then a else s)=min s a:=by rw [Int.min_def];split<;>split<;>omega
theorem Vv (l v:List Int)(hl:qX l=true)(hv:qW v=true):qe Tryz.prog 94 [aIs l,aIs v] (rI (ZG v l 1)):=by
 refine qe.of qc (fn:=Tryz.f94) (c:=Tryz.f94.body.getD .skip) (dr:=fun n=>qa 0 [] n) Tryz.func94 rfl (by kernel_rfl) (by kernel_rfl) (by kernel_rfl) ?_
 obtain ⟨f,hf⟩:∃ f,f=zH:=⟨_,rfl⟩
 have hO:qp Tryz.prog (qJ [(88,Vl f)]):=by subst hf;exact qb vZ qd
 have h3:=qfJ hl
 have hv3:=q9 hv
 rw [show ZG v l 1=ZG v (l.drop 0) 1 by rw [List.drop_zero]]
 refine SEx.go (X:=XX) qc (fun n=>qa [] [(3,[1,5,9,10,11])] n) (fun _=>none) hO 60 ?_
 intro M R L N m0 m1 m2 m3 m4 m5
 cases M
 cbv
 repeat' first | refine m1 _ _ ?_ ?_ | refine m2 _ _ fun h=>?_ | refine m3 _ ?_ | (refine m4 _ _ (Hd.out ?_);generalize hks:(List.cons _ _:List K)=ks) | (refine m5 _ _ ?_;cbv)
 all_goals (clear m1 m2 m3 m4 m5;cases m0;try dsimp only)
 all_goals try simp only [sm] at *
 obtain ⟨m,hm⟩:∃ m,m=l.length:=⟨_,rfl⟩
 refine ⟨SEx.same (SEx.idxS m (fun i (s:Int)=>⟨30,[(1,bL (.i v)),(5,bI s),(9,bL (.i l)),(10,bI m),(11,bI i)],[]⟩) (fun i s=>rI (ZG v (l.drop i) s)) (fun _ _=>True) 1 trivial ?_) (by rw [hm];rfl) rfl⟩
 intro i s hi _ ih
 rw [<-hks]
 have hp:i<m->0<f (l.getD i 0)/\f (l.getD i 0)<=3:=fun h=>by
  have h2:=Kl hl (qo (z:=(0:Int)) (show i<l.length by omega)).out
  rw [hf]
  exact ⟨vR h2.1 h2.2.1 h2.2.2,Yi h2.2.1 h2.2.2⟩
 have hw:i<m->IntKind.i64.wrap (f (l.getD i 0)-1)=f (l.getD i 0)-1:=fun h=>by have:=hp h;exact qx (by omega) (by omega)
 refine SEx.go (X:=XX) qc (fun n=>qa [] [(3,[1,5,9,10,11])] n) (fun _=>none) hO 60 ?_
 intro M R L N m0 m1 m2 m3 m4 m5
 cases M
 cbv
 repeat' first | refine m1 _ _ ?_ ?_ | refine m2 _ _ fun h=>?_ | refine m3 _ ?_ | (refine m4 _ _ (Hd.out ?_);try first | rw [hks] | rw [hk2] | rw [hk3]) | (refine m5 _ _ ?_;cbv)
 all_goals (clear m1 m2 m3 m4 m5;cases m0;(try clear hks;try clear hk2;try clear hk3);try dsimp only)
 all_goals try simp only [sm] at *
 all_goals (try (have h7:=hp (by omega)))
 all_goals (try rw [hw (by omega)] at *)
 all_goals (have hvr:=QK hv (f (l.getD i 0)-1).toNat;try rw [qx (n:=0-v.getD (f (l.getD i 0)-1).toNat 0) (by omega) (by omega)])
 all_goals (try simp only [qg (show i<9223372036854775807 by omega),ql6])
 all_goals first
  | omega
  | exact ⟨(vW hl _ (qo (z:=(0:Int)) (by omega)).out).1⟩
  | (refine ⟨(ih _ (by omega) trivial).same rfl ?_⟩;rw [Wk (show i<l.length by omega),Kx,if_pos (by assumption),hf,Int.zero_sub];done)
  | (refine ⟨(ih _ (by omega) trivial).same rfl ?_⟩;rw [Wk (show i<l.length by omega),Kx,if_neg (by omega),hf];done)
  | (rw [List.drop_eq_nil_of_le (by omega)];rfl)
  | skip
theorem qcE (x:Int)(v:List Int)(hx:¬x=0/\-3<=x/\x<=3)(hv:qW v=true):qe Tryz.prog 148 [aI x,aIs v] (rI (Kx v x)):=by
 refine qe.of qc (fn:=Tryz.f148) (c:=Tryz.f148.body.getD .skip) (dr:=fun n=>qa 0 [] n) Tryz.func148 rfl (by kernel_rfl) (by kernel_rfl) (by kernel_rfl) ?_
 obtain ⟨f,hf⟩:∃ f,f=zH:=⟨_,rfl⟩
 have hO:qp Tryz.prog (qJ [(81,Vl f)]):=by subst hf;exact qb Wc qd
 have hv3:=q9 hv
 have hp:0<f x/\f x<=3:=by rw [hf];exact ⟨vR hx.1 hx.2.1 hx.2.2,Yi hx.2.1 hx.2.2⟩
 have hw:IntKind.i64.wrap (f x-1)=f x-1:=qx (by omega) (by omega)
 refine SEx.go (X:=XX) qc (fun n=>qa [] [] n) (fun _=>none) hO 60 ?_
 intro M R L N m0 m1 m2 m3 m4 m5
 cases M
 cbv
 repeat' first | refine m1 _ _ ?_ ?_ | refine m2 _ _ fun h=>?_ | refine m3 _ ?_ | (refine m4 _ _ (Hd.out ?_);try first | rw [hks] | rw [hk2] | rw [hk3]) | (refine m5 _ _ ?_;cbv)
 all_goals (clear m1 m2 m3 m4 m5;cases m0;(try clear hks;try clear hk2;try clear hk3);try dsimp only)
 all_goals try simp only [sm] at *
 all_goals (try rw [hw] at *)
 all_goals (have hvr:=QK hv (f x-1).toNat;try rw [qx (n:=0-v.getD (f x-1).toNat 0) (by omega) (by omega)])
 all_goals first
  | omega
  | (refine ⟨?_⟩;rw [kv];omega)
  | (simp only [wh];rw [Kx,if_pos (by assumption),hf,Int.zero_sub];done)
  | (simp only [wh];rw [Kx,if_neg (by omega),hf];done)
  | skip
structure qs2 (x:Int):Prop where out:¬x=0/\-3<=x/\x<=3
def qnV (f:List Int->Int->Int):Wr:=w2 dcI kw (fun x v=>rI (f v x)) (fun x v=>[qs2 x,qsc v])
theorem qlM:qz Tryz.prog 148 (qnV Kx):=qF fun x v h=>qcE x v (h _ (.head _)).out (h _ (.tail _ (.head _))).out
theorem Km (l v:List Int)(hl:Kf l)(hv:v.length<=maxLen):qe Tryz.prog 140 [aIs l,aIs v] (rI (if qX l=true/\qW v=true then ZG v l 1 else -1)):=by
 refine qe.of qc (fn:=Tryz.f140) (c:=Tryz.f140.body.getD .skip) (dr:=fun n=>qa 0 [] n) Tryz.func140 rfl (by kernel_rfl) (by kernel_rfl) (by kernel_rfl) ?_
 obtain ⟨f,hf⟩:∃ f,f=Kx:=⟨_,rfl⟩
 obtain ⟨f1,hf1⟩:∃ f,f=qX:=⟨_,rfl⟩
 obtain ⟨f2,hf2⟩:∃ f,f=qW:=⟨_,rfl⟩
 have hO:qp Tryz.prog (qJ [(114,QU f1),(125,Wp f2),(148,qnV f)]):=by subst hf hf1 hf2;exact qb ZZ (qb JQ (qb qlM qd))
 rw [<-hf1,<-hf2]
 refine SEx.go (X:=XX) qc (fun n=>qa [] [(5,[1,5,16,17,18])] n) (fun _=>none) hO 60 ?_
 intro M R L N m0 m1 m2 m3 m4 m5
 cases M
 cbv
 repeat' first | refine m1 _ _ ?_ ?_ | refine m2 _ _ fun h=>?_ | refine m3 _ ?_ | (refine m4 _ _ (Hd.out ?_);generalize hks:(List.cons _ _:List K)=ks) | (refine m5 _ _ ?_;cbv)
 all_goals (clear m1 m2 m3 m4 m5;cases m0;try dsimp only)
 all_goals try simp only [sm] at *
 all_goals first
  | exact hl
  | exact ⟨hv⟩
  | (simp only [wh];rw [if_neg];rintro ⟨h1,h2⟩;simp_all;done)
  | skip
 rw [if_pos ⟨by assumption,by assumption⟩]
 have hlb:qX l=true:=by rw [<-hf1];assumption
 have hvb:qW v=true:=by rw [<-hf2];assumption
 have h3:=qfJ hlb
 obtain ⟨m,hm⟩:∃ m,m=l.length:=⟨_,rfl⟩
 refine ⟨SEx.same (SEx.idxS m (fun i (s:Int)=>⟨29,[(1,bL (.i v)),(5,bI s),(16,bL (.i l)),(17,bI m),(18,bI i)],[]⟩) (fun i s=>rI (ZG v (l.drop i) s)) (fun _ _=>True) 1 trivial ?_) (by rw [hm];rfl) rfl⟩
 intro i s hi _ ih
 rw [<-hks]
 refine SEx.go (X:=XX) qc (fun n=>qa [] [(5,[1,5,16,17,18])] n) (fun _=>none) hO 60 ?_
 intro M R L N m0 m1 m2 m3 m4 m5
 cases M
 cbv
 repeat' first | refine m1 _ _ ?_ ?_ | refine m2 _ _ fun h=>?_ | refine m3 _ ?_ | (refine m4 _ _ (Hd.out ?_);try first | rw [hks] | rw [hk2] | rw [hk3]) | (refine m5 _ _ ?_;cbv)
 all_goals (clear m1 m2 m3 m4 m5;cases m0;(try clear hks;try clear hk2;try clear hk3);try dsimp only)
 all_goals try simp only [sm] at *
 all_goals (try simp only [qg (show i<9223372036854775807 by omega),ql6])
 all_goals first
  | omega
  | exact ⟨Kl hlb (qo (z:=(0:Int)) (by omega)).out⟩
  | exact ⟨hvb⟩
  | (refine ⟨(ih _ (by omega) trivial).same rfl ?_⟩;rw [Wk (show i<l.length by omega),hf];done)
  | (rw [List.drop_eq_nil_of_le (by omega)];rfl)
  | skip
def nsI (t:qj)(x:qh)(i:Int):Int:=ZG x.vals (nd t.nodes i).label 1
structure StT (t:qj)(x:qh):Prop where
 sh:qM t=true
 st:jR t x=true
theorem StT.vals {t:qj}{x:qh}(h:StT t x):qW x.vals=true:=by
 have:=h.st
 unfold jR at this
 rw [Bool.and_eq_true,Bool.and_eq_true] at this
 exact this.2.1
theorem StT.now {t:qj}{x:qh}(h:StT t x):0<=x.now/\x.now<=t.hor+1/\x.times.length=t.nodes.length:=by
 have:=h.st
 unfold jR at this
 rw [Bool.and_eq_true,decide_eq_true_eq] at this
 exact this.1
theorem v7 {α:Type}{p:Nat->α->Bool}:∀ {l:List α} {n i:Nat} (z:α),qD p l n=true->i<l.length->p (n+i) (l.getD i z)=true
 | a::r,n,0,z,h,_=>by
   unfold qD at h
   rw [Bool.and_eq_true] at h
   simpa using h.1
 | a::r,n,i+1,z,h,hi=>by
   unfold qD at h
   rw [Bool.and_eq_true] at h
   have:=v7 z h.2 (show i<r.length by simpa using hi)
   rw [List.getD_cons_succ,show n+(i+1)=n+1+i by omega]
   exact this
theorem StT.time {t:qj}{x:qh}(h:StT t x)(i:Nat):-1<=x.times.getD i 0/\x.times.getD i 0<=10:=by
 have hn:=h.now
 have hh:=zR h.sh
 have:=h.st
 unfold jR at this
 rw [Bool.and_eq_true,Bool.and_eq_true,Bool.and_eq_true] at this
 by_cases hi:i<x.times.length
 . have h1:=v7 (0:Int) this.2.2.1 hi
   rw [Nat.zero_add,ZI,decide_eq_true_eq] at h1
   by_cases h0:i=0
   . have:=h1.1 h0;omega
   . have:=h1.2 (by omega);omega
 . rw [List.getD_eq_getElem?_getD,List.getElem?_eq_none (by omega)]
   exact ⟨by decide,by decide⟩
structure kP (t:qj)(x:qh):Prop where
 sh:za t
 st:JB x
theorem qcX (t:qj)(x:qh)(i:Int)(hs:kP t x)(h:StT t x)(hi:0<=i/\i<t.nodes.length):qe Tryz.prog 128 [qH t,qQ x,aI i] (rI (nsI t x i)):=by
 refine qe.of qc (fn:=Tryz.f128) (c:=Tryz.f128.body.getD .skip) (dr:=fun n=>qa 0 [(1,8)] n) Tryz.func128 rfl (by kernel_rfl) (by kernel_rfl) (by kernel_rfl) ?_
 have h1:=kI h.sh (qo (z:=qi.z) (show i.toNat<t.nodes.length by omega)).out
 have h2:=h.vals
 have h3:=hs.sh.nodes _ (qo (z:=qi.z) (show i.toNat<t.nodes.length by omega)).out
 have h4:=hs.st.vlen
 unfold nsI nd
 obtain ⟨f,hf⟩:∃ f:List Int->List Int->Int,f=fun l v=>if qX l=true/\qW v=true then ZG v l 1 else -1:=⟨_,rfl⟩
 have hO:qp Tryz.prog (qJ [(140,w2 kw kw (fun l v=>rI (f l v)) (fun l v=>[Kf l,LLe v maxLen]))]):=by
  subst hf
  exact qb (qF fun l v h=>Km l v (h _ (.head _)) (h _ (.tail _ (.head _))).out) qd
 have he:f (t.nodes.getD i.toNat qi.z).label x.vals=ZG x.vals (t.nodes.getD i.toNat qi.z).label 1:=by rw [hf];exact if_pos ⟨h1,h2⟩
 rw [<-he]
 clear hs h hf he
 obtain ⟨ns,ts,hr⟩:=t
 obtain ⟨now,times,vals⟩:=x
 dsimp only at hi h1 h2 h3 h4
 refine SEx.go (X:=XX) qc (fun n=>qa [] [] n) (fun _=>none) hO 60 ?_
 intro M R L N m0 m1 m2 m3 m4 m5
 cases M
 cbv
 repeat' first | refine m1 _ _ ?_ ?_ | refine m2 _ _ fun h=>?_ | refine m3 _ ?_ | (refine m4 _ _ (Hd.out ?_);try first | rw [hks] | rw [hk2] | rw [hk3]) | (refine m5 _ _ ?_;cbv)
 all_goals (clear m1 m2 m3 m4 m5;cases m0;(try clear hks;try clear hk2;try clear hk3);try dsimp only)
 all_goals try simp only [sm] at *
 all_goals first
  | omega
  | exact ⟨h3.len,h3.all⟩
  | exact ⟨h4⟩
  | rfl
  | skip
end Go.Proofs.YtfafehnchmelnaaGreat.Ai
namespace Go.Proofs.YtfafehnchmelnaaGreat.Ai
open Go
set_option maxRecDepth 100000
variable [qf]
def qlm (l v:List Int):Int:=ZG v l 1
def QJ (f:List Int->List Int->Int):Wr:=w2 kw kw (fun l v=>rI (f l v)) (fun l v=>[qs4 l,qsc v])
theorem jB:qz Tryz.prog 94 (QJ qlm):=qF fun l v h=>Vv l v (h _ (.head _)).out (h _ (.tail _ (.head _))).out
def J6 (f:qj->qh->Int->Int):Wr:=w3 qK qP dcI (fun t x i=>rI (f t x i)) (fun t x i=>[kP t x,StT t x,InX i t.nodes])
theorem JV:qz Tryz.prog 128 (J6 nsI):=jL fun t x i h=>qcX t x i (h _ (.head _)) (h _ (.tail _ (.head _))) (h _ (.tail _ (.tail _ (.head _)))).out
structure Q3 (t:qj)(q:Tie):Prop where
 src:0<=q.src/\q.src<t.nodes.length
 dst:0<=q.dst/\q.dst<t.nodes.length
theorem kD {t:qj}(h:qM t=true){q:Tie}(hq:q∈t.ties):Q3 t q:=by
 have hn:=qG h
 unfold qM JY at h
 simp only [Bool.and_eq_true] at h
 obtain ⟨i,hi⟩:=QO h.2.2.1.1 hq
 unfold wt at hi
 rw [Bool.and_eq_true,decide_eq_true_eq] at hi
 exact ⟨by omega,by omega⟩
def KX (t:qj)(x:qh)(q:Tie):Bool :=
 if ¬x.times.getD q.src.toNat 0=-1/\¬x.times.getD q.dst.toNat 0=-1 then !(decide (q.low<=x.times.getD q.dst.toNat 0-x.times.getD q.src.toNat 0)&&decide (x.times.getD q.dst.toNat 0-x.times.getD q.src.toNat 0<=q.high))
 else if q.free=true then false
 else if ¬x.times.getD q.src.toNat 0=-1 then decide (nsI t x q.dst=1)&&decide (q.high<x.now-x.times.getD q.src.toNat 0)
 else if ¬x.times.getD q.dst.toNat 0=-1 then decide (nsI t x q.src=1)&&decide (x.times.getD q.dst.toNat 0-x.now<q.low)
 else false
theorem qef (t:qj)(x:qh)(q:Tie)(h:StT t x)(hq:Q3 t q):qe Tryz.prog 93 [qH t,qQ x,Y4 q] (rB (KX t x q)):=by
 refine qe.of qc (fn:=Tryz.f93) (c:=Tryz.f93.body.getD .skip) (dr:=fun n=>qa 0 [(8,18),(10,18)] n) Tryz.func93 rfl (by kernel_rfl) (by kernel_rfl) (by kernel_rfl) ?_
 obtain ⟨f0,hf0⟩:∃ f,f=zp:=⟨_,rfl⟩
 obtain ⟨f1,hf1⟩:∃ f,f=qlm:=⟨_,rfl⟩
 have hO:qp Tryz.prog (qJ [(39,YK f0),(94,QJ f1)]):=by
  subst hf0 hf1
  exact qb jW (qb jB qd)
 have hv:=h.vals
 have hn:=h.now
 have hh:=zR h.sh
 have ht:=h.time
 have hl:∀ n∈t.nodes,qX n.label=true:=fun n hn=>kI h.sh hn
 have h5:=hq.src
 have h6:=hq.dst
 have hr:KX t x q=if ¬x.times.getD q.src.toNat 0=-1/\¬x.times.getD q.dst.toNat 0=-1 then !(f0 (x.times.getD q.dst.toNat 0-x.times.getD q.src.toNat 0) q.low q.high)
  else if q.free=true then false
  else if ¬x.times.getD q.src.toNat 0=-1 then decide (f1 (t.nodes.getD q.dst.toNat qi.z).label x.vals=1)&&decide (q.high<x.now-x.times.getD q.src.toNat 0)
  else if ¬x.times.getD q.dst.toNat 0=-1 then decide (f1 (t.nodes.getD q.src.toNat qi.z).label x.vals=1)&&decide (x.times.getD q.dst.toNat 0-x.now<q.low)
  else false:=by rw [hf0,hf1];rfl
 rw [hr]
 clear h hq hr
 obtain ⟨ns,ts,hr⟩:=t
 obtain ⟨now,times,vals⟩:=x
 obtain ⟨x1,x2,x3,x4,x5⟩:=q
 dsimp only at hv hn hh ht h5 h6 hl ⊢
 have hta:=ht x1.toNat
 have htb:=ht x2.toNat
 have hw1:IntKind.i64.wrap (times.getD x2.toNat 0-times.getD x1.toNat 0)=times.getD x2.toNat 0-times.getD x1.toNat 0:=qx (by omega) (by omega)
 have hw2:IntKind.i64.wrap (now-times.getD x1.toNat 0)=now-times.getD x1.toNat 0:=qx (by omega) (by omega)
 have hw3:IntKind.i64.wrap (times.getD x2.toNat 0-now)=times.getD x2.toNat 0-now:=qx (by omega) (by omega)
 refine SEx.go (X:=XX) qc (fun n=>qa [] [] n) (fun _=>none) hO 60 ?_
 intro M R L N m0 m1 m2 m3 m4 m5
 cases M
 cbv
 repeat' first | refine m1 _ _ ?_ ?_ | refine m2 _ _ fun h=>?_ | refine m3 _ ?_ | (refine m4 _ _ (Hd.out ?_);try first | rw [hks] | rw [hk2] | rw [hk3]) | (refine m5 _ _ ?_;cbv)
 all_goals (clear m1 m2 m3 m4 m5;cases m0;(try clear hks;try clear hk2;try clear hk3);try dsimp only)
 all_goals try simp only [sm] at *
 all_goals (clear hO ht)
 all_goals (try simp only [hw1,hw2,hw3] at *)
 all_goals first
  | omega
  | contradiction
  | exact ⟨hv⟩
  | exact ⟨hl _ (qo (z:=qi.z) (by omega)).out⟩
  | (refine qV ?_ _;delta qi.label at *;clear hl;simp_all;done)
  | skip
theorem qjH {α:Type}{p:Nat->α->Bool}(z:α):∀ (l:List α) (n:Nat),qD p l n=Vo (fun i=>p (n+i) (l.getD i z)) l.length
 | [],n=>rfl
 | a::r,n=>by
   unfold qD Vo
   rw [List.length_cons,List.range_succ_eq_map,List.all_cons,List.all_map,qjH z r (n+1)]
   show (p n a&&_)=(p n a&&_)
   congr 1
   unfold Vo
   congr 1
   funext i
   show p (n+1+i) _=p (n+(i+1)) _
   rw [show n+1+i=n+(i+1) by omega]
   rfl
theorem Wq {α:Type}{p:Nat->α->Bool}(z:α)(l:List α):qD p l 0=Vo (fun i=>p i (l.getD i z)) l.length:=by
 rw [qjH z l 0];simp only [Nat.zero_add]
def qon (t:qj)(x:qh)(i:Nat):Bool:=!(decide (x.times.getD i 0=-1)&&decide (0<=nsI t x i))
def js (t:qj)(x:qh):Bool:=Vo (qon t x) t.nodes.length
def z7 (t:qj)(x:qh):Bool:=!(qD (fun _ q=>!KX t x q) t.ties 0&&(decide (x.now<=t.hor)||js t x))
theorem qfm (t:qj)(x:qh)(hs:za t)(h:StT t x):qe Tryz.prog 53 [qH t,qQ x] (rB (js t x)):=by
 refine qe.of qc (fn:=Tryz.f53) (c:=Tryz.f53.body.getD .skip) (dr:=fun n=>qa 0 [] n) Tryz.func53 rfl (by kernel_rfl) (by kernel_rfl) (by kernel_rfl) ?_
 obtain ⟨f1,hf1⟩:∃ f,f=qlm:=⟨_,rfl⟩
 have hO:qp Tryz.prog (qJ [(94,QJ f1)]):=by
  subst hf1
  exact qb jB qd
 have hv:=h.vals
 have hn:=h.now
 have h1:=qG h.sh
 have hl:∀ n∈t.nodes,qX n.label=true:=fun n hn=>kI h.sh hn
 obtain ⟨p,hp⟩:∃ p:Nat->qi->Bool,p=fun i q=>!(decide (x.times.getD i 0=-1)&&decide (0<=f1 q.label x.vals)):=⟨_,rfl⟩
 have hr:js t x=(qD p t.nodes 0&&true):=by
  rw [Bool.and_true,Wq qi.z,hp,hf1];rfl
 rw [hr]
 clear h hs hr
 obtain ⟨ns,ts,hr⟩:=t
 obtain ⟨now,times,vals⟩:=x
 dsimp only at hv hn h1 hl hp ⊢
 refine SEx.go (X:=XX) qc (fun n=>qa [] [(2,[3,8,9,10])] n) (fun _=>none) hO 60 ?_
 intro M R L N m0 m1 m2 m3 m4 m5
 cases M
 cbv
 repeat' first | refine m1 _ _ ?_ ?_ | refine m2 _ _ fun h=>?_ | refine m3 _ ?_ | (refine m4 _ _ (Hd.out ?_);generalize hks:(List.cons _ _:List K)=ks) | (refine m5 _ _ ?_;cbv)
 all_goals (clear m1 m2 m3 m4 m5;cases m0;try dsimp only)
 all_goals try simp only [sm] at *
 obtain ⟨m,hm⟩:∃ m,m=ns.length:=⟨_,rfl⟩
 refine ⟨SEx.same (SEx.idx m (fun i=>⟨30,[(3,bP 12288),(8,bL (.node false none ns)),(9,bI m),(10,bI i)],[(12288,.obx [.fz (.int .i64 now),.fz (.sl (.i times)),.fz (.sl (.i vals))])]⟩) (fun i=>rB (qD p (ns.drop i) i&&true)) ?_) (by rw [hm];rfl) rfl⟩
 intro i hi ih
 rw [<-hks]
 have hl2:i<m->zh _ _ _:=fun h=>zh.of p ns i true qi.z (by omega)
 have he:i=m->(qD p (ns.drop i) i&&true)=true:=fun h=>qR (by omega)
 refine SEx.go (X:=XX) qc (fun n=>qa [] [(2,[3,8,9,10])] n) (fun _=>none) hO 60 ?_
 intro M R L N m0 m1 m2 m3 m4 m5
 cases M
 cbv
 repeat' first | refine m1 _ _ ?_ ?_ | refine m2 _ _ fun h=>?_ | refine m3 _ ?_ | (refine m4 _ _ (Hd.out ?_);try first | rw [hks] | rw [hk2] | rw [hk3]) | (refine m5 _ _ ?_;cbv)
 all_goals (clear m1 m2 m3 m4 m5;cases m0;(try clear hks;try clear hk2;try clear hk3);try dsimp only)
 all_goals try simp only [sm] at *
 all_goals (try simp only [qg (show i<9223372036854775807 by omega)] at *)
 all_goals first
  | omega
  | exact ⟨hv⟩
  | exact ⟨hl _ (qo (z:=qi.z) (by omega)).out⟩
  | (refine qV ?_ _;rw [he (by omega)];done)
  | (refine (hl2 (by omega)).stop _ ?_;rw [hp];delta qi.label at *;clear hl2 he ih hl;simp_all;done)
  | (refine ⟨(ih (by omega)).same rfl ((hl2 (by omega)).go ?_)⟩;rw [hp];delta qi.label at *;clear hl2 he ih hl;simp_all;done)
  | skip
theorem qar (t:qj)(x:qh)(hs:za t)(h:StT t x):qe Tryz.prog 52 [qH t,qQ x] (rB (z7 t x)):=by
 refine qe.of qc (fn:=Tryz.f52) (c:=Tryz.f52.body.getD .skip) (dr:=fun n=>qa 0 [] n) Tryz.func52 rfl (by kernel_rfl) (by kernel_rfl) (by kernel_rfl) ?_
 obtain ⟨f1,hf1⟩:∃ f,f=qlm:=⟨_,rfl⟩
 obtain ⟨f2,hf2⟩:∃ f,f=KX:=⟨_,rfl⟩
 have hO:qp Tryz.prog (qJ [(94,QJ f1),(93,w3 qK qP yz (fun t x q=>rB (f2 t x q)) (fun t x q=>[StT t x,Q3 t q]))]):=by
  subst hf1 hf2
  exact qb jB (qb (jL fun t x q h=>qef t x q (h _ (.head _)) (h _ (.tail _ (.head _)))) qd)
 have hv:=h.vals
 have hn:=h.now
 have h1:=qG h.sh
 have h2:=zq h.sh
 have hl:∀ n∈t.nodes,qX n.label=true:=fun n hn=>kI h.sh hn
 have ht:∀ q∈t.ties,Q3 t q:=fun q hq=>kD h.sh hq
 obtain ⟨p,hp⟩:∃ p:Nat->qi->Bool,p=fun i q=>!(decide (t.hor<x.now)&&(decide (x.times.getD i 0=-1)&&decide (0<=f1 q.label x.vals))):=⟨_,rfl⟩
 obtain ⟨pt,hpt⟩:∃ p:Nat->Tie->Bool,p=fun _ q=>!f2 t x q:=⟨_,rfl⟩
 have e:qD p t.nodes 0=(decide (x.now<=t.hor)||js t x):=by
  rw [Wq qi.z,hp,hf1]
  by_cases hc:t.hor<x.now
  . rw [decide_eq_true hc,decide_eq_false (show ¬x.now<=t.hor by omega),Bool.false_or];rfl
  . rw [decide_eq_false hc,decide_eq_true (show x.now<=t.hor by omega),Bool.true_or]
    exact ZM fun j hj=>rfl
 obtain ⟨d,hd⟩:∃ d,d=qD p t.nodes 0:=⟨_,rfl⟩
 have hr:z7 t x=!(qD pt t.ties 0&&d):=by
  rw [hd,e,hpt,hf2];rfl
 rw [hr]
 clear hs hr e
 obtain ⟨ns,ts,hr⟩:=t
 obtain ⟨now,times,vals⟩:=x
 dsimp only at hv hn h1 h2 hl hp hd ht ⊢
 refine SEx.go (X:=XX) qc (fun n=>qa [] [(2,[2,3,10,11,12]),(8,[2,3,22,23,24])] n) (fun _=>none) hO 60 ?_
 intro M R L N m0 m1 m2 m3 m4 m5
 cases M
 cbv
 repeat' first | refine m1 _ _ ?_ ?_ | refine m2 _ _ fun h=>?_ | refine m3 _ ?_ | (refine m4 _ _ (Hd.out ?_);generalize hks:(List.cons _ _:List K)=ks) | (refine m5 _ _ ?_;cbv)
 all_goals (clear m1 m2 m3 m4 m5;cases m0;try dsimp only)
 all_goals try simp only [sm] at *
 obtain ⟨m,hm⟩:∃ m,m=ts.length:=⟨_,rfl⟩
 refine ⟨SEx.same (SEx.idx m (fun i=>⟨51,[(2,bP 8192),(3,bP 12288),(10,bL (.tie ts)),(11,bI m),(12,bI i)],[(8192,.obx [.fz (.sl (.node false none ns)),.fz (.sl (.tie ts)),.fz (.int .i64 hr)]),(12288,.obx [.fz (.int .i64 now),.fz (.sl (.i times)),.fz (.sl (.i vals))])]⟩) (fun i=>rB (!(qD pt (ts.drop i) i&&d))) ?_) (by rw [hm];rfl) rfl⟩
 intro i hi ih
 rw [<-hks]
 have hl2:i<m->zh _ _ _:=fun h=>zh.of pt ts i d Tie.z (by omega)
 have he:i=m->(qD pt (ts.drop i) i&&d)=d:=fun h=>qR (by omega)
 refine SEx.go (X:=XX) qc (fun n=>qa [] [(2,[2,3,10,11,12]),(8,[2,3,22,23,24])] n) (fun _=>none) hO 60 ?_
 intro M R L N m0 m1 m2 m3 m4 m5
 cases M
 cbv
 repeat' first | refine m1 _ _ ?_ ?_ | refine m2 _ _ fun h=>?_ | refine m3 _ ?_ | (refine m4 _ _ (Hd.out ?_);first | rw [hks] | generalize hk2:(List.cons _ _:List K)=k2) | (refine m5 _ _ ?_;cbv)
 all_goals (clear m1 m2 m3 m4 m5;cases m0;try dsimp only)
 all_goals try simp only [sm] at *
 all_goals (try simp only [qg (show i<9223372036854775807 by omega)] at *)
 all_goals first
  | omega
  | exact h
  | exact ht _ (qo (z:=Tie.z) (by omega)).out
  | (refine (hl2 (by omega)).stopN _ ?_;rw [hpt];clear hl2 he ih hl ht;simp_all;done)
  | (refine ⟨(ih (by omega)).same rfl ((hl2 (by omega)).goN ?_)⟩;rw [hpt];clear hl2 he ih hl ht;simp_all;done)
  | skip
 have him:i=m:=by omega
 rw [he him,hd]
 clear ih hl2 he hd
 obtain ⟨w,hw⟩:∃ w,w=ns.length:=⟨_,rfl⟩
 refine ⟨SEx.same (SEx.idx w (fun i=>⟨51,[(2,bP 8192),(3,bP 12288),(22,bL (.node false none ns)),(23,bI w),(24,bI i)],[(8192,.obx [.fz (.sl (.node false none ns)),.fz (.sl (.tie ts)),.fz (.int .i64 hr)]),(12288,.obx [.fz (.int .i64 now),.fz (.sl (.i times)),.fz (.sl (.i vals))])]⟩) (fun i=>rB (!(qD p (ns.drop i) i&&true))) ?_) (by rw [hw];rfl) (by rw [Bool.and_true];rfl)⟩
 intro k hk ih
 rw [<-hk2]
 have hl2:k<w->zh _ _ _:=fun h=>zh.of p ns k true qi.z (by omega)
 have he:k=w->(qD p (ns.drop k) k&&true)=true:=fun h=>qR (by omega)
 refine SEx.go (X:=XX) qc (fun n=>qa [] [(2,[2,3,10,11,12]),(8,[2,3,22,23,24])] n) (fun _=>none) hO 60 ?_
 intro M R L N m0 m1 m2 m3 m4 m5
 cases M
 cbv
 repeat' first | refine m1 _ _ ?_ ?_ | refine m2 _ _ fun h=>?_ | refine m3 _ ?_ | (refine m4 _ _ (Hd.out ?_);try first | rw [hks] | rw [hk2] | rw [hk3]) | (refine m5 _ _ ?_;cbv)
 all_goals (clear m1 m2 m3 m4 m5;cases m0;(try clear hks;try clear hk2;try clear hk3);try dsimp only)
 all_goals try simp only [sm] at *
 all_goals (try simp only [qg (show k<9223372036854775807 by omega)] at *)
 all_goals first
  | omega
  | exact ⟨hv⟩
  | exact ⟨hl _ (qo (z:=qi.z) (by omega)).out⟩
  | (refine qV ?_ _;rw [he (by omega)];rfl)
  | (refine (hl2 (by omega)).stopN _ ?_;rw [hp];delta qi.label at *;clear hl2 he ih hl ht;simp_all;done)
  | (refine ⟨(ih (by omega)).same rfl ((hl2 (by omega)).goN ?_)⟩;rw [hp];delta qi.label at *;clear hl2 he ih hl ht;simp_all;done)
  | (refine ⟨(ih (by omega)).same rfl ((hl2 (by omega)).goN ?_)⟩;rw [hp];dsimp only;rw [decide_eq_false (show ¬hr<now by omega)];rfl)
  | skip
end Go.Proofs.YtfafehnchmelnaaGreat.Ai
namespace Go.Proofs.YtfafehnchmelnaaGreat.Ai
open Go
set_option maxRecDepth 100000
variable [qf]
theorem qaa (t:qj)(x:qh)(q:Tie)(hs:kP t x)(hst:StT t x)(hq:Q3 t q):qe Tryz.prog 127 [qH t,qQ x,Y4 q] (rB (KX t x q)):=by
 refine qe.of qc (fn:=Tryz.f127) (c:=Tryz.f127.body.getD .skip) (dr:=fun n=>qa 0 [(1,14)] n) Tryz.func127 rfl (by kernel_rfl) (by kernel_rfl) (by kernel_rfl) ?_
 obtain ⟨f1,hf1⟩:∃ f,f=nsI:=⟨_,rfl⟩
 have hO:qp Tryz.prog (qJ [(128,J6 f1)]):=by
  subst hf1
  exact qb JV qd
 have hn:=hst.now
 have hh:=zR hst.sh
 have ht:=hst.time
 have h5:=hq.src
 have h6:=hq.dst
 have hr:KX t x q=if ¬x.times.getD q.src.toNat 0=-1/\¬x.times.getD q.dst.toNat 0=-1 then !(decide (q.low<=x.times.getD q.dst.toNat 0-x.times.getD q.src.toNat 0)&&decide (x.times.getD q.dst.toNat 0-x.times.getD q.src.toNat 0<=q.high))
  else if q.free=true then false
  else if ¬x.times.getD q.src.toNat 0=-1 then decide (f1 t x q.dst=1)&&decide (q.high<x.now-x.times.getD q.src.toNat 0)
  else if ¬x.times.getD q.dst.toNat 0=-1 then decide (f1 t x q.src=1)&&decide (x.times.getD q.dst.toNat 0-x.now<q.low)
  else false:=by rw [hf1];rfl
 rw [hr]
 clear hq hr
 obtain ⟨ns,ts,hr⟩:=t
 obtain ⟨now,times,vals⟩:=x
 obtain ⟨x1,x2,x3,x4,x5⟩:=q
 dsimp only at hn hh ht h5 h6 ⊢
 have hta:=ht x1.toNat
 have htb:=ht x2.toNat
 have hw1:IntKind.i64.wrap (times.getD x2.toNat 0-times.getD x1.toNat 0)=times.getD x2.toNat 0-times.getD x1.toNat 0:=qx (by omega) (by omega)
 have hw2:IntKind.i64.wrap (now-times.getD x1.toNat 0)=now-times.getD x1.toNat 0:=qx (by omega) (by omega)
 have hw3:IntKind.i64.wrap (times.getD x2.toNat 0-now)=times.getD x2.toNat 0-now:=qx (by omega) (by omega)
 refine SEx.go (X:=XX) qc (fun n=>qa [] [] n) (fun _=>none) hO 60 ?_
 intro M R L N m0 m1 m2 m3 m4 m5
 cases M
 cbv
 repeat' first | refine m1 _ _ ?_ ?_ | refine m2 _ _ fun h=>?_ | refine m3 _ ?_ | (refine m4 _ _ (Hd.out ?_);try first | rw [hks] | rw [hk2] | rw [hk3]) | (refine m5 _ _ ?_;cbv)
 all_goals (clear m1 m2 m3 m4 m5;cases m0;(try clear hks;try clear hk2;try clear hk3);try dsimp only)
 all_goals try simp only [sm] at *
 all_goals (clear hO ht)
 all_goals (try simp only [hw1,hw2,hw3] at *)
 all_goals first
  | omega
  | contradiction
  | exact hs
  | exact hst
  | exact ⟨h5⟩
  | exact ⟨h6⟩
  | (refine qV ?_ _;clear hs hst hw1 hw2 hw3;simp_all;done)
  | (refine qV ?_ _;clear hs hst hw1 hw2 hw3;rw [if_pos ⟨by assumption,by assumption⟩];first | (rw [decide_eq_false (show ¬_ by omega)];rfl) | (rw [decide_eq_true (show x3<=_ by omega),Bool.true_and,Bool.eq_iff_iff];simp;done))
  | skip
def qnq (f:qj->qh->Tie->Bool):Wr:=w3 qK qP yz (fun t x q=>rB (f t x q)) (fun t x q=>[kP t x,StT t x,Q3 t q])
theorem qlQ:qz Tryz.prog 127 (qnq KX):=jL fun t x q h=>qaa t x q (h _ (.head _)) (h _ (.tail _ (.head _))) (h _ (.tail _ (.tail _ (.head _))))
theorem qcN (q:Tie)(t:qj)(x:qh)(hs:kP t x)(hst:StT t x)(hq:Q3 t q):qe Tryz.prog 126 [Y4 q,(false,[.ptr t.d]),(false,[.ptr x.d])] (rB (KX t x q)):=by
 refine qe.of qc (fn:=Tryz.f126) (c:=Tryz.f126.body.getD .skip) (dr:=fun n=>qa 0 [] n) Tryz.func126 rfl (by kernel_rfl) (by kernel_rfl) (by kernel_rfl) ?_
 obtain ⟨f,hf⟩:∃ f,f=KX:=⟨_,rfl⟩
 have hO:qp Tryz.prog (qJ [(127,qnq f)]):=by subst hf;exact qb qlQ qd
 rw [<-hf]
 obtain ⟨ns,ts,hr⟩:=t
 obtain ⟨now,times,vals⟩:=x
 obtain ⟨x1,x2,x3,x4,x5⟩:=q
 refine SEx.go (X:=XX) qc (fun n=>qa [] [] n) (fun _=>none) hO 60 ?_
 intro M R L N m0 m1 m2 m3 m4 m5
 cases M
 cbv
 repeat' first | refine m1 _ _ ?_ ?_ | refine m2 _ _ fun h=>?_ | refine m3 _ ?_ | (refine m4 _ _ (Hd.out ?_);try first | rw [hks] | rw [hk2] | rw [hk3]) | (refine m5 _ _ ?_;cbv)
 all_goals (clear m1 m2 m3 m4 m5;cases m0;(try clear hks;try clear hk2;try clear hk3);try dsimp only)
 all_goals try simp only [sm] at *
 all_goals first
  | exact hs
  | exact hst
  | exact hq
  | rfl
  | skip
theorem qhk (t:qj)(x:qh)(hs:kP t x)(hst:StT t x):qe Tryz.prog 103 [qH t,qQ x] (rB (js t x)):=by
 refine qe.of qc (fn:=Tryz.f103) (c:=Tryz.f103.body.getD .skip) (dr:=fun n=>qa 0 [] n) Tryz.func103 rfl (by kernel_rfl) (by kernel_rfl) (by kernel_rfl) ?_
 obtain ⟨f,hf⟩:∃ f,f=nsI:=⟨_,rfl⟩
 have hO:qp Tryz.prog (qJ [(128,J6 f)]):=by subst hf;exact qb JV qd
 have hn:=hst.now
 have h1:=qG hst.sh
 have hge:∀ i,-1<=f t x i:=fun i=>by rw [hf];unfold nsI;exact (qiB hst.vals _ 1 (by decide) (by decide)).1
 obtain ⟨p,hp⟩:∃ p:Nat->Int->Bool,p=fun (i:Nat) (n:Int)=>!(decide (n=-1)&&!decide (f t x (i:Int)=-1)):=⟨_,rfl⟩
 have hr:js t x=(qD p x.times 0&&true):=by
  rw [Bool.and_true,Wq (0:Int),hn.2.2,hp]
  unfold js
  congr 1
  funext i
  unfold qon
  have:=hge i
  rw [hf] at this
  rw [hf,show decide (0<=nsI t x i)=!decide (nsI t x i=-1) by rw [<-decide_not];exact decide_eq_decide.2 (by omega)]
 rw [hr]
 clear hr hf
 obtain ⟨ns,ts,hr⟩:=t
 obtain ⟨now,times,vals⟩:=x
 dsimp only at hn h1 hp ⊢
 refine SEx.go (X:=XX) qc (fun n=>qa [] [(2,[2,3,8,9,10])] n) (fun _=>none) hO 60 ?_
 intro M R L N m0 m1 m2 m3 m4 m5
 cases M
 cbv
 repeat' first | refine m1 _ _ ?_ ?_ | refine m2 _ _ fun h=>?_ | refine m3 _ ?_ | (refine m4 _ _ (Hd.out ?_);generalize hks:(List.cons _ _:List K)=ks) | (refine m5 _ _ ?_;cbv)
 all_goals (clear m1 m2 m3 m4 m5;cases m0;try dsimp only)
 all_goals try simp only [sm] at *
 obtain ⟨m,hm⟩:∃ m,m=times.length:=⟨_,rfl⟩
 refine ⟨SEx.same (SEx.idx m (fun i=>⟨25,[(2,bP 8192),(3,bP 12288),(8,bL (.i times)),(9,bI m),(10,bI i)],[(8192,.obx [.fz (.sl (.node false none ns)),.fz (.sl (.tie ts)),.fz (.int .i64 hr)]),(12288,.obx [.fz (.int .i64 now),.fz (.sl (.i times)),.fz (.sl (.i vals))])]⟩) (fun i=>rB (qD p (times.drop i) i&&true)) ?_) (by rw [hm];rfl) rfl⟩
 intro i hi ih
 rw [<-hks]
 have hl2:i<m->zh _ _ _:=fun h=>zh.of p times i true (0:Int) (by omega)
 have he:i=m->(qD p (times.drop i) i&&true)=true:=fun h=>qR (by omega)
 refine SEx.go (X:=XX) qc (fun n=>qa [] [(2,[2,3,8,9,10])] n) (fun _=>none) hO 60 ?_
 intro M R L N m0 m1 m2 m3 m4 m5
 cases M
 cbv
 repeat' first | refine m1 _ _ ?_ ?_ | refine m2 _ _ fun h=>?_ | refine m3 _ ?_ | (refine m4 _ _ (Hd.out ?_);try first | rw [hks] | rw [hk2] | rw [hk3]) | (refine m5 _ _ ?_;cbv)
 all_goals (clear m1 m2 m3 m4 m5;cases m0;(try clear hks;try clear hk2;try clear hk3);try dsimp only)
 all_goals try simp only [sm] at *
 all_goals (try simp only [qg (show i<9223372036854775807 by omega)] at *)
 all_goals first
  | omega
  | exact hs
  | exact hst
  | exact ⟨⟨by omega,by omega⟩⟩
  | (refine qV ?_ _;rw [he (by omega)];done)
  | (refine (hl2 (by omega)).stop _ ?_;rw [hp];dsimp only;rw [decide_eq_true (by assumption),decide_eq_false (by assumption)];rfl)
  | (refine ⟨(ih (by omega)).same rfl ((hl2 (by omega)).go ?_)⟩;rw [hp];dsimp only;rw [decide_eq_false (by assumption)];rfl)
  | (refine ⟨(ih (by omega)).same rfl ((hl2 (by omega)).go ?_)⟩;rw [hp];dsimp only;rw [decide_eq_true (by assumption),decide_eq_true (by assumption)];rfl)
  | skip
def jz (f:qj->qh->Bool):Wr:=w2 qK qP (fun t x=>rB (f t x)) (fun t x=>[kP t x,StT t x])
theorem W6:qz Tryz.prog 103 (jz js):=qF fun t x h=>qhk t x (h _ (.head _)) (h _ (.tail _ (.head _)))
theorem qnp:qz Tryz.prog 53 (jz js):=qF fun t x h=>qfm t x (h _ (.head _)).sh (h _ (.tail _ (.head _)))
theorem qfK:qz Tryz.prog 52 (jz z7):=qF fun t x h=>qar t x (h _ (.head _)).sh (h _ (.tail _ (.head _)))
structure qsw (t:qj)(l:List Tie):Prop where out:∀ q∈l,Q3 t q
def qjg (l:List Tie)(t:qj)(x:qh):Bool:=l.any fun q=>KX t x q
theorem qfU (t:qj)(x:qh)(hs:kP t x)(hst:StT t x):qe Tryz.prog 102 [qH t,qQ x] (rB (z7 t x)):=by
 refine qe.of qc (fn:=Tryz.f102) (c:=Tryz.f102.body.getD .skip) (dr:=fun n=>qa 0 [] n) Tryz.func102 rfl (by kernel_rfl) (by kernel_rfl) (by kernel_rfl) ?_
 obtain ⟨f,hf⟩:∃ f,f=qjg:=⟨_,rfl⟩
 obtain ⟨g,hg⟩:∃ f,f=js:=⟨_,rfl⟩
 have hO:qp Tryz.prog (qJ [(103,jz g),(77,w2 Z0 (qr5 126 true true qK qP) (fun l x=>rB (f l x.1 x.2)) (fun l x=>[LLe l maxLen,qsw x.1 l,kP x.1 x.2,StT x.1 x.2]))]):=by
  subst hf hg
  exact qb W6 (qb (qF fun l x h=>by
   have g1:=(h _ (.head _)).out
   have g2:=(h _ (.tail _ (.head _))).out
   have g3:=h _ (.tail _ (.tail _ (.head _)))
   have g4:=h _ (.tail _ (.tail _ (.tail _ (.head _))))
   exact KM l _ _ _ (fun y hy=>qcN y x.1 x.2 g3 g4 (g2 y hy)) g1) qd)
 have hr:z7 t x=(f t.ties t x||(decide (t.hor<x.now)&&!g t x)):=by
  rw [hf,hg]
  unfold z7 qjg
  rw [KL,Bool.not_and,List.not_all_eq_any_not,Bool.not_or]
  simp only [Bool.not_not]
  congr 2
  rw [<-decide_not]
  exact decide_eq_decide.2 (by omega)
 have h1:=hs.sh.tlen
 have h2:∀ q∈t.ties,Q3 t q:=fun q hq=>kD hst.sh hq
 rw [hr]
 clear hr hf hg
 obtain ⟨ns,ts,hr⟩:=t
 obtain ⟨now,times,vals⟩:=x
 dsimp only at h1 h2 ⊢
 refine SEx.go (X:=XX) qc (fun n=>qa [] [] n) (fun _=>none) hO 60 ?_
 intro M R L N m0 m1 m2 m3 m4 m5
 cases M
 cbv
 repeat' first | refine m1 _ _ ?_ ?_ | refine m2 _ _ fun h=>?_ | refine m3 _ ?_ | (refine m4 _ _ (Hd.out ?_);try first | rw [hks] | rw [hk2] | rw [hk3]) | (refine m5 _ _ ?_;cbv)
 all_goals (clear m1 m2 m3 m4 m5;cases m0;(try clear hks;try clear hk2;try clear hk3);try dsimp only)
 all_goals try simp only [sm] at *
 all_goals first
  | exact ⟨h1⟩
  | exact ⟨h2⟩
  | exact hs
  | exact hst
  | (refine qV ?_ _;clear hs hst;simp_all;done)
  | (refine qV ?_ _;rw [decide_eq_false (show ¬hr<now by omega)];simp_all;done)
  | skip
theorem qfQ:qz Tryz.prog 102 (jz z7):=qF fun t x h=>qfU t x (h _ (.head _)) (h _ (.tail _ (.head _)))
end Go.Proofs.YtfafehnchmelnaaGreat.Ai
namespace Go.Proofs.YtfafehnchmelnaaGreat.Ai
open Go
set_option maxRecDepth 100000
variable [qf]
theorem qcW.le {t:qj}(h:qcW t):za t:=⟨h.len,h.tlen,fun q hq=>⟨(h.nodes q hq).name,(h.nodes q hq).len,(h.nodes q hq).label⟩⟩
structure qbU (t:qj)(n:Int):Prop where
 len:t.nodes.length<=1048576
 tlen:t.ties.length<=1048576
 labs:∀ q∈t.nodes,q.label.length<=1048576
 le:n<=1048576
theorem qrb {t:qj}(h:0<=jA t 1048576):qbU t (jA t 1048576):=by
 have:=qjP (n:=1048576) (by decide) h
 exact ⟨by omega,by omega,fun q hq=>by have:=(this.2.2.1 q hq).2;omega,this.2.2.2⟩
end Go.Proofs.YtfafehnchmelnaaGreat.Ai
namespace Go.Proofs.YtfafehnchmelnaaGreat.Ai
open Go
set_option maxRecDepth 100000
variable [qf]
theorem qdO (x:qh)(h1:x.times.length<=1048576)(h2:x.vals.length<=1048576):qe Tryz.prog 99 [qQ x] (kF x):=by
 refine qe.of qc (fn:=Tryz.f99) (c:=Tryz.f99.body.getD .skip) (dr:=fun n=>qa 0 [(1,10)] n) Tryz.func99 rfl (by kernel_rfl) (by kernel_rfl) (by kernel_rfl) ?_
 obtain ⟨now,times,vals⟩:=x
 dsimp only at h1 h2
 refine SEx.go (X:=XX) qc (fun n=>qa [] [] n) (fun _=>none) qd 60 ?_
 intro M R L N m0 m1 m2 m3 m4 m5
 cases M
 cbv
 repeat' first | refine m1 _ _ ?_ ?_ | refine m2 _ _ fun h=>?_ | refine m3 _ ?_ | (refine m4 _ _ (Hd.out ?_);try first | rw [hks] | rw [hk2] | rw [hk3]) | (refine m5 _ _ ?_;cbv)
 all_goals (clear m1 m2 m3 m4 m5;cases m0;(try clear hks;try clear hk2;try clear hk3);try dsimp only)
 all_goals try simp only [sm] at *
 all_goals first
  | (have:=qZ;omega)
  | rfl
structure YV (x:qh):Prop where
 tlen:x.times.length<=1048576
 vlen:x.vals.length<=1048576
def Jv:Wr:=w1 qP kF (fun x=>[YV x])
theorem ZU:qz Tryz.prog 99 Jv:=zl fun x h=>qdO x (h _ (.head _)).tlen (h _ (.head _)).vlen
def qoa (t:qj)(x:qh):Bool:=qM t&&(decide (0<=x.now)&&(decide (x.now<=t.hor)&&jR t ⟨x.now+1,x.times,x.vals⟩))
end Go.Proofs.YtfafehnchmelnaaGreat.Ai
namespace Go.Proofs.YtfafehnchmelnaaGreat.Ai
open Go
set_option maxRecDepth 100000
variable [qf]
def JI (v ps vs:List Int):Nat->List Int
 | 0=>v
 | i+1=>(JI v ps vs i).set (ps.getD i 0-1).toNat (vs.getD i 0)
theorem Zz (v ps vs:List Int):∀ i,(JI v ps vs i).length=v.length
 | 0=>rfl
 | i+1=>by simp only [JI,List.length_set,Zz v ps vs i]
structure PrT (ps:List Int):Prop where out:∀ p∈ps,1<=p/\p<=3
def qgs (x:qh)(ps vs:List Int):qh:=⟨IntKind.i64.wrap (x.now+1),x.times,JI x.vals ps vs ps.length⟩
theorem qas (x:qh)(ps vs:List Int)(hz:YV x)(h3:x.vals.length=3)(hl:vs.length=ps.length)(h1:ps.length<=1048576)(hp:∀ p∈ps,1<=p/\p<=3):qe Tryz.prog 124 [qQ x,aIs ps,aIs vs] (kF (qgs x ps vs)):=by
 refine qe.of qc (fn:=Tryz.f124) (c:=Tryz.f124.body.getD .skip) (dr:=fun n=>qa 0 [(5,8)] n) Tryz.func124 rfl (by kernel_rfl) (by kernel_rfl) (by kernel_rfl) ?_
 have hO:qp Tryz.prog (qJ [(99,Jv)]):=qb ZU qd
 obtain ⟨now,times,vals⟩:=x
 dsimp only at h3
 refine SEx.go (X:=XX) qc (fun n=>qa [] [(3,[2,6,7,12,13,14])] n) (fun _=>none) hO 60 ?_
 intro M R L N m0 m1 m2 m3 m4 m5
 cases M
 cbv
 repeat' first | refine m1 _ _ ?_ ?_ | refine m2 _ _ fun h=>?_ | refine m3 _ ?_ | (refine m4 _ _ (Hd.out ?_);generalize hks:(List.cons _ _:List K)=ks) | (refine m5 _ _ ?_;cbv)
 all_goals (clear m1 m2 m3 m4 m5;cases m0;try dsimp only)
 all_goals try simp only [sm] at *
 all_goals first
  | exact hz
  | skip
 obtain ⟨m,hm⟩:∃ m,m=ps.length:=⟨_,rfl⟩
 refine ⟨SEx.same (SEx.idx m (fun i=>⟨34,[(2,bL (.i vs)),(6,bP 24576),(7,bP 28672),(12,bL (.i ps)),(13,bI m),(14,bI i)],[(24576,.obx [.fz (.int .i64 0),.onil,.onil]),(28672,.obx [.fz (.int .i64 now),.osl (.i times),.osl (.i (JI vals ps vs i))])]⟩) (fun _=>kF (qgs ⟨now,times,vals⟩ ps vs)) ?_) (by rw [hm];rfl) rfl⟩
 intro i hi ih
 rw [<-hks]
 obtain ⟨c,hc⟩:∃ c,c=JI vals ps vs i:=⟨_,rfl⟩
 have hcl:c.length=3:=by rw [hc,Zz,h3]
 have hpi:i<m->1<=ps.getD i 0/\ps.getD i 0<=3:=fun h=>hp _ (qo (z:=(0:Int)) (by omega)).out
 have hw:i<m->IntKind.i64.wrap (ps.getD i 0-1)=ps.getD i 0-1:=fun h=>by have:=hpi h;exact qx (by omega) (by omega)
 rw [<-hc]
 refine SEx.go (X:=XX) qc (fun n=>qa [] [(3,[2,6,7,12,13,14])] n) (fun _=>none) hO 60 ?_
 intro M R L N m0 m1 m2 m3 m4 m5
 cases M
 cbv
 repeat' first | refine m1 _ _ ?_ ?_ | refine m2 _ _ fun h=>?_ | refine m3 _ ?_ | (refine m4 _ _ (Hd.out ?_);try first | rw [hks] | rw [hk2] | rw [hk3]) | (refine m5 _ _ ?_;cbv)
 all_goals (clear m1 m2 m3 m4 m5;cases m0;(try clear hks;try clear hk2;try clear hk3);try dsimp only)
 all_goals try simp only [sm] at *
 all_goals (try (have h8:=hpi (by omega)))
 all_goals (try rw [hw (by omega)] at *)
 all_goals (try simp only [qg (show i<9223372036854775807 by omega)])
 all_goals first
  | omega
  | (refine ⟨(ih (by omega)).same ?_ rfl⟩;show _=_;rw [show JI vals ps vs (i+1)=c.set (ps.getD i 0-1).toNat (vs.getD i 0) by rw [hc];rfl];rfl)
  | (obtain rfl:i=m:=by omega
     unfold qgs
     rw [<-hm,hc];rfl)
  | skip
theorem qk8 (l:List Int)(h1:l.length<=1048576):qe Tryz.prog 69 [aIs l] (rIs l):=by
 refine qe.of qc (fn:=Tryz.f69) (c:=Tryz.f69.body.getD .skip) (dr:=fun n=>qa 0 [] n) Tryz.func69 rfl (by kernel_rfl) (by kernel_rfl) (by kernel_rfl) ?_
 refine SEx.go (X:=XX) qc (fun n=>qa [] [] n) (fun _=>none) qd 60 ?_
 intro M R L N m0 m1 m2 m3 m4 m5
 cases M
 cbv
 repeat' first | refine m1 _ _ ?_ ?_ | refine m2 _ _ fun h=>?_ | refine m3 _ ?_ | (refine m4 _ _ (Hd.out ?_);try first | rw [hks] | rw [hk2] | rw [hk3]) | (refine m5 _ _ ?_;cbv)
 all_goals (clear m1 m2 m3 m4 m5;cases m0;(try clear hks;try clear hk2;try clear hk3);try dsimp only)
 all_goals try simp only [sm] at *
 all_goals first
  | (have:=qZ;omega)
  | (have hl:l=[]:=List.eq_nil_of_length_eq_zero (by omega)
     subst hl;rfl)
  | rfl
end Go.Proofs.YtfafehnchmelnaaGreat.Ai
namespace Go.Proofs.YtfafehnchmelnaaGreat.Ai
open Go
set_option maxRecDepth 100000
variable [qf]
def qci:Wr:=w1 kw rIs (fun l=>[LLe l 1048576])
theorem YW:qz Tryz.prog 69 qci:=zl fun l h=>qk8 l (h _ (.head _)).out
theorem qcM (x:qh)(hz:YV x):qe Tryz.prog 135 [qQ x] (kF x):=by
 refine qe.of qc (fn:=Tryz.f135) (c:=Tryz.f135.body.getD .skip) (dr:=fun n=>qa 0 [(1,8)] n) Tryz.func135 rfl (by kernel_rfl) (by kernel_rfl) (by kernel_rfl) ?_
 have hO:qp Tryz.prog (qJ [(69,qci)]):=qb YW qd
 have h1:=hz.tlen
 have h2:=hz.vlen
 clear hz
 obtain ⟨now,times,vals⟩:=x
 dsimp only at h1 h2
 refine SEx.go (X:=XX) qc (fun n=>qa [] [] n) (fun _=>none) hO 60 ?_
 intro M R L N m0 m1 m2 m3 m4 m5
 cases M
 cbv
 repeat' first | refine m1 _ _ ?_ ?_ | refine m2 _ _ fun h=>?_ | refine m3 _ ?_ | (refine m4 _ _ (Hd.out ?_);try first | rw [hks] | rw [hk2] | rw [hk3]) | (refine m5 _ _ ?_;cbv)
 all_goals (clear m1 m2 m3 m4 m5;cases m0;(try clear hks;try clear hk2;try clear hk3);try dsimp only)
 all_goals try simp only [sm] at *
 all_goals first
  | exact ⟨h1⟩
  | exact ⟨h2⟩
  | rfl
def VX:Wr:=w1 qP kF (fun x=>[YV x])
theorem J4:qz Tryz.prog 135 VX:=zl fun x h=>qcM x (h _ (.head _))
theorem Vw (x:qh)(ps vs:List Int)(hz:YV x)(h3:x.vals.length=3)(hl:vs.length=ps.length)(h1:ps.length<=1048576)(hp:∀ p∈ps,1<=p/\p<=3):qe Tryz.prog 147 [qQ x,aIs ps,aIs vs] (kF (qgs x ps vs)):=by
 refine qe.of qc (fn:=Tryz.f147) (c:=Tryz.f147.body.getD .skip) (dr:=fun n=>qa 0 [(5,8)] n) Tryz.func147 rfl (by kernel_rfl) (by kernel_rfl) (by kernel_rfl) ?_
 have hO:qp Tryz.prog (qJ [(135,VX)]):=qb J4 qd
 obtain ⟨now,times,vals⟩:=x
 dsimp only at h3
 refine SEx.go (X:=XX) qc (fun n=>qa [] [(3,[2,6,7,12,13,14])] n) (fun _=>none) hO 60 ?_
 intro M R L N m0 m1 m2 m3 m4 m5
 cases M
 cbv
 repeat' first | refine m1 _ _ ?_ ?_ | refine m2 _ _ fun h=>?_ | refine m3 _ ?_ | (refine m4 _ _ (Hd.out ?_);generalize hks:(List.cons _ _:List K)=ks) | (refine m5 _ _ ?_;cbv)
 all_goals (clear m1 m2 m3 m4 m5;cases m0;try dsimp only)
 all_goals try simp only [sm] at *
 all_goals first
  | exact hz
  | skip
 obtain ⟨m,hm⟩:∃ m,m=ps.length:=⟨_,rfl⟩
 refine ⟨SEx.same (SEx.idx m (fun i=>⟨34,[(2,bL (.i vs)),(6,bP 24576),(7,bP 28672),(12,bL (.i ps)),(13,bI m),(14,bI i)],[(24576,.obx [.fz (.int .i64 0),.onil,.onil]),(28672,.obx [.fz (.int .i64 now),.osl (.i times),.osl (.i (JI vals ps vs i))])]⟩) (fun _=>kF (qgs ⟨now,times,vals⟩ ps vs)) ?_) (by rw [hm];rfl) rfl⟩
 intro i hi ih
 rw [<-hks]
 obtain ⟨c,hc⟩:∃ c,c=JI vals ps vs i:=⟨_,rfl⟩
 have hcl:c.length=3:=by rw [hc,Zz,h3]
 have hpi:i<m->1<=ps.getD i 0/\ps.getD i 0<=3:=fun h=>hp _ (qo (z:=(0:Int)) (by omega)).out
 have hw:i<m->IntKind.i64.wrap (ps.getD i 0-1)=ps.getD i 0-1:=fun h=>by have:=hpi h;exact qx (by omega) (by omega)
 rw [<-hc]
 refine SEx.go (X:=XX) qc (fun n=>qa [] [(3,[2,6,7,12,13,14])] n) (fun _=>none) hO 60 ?_
 intro M R L N m0 m1 m2 m3 m4 m5
 cases M
 cbv
 repeat' first | refine m1 _ _ ?_ ?_ | refine m2 _ _ fun h=>?_ | refine m3 _ ?_ | (refine m4 _ _ (Hd.out ?_);try first | rw [hks] | rw [hk2] | rw [hk3]) | (refine m5 _ _ ?_;cbv)
 all_goals (clear m1 m2 m3 m4 m5;cases m0;(try clear hks;try clear hk2;try clear hk3);try dsimp only)
 all_goals try simp only [sm] at *
 all_goals (try (have h8:=hpi (by omega)))
 all_goals (try rw [hw (by omega)] at *)
 all_goals (try simp only [qg (show i<9223372036854775807 by omega)])
 all_goals first
  | omega
  | (refine ⟨(ih (by omega)).same ?_ rfl⟩;show _=_;rw [show JI vals ps vs (i+1)=c.set (ps.getD i 0-1).toNat (vs.getD i 0) by rw [hc];rfl];rfl)
  | (obtain rfl:i=m:=by omega
     unfold qgs
     rw [<-hm,hc];rfl)
  | skip
def obF (v ps vs:List Int):List Int:=JI v ps vs ps.length
structure V3 (v:List Int):Prop where out:v.length=3
structure SLn (a b:List Int):Prop where out:a.length=b.length
def nxI (n:Int):Int:=IntKind.i64.wrap (n+1)
def qpX (g:Int->Int)(f:List Int->List Int->List Int->List Int):Wr:=w3 qP kw kw (fun x ps vs=>kF ⟨g x.now,x.times,f x.vals ps vs⟩) (fun x ps vs=>[YV x,V3 x.vals,SLn vs ps,LLe ps 1048576,PrT ps])
theorem qmn:qz Tryz.prog 124 (qpX nxI obF):=jL fun x ps vs h=>qas x ps vs (h _ (.head _)) (h _ (.tail _ (.head _))).out (h _ (.tail _ (.tail _ (.head _)))).out (h _ (.tail _ (.tail _ (.tail _ (.head _))))).out (h _ (.tail _ (.tail _ (.tail _ (.tail _ (.head _)))))).out
theorem qmD:qz Tryz.prog 147 (qpX nxI obF):=jL fun x ps vs h=>Vw x ps vs (h _ (.head _)) (h _ (.tail _ (.head _))).out (h _ (.tail _ (.tail _ (.head _)))).out (h _ (.tail _ (.tail _ (.tail _ (.head _))))).out (h _ (.tail _ (.tail _ (.tail _ (.tail _ (.head _)))))).out
end Go.Proofs.YtfafehnchmelnaaGreat.Ai
namespace Go.Proofs.YtfafehnchmelnaaGreat.Ai
open Go
set_option maxRecDepth 100000
variable [qf]
theorem qkU (l:List Tie)(h1:l.length<=1048576):qe Tryz.prog 68 [WS l] (qfv l):=by
 refine qe.of qc (fn:=Tryz.f68) (c:=Tryz.f68.body.getD .skip) (dr:=fun n=>qa 0 [] n) Tryz.func68 rfl (by kernel_rfl) (by kernel_rfl) (by kernel_rfl) ?_
 refine SEx.go (X:=XX) qc (fun n=>qa [] [] n) (fun _=>none) qd 60 ?_
 intro M R L N m0 m1 m2 m3 m4 m5
 cases M
 cbv
 repeat' first | refine m1 _ _ ?_ ?_ | refine m2 _ _ fun h=>?_ | refine m3 _ ?_ | (refine m4 _ _ (Hd.out ?_);try first | rw [hks] | rw [hk2] | rw [hk3]) | (refine m5 _ _ ?_;cbv)
 all_goals (clear m1 m2 m3 m4 m5;cases m0;(try clear hks;try clear hk2;try clear hk3);try dsimp only)
 all_goals try simp only [sm] at *
 all_goals first
  | (have:=qZ;omega)
  | (have hl:l=[]:=List.eq_nil_of_length_eq_zero (by omega)
     subst hl;rfl)
  | rfl
def qjJ:Wr:=w1 Z0 qfv (fun l=>[LLe l 1048576])
theorem qf8:qz Tryz.prog 68 qjJ:=zl fun l h=>qkU l (h _ (.head _)).out
theorem qiv {α:Type}{l:List α}{i:Nat}(z:α)(h:i<l.length):l.take (i+1)=l.take i++[l.getD i z]:=by
 rw [List.take_add_one,List.getElem?_eq_getElem h,zy h,Option.toList_some]
structure QE (t:qj):Prop where
 len:t.nodes.length<=1048576
 tlen:t.ties.length<=1048576
 labs:∀ q∈t.nodes,q.label.length<=1048576
theorem qfh (t:qj)(ht:QE t):qe Tryz.prog 36 [qH t] (Yj t):=by
 refine qe.of qc (fn:=Tryz.f36) (c:=Tryz.f36.body.getD .skip) (dr:=fun n=>qa 0 [(1,7)] n) Tryz.func36 rfl (by kernel_rfl) (by kernel_rfl) (by kernel_rfl) ?_
 have hO:qp Tryz.prog (qJ [(68,qjJ),(69,qci)]):=qb qf8 (qb YW qd)
 obtain ⟨h1,h2,h3⟩:=ht
 obtain ⟨ns,ts,hr⟩:=t
 dsimp only at h1 h2 h3
 refine SEx.go (X:=XX) qc (fun n=>qa [] [(3,[2,3,13,14,15])] n) (fun _=>none) hO 60 ?_
 intro M R L N m0 m1 m2 m3 m4 m5
 cases M
 cbv
 repeat' first | refine m1 _ _ ?_ ?_ | refine m2 _ _ fun h=>?_ | refine m3 _ ?_ | (refine m4 _ _ (Hd.out ?_);generalize hks:(List.cons _ _:List K)=ks) | (refine m5 _ _ ?_;cbv)
 all_goals (clear m1 m2 m3 m4 m5;cases m0;try dsimp only)
 all_goals try simp only [sm] at *
 all_goals first
  | exact ⟨h2⟩
  | skip
 obtain ⟨m,hm⟩:∃ m,m=ns.length:=⟨_,rfl⟩
 refine ⟨SEx.same (SEx.idx m (fun i=>⟨31,[(2,bP 8192),(3,bP 12288),(13,bL (.node false none ns)),(14,bI m),(15,bI i)],[(8192,.obx [.onil,.onil,.fz (.int .i64 0)]),(12288,.obx [.osl (.node true none (ns.take i)),.osl (.tie ts),.fz (.int .i64 hr)])]⟩) (fun _=>Yj ⟨ns,ts,hr⟩) ?_) (by rw [hm];rfl) rfl⟩
 intro i hi ih
 rw [<-hks]
 obtain ⟨c,hc⟩:∃ c,c=ns.take i:=⟨_,rfl⟩
 have hcl:c.length=i:=by rw [hc,List.length_take];omega
 rw [<-hc]
 refine SEx.go (X:=XX) qc (fun n=>qa [] [(3,[2,3,13,14,15])] n) (fun _=>none) hO 60 ?_
 intro M R L N m0 m1 m2 m3 m4 m5
 cases M
 cbv
 repeat' first | refine m1 _ _ ?_ ?_ | refine m2 _ _ fun h=>?_ | refine m3 _ ?_ | (refine m4 _ _ (Hd.out ?_);try first | rw [hks] | rw [hk2] | rw [hk3]) | (refine m5 _ _ ?_;cbv)
 all_goals (clear m1 m2 m3 m4 m5;cases m0;(try clear hks;try clear hk2;try clear hk3);try dsimp only)
 all_goals try simp only [sm] at *
 all_goals (try simp only [qg (show i<9223372036854775807 by omega)])
 all_goals first
  | omega
  | rfl
  | (have:=qZ;omega)
  | (have:=qZ;rw [List.length_singleton];omega)
  | exact ⟨h3 _ (qo (z:=qi.z) (by omega)).out⟩
  | (refine ⟨(ih (by omega)).same ?_ rfl⟩;show _=_;rw [qiv qi.z (by omega),<-hc];rfl)
  | (obtain rfl:i=m:=by omega
     rw [hm,List.take_length] at hc
     rw [hc];rfl)
  | skip
def Jm:Wr:=w1 qK Yj (fun t=>[QE t])
theorem qcw:qz Tryz.prog 36 Jm:=zl fun t h=>qfh t (h _ (.head _))
theorem qhF (t:qj)(ht:QE t):qe Tryz.prog 35 [qH t] (Yj t):=by
 refine qe.of qc (fn:=Tryz.f35) (c:=Tryz.f35.body.getD .skip) (dr:=fun n=>qa 0 [(1,8),(5,33619979)] n) Tryz.func35 rfl (by kernel_rfl) (by kernel_rfl) (by kernel_rfl) ?_
 have hO:qp Tryz.prog (qJ []):=qd
 obtain ⟨h1,h2,h3⟩:=ht
 obtain ⟨ns,ts,hr⟩:=t
 dsimp only at h1 h2 h3
 refine SEx.go (X:=XX) qc (fun n=>qa [] [(3,[2,3,14,15,16])] n) (fun _=>none) hO 60 ?_
 intro M R L N m0 m1 m2 m3 m4 m5
 cases M
 cbv
 repeat' first | refine m1 _ _ ?_ ?_ | refine m2 _ _ fun h=>?_ | refine m3 _ ?_ | (refine m4 _ _ (Hd.out ?_);generalize hks:(List.cons _ _:List K)=ks) | (refine m5 _ _ ?_;cbv)
 all_goals (clear m1 m2 m3 m4 m5;cases m0;try dsimp only)
 all_goals try simp only [sm] at *
 all_goals first
  | (have:=qZ;omega)
  | skip
 obtain ⟨m,hm⟩:∃ m,m=ns.length:=⟨_,rfl⟩
 refine ⟨SEx.same (SEx.idx m (fun i=>⟨36,[(2,bP 8192),(3,bP 12288),(14,bL (.node false none ns)),(15,bI m),(16,bI i)],[(8192,.obx [.onil,.onil,.fz (.int .i64 0)]),(12288,.obx [.osl (.node true none (ns.take i)),.osl (.tie ts),.fz (.int .i64 hr)])]⟩) (fun _=>Yj ⟨ns,ts,hr⟩) ?_) (by rw [hm];rfl) rfl⟩
 intro i hi ih
 rw [<-hks]
 obtain ⟨c,hc⟩:∃ c,c=ns.take i:=⟨_,rfl⟩
 have hcl:c.length=i:=by rw [hc,List.length_take];omega
 rw [<-hc]
 have h4:i<m->(ns.getD i qi.z).label.length<=1048576:=fun h=>h3 _ (qo (z:=qi.z) (by omega)).out
 refine SEx.go (X:=XX) qc (fun n=>qa [] [(3,[2,3,14,15,16])] n) (fun _=>none) hO 60 ?_
 intro M R L N m0 m1 m2 m3 m4 m5
 cases M
 cbv
 repeat' first | refine m1 _ _ ?_ ?_ | refine m2 _ _ fun h=>?_ | refine m3 _ ?_ | (refine m4 _ _ (Hd.out ?_);try first | rw [hks] | rw [hk2] | rw [hk3]) | (refine m5 _ _ ?_;cbv)
 all_goals (clear m1 m2 m3 m4 m5;cases m0;(try clear hks;try clear hk2;try clear hk3);try dsimp only)
 all_goals try simp only [sm] at *
 all_goals (try simp only [qg (show i<9223372036854775807 by omega)])
 all_goals first
  | omega
  | rfl
  | (have:=qZ;omega)
  | (have:=qZ;rw [List.length_singleton];omega)
  | (have:=qZ;exact Nat.le_trans (h4 (by omega)) (by omega))
  | (refine ⟨(ih (by omega)).same ?_ rfl⟩;show _=_;rw [qiv qi.z (by omega),<-hc];rfl)
  | (obtain rfl:i=m:=by omega
     rw [hm,List.take_length] at hc
     rw [hc];rfl)
  | skip
theorem qeC:qz Tryz.prog 35 Jm:=zl fun t h=>qhF t (h _ (.head _))
end Go.Proofs.YtfafehnchmelnaaGreat.Ai
namespace Go.Proofs.YtfafehnchmelnaaGreat.Ai
open Go
set_option maxRecDepth 100000
variable [qf]
def KT (t:qj)(k b:Int):qj:=⟨t.nodes,JJ Tie.z t.ties k.toNat (fun q=>{ q with high:=IntKind.i64.wrap ((t.ties.getD k.toNat Tie.z).high+b) }),t.hor⟩
def qsg (t:qj)(k:Int)(fr:Bool):Bool:=qM t&&(decide (0<=k/\k<t.ties.length)&&((t.ties.getD k.toNat Tie.z).free == fr))
def Qn (t:qj)(k b:Int)(fr:Bool):Bool:=qsg t k fr&&qM (KT t k b)
def qdu (t:qj)(b:Bool):TV W:=.tup [(true,t.w),(false,[.fz (.bool false b)])]
def qeV (s:qj)(b:Bool):TV W:=match b with | true=>qdu s true | false=>qdu ⟨[],[],0⟩ false
def qaP (t:qj)(k b:Int)(fr:Bool):qj:=match Qn t k b fr with | true=>KT t k b | false=>⟨[],[],0⟩
theorem ql8 (t:qj)(k b:Int)(fr:Bool):qeV (KT t k b) (Qn t k b fr)=qdu (qaP t k b fr) (Qn t k b fr):=by
 unfold qaP qeV
 cases Qn t k b fr<;>rfl
theorem yw {t:qj}(h:za t)(k b:Int):za (KT t k b):=⟨h.len,by unfold KT;rw [KZ];exact h.tlen,h.nodes⟩
theorem qgt (t:qj)(k b:Int)(fr:Bool)(ht:za t)(hz:QE t)(hk:inI k):qe Tryz.prog 48 [qH t,aI k,aI b,aB fr] (qeV (KT t k b) (Qn t k b fr)):=by
 refine qe.of qc (fn:=Tryz.f48) (c:=Tryz.f48.body.getD .skip) (dr:=fun n=>qa 0 [] n) Tryz.func48 rfl (by kernel_rfl) (by kernel_rfl) (by kernel_rfl) ?_
 rw [kv] at hk
 have ho:=yw ht k b
 have h1:=ht.tlen
 obtain ⟨f1,hf1⟩:∃ f,f=qM:=⟨_,rfl⟩
 obtain ⟨f0,hf0⟩:∃ f,f=Jn:=⟨_,rfl⟩
 have hO:qp Tryz.prog (qJ [(21,jx f1),(74,qb0 f0),(36,Jm)]):=by
  subst hf1 hf0
  exact qb Q9 (qb yN (qb qcw qd))
 obtain ⟨s,hs⟩:∃ s,s=KT t k b:=⟨_,rfl⟩
 obtain ⟨r,hr⟩:∃ r,r=Qn t k b fr:=⟨_,rfl⟩
 rw [<-hs,<-hr]
 obtain ⟨ns,ts,h0⟩:=t
 dsimp only at h1
 have hre:r=(f1 ⟨ns,ts,h0⟩&&(decide (0<=k/\k<ts.length)&&((ts.getD k.toNat Tie.z).free == fr))&&f1 s):=by rw [hr,hs,hf1];rfl
 have hse:s=⟨ns,JJ Tie.z ts k.toNat (fun q=>{ q with high:=IntKind.i64.wrap ((ts.getD k.toNat Tie.z).high+b) }),h0⟩:=hs
 rw [<-hs] at ho
 have hft:f0 ts.length k=true->0<=k/\k<ts.length:=fun h=>by rw [hf0] at h;exact of_decide_eq_true h
 have hff:f0 ts.length k=false->¬(0<=k/\k<ts.length):=fun h=>by rw [hf0] at h;exact of_decide_eq_false h
 have hF1:f1 ⟨ns,ts,h0⟩=false->r=false:=fun h=>by rw [hre,h];rfl
 have hF2:¬(0<=k/\k<ts.length)->r=false:=fun h=>by rw [hre,decide_eq_false h];simp
 have hF3:¬(ts.getD k.toNat Tie.z).free=fr->r=false:=fun h=>by rw [hre,beq_eq_false_iff_ne.2 h];simp
 have hF4:f1 s=false->r=false:=fun h=>by rw [hre,h];simp
 have hF5:f1 ⟨ns,ts,h0⟩=true->(0<=k/\k<ts.length)->(ts.getD k.toNat Tie.z).free=fr->f1 s=true->r=true:=fun a b c d=>by rw [hre,a,decide_eq_true b,beq_iff_eq.2 c,d];rfl
 rw [hse] at hF4 hF5 ho ⊢
 clear hr hs hf1 hre hse
 delta Tie.free at hF3 hF5
 delta Tie.high Tie.src Tie.dst Tie.low Tie.free at hF4 hF5 ho ⊢
 unfold maxLen at h1
 refine SEx.go (X:=XX) qc (fun n=>qa [] [] n) (fun _=>none) hO 90 ?_
 intro M R L N m0 m1 m2 m3 m4 m5
 cases M
 cbv
 repeat' first | refine m1 _ _ ?_ ?_ | refine m2 _ _ fun h=>?_ | refine m3 _ ?_ | (refine m4 _ _ (Hd.out ?_);try first | rw [hks] | rw [hk2] | rw [hk3]) | (refine m5 _ _ ?_;cbv)
 all_goals (clear m1 m2 m3 m4 m5;cases m0;(try clear hks;try clear hk2;try clear hk3);try dsimp only)
 all_goals try simp only [sm] at *
 all_goals (clear hO)
 all_goals (try (have hq:=hft (by assumption)))
 all_goals first
  | exact ht
  | exact hz
  | exact ho
  | exact hq
  | omega
  | (rw [hF1 (by assumption)];rfl)
  | (rw [hF2 (hff (by assumption))];rfl)
  | (rw [hF3 (by assumption)];rfl)
  | (rw [hF4 (by assumption)];rfl)
  | (rw [hF5 (by assumption) hq (by assumption) (by assumption)];rfl)
  | skip
end Go.Proofs.YtfafehnchmelnaaGreat.Ai
namespace Go.Proofs.YtfafehnchmelnaaGreat.Ai
open Go
set_option maxRecDepth 100000
variable [qf]
def sgB (fr:Bool)(y:Int):Int:=match fr with | true=>-y | false=>y
def jk (fr:Bool)(t:qj)(k y:Int):Bool:=decide (0<=y/\y<=20)&&Qn t k (sgB fr y) fr
def JO (fr:Bool)(t:qj)(k y:Int):qj:=match jk fr t k y with | true=>KT t k (sgB fr y) | false=>⟨[],[],0⟩
theorem qp9 (fr:Bool)(t:qj)(k y:Int):qeV (KT t k (sgB fr y)) (jk fr t k y)=qdu (JO fr t k y) (jk fr t k y):=by
 unfold JO qeV
 cases jk fr t k y<;>rfl
theorem qpU {fr:Bool}{t:qj}{k y:Int}(h:0<=y/\y<=20):JO fr t k y=qaP t k (sgB fr y) fr/\jk fr t k y=Qn t k (sgB fr y) fr:=by
 have h1:jk fr t k y=Qn t k (sgB fr y) fr:=by unfold jk;rw [decide_eq_true h];rfl
 refine ⟨?_,h1⟩
 unfold JO qaP
 first
  | (rw [h1];done)
  | (rw [h1];cases Qn t k (sgB fr y) fr<;>rfl)
theorem qm2 {fr:Bool}{t:qj}{k y:Int}(h:¬(0<=y/\y<=20)):JO fr t k y=⟨[],[],0⟩/\jk fr t k y=false:=by
 have h1:jk fr t k y=false:=by unfold jk;rw [decide_eq_false h];rfl
 refine ⟨?_,h1⟩
 unfold JO
 rw [h1]
structure qq3 (t:qj)(k y:Int):Prop where
 le:za t
 mem:QE t
 k:inI k
 y:inI y
structure qsm (t:qj)(k:Int):Prop where
 le:za t
 mem:QE t
 k:inI k
def qqw (fs:qj->Int->Int->Bool->qj)(f:qj->Int->Int->Bool->Bool):Wr:=w4 qK dcI dcI dcB (fun t k b fr=>qdu (fs t k b fr) (f t k b fr)) (fun t k _ _=>[qsm t k])
theorem qmS:qz Tryz.prog 48 (qqw qaP Qn):=qrW fun t k b fr h=>by
 have h:=h _ (.head _)
 rw [<-ql8]
 exact qgt t k b fr h.le h.mem h.k
def qig (fs:qj->Int->Int->qj)(f:qj->Int->Int->Bool):Wr:=w3 qK dcI dcI (fun t k y=>qdu (fs t k y) (f t k y)) (fun t k y=>[qq3 t k y])
theorem Vr (t:qj)(k y:Int)(h:qq3 t k y):qe Tryz.prog 22 [qH t,aI k,aI y] (qdu (JO false t k y) (jk false t k y)):=by
 refine qe.of qc (fn:=Tryz.f22) (c:=Tryz.f22.body.getD .skip) (dr:=fun n=>qa 0 [] n) Tryz.func22 rfl (by kernel_rfl) (by kernel_rfl) (by kernel_rfl) ?_
 obtain ⟨ht,hz,hk,hy⟩:=h
 rw [kv] at hy
 have hin:=qpU (fr:=false) (t:=t) (k:=k) (y:=y)
 have hout:=qm2 (fr:=false) (t:=t) (k:=k) (y:=y)
 dsimp only [sgB] at hin
 obtain ⟨fs,hfs⟩:∃ f,f=qaP:=⟨_,rfl⟩
 obtain ⟨f,hf⟩:∃ f,f=Qn:=⟨_,rfl⟩
 have hO:qp Tryz.prog (qJ [(48,qqw fs f)]):=by subst hfs hf;exact qb qmS qd
 rw [<-hfs,<-hf] at hin
 clear hfs hf
 obtain ⟨s,hs⟩:∃ s,s=JO false t k y:=⟨_,rfl⟩
 obtain ⟨r,hr⟩:∃ r,r=jk false t k y:=⟨_,rfl⟩
 rw [<-hs,<-hr] at hin hout ⊢
 clear hs hr
 obtain ⟨ns,ts,h0⟩:=t
 refine SEx.go (X:=XX) qc (fun n=>qa [] [] n) (fun _=>none) hO 60 ?_
 intro M R L N m0 m1 m2 m3 m4 m5
 cases M
 cbv
 repeat' first | refine m1 _ _ ?_ ?_ | refine m2 _ _ fun h=>?_ | refine m3 _ ?_ | (refine m4 _ _ (Hd.out ?_);try first | rw [hks] | rw [hk2] | rw [hk3]) | (refine m5 _ _ ?_;cbv)
 all_goals (clear m1 m2 m3 m4 m5;cases m0;(try clear hks;try clear hk2;try clear hk3);try dsimp only)
 all_goals try simp only [sm] at *
 all_goals (clear hO)
 all_goals first
  | exact ⟨ht,hz,hk⟩
  | (obtain ⟨e1,e2⟩:=hout (by omega);rw [e1,e2];rfl)
  | (obtain ⟨e1,e2⟩:=hin (by omega);rw [e1,e2];rfl)
  | skip
theorem Vt (t:qj)(k y:Int)(h:qq3 t k y):qe Tryz.prog 40 [qH t,aI k,aI y] (qdu (JO false t k y) (jk false t k y)):=by
 refine qe.of qc (fn:=Tryz.f40) (c:=Tryz.f40.body.getD .skip) (dr:=fun n=>qa 0 [(4,11)] n) Tryz.func40 rfl (by kernel_rfl) (by kernel_rfl) (by kernel_rfl) ?_
 obtain ⟨ht,hz,hk,hy⟩:=h
 rw [kv] at hk hy
 have ho:=yw ht k (sgB false y)
 have h1:=ht.tlen
 rw [<-qp9]
 obtain ⟨f1,hf1⟩:∃ f,f=qM:=⟨_,rfl⟩
 obtain ⟨f0,hf0⟩:∃ f,f=zp:=⟨_,rfl⟩
 have hO:qp Tryz.prog (qJ [(26,jx f1),(39,YK f0),(35,Jm)]):=by
  subst hf1 hf0
  exact qb Qb (qb jW (qb qeC qd))
 obtain ⟨s,hs⟩:∃ s,s=KT t k (sgB false y):=⟨_,rfl⟩
 obtain ⟨r,hr⟩:∃ r,r=jk false t k y:=⟨_,rfl⟩
 rw [<-hs,<-hr]
 obtain ⟨ns,ts,h0⟩:=t
 dsimp only at h1
 have hre:r=(decide (0<=y/\y<=20)&&((f1 ⟨ns,ts,h0⟩&&(decide (0<=k/\k<ts.length)&&((ts.getD k.toNat Tie.z).free == false)))&&f1 s)):=by rw [hr,hs,hf1];rfl
 have hse:s=⟨ns,JJ Tie.z ts k.toNat (fun q=>{ q with high:=IntKind.i64.wrap ((ts.getD k.toNat Tie.z).high+y) }),h0⟩:=by rw [hs];unfold KT sgB;dsimp only
 rw [<-hs] at ho
 have h1':ts.length<=9223372036854775807:=h1
 have hw1:IntKind.i64.wrap ((ts.length:Int)-1)=(ts.length:Int)-1:=qx (by omega) (by omega)
 have hft:f0 k 0 ((ts.length:Int)-1)=true->0<=k/\k<ts.length:=fun h=>by rw [hf0] at h;unfold zp at h;simp only [Bool.and_eq_true,decide_eq_true_eq] at h;omega
 have hff:f0 k 0 ((ts.length:Int)-1)=false->¬(0<=k/\k<ts.length):=fun h h2=>by rw [hf0] at h;unfold zp at h;rw [decide_eq_true h2.1,decide_eq_true (show k<=(ts.length:Int)-1 by omega)] at h;cases h
 have hyt:f0 y 0 20=true->0<=y/\y<=20:=fun h=>by rw [hf0] at h;unfold zp at h;simp only [Bool.and_eq_true,decide_eq_true_eq] at h;exact h
 have hyf:f0 y 0 20=false->¬(0<=y/\y<=20):=fun h h2=>by rw [hf0] at h;unfold zp at h;rw [decide_eq_true h2.1,decide_eq_true h2.2] at h;cases h
 have hF0:¬(0<=y/\y<=20)->r=false:=fun h=>by rw [hre,decide_eq_false h];rfl
 have hF1:f1 ⟨ns,ts,h0⟩=false->r=false:=fun h=>by rw [hre,h];simp
 have hF2:¬(0<=k/\k<ts.length)->r=false:=fun h=>by rw [hre,decide_eq_false h];simp
 have hF3:(ts.getD k.toNat Tie.z).free=!false->r=false:=fun h=>by rw [hre,h];simp
 have hF4:f1 s=false->r=false:=fun h=>by rw [hre,h];simp
 have hF5:(0<=y/\y<=20)->f1 ⟨ns,ts,h0⟩=true->(0<=k/\k<ts.length)->(ts.getD k.toNat Tie.z).free=false->f1 s=true->r=true:=fun e a b c d=>by rw [hre,decide_eq_true e,a,decide_eq_true b,c,d];rfl
 rw [hse] at hF4 hF5 ho ⊢
 clear hr hs hf1 hre hse hf0 h1
 delta Tie.free at hF3
 delta Tie.high Tie.src Tie.dst Tie.low Tie.free at hF4 hF5 ho ⊢
 refine SEx.go (X:=XX) qc (fun n=>qa [] [] n) (fun _=>none) hO 90 ?_
 intro M R L N m0 m1 m2 m3 m4 m5
 cases M
 cbv
 repeat' first | refine m1 _ _ ?_ ?_ | refine m2 _ _ fun h=>?_ | refine m3 _ ?_ | (refine m4 _ _ (Hd.out ?_);try first | rw [hks] | rw [hk2] | rw [hk3]) | (refine m5 _ _ ?_;cbv)
 all_goals (clear m1 m2 m3 m4 m5;cases m0;(try clear hks;try clear hk2;try clear hk3);try dsimp only)
 all_goals try simp only [sm] at *
 all_goals (clear hO)
 all_goals (try simp only [hw1] at *)
 all_goals (try (have hq:=hft (by assumption)))
 all_goals first
  | exact ht
  | exact hz
  | exact ho
  | exact hq
  | omega
  | (rw [hF1 (by assumption)];rfl)
  | (rw [hF2 (hff (by assumption))];rfl)
  | (rw [hF3 (by assumption)];rfl)
  | (rw [hF0 (hyf (by assumption))];rfl)
  | (rw [hF4 (by assumption)];rfl)
  | (rw [hF5 (hyt (by assumption)) (by assumption) hq (by assumption) (by assumption)];rfl)
  | skip
theorem qax:qz Tryz.prog 40 (qig (JO false) (jk false)):=jL fun t k y h=>Vt t k y (h _ (.head _))
theorem qaD:qz Tryz.prog 22 (qig (JO false) (jk false)):=jL fun t k y h=>Vr t k y (h _ (.head _))
end Go.Proofs.YtfafehnchmelnaaGreat.Ai
namespace Go.Proofs.YtfafehnchmelnaaGreat.Ai
open Go
set_option maxRecDepth 100000
variable [qf]
theorem qbU.mem {t:qj}{n:Int}(h:qbU t n):QE t:=⟨h.len,h.tlen,h.labs⟩
end Go.Proofs.YtfafehnchmelnaaGreat.Ai
namespace Go.Proofs.YtfafehnchmelnaaGreat.Ai
open Go
set_option maxRecDepth 100000
variable [qf]
def z8 (p:Int->Bool)(l:List Int):List Int:=l.filter fun x=>!p x
def Yx (p:Int->Bool)(l:List Int):List Int:=z8 p l++List.replicate (l.length-(z8 p l).length) 0
def qnZ (g:FuncId)(caps:List D)(l:List Int)(p:Int->Bool)(L:List (Nat×Wr)):Qp:=fun g' as'=>match as' with
 | (false,[.int .i64 q])::r=>some ([qni g' g r caps,Mem q l],rB (p q))
 | xs=>qJ L g' xs
theorem qm7 {P:Program}{g:FuncId}{caps:List D}{l:List Int}{p:Int->Bool}{L:List (Nat×Wr)}(hp:∀ q∈l,qe P g (aI q::Qu caps) (rB (p q)))(hL:qp P (qJ L)):qp P (qnZ g caps l p L):=by
 intro g' as'
 unfold qnZ
 split
 . refine R.Sim.mk fun hq=>?_
   obtain ⟨rfl,rfl⟩:=hq _ (.head _)
   exact hp _ (hq _ (.tail _ (.head _))).out
 . exact hL _ _
theorem wz {α:Type}(p:α->Bool)(z:α):∀ (l:List α) (n:Nat),(zV p l n=-1/\∀ q∈l,p q=false)\/∃ i,i<l.length/\zV p l n=((n+i:Nat):Int)/\p (l.getD i z)=true/\∀ q∈l.take i,p q=false
 | [],n=>.inl ⟨rfl,fun q h=>by cases h⟩
 | a::r,n=>by
   unfold zV
   cases h:p a with
   | true=>exact .inr ⟨0,by simp,by simp,by simpa using h,fun q h=>by simp at h⟩
   | false =>
     rw [if_neg (by simp)]
     rcases wz p z r (n+1) with ⟨h1,h2⟩ | ⟨i,h1,h2,h3,h4⟩
     . exact .inl ⟨h1,fun q hq=>(List.mem_cons.1 hq).elim (fun e=>e▸h) (h2 q)⟩
     . refine .inr ⟨i+1,by simpa using h1,by rw [h2];congr 1;omega,by simpa using h3,fun q hq=>?_⟩
       rw [List.take_succ_cons] at hq
       exact (List.mem_cons.1 hq).elim (fun e=>e▸h) (h4 q)
theorem qa5 {p:Int->Bool}{l:List Int}(h:∀ q∈l,p q=false):z8 p l=l:=by
 unfold z8
 rw [List.filter_eq_self]
 intro q hq
 rw [h q hq];rfl
theorem qga {p:Int->Bool}{l:List Int}{j:Nat}(h:j<l.length):z8 p (l.take (j+1))=z8 p (l.take j)++(if p (l.getD j 0)=true then [] else [l.getD j 0]):=by
 unfold z8
 rw [List.take_add_one,List.filter_append,zy h,List.getElem?_eq_getElem h,Option.toList_some,List.filter_cons,List.filter_nil]
 cases p l[j]<;>rfl
theorem qkE {c:List Int}{i n:Nat}(hn:c.length=n)(hi:i<=n):kU c i (n-i) 0=c.take i++List.replicate (n-i) 0:=by
 apply List.ext_getElem?
 intro j
 rw [j9,List.getElem?_append,List.length_take,hn,Nat.min_eq_left hi,List.getElem?_take,List.getElem?_replicate]
 by_cases h1:j<i
 . rw [if_neg (by omega),if_pos h1,if_pos h1]
 . rw [if_neg h1]
   by_cases h2:j<n
   . rw [if_pos (by omega),if_pos (by omega)]
   . rw [if_neg (by omega),if_neg (by omega),List.getElem?_eq_none (by omega)]
end Go.Proofs.YtfafehnchmelnaaGreat.Ai
