/- The law's proof, part 5 of 11: what of its author's texts it needs; no condition. -/
import Derived.Test.YtfafehnchmelnaaGreatProg
import Derived.KernelRfl
import Derived.Test.YtfafehnchmelnaaGreatZaD
set_option linter.unusedSectionVars false
set_option linter.unusedSimpArgs false
set_option linter.unusedVariables false
namespace Go.Proofs.YtfafehnchmelnaaGreat.Ai
open Go
set_option maxRecDepth 100000
variable [qf]
def tr3:Ty:={ kind:=TK.int IntKind.i64,agg:=false,size:=1,bytes:=8,zero:=[C.int IntKind.i64 (Int.ofNat 0)] }
theorem ty3:kR Tryz.prog 3=some tr3:=by kernel_rfl
def tr4:Ty:={ kind:=TK.bool,agg:=false,size:=1,bytes:=1,zero:=[C.bool false] }
theorem ty4:kR Tryz.prog 4=some tr4:=by kernel_rfl
def tr5:Ty:={ kind:=TK.int IntKind.u8,agg:=false,size:=1,bytes:=1,zero:=[C.int IntKind.u8 (Int.ofNat 0)] }
theorem ty5:kR Tryz.prog 5=some tr5:=by kernel_rfl
def tr9:Ty:={ kind:=TK.str,agg:=false,size:=1,bytes:=16,zero:=[C.str { data:={ toList:=[] } }] }
theorem ty9:kR Tryz.prog 9=some tr9:=by kernel_rfl
def tr22:Ty:={ kind:=TK.sl 69,agg:=false,size:=1,bytes:=24,zero:=[C.nilsl] }
theorem ty22:kR Tryz.prog 22=some tr22:=by kernel_rfl
def tr23:Ty:={ kind:=TK.sl 81,agg:=false,size:=1,bytes:=24,zero:=[C.nilsl] }
theorem ty23:kR Tryz.prog 23=some tr23:=by kernel_rfl
def tr25:Ty:={ kind:=TK.st [(0,1,false),(1,1,false),(2,1,false)],agg:=true,size:=3,bytes:=56,zero:=[C.nilsl,C.nilsl,C.int IntKind.i64 (Int.ofNat 0)] }
theorem ty25:kR Tryz.prog 25=some tr25:=by kernel_rfl
def tr28:Ty:={ kind:=TK.sl 63,agg:=false,size:=1,bytes:=24,zero:=[C.nilsl] }
theorem ty28:kR Tryz.prog 28=some tr28:=by kernel_rfl
def tr29:Ty:={ kind:=TK.sl 79,agg:=false,size:=1,bytes:=24,zero:=[C.nilsl] }
theorem ty29:kR Tryz.prog 29=some tr29:=by kernel_rfl
def tr31:Ty:={ kind:=TK.st [(0,1,false),(1,1,false),(2,1,false)],agg:=true,size:=3,bytes:=56,zero:=[C.nilsl,C.nilsl,C.int IntKind.i64 (Int.ofNat 0)] }
theorem ty31:kR Tryz.prog 31=some tr31:=by kernel_rfl
def tr40:Ty:={ kind:=TK.sl 5,agg:=false,size:=1,bytes:=24,zero:=[C.nilsl] }
theorem ty40:kR Tryz.prog 40=some tr40:=by kernel_rfl
def tr48:Ty:={ kind:=TK.sl 3,agg:=false,size:=1,bytes:=24,zero:=[C.nilsl] }
theorem ty48:kR Tryz.prog 48=some tr48:=by kernel_rfl
def tr50:Ty:={ kind:=TK.st [(0,1,false),(1,1,false),(2,1,false)],agg:=true,size:=3,bytes:=56,zero:=[C.int IntKind.i64 (Int.ofNat 0),C.nilsl,C.nilsl] }
theorem ty50:kR Tryz.prog 50=some tr50:=by kernel_rfl
def tr63:Ty:={ kind:=TK.st [(0,1,false),(1,1,false),(2,1,false)],agg:=true,size:=3,bytes:=48,zero:=[C.str { data:={ toList:=[] } },C.nilsl,C.int IntKind.i64 (Int.ofNat 0)] }
theorem ty63:kR Tryz.prog 63=some tr63:=by kernel_rfl
def tr69:Ty:={ kind:=TK.st [(0,1,false),(1,1,false),(2,1,false)],agg:=true,size:=3,bytes:=48,zero:=[C.str { data:={ toList:=[] } },C.nilsl,C.int IntKind.i64 (Int.ofNat 0)] }
theorem ty69:kR Tryz.prog 69=some tr69:=by kernel_rfl
def tr73:Ty:={ kind:=TK.int IntKind.u64,agg:=false,size:=1,bytes:=8,zero:=[C.int IntKind.u64 (Int.ofNat 0)] }
theorem ty73:kR Tryz.prog 73=some tr73:=by kernel_rfl
def tr79:Ty:={ kind:=TK.st [(0,1,false),(1,1,false),(2,1,false),(3,1,false),(4,1,false)],agg:=true,size:=5,bytes:=40,zero:=[C.int IntKind.i64 (Int.ofNat 0),C.int IntKind.i64 (Int.ofNat 0),C.int IntKind.i64 (Int.ofNat 0),C.int IntKind.i64 (Int.ofNat 0),C.bool false] }
theorem ty79:kR Tryz.prog 79=some tr79:=by kernel_rfl
def tr81:Ty:={ kind:=TK.st [(0,1,false),(1,1,false),(2,1,false),(3,1,false),(4,1,false)],agg:=true,size:=5,bytes:=40,zero:=[C.int IntKind.i64 (Int.ofNat 0),C.int IntKind.i64 (Int.ofNat 0),C.int IntKind.i64 (Int.ofNat 0),C.int IntKind.i64 (Int.ofNat 0),C.bool false] }
theorem ty81:kR Tryz.prog 81=some tr81:=by kernel_rfl
def tr91:Ty:={ kind:=TK.st [(0,1,false),(1,1,false),(2,1,false)],agg:=true,size:=3,bytes:=40,zero:=[C.nilsl,C.int IntKind.i64 (Int.ofNat 0),C.int IntKind.i64 (Int.ofNat 0)] }
theorem ty91:kR Tryz.prog 91=some tr91:=by kernel_rfl
def tr105:Ty:={ kind:=TK.sl 4,agg:=false,size:=1,bytes:=24,zero:=[C.nilsl] }
theorem ty105:kR Tryz.prog 105=some tr105:=by kernel_rfl
def tr111:Ty:={ kind:=TK.mp 9 4,agg:=false,size:=1,bytes:=8,zero:=[C.un] }
theorem ty111:kR Tryz.prog 111=some tr111:=by kernel_rfl
def tr113:Ty:={ kind:=TK.st [(0,3,true),(3,1,false)],agg:=true,size:=4,bytes:=64,zero:=[C.nilsl,C.nilsl,C.int IntKind.i64 (Int.ofNat 0),C.un] }
theorem ty113:kR Tryz.prog 113=some tr113:=by kernel_rfl
def tr116:Ty:={ kind:=TK.sl 48,agg:=false,size:=1,bytes:=24,zero:=[C.nilsl] }
theorem ty116:kR Tryz.prog 116=some tr116:=by kernel_rfl
def tr137:Ty:={ kind:=TK.int IntKind.u32,agg:=false,size:=1,bytes:=4,zero:=[C.int IntKind.u32 (Int.ofNat 0)] }
theorem ty137:kR Tryz.prog 137=some tr137:=by kernel_rfl
def tr140:Ty:={ kind:=TK.int IntKind.u64,agg:=false,size:=1,bytes:=8,zero:=[C.int IntKind.u64 (Int.ofNat 0)] }
theorem ty140:kR Tryz.prog 140=some tr140:=by kernel_rfl
def tr144:Ty:={ kind:=TK.sl 9,agg:=false,size:=1,bytes:=24,zero:=[C.nilsl] }
theorem ty144:kR Tryz.prog 144=some tr144:=by kernel_rfl
def tr149:Ty:={ kind:=TK.int IntKind.i64,agg:=false,size:=1,bytes:=8,zero:=[C.int IntKind.i64 (Int.ofNat 0)] }
theorem ty149:kR Tryz.prog 149=some tr149:=by kernel_rfl
def TT:List (Nat×Option Ty):=[(3,some tr3),(48,some tr48),(31,some tr31),(79,some tr79),(63,some tr63),(50,some tr50),(28,some tr28),(29,some tr29),(4,some tr4),(9,some tr9),(5,some tr5),(73,some tr73),(116,some tr116),(25,some tr25),(69,some tr69),(40,some tr40),(81,some tr81),(22,some tr22),(23,some tr23),(113,some tr113),(137,some tr137),(140,some tr140),(91,some tr91),(105,some tr105),(111,some tr111),(144,some tr144),(149,some tr149)]
def XX:SX:={ T:=qa none TT,K:=fun t=>qa none [(3,some .i),(48,some .ii),(79,some .tie),(63,some .node),(4,some .b),(9,some .s),(5,some .u),(69,some .node),(81,some .tie),(149,some .i)] t }
theorem qc:kw Tryz.prog XX.T:=qjk (by simp only [TT,List.mem_cons,List.not_mem_nil,or_false,forall_eq_or_imp,forall_eq,ty3,ty48,ty31,ty79,ty63,ty50,ty28,ty29,ty4,ty9,ty5,ty73,ty116,ty25,ty69,ty40,ty81,ty22,ty23,ty113,ty137,ty140,ty91,ty105,ty111,ty144,ty149];simp)
def qsd:List (Nat×Option (List Nat)):=[(2,some [0]),(3,some [1]),(4,some [1,2]),(5,some [1,2,3]),(6,some [1,2,3,4]),(7,some [1,2,3,5]),(8,some [1,2,3,6]),(9,some [1,2,3]),(10,some [1,2,3,8]),(11,some [1,2,3,9]),(12,some [1,2,3,10]),(13,some [1,2,3]),(14,some [2,3,12]),(15,some [2,3,13]),(16,some [2,3])]
end Go.Proofs.YtfafehnchmelnaaGreat.Ai
namespace Go.Proofs.YtfafehnchmelnaaGreat.Ai
open Go
set_option maxRecDepth 100000
variable [qf]
def bI (n:Int):TV B:=.v (false,[.fz (.int .i64 n)])
def bS (s:ByteArray):TV B:=.v (false,[.fz (.str s)])
def bL (x:LL):TV B:=.v (false,[.fz (.sl x)])
def bR (r len:Nat):TV B:=.v (false,[.rf (r,[]) true 0 len])
def bP (r:Nat):TV B:=.v (false,[.pp (r,[]) (true,0) 0])
theorem sm:type_of% (Bool.not_eq_true')/\type_of% (Bool.not_eq_false')/\type_of% (@decide_eq_true_eq)/\type_of% (@decide_eq_false_iff_not)/\type_of% (@Int.not_le)/\type_of% (@Int.not_lt)/\type_of% (@beq_iff_eq.{0})/\type_of% (@beq_eq_false_iff_ne.{0})/\type_of% (@ne_eq.{1})/\type_of% (@Int.ofNat_eq_natCast)/\type_of% (@Int.toNat_natCast)/\type_of% (@List.length_replicate.{0})/\type_of% (@qfb)/\type_of% (@Nat.sub_zero)/\type_of% (@List.drop_zero.{0})/\type_of% (@Cue.eta)/\type_of% (@Tie.eta)/\type_of% (@Edge.eta)/\type_of% (@Qd.eta)/\type_of% (@qi.eta):=⟨Bool.not_eq_true',Bool.not_eq_false',@decide_eq_true_eq,@decide_eq_false_iff_not,@Int.not_le,@Int.not_lt,@beq_iff_eq.{0},@beq_eq_false_iff_ne.{0},@ne_eq.{1},@Int.ofNat_eq_natCast,@Int.toNat_natCast,@List.length_replicate.{0},@qfb,@Nat.sub_zero,@List.drop_zero.{0},@Cue.eta,@Tie.eta,@Edge.eta,@Qd.eta,@qi.eta⟩
theorem SEx.idx {P:Program}{T:Nat->Option Ty}{dr:Nat->Nat}{rs:Array ResultVar}{ks:List K}(n:Nat)(f:Nat->SF)(R:Nat->TV W)
 (step:∀ i,i<=n->(i<n->SEx P T dr rs ks (f (i+1)) (R (i+1)))->SEx P T dr rs ks (f i) (R i)):SEx P T dr rs ks (f 0) (R 0) :=
 SEx.ind f R (fun i=>i<=n) (fun i=>n-i) 0 (Nat.zero_le _) fun i hi ih=>step i hi fun h=>ih (i+1) (by omega) (by omega)
theorem SEx.idxS {P:Program}{T:Nat->Option Ty}{dr:Nat->Nat}{rs:Array ResultVar}{ks:List K}{α:Type}(n:Nat)(f:Nat->α->SF)(R:Nat->α->TV W)(Inv:Nat->α->Prop)(s0:α)(h0:Inv 0 s0)
 (step:∀ i s,i<=n->Inv i s->(∀ s',i<n->Inv (i+1) s'->SEx P T dr rs ks (f (i+1) s') (R (i+1) s'))->SEx P T dr rs ks (f i s) (R i s)):SEx P T dr rs ks (f 0 s0) (R 0 s0) :=
 SEx.ind (fun x:Nat×α=>f x.1 x.2) (fun x=>R x.1 x.2) (fun x=>x.1<=n/\Inv x.1 x.2) (fun x=>n-x.1) (0,s0) ⟨Nat.zero_le _,h0⟩ fun x hx ih=>step x.1 x.2 hx.1 hx.2 fun s' h hI=>ih (x.1+1,s') ⟨by show x.1+1<=n;omega,hI⟩ (by show n-(x.1+1)<n-x.1;omega)
structure ym {α:Type}(a b:α):Prop where out:a=b
structure LLe {α:Type}(l:List α)(n:Nat):Prop where out:l.length<=n
theorem qy {n:Int}(h1:-9223372036854775808<=n)(h2:n<=9223372036854775807):IntKind.i64.wrap n=n:=IntWalk.i64_in n ⟨h1,h2⟩
theorem qg {i:Nat}(h:i<9223372036854775807):IntKind.i64.wrap ((i:Int)+1)=((i+1:Nat):Int):=by
 rw [qy (by omega) (by omega)];rfl
structure qrK (s:ByteArray):Prop where out:s.size<=maxLen
structure qj0 (n:Int):Prop where out:0<=n/\n<=9223372036854775807
structure Hd (p:Prop):Prop where out:p
theorem zm:(1048576:Int)<=lim:=by decide
theorem zG {α:Type}{l:List α}{i:Nat}{z:α}(h:i<l.length):l.getD i z=l[i]:=by rw [List.getD_eq_getElem?_getD,List.getElem?_eq_getElem h,Option.getD_some]
def eqS (a b:ByteArray):Bool:=a.toList == b.toList
def zT {α:Type}(p:α->Bool):List α->Nat->Int
 | [],_=>-1
 | a::r,n=>if p a=true then n else zT p r (n+1)
theorem qiI {α:Type}{p:α->Bool}{l:List α}{i n:Nat}(z:α)(h:i<l.length):zT p (l.drop i) n=if p (l.getD i z)=true then (n:Int) else zT p (l.drop (i+1)) (n+1):=by
 rw [List.drop_eq_getElem_cons h,List.getD_eq_getElem?_getD,List.getElem?_eq_getElem h,Option.getD_some];rfl
theorem jT {α:Type}{p:α->Bool}{l:List α}{i n:Nat}(z:α)(h:i<l.length)(hp:p (l.getD i z)=true):zT p (l.drop i) n=n:=by rw [qiI z h,if_pos hp]
theorem Q5 {α:Type}{p:α->Bool}{l:List α}{i n:Nat}(z:α)(h:i<l.length)(hp:p (l.getD i z)=false):zT p (l.drop i) n=zT p (l.drop (i+1)) (n+1):=by rw [qiI z h,hp];rfl
theorem jY {α:Type}{p:α->Bool}{l:List α}{i n:Nat}(h:l.length<=i):zT p (l.drop i) n=-1:=by rw [List.drop_eq_nil_of_le h];rfl
def qsf (k:Nat):Dc ByteArray:=⟨fun s=>aF k [.ptr [.str s]],fun | (false,[.fn f [.ptr [.str s]]])=>(match nq f k with | true=>some s | false=>none) | _=>none,by
 intro x a h
 split at h
 . split at h
   . rename_i hk
     obtain rfl:=QG.1 hk
     simp only [Option.some.injEq] at h;subst h;rfl
   . cases h
 . cases h⟩
structure qnI (g' g:FuncId)(r:List (V1 D))(caps:List D):Prop where
 fn:g'=g
 caps:r=Ql caps
structure Mem {α:Type}(x:α)(l:List α):Prop where out:x∈l
theorem qo {α:Type}{l:List α}{i:Nat}{z:α}(h:i<l.length):Mem (l.getD i z) l:=⟨by rw [List.getD_eq_getElem?_getD,List.getElem?_eq_getElem h,Option.getD_some];exact List.getElem_mem _⟩
def qnm {α:Type}(d:Dc α)(g:FuncId)(caps:List D)(l:List α)(p:α->Bool):Qe:=fun g' as'=>match as' with
 | x::r=>(match d.dec x with
   | some q=>some ([qnI g' g r caps,Mem q l],rB (p q))
   | none=>none)
 | []=>none
theorem qbW {P:Program}{α:Type}{d:Dc α}{g:FuncId}{caps:List D}{l:List α}{p:α->Bool}(hp:∀ q∈l,qe P g (d.enc q::Ql caps) (rB (p q))):qp P (qnm d g caps l p):=by
 intro g' as'
 unfold qnm
 split
 . split
   . rename_i hx
     refine R.Sim.mk fun hq=>?_
     obtain ⟨rfl,rfl⟩:=hq _ (.head _)
     exact (hp _ (hq _ (.tail _ (.head _))).out).er (by simp only [qw,d.ok _ _ hx]) rfl
   . exact R.Sim.none'
 . exact R.Sim.none'
theorem vn {α:Type}(p:α->Bool):∀ (l:List α) (n:Nat),decide (0<=zT p l n)=l.any p
 | [],n=>rfl
 | a::r,n=>by
   unfold zT
   rw [List.any_cons]
   cases h:p a with
   | true=>rw [if_pos rfl];simp
   | false=>rw [if_neg (by simp)];exact vn p r (n+1)
def qD {α:Type}(p:Nat->α->Bool):List α->Nat->Bool
 | [],_=>true
 | a::r,n=>p n a&&qD p r (n+1)
theorem VI {α:Type}{p:Nat->α->Bool}{l:List α}{i n:Nat}(z:α)(h:i<l.length):qD p (l.drop i) n=(p n (l.getD i z)&&qD p (l.drop (i+1)) (n+1)):=by
 rw [List.drop_eq_getElem_cons h,List.getD_eq_getElem?_getD,List.getElem?_eq_getElem h,Option.getD_some];rfl
theorem wM {α:Type}{p:Nat->α->Bool}{l:List α}{i n:Nat}(z:α)(h:i<l.length)(hp:p n (l.getD i z)=true):qD p (l.drop i) n=qD p (l.drop (i+1)) (n+1):=by rw [VI z h,hp];rfl
theorem Vp {α:Type}{p:Nat->α->Bool}{l:List α}{i n:Nat}(z:α)(h:i<l.length)(hp:p n (l.getD i z)=false):qD p (l.drop i) n=false:=by rw [VI z h,hp];rfl
theorem qlP {α:Type}{p:Nat->α->Bool}{l:List α}{i n:Nat}(h:l.length<=i):qD p (l.drop i) n=true:=by rw [List.drop_eq_nil_of_le h];rfl
theorem wm {α:Type}{p q:Nat->α->Bool}:∀ (l:List α) (n:Nat),(∀ i a,l[i]?=some a->p (n+i) a=q (n+i) a)->qD p l n=qD q l n
 | [],_,_=>rfl
 | a::r,n,h=>by
   have h1:qD p r (n+1)=qD q r (n+1):=wm r (n+1) fun i b hi=>by
    have:=h (i+1) b (by simpa using hi)
    rwa [show n+(i+1)=n+1+i by omega] at this
   show (p n a&&qD p r (n+1))=(q n a&&qD q r (n+1))
   rw [h1,show p n a=q n a from h 0 a rfl]
def wCl {α:Type}(d:Dc α)(g:FuncId)(caps:List D)(f:α->TV W)(p:α->List Prop):Wr
 | [x,(false,[.fn g' caps'])]=>(match d.dec x with | some l=>some (ym g' g::ym caps' caps::p l,f l) | none=>none)
 | _=>none
theorem qbO {P:Program}{k:FuncId}{α:Type}{d:Dc α}{g:FuncId}{caps:List D}{f:α->TV W}{p:α->List Prop}(h:∀ l,Holds (p l)->qe P k [d.enc l,aF g caps] (f l)):qA P k (wCl d g caps f p):=by
 intro xs
 unfold wCl
 split
 . split
   . rename_i hx
     refine R.Sim.mk fun hq=>?_
     obtain ⟨rfl⟩:=hq _ (.head _)
     obtain ⟨rfl⟩:=hq _ (.tail _ (.head _))
     exact (h _ fun r hr=>hq r (.tail _ (.tail _ hr))).er (by simp only [qw,d.ok _ _ hx];rfl) rfl
   . exact R.Sim.none'
 . exact R.Sim.none'
theorem qb1 {α:Type}{p:Nat->α->Bool}{l:List α}{i:Nat}{c:Bool}(z:α)(h:i<l.length)(hp:p i (l.getD i z)=true):(qD p (l.drop i) i&&c)=(qD p (l.drop (i+1)) (i+1)&&c):=by rw [wM z h hp]
theorem qdM {α:Type}{p:Nat->α->Bool}{l:List α}{i:Nat}{c:Bool}(z:α)(h:i<l.length)(hp:p i (l.getD i z)=false):(qD p (l.drop i) i&&c)=false:=by rw [Vp z h hp];rfl
theorem qU {α:Type}{p:Nat->α->Bool}{l:List α}{i:Nat}{c:Bool}(h:l.length<=i):(qD p (l.drop i) i&&c)=c:=by rw [qlP h];rfl
theorem Vx {α:Type}(p:α->Bool):∀ (l:List α) (n:Nat),zT p l n<n+l.length/\(zT p l n=-1\/(n:Int)<=zT p l n)
 | [],n=>by simp [zT];omega
 | a::r,n=>by
   have:=Vx p r (n+1)
   unfold zT
   simp only [List.length_cons]
   split<;>omega
theorem qV {a b:Bool}(h:b=a)(k:Bool):eR (.v (false,[.fz (.bool k a)]))=eR (rB b):=by rw [jE];exact h.symm
structure zf (p A B:Bool):Prop where
 yes:p=true->A=B
 no:p=false->A=false
theorem zf.of {α:Type}(p:Nat->α->Bool)(l:List α)(i:Nat)(c:Bool)(z:α)(h:i<l.length):zf (p i (l.getD i z)) (qD p (l.drop i) i&&c) (qD p (l.drop (i+1)) (i+1)&&c):=⟨qb1 z h,qdM z h⟩
theorem zf.stop {p A B:Bool}(h:zf p A B)(k:Bool)(hp:p=false):eR (.v (false,[.fz (.bool k false)]))=eR (rB A):=qV (h.no hp) k
theorem zf.go {p A B:Bool}(h:zf p A B)(hp:p=true):eR (rB B)=eR (rB A):=by rw [h.yes hp]
theorem zf.stopN {p A B:Bool}(h:zf p A B)(k:Bool)(hp:p=false):eR (.v (false,[.fz (.bool k true)]))=eR (rB (!A)):=qV (by rw [h.no hp];rfl) k
theorem zf.goN {p A B:Bool}(h:zf p A B)(hp:p=true):eR (rB (!B))=eR (rB (!A)):=by rw [h.yes hp]
end Go.Proofs.YtfafehnchmelnaaGreat.Ai
namespace Go.Proofs.YtfafehnchmelnaaGreat.Ai
open Go
set_option maxRecDepth 100000
variable [qf]
theorem WM (l:List Int)(g:FuncId)(caps:List D)(p:Int->Bool)(hp:∀ q∈l,qe Tryz.prog g (aI q::Ql caps) (rB (p q)))(h1:l.length<=maxLen):qe Tryz.prog 79 [aIs l,aF g caps] (rI (zT p l 0)):=by
 refine qe.of qc (fn:=Tryz.f79) (c:=Tryz.f79.body.getD .skip) (dr:=fun n=>qa 0 [] n) Tryz.func79 rfl (by kernel_rfl) (by kernel_rfl) (by kernel_rfl) ?_
 unfold maxLen at h1
 have hO:qp Tryz.prog (qnm dcI g caps l p):=qbW hp
 refine SEx.go (X:=XX) qc (fun n=>qa [] [(2,[0,1,7,8])] n) (fun _=>none) hO 60 ?_
 intro M R L N m0 m1 m2 m3 m4 m5
 cases M
 cbv
 repeat' first | refine m1 _ _ ?_ ?_ | refine m2 _ _ fun h=>?_ | refine m3 _ ?_ | (refine m4 _ _ (Hd.out ?_);generalize hks:(List.cons _ _:List K)=ks) | (refine m5 _ _ ?_;cbv)
 all_goals (clear m1 m2 m3 m4 m5;cases m0;try dsimp only)
 all_goals try simp only [sm] at *
 obtain ⟨n,hn⟩:∃ n,n=l.length:=⟨_,rfl⟩
 refine ⟨SEx.same (SEx.idx n (fun i=>⟨19,[(0,bL (.i l)),(1,.v (false,[.fz (.fn g caps)])),(7,bI n),(8,bI i)],[]⟩) (fun i=>rI (zT p (l.drop i) i)) ?_) (by rw [hn];rfl) rfl⟩
 intro i hi ih
 rw [<-hks]
 refine SEx.go (X:=XX) qc (fun n=>qa [] [(2,[0,1,7,8])] n) (fun _=>none) hO 60 ?_
 intro M R L N m0 m1 m2 m3 m4 m5
 cases M
 cbv
 repeat' first | refine m1 _ _ ?_ ?_ | refine m2 _ _ fun h=>?_ | refine m3 _ ?_ | (refine m4 _ _ (Hd.out ?_);try first | rw [hks] | rw [hk2] | rw [hk3]) | (refine m5 _ _ ?_;cbv)
 all_goals (clear m1 m2 m3 m4 m5;cases m0;(try clear hks;try clear hk2;try clear hk3);try dsimp only)
 all_goals try simp only [sm] at *
 all_goals first
  | omega
  | exact ⟨rfl,by cases caps<;>rfl⟩
  | exact ⟨rfl,rfl⟩
  | exact qo (z:=(0:Int)) (by omega)
  | (rw [jT (p:=p) (l:=l) (i:=i) (0:Int) (by omega) (by first | assumption | exact beq_iff_eq.2 (by assumption))];rfl)
  | (rw [jY (by omega)];rfl)
  | (simp only [qg (show i<9223372036854775807 by omega)];exact ⟨(ih (by omega)).same rfl (by rw [Q5 (p:=p) (l:=l) (i:=i) (0:Int) (by omega) (by first | assumption | exact beq_eq_false_iff_ne.2 (by assumption) | (simp_all;done))])⟩)
theorem ZX (l:List Int)(g:FuncId)(caps:List D)(p:Int->Bool)(hp:∀ q∈l,qe Tryz.prog g (aI q::Ql caps) (rB (p q)))(h1:l.length<=maxLen):qe Tryz.prog 45 [aIs l,aF g caps] (rB (l.any p)):=by
 refine qe.of qc (fn:=Tryz.f45) (c:=Tryz.f45.body.getD .skip) (dr:=fun n=>qa 0 [] n) Tryz.func45 rfl (by kernel_rfl) (by kernel_rfl) (by kernel_rfl) ?_
 obtain ⟨f,hf⟩:∃ f:List Int->Int,f=fun l=>zT p l 0:=⟨_,rfl⟩
 have hO:qp Tryz.prog (qL [(79,wCl kx g caps (fun l=>rI (f l)) (fun m=>[ym m l]))]):=by subst hf;exact qb (qbO fun m h=>by obtain rfl:=(h _ (.head _)).out;exact WM m g caps p hp h1) qd
 refine SEx.go (X:=XX) qc (fun n=>qa [] [] n) (fun _=>none) hO 60 ?_
 intro M R L N m0 m1 m2 m3 m4 m5
 cases M
 cbv
 repeat' first | refine m1 _ _ ?_ ?_ | refine m2 _ _ fun h=>?_ | refine m3 _ ?_ | (refine m4 _ _ (Hd.out ?_);try first | rw [hks] | rw [hk2] | rw [hk3]) | (refine m5 _ _ ?_;cbv)
 all_goals (clear m1 m2 m3 m4 m5;cases m0;(try clear hks;try clear hk2;try clear hk3);try dsimp only)
 all_goals try simp only [sm] at *
 all_goals first
  | exact ⟨rfl⟩
  | (rw [<-vn p l 0,hf];rfl)
theorem JJ (l:List Tie)(g:FuncId)(caps:List D)(p:Tie->Bool)(hp:∀ q∈l,qe Tryz.prog g (yv q::Ql caps) (rB (p q)))(h1:l.length<=maxLen):qe Tryz.prog 115 [y8 l,aF g caps] (rI (zT p l 0)):=by
 refine qe.of qc (fn:=Tryz.f115) (c:=Tryz.f115.body.getD .skip) (dr:=fun n=>qa 0 [] n) Tryz.func115 rfl (by kernel_rfl) (by kernel_rfl) (by kernel_rfl) ?_
 unfold maxLen at h1
 have hO:qp Tryz.prog (qnm yQ g caps l p):=qbW hp
 refine SEx.go (X:=XX) qc (fun n=>qa [] [(2,[0,1,7,8])] n) (fun _=>none) hO 60 ?_
 intro M R L N m0 m1 m2 m3 m4 m5
 cases M
 cbv
 repeat' first | refine m1 _ _ ?_ ?_ | refine m2 _ _ fun h=>?_ | refine m3 _ ?_ | (refine m4 _ _ (Hd.out ?_);generalize hks:(List.cons _ _:List K)=ks) | (refine m5 _ _ ?_;cbv)
 all_goals (clear m1 m2 m3 m4 m5;cases m0;try dsimp only)
 all_goals try simp only [sm] at *
 obtain ⟨n,hn⟩:∃ n,n=l.length:=⟨_,rfl⟩
 refine ⟨SEx.same (SEx.idx n (fun i=>⟨19,[(0,bL (.tie l)),(1,.v (false,[.fz (.fn g caps)])),(7,bI n),(8,bI i)],[]⟩) (fun i=>rI (zT p (l.drop i) i)) ?_) (by rw [hn];rfl) rfl⟩
 intro i hi ih
 rw [<-hks]
 refine SEx.go (X:=XX) qc (fun n=>qa [] [(2,[0,1,7,8])] n) (fun _=>none) hO 60 ?_
 intro M R L N m0 m1 m2 m3 m4 m5
 cases M
 cbv
 repeat' first | refine m1 _ _ ?_ ?_ | refine m2 _ _ fun h=>?_ | refine m3 _ ?_ | (refine m4 _ _ (Hd.out ?_);try first | rw [hks] | rw [hk2] | rw [hk3]) | (refine m5 _ _ ?_;cbv)
 all_goals (clear m1 m2 m3 m4 m5;cases m0;(try clear hks;try clear hk2;try clear hk3);try dsimp only)
 all_goals try simp only [sm] at *
 all_goals first
  | omega
  | exact ⟨rfl,by cases caps<;>rfl⟩
  | exact ⟨rfl,rfl⟩
  | exact qo (z:=Tie.z) (by omega)
  | (rw [jT (p:=p) (l:=l) (i:=i) Tie.z (by omega) (by first | assumption | exact beq_iff_eq.2 (by assumption))];rfl)
  | (rw [jY (by omega)];rfl)
  | (simp only [qg (show i<9223372036854775807 by omega)];exact ⟨(ih (by omega)).same rfl (by rw [Q5 (p:=p) (l:=l) (i:=i) Tie.z (by omega) (by first | assumption | exact beq_eq_false_iff_ne.2 (by assumption) | (simp_all;done))])⟩)
theorem KI (l:List Tie)(g:FuncId)(caps:List D)(p:Tie->Bool)(hp:∀ q∈l,qe Tryz.prog g (yv q::Ql caps) (rB (p q)))(h1:l.length<=maxLen):qe Tryz.prog 77 [y8 l,aF g caps] (rB (l.any p)):=by
 refine qe.of qc (fn:=Tryz.f77) (c:=Tryz.f77.body.getD .skip) (dr:=fun n=>qa 0 [] n) Tryz.func77 rfl (by kernel_rfl) (by kernel_rfl) (by kernel_rfl) ?_
 obtain ⟨f,hf⟩:∃ f:List Tie->Int,f=fun l=>zT p l 0:=⟨_,rfl⟩
 have hO:qp Tryz.prog (qL [(115,wCl Kq g caps (fun l=>rI (f l)) (fun m=>[ym m l]))]):=by subst hf;exact qb (qbO fun m h=>by obtain rfl:=(h _ (.head _)).out;exact JJ m g caps p hp h1) qd
 refine SEx.go (X:=XX) qc (fun n=>qa [] [] n) (fun _=>none) hO 60 ?_
 intro M R L N m0 m1 m2 m3 m4 m5
 cases M
 cbv
 repeat' first | refine m1 _ _ ?_ ?_ | refine m2 _ _ fun h=>?_ | refine m3 _ ?_ | (refine m4 _ _ (Hd.out ?_);try first | rw [hks] | rw [hk2] | rw [hk3]) | (refine m5 _ _ ?_;cbv)
 all_goals (clear m1 m2 m3 m4 m5;cases m0;(try clear hks;try clear hk2;try clear hk3);try dsimp only)
 all_goals try simp only [sm] at *
 all_goals first
  | exact ⟨rfl⟩
  | (rw [<-vn p l 0,hf];rfl)
theorem Yp (l:List qi)(g:FuncId)(caps:List D)(p:qi->Bool)(hp:∀ q∈l,qe Tryz.prog g (ws q::Ql caps) (rB (p q)))(h1:l.length<=maxLen):qe Tryz.prog 116 [vN l,aF g caps] (rI (zT p l 0)):=by
 refine qe.of qc (fn:=Tryz.f116) (c:=Tryz.f116.body.getD .skip) (dr:=fun n=>qa 0 [] n) Tryz.func116 rfl (by kernel_rfl) (by kernel_rfl) (by kernel_rfl) ?_
 unfold maxLen at h1
 have hO:qp Tryz.prog (qnm JQ g caps l p):=qbW hp
 refine SEx.go (X:=XX) qc (fun n=>qa [] [(2,[0,1,7,8])] n) (fun _=>none) hO 60 ?_
 intro M R L N m0 m1 m2 m3 m4 m5
 cases M
 cbv
 repeat' first | refine m1 _ _ ?_ ?_ | refine m2 _ _ fun h=>?_ | refine m3 _ ?_ | (refine m4 _ _ (Hd.out ?_);generalize hks:(List.cons _ _:List K)=ks) | (refine m5 _ _ ?_;cbv)
 all_goals (clear m1 m2 m3 m4 m5;cases m0;try dsimp only)
 all_goals try simp only [sm] at *
 obtain ⟨n,hn⟩:∃ n,n=l.length:=⟨_,rfl⟩
 refine ⟨SEx.same (SEx.idx n (fun i=>⟨19,[(0,bL (.node false none l)),(1,.v (false,[.fz (.fn g caps)])),(7,bI n),(8,bI i)],[]⟩) (fun i=>rI (zT p (l.drop i) i)) ?_) (by rw [hn];rfl) rfl⟩
 intro i hi ih
 rw [<-hks]
 refine SEx.go (X:=XX) qc (fun n=>qa [] [(2,[0,1,7,8])] n) (fun _=>none) hO 60 ?_
 intro M R L N m0 m1 m2 m3 m4 m5
 cases M
 cbv
 repeat' first | refine m1 _ _ ?_ ?_ | refine m2 _ _ fun h=>?_ | refine m3 _ ?_ | (refine m4 _ _ (Hd.out ?_);try first | rw [hks] | rw [hk2] | rw [hk3]) | (refine m5 _ _ ?_;cbv)
 all_goals (clear m1 m2 m3 m4 m5;cases m0;(try clear hks;try clear hk2;try clear hk3);try dsimp only)
 all_goals try simp only [sm] at *
 all_goals first
  | omega
  | exact ⟨rfl,by cases caps<;>rfl⟩
  | exact ⟨rfl,rfl⟩
  | exact qo (z:=qi.z) (by omega)
  | (rw [jT (p:=p) (l:=l) (i:=i) qi.z (by omega) (by first | assumption | exact beq_iff_eq.2 (by assumption))];rfl)
  | (rw [jY (by omega)];rfl)
  | (simp only [qg (show i<9223372036854775807 by omega)];exact ⟨(ih (by omega)).same rfl (by rw [Q5 (p:=p) (l:=l) (i:=i) qi.z (by omega) (by first | assumption | exact beq_eq_false_iff_ne.2 (by assumption) | (simp_all;done))])⟩)
theorem qjs (l:List Int)(v:Int)(h1:l.length<=maxLen):qe Tryz.prog 118 [aIs l,aI v] (rI (zT (fun x=>v == x) l 0)):=by
 refine qe.of qc (fn:=Tryz.f118) (c:=Tryz.f118.body.getD .skip) (dr:=fun n=>qa 0 [] n) Tryz.func118 rfl (by kernel_rfl) (by kernel_rfl) (by kernel_rfl) ?_
 unfold maxLen at h1
 refine SEx.go (X:=XX) qc (fun n=>qa [] [(2,[0,1,7,8])] n) (fun _=>none) qd 60 ?_
 intro M R L N m0 m1 m2 m3 m4 m5
 cases M
 cbv
 repeat' first | refine m1 _ _ ?_ ?_ | refine m2 _ _ fun h=>?_ | refine m3 _ ?_ | (refine m4 _ _ (Hd.out ?_);generalize hks:(List.cons _ _:List K)=ks) | (refine m5 _ _ ?_;cbv)
 all_goals (clear m1 m2 m3 m4 m5;cases m0;try dsimp only)
 all_goals try simp only [sm] at *
 obtain ⟨n,hn⟩:∃ n,n=l.length:=⟨_,rfl⟩
 refine ⟨SEx.same (SEx.idx n (fun i=>⟨19,[(0,bL (.i l)),(1,bI v),(7,bI n),(8,bI i)],[]⟩) (fun i=>rI (zT (fun x=>v == x) (l.drop i) i)) ?_) (by rw [hn];rfl) rfl⟩
 intro i hi ih
 rw [<-hks]
 refine SEx.go (X:=XX) qc (fun n=>qa [] [(2,[0,1,7,8])] n) (fun _=>none) qd 60 ?_
 intro M R L N m0 m1 m2 m3 m4 m5
 cases M
 cbv
 repeat' first | refine m1 _ _ ?_ ?_ | refine m2 _ _ fun h=>?_ | refine m3 _ ?_ | (refine m4 _ _ (Hd.out ?_);try first | rw [hks] | rw [hk2] | rw [hk3]) | (refine m5 _ _ ?_;cbv)
 all_goals (clear m1 m2 m3 m4 m5;cases m0;(try clear hks;try clear hk2;try clear hk3);try dsimp only)
 all_goals try simp only [sm] at *
 all_goals first
  | omega
  | exact ⟨rfl,by cases caps<;>rfl⟩
  | exact ⟨rfl,rfl⟩
  | exact qo (z:=(0:Int)) (by omega)
  | (rw [jT (p:=fun x=>v == x) (l:=l) (i:=i) (0:Int) (by omega) (by first | assumption | exact beq_iff_eq.2 (by assumption))];rfl)
  | (rw [jY (by omega)];rfl)
  | (simp only [qg (show i<9223372036854775807 by omega)];exact ⟨(ih (by omega)).same rfl (by rw [Q5 (p:=fun x=>v == x) (l:=l) (i:=i) (0:Int) (by omega) (by first | assumption | exact beq_eq_false_iff_ne.2 (by assumption) | (simp_all;done))])⟩)
def qhV (f:List Int->Int->Int):Wr:=w2 kx dcI (fun l v=>rI (f l v)) (fun l _=>[LLe l maxLen])
theorem qgo:qA Tryz.prog 118 (qhV fun l v=>zT (fun x=>v == x) l 0):=qG fun l v h=>qjs l v (h _ (.head _)).out
end Go.Proofs.YtfafehnchmelnaaGreat.Ai
namespace Go.Proofs.YtfafehnchmelnaaGreat.Ai
open Go
set_option maxRecDepth 100000
variable [qf]
def inB (n lo hi:Int):Bool:=decide (lo<=n/\n<=hi)
def bt (s:ByteArray)(i:Nat):Int:=(s[i]?.getD 0).toNat
def qhF (s:ByteArray)(i:Nat):Bool:=decide (97<=bt s i/\bt s i<=122\/i≠0/\48<=bt s i/\bt s i<=57)
def jZ (s:ByteArray)(i:Nat):Bool:=(List.range' i (s.size-i)).all (qhF s)&&decide (1<=s.size/\s.size<=8)
theorem qdU {s:ByteArray}{i:Nat}(h:i<s.size):jZ s i=(qhF s i&&jZ s (i+1)):=by
 unfold jZ
 rw [show s.size-i=(s.size-(i+1))+1 by omega,List.range'_succ,List.all_cons,Bool.and_assoc]
theorem qds {s:ByteArray}{i:Nat}(h:i<s.size)(hc:¬(97<=bt s i/\bt s i<=122\/i≠0/\48<=bt s i/\bt s i<=57)):jZ s i=false:=by
 rw [qdU h,qhF,decide_eq_false hc,Bool.false_and]
theorem qaE {s:ByteArray}{i:Nat}(h:i<s.size)(hc:97<=bt s i/\bt s i<=122\/i≠0/\48<=bt s i/\bt s i<=57):jZ s i=jZ s (i+1):=by
 rw [qdU h,qhF,decide_eq_true hc,Bool.true_and]
theorem qdL {s:ByteArray}{i:Nat}(h:s.size<=i):jZ s i=decide (1<=s.size/\s.size<=8):=by
 unfold jZ
 rw [show s.size-i=0 by omega]
 simp
theorem qmQ (a b c:Int):qe Tryz.prog 39 [aI a,aI b,aI c] (rB (inB a b c)):=by
 refine qe.of qc (fn:=Tryz.f39) (c:=Tryz.f39.body.getD .skip) (dr:=fun n=>qa 0 [] n) Tryz.func39 rfl (by kernel_rfl) (by kernel_rfl) (by kernel_rfl) ?_
 refine SEx.walk (X:=XX) qc (fun n=>qa [] [] n) qd 100 ?_
 intro M R L N hM hR hL hN
 cases M
 cbv
 cases hM
 try dsimp only
 repeat' first | apply And.intro | (intro h;try simp only [Bool.not_eq_true',Bool.not_eq_false',decide_eq_true_eq,decide_eq_false_iff_not,Int.not_le,Int.not_lt,beq_iff_eq,beq_eq_false_iff_ne,ne_eq,Int.ofNat_eq_natCast,Int.toNat_natCast,List.length_replicate,qfb,Nat.sub_zero,List.drop_zero,Cue.eta,Tie.eta,Edge.eta,Qd.eta,qi.eta] at h) | (refine hR _ ?_) | (refine hL _ _ (Hd.out ?_)) | (refine hN _ _ (Hd.out ?_))
 all_goals simp only [jE,inB]
 all_goals (rw [Bool.eq_iff_iff];simp;try omega)
def qrx (f:Int->Int->Int->Bool):Wr:=w3 dcI dcI dcI (fun x y z=>rB (f x y z)) (fun _ _ _=>[])
theorem qoK:qA Tryz.prog 39 (qrx inB):=QL fun x y z _=>qmQ x y z
theorem YW (s:ByteArray)(hs:s.size<=maxLen):qe Tryz.prog 120 [aS s] (rB (jZ s 0)):=by
 refine qe.of qc (fn:=Tryz.f120) (c:=Tryz.f120.body.getD .skip) (dr:=fun n=>qa 0 [] n) Tryz.func120 rfl (by kernel_rfl) (by kernel_rfl) (by kernel_rfl) ?_
 obtain ⟨f,hf⟩:∃ f,f=inB:=⟨_,rfl⟩
 have hO:qp Tryz.prog (qL [(39,qrx f)]):=by subst hf;exact qb qoK qd
 unfold maxLen at hs
 refine SEx.walk (X:=XX) qc (fun n=>qa [] [(2,[0,3])] n) hO 100 ?_
 intro M R L N hM hR hL hN
 cases M
 cbv
 cases hM
 try dsimp only
 refine hL _ _ ?_
 clear hR hL hN R L N
 generalize hks:(List.cons _ _:List K)=ks
 refine SEx.same (SEx.ind (fun i:Nat=>⟨42,[(0,.v (false,[.fz (.str s)])),(3,.v (false,[.fz (.int .i64 i)]))],[]⟩) (fun i=>rB (jZ s i)) (fun i=>i<=s.size) (fun i=>s.size-i) 0 (Nat.zero_le _) ?_) rfl rfl
 intro i hi ih
 rw [<-hks]
 refine SEx.walk (X:=XX) qc (fun n=>qa [] [(2,[0,3])] n) hO 100 ?_
 intro M R L N hM hR hL hN
 cases M
 cbv
 cases hM
 try dsimp only
 repeat' first | apply And.intro | (intro h;try simp only [Bool.not_eq_true',Bool.not_eq_false',decide_eq_true_eq,decide_eq_false_iff_not,Int.not_le,Int.not_lt,beq_iff_eq,beq_eq_false_iff_ne,ne_eq,Int.ofNat_eq_natCast,Int.toNat_natCast,List.length_replicate,qfb,Nat.sub_zero,List.drop_zero,Cue.eta,Tie.eta,Edge.eta,Qd.eta,qi.eta] at h) | (refine hR _ ?_) | (refine hL _ _ (Hd.out ?_)) | (refine hN _ _ (Hd.out ?_))
 all_goals simp only [Int.ofNat_eq_natCast,hks,jE]
 all_goals (try simp only [qg (show i<9223372036854775807 by omega)])
 all_goals first
  | omega
  | (rw [qds]<;>(try unfold bt)<;>omega)
  | (rw [qaE (by omega) (by unfold bt;omega)];exact ⟨ih (i+1) (by omega) (by omega)⟩)
  | (rw [hf,qdL (by omega)];unfold inB;rw [Bool.eq_iff_iff];simp only [decide_eq_true_eq];omega)
theorem Y5 (s:ByteArray)(hs:s.size<=maxLen):qe Tryz.prog 113 [aS s] (rB (jZ s 0)):=by
 refine qe.of qc (fn:=Tryz.f113) (c:=Tryz.f113.body.getD .skip) (dr:=fun n=>qa 0 [(4,22)] n) Tryz.func113 rfl (by kernel_rfl) (by kernel_rfl) (by kernel_rfl) ?_
 unfold maxLen at hs
 refine SEx.walk (X:=XX) qc (fun n=>qa [] [(2,[0,3])] n) qd 100 ?_
 intro M R L N hM hR hL hN
 cases M
 cbv
 cases hM
 try dsimp only
 refine hL _ _ ?_
 clear hR hL hN R L N
 generalize hks:(List.cons _ _:List K)=ks
 refine SEx.same (SEx.ind (fun i:Nat=>⟨50,[(0,.v (false,[.fz (.str s)])),(3,.v (false,[.fz (.int .i64 i)]))],[]⟩) (fun i=>rB (jZ s i)) (fun i=>i<=s.size) (fun i=>s.size-i) 0 (Nat.zero_le _) ?_) rfl rfl
 intro i hi ih
 rw [<-hks]
 refine SEx.walk (X:=XX) qc (fun n=>qa [] [(2,[0,3])] n) qd 100 ?_
 intro M R L N hM hR hL hN
 cases M
 cbv
 cases hM
 try dsimp only
 repeat' first | apply And.intro | (intro h;try simp only [Bool.not_eq_true',Bool.not_eq_false',decide_eq_true_eq,decide_eq_false_iff_not,Int.not_le,Int.not_lt,beq_iff_eq,beq_eq_false_iff_ne,ne_eq,Int.ofNat_eq_natCast,Int.toNat_natCast,List.length_replicate,qfb,Nat.sub_zero,List.drop_zero,Cue.eta,Tie.eta,Edge.eta,Qd.eta,qi.eta] at h) | (refine hR _ ?_) | (refine hL _ _ (Hd.out ?_)) | (refine hN _ _ (Hd.out ?_))
 all_goals simp only [Int.ofNat_eq_natCast,hks,jE]
 all_goals (try simp only [qg (show i<9223372036854775807 by omega)])
 all_goals first
  | omega
  | (rw [qds]<;>(try unfold bt)<;>omega)
  | (rw [qaE (by omega) (by unfold bt;omega)];exact ⟨ih (i+1) (by omega) (by omega)⟩)
  | (rw [qdL (by omega),Bool.eq_iff_iff];simp only [decide_eq_true_eq,Bool.false_eq_true,false_iff];omega)
def qb4 (f:ByteArray->Bool):Wr:=w1 dcS (fun x=>rB (f x)) (fun x=>[qrK x])
theorem qk3:qA Tryz.prog 120 (qb4 (jZ · 0)):=zt fun x h=>YW x (h _ List.mem_cons_self).out
theorem qj7:qA Tryz.prog 113 (qb4 (jZ · 0)):=zt fun x h=>Y5 x (h _ List.mem_cons_self).out
end Go.Proofs.YtfafehnchmelnaaGreat.Ai
namespace Go.Proofs.YtfafehnchmelnaaGreat.Ai
open Go
set_option maxRecDepth 100000
variable [qf]
def szL {α:Type}(l:List α)(n:Int):Int:=if n<l.length then -1 else n-l.length
theorem qkF (l:List Int)(n:Int)(hs:l.length<=maxLen)(hn:0<=n/\n<=9223372036854775807):qe Tryz.prog 84 [aIs l,aI n] (rI (szL l n)):=by
 refine qe.of qc (fn:=Tryz.f84) (c:=Tryz.f84.body.getD .skip) (dr:=fun n=>qa 0 [] n) Tryz.func84 rfl (by kernel_rfl) (by kernel_rfl) (by kernel_rfl) ?_
 unfold maxLen at hs
 refine SEx.go (X:=XX) qc (fun n=>qa [] [] n) (fun _=>none) qd 60 ?_
 intro M R L N m0 m1 m2 m3 m4 m5
 cases M
 cbv
 repeat' first | refine m1 _ _ ?_ ?_ | refine m2 _ _ fun h=>?_ | refine m3 _ ?_ | (refine m4 _ _ (Hd.out ?_);try first | rw [hks] | rw [hk2] | rw [hk3]) | (refine m5 _ _ ?_;cbv)
 all_goals (clear m1 m2 m3 m4 m5;cases m0;(try clear hks;try clear hk2;try clear hk3);try dsimp only)
 all_goals try simp only [sm] at *
 all_goals rw [qy (by omega) (by omega)] at *
 all_goals simp only [JV,szL]
 all_goals split<;>omega
def Zo {α:Type}(z:α)(l:List α)(n i:Nat):List α:=l.take i++List.replicate (n-i) z
theorem Wi {α:Type}{z:α}{l:List α}{n i:Nat}(h:l.length=n)(hi:i<=n):(Zo z l n i).length=n:=by simp [Zo];omega
theorem JS {α:Type}{z d:α}{l:List α}{n i:Nat}(h:l.length=n)(hi:i<n):(Zo z l n i).set i (l.getD i d)=Zo z l n (i+1):=by
 have hl:i<l.length:=by omega
 unfold Zo
 rw [show n-i=(n-(i+1))+1 by omega,List.replicate_succ,List.set_append_right _ _ (by simp;omega)]
 rw [show i-(l.take i).length=0 by simp;omega,List.set_cons_zero,List.take_add_one,List.getElem?_eq_getElem hl]
 simp only [Option.toList_some,List.append_assoc,List.singleton_append,List.getD_eq_getElem?_getD,List.getElem?_eq_getElem hl,Option.getD_some]
theorem vP {α:Type}{z:α}{l:List α}{n:Nat}(h:l.length=n):Zo z l n n=l:=by simp [Zo,<-h]
theorem qjT (l:List Int)(hs:l.length<=1048576):qe Tryz.prog 100 [aIs l] (rIs l):=by
 refine qe.of qc (fn:=Tryz.f100) (c:=Tryz.f100.body.getD .skip) (dr:=fun n=>qa 0 [] n) Tryz.func100 rfl (by kernel_rfl) (by kernel_rfl) (by kernel_rfl) ?_
 refine SEx.go (X:=XX) qc (fun n=>qa [] [(3,[0,3,4])] n) (fun _=>none) qd 60 ?_
 intro M R L N m0 m1 m2 m3 m4 m5
 cases M
 cbv
 repeat' first | refine m1 _ _ ?_ ?_ | refine m2 _ _ fun h=>?_ | refine m3 _ ?_ | (refine m4 _ _ (Hd.out ?_);generalize hks:(List.cons _ _:List K)=ks) | (refine m5 _ _ ?_;cbv)
 all_goals (clear m1 m2 m3 m4 m5;cases m0;try dsimp only)
 all_goals try simp only [sm] at *
 . have:=zm;omega
 generalize hn:l.length=n at *
 refine ⟨SEx.same (SEx.ind (fun i:Nat=>⟨22,[(0,.v (false,[.fz (.sl (.i l))])),(3,.v (false,[.rf (12288,[]) true 0 n])),(4,.v (false,[.fz (.int .i64 i)]))],[(12288,.osl (.i (Zo 0 l n i)))]⟩) (fun _=>rIs l) (fun i=>i<=n) (fun i=>n-i) 0 (Nat.zero_le _) ?_) rfl rfl⟩
 intro i hi ih
 rw [<-hks]
 obtain ⟨fl,hfl⟩:∃ x,x=Zo 0 l n i:=⟨_,rfl⟩
 have hf:=Wi (z:=(0:Int)) hn hi
 rw [<-hfl] at hf ⊢
 refine SEx.go (X:=XX) qc (fun n=>qa [] [(3,[0,3,4])] n) (fun _=>none) qd 60 ?_
 intro M R L N m0 m1 m2 m3 m4 m5
 cases M
 cbv
 repeat' first | refine m1 _ _ ?_ ?_ | refine m2 _ _ fun h=>?_ | refine m3 _ ?_ | (refine m4 _ _ (Hd.out ?_);try first | rw [hks] | rw [hk2] | rw [hk3]) | (refine m5 _ _ ?_;cbv)
 all_goals (clear m1 m2 m3 m4 m5;cases m0;(try clear hks;try clear hk2;try clear hk3);try dsimp only)
 all_goals try simp only [sm] at *
 all_goals first
  | omega
  | (simp only [qg (show i<9223372036854775807 by omega),hfl,JS hn (show i<n by omega)];exact ⟨ih (i+1) (by omega) (by omega)⟩)
  | (obtain rfl:i=n:=by omega
     rw [hfl,vP hn];rfl)
def qiu:Wr:=w1 kx rIs (fun l=>[LLe l 1048576])
theorem qfT:qA Tryz.prog 100 qiu:=zt fun l h=>qjT l (h _ (.head _)).out
def qpb:Wr:=w2 kx dcI (fun l n=>rI (szL l n)) (fun l n=>[LLe l maxLen,qj0 n])
theorem qf8:qA Tryz.prog 84 qpb:=qG fun l n h=>qkF l n (h _ (.head _)).out (h _ (.tail _ (.head _))).out
theorem qkA (l:List Int)(hs:l.length<=maxLen):qe Tryz.prog 109 [aIs l,aIs l] (rB true):=by
 refine qe.of qc (fn:=Tryz.f109) (c:=Tryz.f109.body.getD .skip) (dr:=fun n=>qa 0 [(6,8)] n) Tryz.func109 rfl (by kernel_rfl) (by kernel_rfl) (by kernel_rfl) ?_
 unfold maxLen at hs
 refine SEx.go (X:=XX) qc (fun n=>qa [] [(4,[0,1,5])] n) (fun _=>none) qd 60 ?_
 intro M R L N m0 m1 m2 m3 m4 m5
 cases M
 cbv
 repeat' first | refine m1 _ _ ?_ ?_ | refine m2 _ _ fun h=>?_ | refine m3 _ ?_ | (refine m4 _ _ (Hd.out ?_);generalize hks:(List.cons _ _:List K)=ks) | (refine m5 _ _ ?_;cbv)
 all_goals (clear m1 m2 m3 m4 m5;cases m0;try dsimp only)
 all_goals try simp only [sm] at *
 . exact absurd trivial (by assumption)
 generalize hn:l.length=n at *
 refine ⟨SEx.same (SEx.ind (fun i:Nat=>⟨26,[(0,.v (false,[.fz (.sl (.i l))])),(1,.v (false,[.fz (.sl (.i l))])),(5,.v (false,[.fz (.int .i64 i)]))],[]⟩) (fun _=>rB true) (fun i=>i<=n) (fun i=>n-i) 0 (Nat.zero_le _) ?_) rfl rfl⟩
 intro i hi ih
 rw [<-hks]
 refine SEx.go (X:=XX) qc (fun n=>qa [] [(4,[0,1,5])] n) (fun _=>none) qd 60 ?_
 intro M R L N m0 m1 m2 m3 m4 m5
 cases M
 cbv
 repeat' first | refine m1 _ _ ?_ ?_ | refine m2 _ _ fun h=>?_ | refine m3 _ ?_ | (refine m4 _ _ (Hd.out ?_);try first | rw [hks] | rw [hk2] | rw [hk3]) | (refine m5 _ _ ?_;cbv)
 all_goals (clear m1 m2 m3 m4 m5;cases m0;(try clear hks;try clear hk2;try clear hk3);try dsimp only)
 all_goals try simp only [sm] at *
 all_goals first
  | omega
  | exact absurd trivial (by assumption)
  | rfl
  | (simp only [qg (show i<9223372036854775807 by omega)];exact ⟨ih (i+1) (by omega) (by omega)⟩)
def qiB:Wr:=w2 kx kx (fun _ _=>rB true) (fun l m=>[ym l m,LLe l maxLen])
theorem qfF:qA Tryz.prog 109 qiB:=qG fun l m h=>by
 obtain rfl:=(h _ (.head _)).out
 exact qkA l (h _ (.tail _ (.head _))).out
end Go.Proofs.YtfafehnchmelnaaGreat.Ai
namespace Go.Proofs.YtfafehnchmelnaaGreat.Ai
open Go
set_option maxRecDepth 100000
variable [qf]
def wR (n:Nat):V1 B:=(false,[.rf (lrt 0,[]) true 0 n])
end Go.Proofs.YtfafehnchmelnaaGreat.Ai
namespace Go.Proofs.YtfafehnchmelnaaGreat.Ai
open Go
set_option maxRecDepth 100000
variable [qf]
def pI (l:List Int)(i:Nat):Bool:=decide (1<=l.getD i 0/\l.getD i 0<=3/\(0<i->l.getD (i-1) 0<l.getD i 0))
def okP (l:List Int):Bool:=(List.range l.length).all (pI l)
theorem qma {l:List Int}{i:Nat}(hi:i<l.length)(h:pI l i=false):okP l=false:=by
 unfold okP
 rw [List.all_eq_false]
 exact ⟨i,List.mem_range.2 hi,by rw [h];simp⟩
theorem qbc {l:List Int}(h:∀ j,j<l.length->pI l j=true):okP l=true:=by
 unfold okP
 rw [List.all_eq_true]
 exact fun j hj=>h j (List.mem_range.1 hj)
theorem qpK {l:List Int}{n:Nat}(h:∀ j,j<n->pI l j=true):∀ j,j<n->(j:Int)+1<=l.getD j 0
 | 0,hj=>by have:=of_decide_eq_true (h 0 hj);omega
 | j+1,hj=>by
   have h1:=of_decide_eq_true (h (j+1) hj)
   have h2:=qpK h j (by omega)
   have h3:=h1.2.2 (by omega)
   rw [Nat.add_sub_cancel] at h3
   omega
theorem Yq {l:List Int}{n:Nat}(h:∀ j,j<n->pI l j=true):n<=3:=by
 apply Decidable.byContradiction
 intro hn
 have h1:=qpK h 3 (by omega)
 have h2:=of_decide_eq_true (h 3 (by omega))
 omega
theorem qmN {l:List Int}{i:Nat}(h1:1<=l.getD i 0)(h2:l.getD i 0<=3)(h3:0<i->l.getD (i-1) 0<l.getD i 0):pI l i=true:=decide_eq_true ⟨h1,h2,h3⟩
def kE (a b c:Int):Bool:=decide (b<=a)&&decide (a<=c)
theorem qok (a b c:Int):qe Tryz.prog 39 [aI a,aI b,aI c] (rB (kE a b c)):=by
 refine qe.of qc (fn:=Tryz.f39) (c:=Tryz.f39.body.getD .skip) (dr:=fun n=>qa 0 [] n) Tryz.func39 rfl (by kernel_rfl) (by kernel_rfl) (by kernel_rfl) ?_
 refine SEx.go (X:=XX) qc (fun n=>qa [] [] n) (fun _=>none) qd 60 ?_
 intro M R L N m0 m1 m2 m3 m4 m5
 cases M
 cbv
 repeat' first | refine m1 _ _ ?_ ?_ | refine m2 _ _ fun h=>?_ | refine m3 _ ?_ | (refine m4 _ _ (Hd.out ?_);try first | rw [hks] | rw [hk2] | rw [hk3]) | (refine m5 _ _ ?_;cbv)
 all_goals (clear m1 m2 m3 m4 m5;cases m0;(try clear hks;try clear hk2;try clear hk3);try dsimp only)
 all_goals try simp only [sm] at *
 . simp only [jE,kE]
   rw [decide_eq_true (show b<=a by assumption),Bool.true_and]
 . simp only [jE,kE]
   rw [decide_eq_false (show ¬b<=a by omega),Bool.false_and]
theorem ZG {n:Nat}(h:n<18446744073709551616):IntKind.u64.wrap (n:Int)=(n:Int):=by
 simp [IntKind.wrap,IntKind.bits,IntKind.signed];omega
theorem qdt {m:Nat}(h:m<=3):IntKind.i64.wrap (1 * 2 ^ min m IntKind.i64.bits)=((2 ^ m:Nat):Int):=by
 have:m=0\/m=1\/m=2\/m=3:=by omega
 rcases this with rfl | rfl | rfl | rfl<;>decide
theorem Wk {m:Nat}(h:m<=3):2 ^ m<=8:=by
 have:m=0\/m=1\/m=2\/m=3:=by omega
 rcases this with rfl | rfl | rfl | rfl<;>decide
def qjr (n i:Nat):Int:=IntKind.i64.wrap (1-IntKind.i64.wrap (2 * IntKind.i64.wrap (((BitVec.ofInt IntKind.i64.bits ((n:Int).fdiv (2 ^ min i IntKind.i64.bits)) &&& BitVec.ofInt IntKind.i64.bits 1).toNat:Nat):Int)))
def vU (n i:Nat):List Int:=(List.range i).map (qjr n)
def vh (m n:Nat):List (List Int):=(List.range n).map fun n=>vU n m
theorem qan (n i:Nat):vU n (i+1)=vU n i++[qjr n i]:=by simp [vU,List.range_succ]
theorem qa3 (m n:Nat):vh m (n+1)=vh m n++[vU n m]:=by simp [vh,List.range_succ]
theorem Kw (n i:Nat):(vU n i).length=i:=by simp [vU]
theorem ya (m n:Nat):(vh m n).length=n:=by simp [vh]
def Qr (l:List Int):List (List Int):=if okP l then vh l.length (2 ^ l.length) else []
def qdT (f:Int->Int->Int->Bool):Wr:=w3 dcI dcI dcI (fun a b c=>rB (f a b c)) (fun _ _ _=>[])
theorem ZL:qA Tryz.prog 39 (qdT kE):=QL fun a b c _=>qok a b c
theorem qfU (l:List Int)(h1:l.length<=1048576):qe Tryz.prog 146 [aIs l] (Kl (Qr l)):=by
 refine qe.of qc (fn:=Tryz.f146) (c:=Tryz.f146.body.getD .skip) (dr:=fun n=>qa 0 [] n) Tryz.func146 rfl (by kernel_rfl) (by kernel_rfl) (by kernel_rfl) ?_
 obtain ⟨m,hm⟩:∃ m,m=l.length:=⟨_,rfl⟩
 obtain ⟨r,hr⟩:∃ r,r=Qr l:=⟨_,rfl⟩
 rw [<-hr]
 refine SEx.go (X:=XX) qc (fun n=>qa [] [(2,[0,9,10,11]),(9,[0,5,6]),(13,[0,5,6,7,44,45])] n) (fun _=>none) qd 60 ?_
 intro M R L N m0 m1 m2 m3 m4 m5
 cases M
 cbv
 repeat' first | refine m1 _ _ ?_ ?_ | refine m2 _ _ fun h=>?_ | refine m3 _ ?_ | (refine m4 _ _ (Hd.out ?_);generalize hks:(List.cons _ _:List K)=ks) | (refine m5 _ _ ?_;cbv)
 all_goals (clear m1 m2 m3 m4 m5;cases m0;try dsimp only)
 all_goals try simp only [sm] at *
 refine ⟨SEx.same (SEx.ind (α:=Nat) (fun i=>⟨63,[(0,bL (.i l)),(9,bL (.i l)),(10,bI m),(11,bI i)],[]⟩) (fun _=>Kl r) (fun i=>i<=m/\∀ j,j<i->pI l j=true) (fun i=>m-i) 0 ⟨by omega,fun j h=>by omega⟩ ?_) (by rw [hm];rfl) rfl⟩
 rintro i ⟨hi,hj⟩ ih
 rw [<-hks]
 have hw:0<(i:Int)->IntKind.i64.wrap ((i:Int)-1)=((i-1:Nat):Int):=fun h=>by rw [qy (by omega) (by omega)];omega
 have hbad:i<l.length->pI l i=false->r=[]:=fun h h2=>by rw [hr,Qr,qma h h2];rfl
 have hgo:∀ (h:i<m) (h2:pI l i=true),i+1<=m/\∀ j,j<i+1->pI l j=true:=fun h h2=>⟨h,fun j hj'=>by
  by_cases e:j=i
  . rw [e];exact h2
  . exact hj j (by omega)⟩
 refine SEx.go (X:=XX) qc (fun n=>qa [] [(2,[0,9,10,11]),(9,[0,5,6]),(13,[0,5,6,7,44,45])] n) (fun _=>none) qd 60 ?_
 intro M R L N m0 m1 m2 m3 m4 m5
 cases M
 cbv
 repeat' first | refine m1 _ _ ?_ ?_ | refine m2 _ _ fun h=>?_ | refine m3 _ ?_ | (refine m4 _ _ (Hd.out ?_);first | rw [hks] | generalize hk2:(List.cons _ _:List K)=k2) | (refine m5 _ _ ?_;cbv)
 all_goals (clear m1 m2 m3 m4 m5;cases m0;try dsimp only)
 all_goals try simp only [sm] at *
 all_goals (try rw [hw (by omega)] at *)
 all_goals (try simp only [Int.toNat_natCast] at *)
 all_goals first
  | omega
  | (have hb:=hbad (by omega) (decide_eq_false (by rintro ⟨h1,h2,h3⟩;first | omega | (have:=h3 (by omega);omega)))
     rw [hb];rfl)
  | (have hp:=qmN (l:=l) (i:=i) (by assumption) (by assumption) (fun h=>by first | assumption | (exfalso;omega))
     simp only [qg (show i<9223372036854775807 by omega)]
     exact ⟨(ih (i+1) (hgo (by omega) hp) (by omega)).same rfl rfl⟩)
  | skip
 clear ih hbad hgo hw
 have him:i=m:=by omega
 subst him
 have hm3:i<=3:=Yq hj
 have hrr:r=vh i (2 ^ i):=by rw [hr,Qr,if_pos (qbc (by rw [<-hm];exact hj)),<-hm]
 clear hr hj
 refine ⟨SEx.same (SEx.idx (2 ^ i) (fun n=>⟨63,[(0,bL (.i l)),(5,bR 20480 n),(6,bI n)],[(20480,.osl (.ii true none (vh i n)))]⟩) (fun _=>Kl r) ?_) rfl rfl⟩
 intro n hn ih
 rw [<-hk2]
 obtain ⟨o,ho⟩:∃ o,o=vh i n:=⟨_,rfl⟩
 have hol:o.length=n:=by rw [ho,ya]
 rw [<-ho]
 have hs:IntKind.i64.wrap (1 * 2 ^ min l.length IntKind.i64.bits)=((2 ^ i:Nat):Int):=by rw [<-hm];exact qdt hm3
 have hp:=Wk hm3
 obtain ⟨p,hpp⟩:∃ p,p=2 ^ i:=⟨_,rfl⟩
 rw [<-hpp] at hs hp hn ih hrr
 refine SEx.go (X:=XX) qc (fun n=>qa [] [(2,[0,9,10,11]),(9,[0,5,6]),(13,[0,5,6,7,44,45])] n) (fun _=>none) qd 60 ?_
 intro M R L N m0 m1 m2 m3 m4 m5
 cases M
 cbv
 repeat' first | refine m1 _ _ ?_ ?_ | refine m2 _ _ fun h=>?_ | refine m3 _ ?_ | (refine m4 _ _ (Hd.out ?_);first | rw [hks] | rw [hk2] | generalize hk3:(List.cons _ _:List K)=k3) | (refine m5 _ _ ?_;cbv)
 all_goals (clear m1 m2 m3 m4 m5;cases m0;try dsimp only)
 all_goals try simp only [sm] at *
 all_goals (try rw [hs] at *)
 all_goals first
  | omega
  | (have hnp:n=p:=by omega
     subst hnp
     rw [ho,hrr];rfl)
  | skip
 have hm0:=hm
 obtain ⟨m,hmm⟩:∃ m,m=l.length:=⟨_,rfl⟩
 rw [<-hmm] at hm0 ⊢
 refine ⟨SEx.same (SEx.idx m (fun j=>⟨63,[(0,bL (.i l)),(5,bR 20480 n),(6,bI n),(7,bR 28672 j),(44,bI m),(45,bI j)],[(20480,.osl (.ii true none o)),(28672,.osl (.i (vU n j)))]⟩) (fun _=>Kl r) ?_) rfl rfl⟩
 intro j hj ihj
 rw [<-hk3]
 obtain ⟨w,hw⟩:∃ w,w=vU n j:=⟨_,rfl⟩
 have hwl:w.length=j:=by rw [hw,Kw]
 rw [<-hw]
 refine SEx.go (X:=XX) qc (fun n=>qa [] [(2,[0,9,10,11]),(9,[0,5,6]),(13,[0,5,6,7,44,45])] n) (fun _=>none) qd 60 ?_
 intro M R L N m0 m1 m2 m3 m4 m5
 cases M
 cbv
 repeat' first | refine m1 _ _ ?_ ?_ | refine m2 _ _ fun h=>?_ | refine m3 _ ?_ | (refine m4 _ _ (Hd.out ?_);try first | rw [hks] | rw [hk2] | rw [hk3]) | (refine m5 _ _ ?_;cbv)
 all_goals (clear m1 m2 m3 m4 m5;cases m0;(try clear hks;try clear hk2;try clear hk3);try dsimp only)
 all_goals try simp only [sm] at *
 all_goals first
  | omega
  | rfl
  | (have:=zm;simp only [List.length_cons,List.length_nil];omega)
  | (have ihj':=ihj (by omega)
     simp only [qg (show j<9223372036854775807 by omega)]
     rw [qan,<-hw] at ihj'
     simp only [List.length_append,List.length_cons,List.length_nil,hwl]
     exact ⟨ihj'.same rfl rfl⟩)
  | (have hjm:j=m:=by omega
     have ih':=ih (by omega)
     simp only [qg (show n<9223372036854775807 by omega)]
     rw [qa3,<-ho,hm0,<-hjm,<-hw] at ih'
     simp only [List.length_append,List.length_cons,List.length_nil,hol]
     exact ⟨ih'.same rfl rfl⟩)
theorem qgq (l:List Int)(h1:l.length<=1048576):qe Tryz.prog 123 [aIs l] (Kl (Qr l)):=by
 refine qe.of qc (fn:=Tryz.f123) (c:=Tryz.f123.body.getD .skip) (dr:=fun n=>qa 0 [] n) Tryz.func123 rfl (by kernel_rfl) (by kernel_rfl) (by kernel_rfl) ?_
 obtain ⟨f0,hf0⟩:∃ f,f=kE:=⟨_,rfl⟩
 have hO:qp Tryz.prog (qL [(39,qdT f0)]):=by subst hf0;exact qb ZL qd
 obtain ⟨m,hm⟩:∃ m,m=l.length:=⟨_,rfl⟩
 obtain ⟨r,hr⟩:∃ r,r=Qr l:=⟨_,rfl⟩
 rw [<-hr]
 refine SEx.go (X:=XX) qc (fun n=>qa [] [(2,[0,9,10,11]),(9,[0,5,6]),(13,[0,5,6,7,44,45])] n) (fun _=>none) hO 60 ?_
 intro M R L N m0 m1 m2 m3 m4 m5
 cases M
 cbv
 repeat' first | refine m1 _ _ ?_ ?_ | refine m2 _ _ fun h=>?_ | refine m3 _ ?_ | (refine m4 _ _ (Hd.out ?_);generalize hks:(List.cons _ _:List K)=ks) | (refine m5 _ _ ?_;cbv)
 all_goals (clear m1 m2 m3 m4 m5;cases m0;try dsimp only)
 all_goals try simp only [sm] at *
 refine ⟨SEx.same (SEx.ind (α:=Nat) (fun i=>⟨64,[(0,bL (.i l)),(9,bL (.i l)),(10,bI m),(11,bI i)],[]⟩) (fun _=>Kl r) (fun i=>i<=m/\∀ j,j<i->pI l j=true) (fun i=>m-i) 0 ⟨by omega,fun j h=>by omega⟩ ?_) (by rw [hm];rfl) rfl⟩
 rintro i ⟨hi,hj⟩ ih
 rw [<-hks]
 have hw:0<(i:Int)->IntKind.i64.wrap ((i:Int)-1)=((i-1:Nat):Int):=fun h=>by rw [qy (by omega) (by omega)];omega
 have hbad:i<l.length->pI l i=false->r=[]:=fun h h2=>by rw [hr,Qr,qma h h2];rfl
 have hgo:∀ (h:i<m) (h2:pI l i=true),i+1<=m/\∀ j,j<i+1->pI l j=true:=fun h h2=>⟨h,fun j hj'=>by
  by_cases e:j=i
  . rw [e];exact h2
  . exact hj j (by omega)⟩
 have hft:f0 (l.getD i 0) 1 3=true->1<=l.getD i 0/\l.getD i 0<=3:=by subst hf0;intro h;simpa [kE] using h
 have hff:f0 (l.getD i 0) 1 3=false->¬(1<=l.getD i 0/\l.getD i 0<=3):=by subst hf0;intro h h2;simp only [kE,decide_eq_true h2.1,decide_eq_true h2.2] at h;cases h
 refine SEx.go (X:=XX) qc (fun n=>qa [] [(2,[0,9,10,11]),(9,[0,5,6]),(13,[0,5,6,7,44,45])] n) (fun _=>none) hO 60 ?_
 intro M R L N m0 m1 m2 m3 m4 m5
 cases M
 cbv
 repeat' first | refine m1 _ _ ?_ ?_ | refine m2 _ _ fun h=>?_ | refine m3 _ ?_ | (refine m4 _ _ (Hd.out ?_);first | rw [hks] | generalize hk2:(List.cons _ _:List K)=k2) | (refine m5 _ _ ?_;cbv)
 all_goals (clear m1 m2 m3 m4 m5;cases m0;try dsimp only)
 all_goals try simp only [sm] at *
 all_goals (try (have hA:=hft (by assumption);have hA1:=hA.1;have hA2:=hA.2))
 all_goals (try have hB:=hff (by assumption))
 all_goals (try rw [hw (by omega)] at *)
 all_goals (try simp only [Int.toNat_natCast] at *)
 all_goals first
  | omega
  | (have hb:=hbad (by omega) (decide_eq_false (by rintro ⟨h1,h2,h3⟩;first | omega | (have:=h3 (by omega);omega)))
     rw [hb];rfl)
  | (have hp:=qmN (l:=l) (i:=i) (by assumption) (by assumption) (fun h=>by first | assumption | (exfalso;omega))
     simp only [qg (show i<9223372036854775807 by omega)]
     exact ⟨(ih (i+1) (hgo (by omega) hp) (by omega)).same rfl rfl⟩)
  | skip
 clear ih hbad hgo hw hft hff
 have him:i=m:=by omega
 subst him
 have hm3:i<=3:=Yq hj
 have hrr:r=vh i (2 ^ i):=by rw [hr,Qr,if_pos (qbc (by rw [<-hm];exact hj)),<-hm]
 clear hr hj
 refine ⟨SEx.same (SEx.idx (2 ^ i) (fun n=>⟨64,[(0,bL (.i l)),(5,bR 20480 n),(6,bI n)],[(20480,.osl (.ii true none (vh i n)))]⟩) (fun _=>Kl r) ?_) rfl rfl⟩
 intro n hn ih
 rw [<-hk2]
 obtain ⟨o,ho⟩:∃ o,o=vh i n:=⟨_,rfl⟩
 have hol:o.length=n:=by rw [ho,ya]
 rw [<-ho]
 have hs:IntKind.i64.wrap (1 * 2 ^ min l.length IntKind.i64.bits)=((2 ^ i:Nat):Int):=by rw [<-hm];exact qdt hm3
 have hp:=Wk hm3
 obtain ⟨p,hpp⟩:∃ p,p=2 ^ i:=⟨_,rfl⟩
 rw [<-hpp] at hs hp hn ih hrr
 have hu:IntKind.u64.wrap (l.length:Int)=(l.length:Int):=ZG (by omega)
 refine SEx.go (X:=XX) qc (fun n=>qa [] [(2,[0,9,10,11]),(9,[0,5,6]),(13,[0,5,6,7,44,45])] n) (fun _=>none) hO 60 ?_
 intro M R L N m0 m1 m2 m3 m4 m5
 cases M
 cbv
 repeat' first | refine m1 _ _ ?_ ?_ | refine m2 _ _ fun h=>?_ | refine m3 _ ?_ | (refine m4 _ _ (Hd.out ?_);first | rw [hks] | rw [hk2] | generalize hk3:(List.cons _ _:List K)=k3) | (refine m5 _ _ ?_;cbv)
 all_goals (clear m1 m2 m3 m4 m5;cases m0;try dsimp only)
 all_goals try simp only [sm] at *
 all_goals (try simp only [hu,Int.toNat_natCast] at *)
 all_goals (try rw [hs] at *)
 all_goals first
  | omega
  | (have hnp:n=p:=by omega
     subst hnp
     rw [ho,hrr];rfl)
  | skip
 have hm0:=hm
 obtain ⟨m,hmm⟩:∃ m,m=l.length:=⟨_,rfl⟩
 rw [<-hmm] at hm0 ⊢
 refine ⟨SEx.same (SEx.idx m (fun j=>⟨64,[(0,bL (.i l)),(5,bR 20480 n),(6,bI n),(7,bR 28672 j),(44,bI m),(45,bI j)],[(20480,.osl (.ii true none o)),(28672,.osl (.i (vU n j)))]⟩) (fun _=>Kl r) ?_) rfl rfl⟩
 intro j hj ihj
 rw [<-hk3]
 obtain ⟨w,hw⟩:∃ w,w=vU n j:=⟨_,rfl⟩
 have hwl:w.length=j:=by rw [hw,Kw]
 rw [<-hw]
 have hv:j<m->IntKind.u64.wrap (j:Int)=(j:Int):=fun h=>ZG (by omega)
 refine SEx.go (X:=XX) qc (fun n=>qa [] [(2,[0,9,10,11]),(9,[0,5,6]),(13,[0,5,6,7,44,45])] n) (fun _=>none) hO 60 ?_
 intro M R L N m0 m1 m2 m3 m4 m5
 cases M
 cbv
 repeat' first | refine m1 _ _ ?_ ?_ | refine m2 _ _ fun h=>?_ | refine m3 _ ?_ | (refine m4 _ _ (Hd.out ?_);try first | rw [hks] | rw [hk2] | rw [hk3]) | (refine m5 _ _ ?_;cbv)
 all_goals (clear m1 m2 m3 m4 m5;cases m0;(try clear hks;try clear hk2;try clear hk3);try dsimp only)
 all_goals try simp only [sm] at *
 all_goals (try rw [hv (by omega)] at *)
 all_goals (try simp only [Int.toNat_natCast] at *)
 all_goals first
  | omega
  | rfl
  | trivial
  | (have:=zm;simp only [List.length_cons,List.length_nil];omega)
  | (have ihj':=ihj (by omega)
     simp only [qg (show j<9223372036854775807 by omega)]
     rw [qan,<-hw] at ihj'
     simp only [List.length_append,List.length_cons,List.length_nil,hwl]
     exact ⟨ihj'.same rfl rfl⟩)
  | (have hjm:j=m:=by omega
     have ih':=ih (by omega)
     simp only [qg (show n<9223372036854775807 by omega)]
     rw [qa3,<-ho,hm0,<-hjm,<-hw] at ih'
     simp only [List.length_append,List.length_cons,List.length_nil,hol]
     exact ⟨ih'.same rfl rfl⟩)
theorem V0 (l:List Int):(Qr l).length<=8/\∀ x∈Qr l,x.length<=3:=by
 unfold Qr
 split
 . rename_i h
   have h3:l.length<=3:=by
    unfold okP at h
    rw [List.all_eq_true] at h
    exact Yq (fun j hj=>h j (List.mem_range.2 hj))
   refine ⟨by rw [ya];exact Wk h3,fun x hx=>?_⟩
   simp only [vh,List.mem_map] at hx
   obtain ⟨n,_,rfl⟩:=hx
   rw [Kw];exact h3
 . exact ⟨by simp,fun x hx=>by cases hx⟩
def qn2 (f:List Int->List (List Int)):Wr:=w1 kx (fun l=>Kl (f l)) (fun l=>[LLe l 1048576])
theorem ql2:qA Tryz.prog 123 (qn2 Qr):=zt fun l h=>qgq l (h _ (.head _)).out
theorem qmW:qA Tryz.prog 146 (qn2 Qr):=zt fun l h=>qfU l (h _ (.head _)).out
end Go.Proofs.YtfafehnchmelnaaGreat.Ai
namespace Go.Proofs.YtfafehnchmelnaaGreat.Ai
open Go
set_option maxRecDepth 100000
variable [qf]
def rUs (l:List Int):TV W:=.v (false,[.osl (.i l)])
end Go.Proofs.YtfafehnchmelnaaGreat.Ai
namespace Go.Proofs.YtfafehnchmelnaaGreat.Ai
open Go
set_option maxRecDepth 100000
variable [qf]
structure InX {α:Type}(c:Int)(l:List α):Prop where out:0<=c/\c<l.length
def w8 (n x:Int):Bool:=decide (0<=x/\x<n)
theorem qjv (n m:Int):qe Tryz.prog 74 [aI n,aI m] (rB (w8 n m)):=by
 refine qe.of qc (fn:=Tryz.f74) (c:=Tryz.f74.body.getD .skip) (dr:=fun n=>qa 0 [] n) Tryz.func74 rfl (by kernel_rfl) (by kernel_rfl) (by kernel_rfl) ?_
 refine SEx.go (X:=XX) qc (fun n=>qa [] [] n) (fun _=>none) qd 60 ?_
 intro M R L N m0 m1 m2 m3 m4 m5
 cases M
 cbv
 repeat' first | refine m1 _ _ ?_ ?_ | refine m2 _ _ fun h=>?_ | refine m3 _ ?_ | (refine m4 _ _ (Hd.out ?_);try first | rw [hks] | rw [hk2] | rw [hk3]) | (refine m5 _ _ ?_;cbv)
 all_goals (clear m1 m2 m3 m4 m5;cases m0;(try clear hks;try clear hk2;try clear hk3);try dsimp only)
 all_goals try simp only [sm] at *
 all_goals simp only [jE,w8]
 all_goals (first | (rw [decide_eq_false (by omega)];done) | (symm;apply decide_eq_decide.2;omega) | (rw [Bool.eq_iff_iff];simp;omega))
def qh1 (f:Int->Int->Bool):Wr:=w2 dcI dcI (fun x y=>rB (f x y)) (fun _ _=>[])
theorem qhB:qA Tryz.prog 74 (qh1 w8):=qG fun x y _=>qjv x y
end Go.Proofs.YtfafehnchmelnaaGreat.Ai
namespace Go.Proofs.YtfafehnchmelnaaGreat.Ai
open Go
set_option maxRecDepth 100000
variable [qf]
theorem qkr (l:List Tie)(n:Int)(hs:l.length<=maxLen)(hn:0<=n/\n<=9223372036854775807):qe Tryz.prog 25 [y8 l,aI n] (rI (szL l n)):=by
 refine qe.of qc (fn:=Tryz.f25) (c:=Tryz.f25.body.getD .skip) (dr:=fun n=>qa 0 [] n) Tryz.func25 rfl (by kernel_rfl) (by kernel_rfl) (by kernel_rfl) ?_
 unfold maxLen at hs
 refine SEx.go (X:=XX) qc (fun n=>qa [] [] n) (fun _=>none) qd 60 ?_
 intro M R L N m0 m1 m2 m3 m4 m5
 cases M
 cbv
 repeat' first | refine m1 _ _ ?_ ?_ | refine m2 _ _ fun h=>?_ | refine m3 _ ?_ | (refine m4 _ _ (Hd.out ?_);try first | rw [hks] | rw [hk2] | rw [hk3]) | (refine m5 _ _ ?_;cbv)
 all_goals (clear m1 m2 m3 m4 m5;cases m0;(try clear hks;try clear hk2;try clear hk3);try dsimp only)
 all_goals try simp only [sm] at *
 all_goals rw [qy (by omega) (by omega)] at *
 all_goals simp only [JV,szL]
 all_goals split<;>omega
def qiz (f:List Tie->Int->Int):Wr:=w2 Kq dcI (fun l n=>rI (f l n)) (fun l n=>[LLe l maxLen,qj0 n])
theorem qfP:qA Tryz.prog 25 (qiz szL):=qG fun l n h=>qkr l n (h _ (.head _)).out (h _ (.tail _ (.head _))).out
theorem qlK (q:Tie):qe Tryz.prog 61 [yv q] (qre q):=by
 refine qe.of qc (fn:=Tryz.f61) (c:=Tryz.f61.body.getD .skip) (dr:=fun n=>qa 0 [] n) Tryz.func61 rfl (by kernel_rfl) (by kernel_rfl) (by kernel_rfl) ?_
 obtain ⟨x1,x2,x3,x4,x5⟩:=q
 refine SEx.go (X:=XX) qc (fun n=>qa [] [] n) (fun _=>none) qd 60 ?_
 intro M R L N m0 m1 m2 m3 m4 m5
 cases M
 cbv
 repeat' first | refine m1 _ _ ?_ ?_ | refine m2 _ _ fun h=>?_ | refine m3 _ ?_ | (refine m4 _ _ (Hd.out ?_);try first | rw [hks] | rw [hk2] | rw [hk3]) | (refine m5 _ _ ?_;cbv)
 all_goals (clear m1 m2 m3 m4 m5;cases m0;(try clear hks;try clear hk2;try clear hk3);try dsimp only)
 all_goals try simp only [sm] at *
 all_goals rfl
def qmP:Wr:=w1 yQ qre (fun _=>[])
theorem qjY:qA Tryz.prog 61 qmP:=zt fun q _=>qlK q
theorem qjM (l:List Tie)(hs:l.length<=1048576):qe Tryz.prog 30 [y8 l] (qnj l):=by
 refine qe.of qc (fn:=Tryz.f30) (c:=Tryz.f30.body.getD .skip) (dr:=fun n=>qa 0 [] n) Tryz.func30 rfl (by kernel_rfl) (by kernel_rfl) (by kernel_rfl) ?_
 have hO:qp Tryz.prog (qL [(61,qmP)]):=qb qjY qd
 refine SEx.go (X:=XX) qc (fun n=>qa [] [(3,[0,3,4])] n) (fun _=>none) hO 60 ?_
 intro M R L N m0 m1 m2 m3 m4 m5
 cases M
 cbv
 repeat' first | refine m1 _ _ ?_ ?_ | refine m2 _ _ fun h=>?_ | refine m3 _ ?_ | (refine m4 _ _ (Hd.out ?_);generalize hks:(List.cons _ _:List K)=ks) | (refine m5 _ _ ?_;cbv)
 all_goals (clear m1 m2 m3 m4 m5;cases m0;try dsimp only)
 all_goals try simp only [sm] at *
 . have:=zm;omega
 generalize hn:l.length=n at *
 refine ⟨SEx.same (SEx.idx n (fun i:Nat=>⟨23,[(0,bL (.tie l)),(3,bR 12288 n),(4,bI i)],[(12288,.osl (.tie (Zo ⟨0,0,0,0,false⟩ l n i)))]⟩) (fun _=>qnj l) ?_) rfl rfl⟩
 intro i hi ih
 rw [<-hks]
 obtain ⟨fl,hfl⟩:∃ x,x=Zo (⟨0,0,0,0,false⟩:Tie) l n i:=⟨_,rfl⟩
 have hf:=Wi (z:=(⟨0,0,0,0,false⟩:Tie)) hn hi
 rw [<-hfl] at hf ⊢
 refine SEx.go (X:=XX) qc (fun n=>qa [] [(3,[0,3,4])] n) (fun _=>none) hO 60 ?_
 intro M R L N m0 m1 m2 m3 m4 m5
 cases M
 cbv
 repeat' first | refine m1 _ _ ?_ ?_ | refine m2 _ _ fun h=>?_ | refine m3 _ ?_ | (refine m4 _ _ (Hd.out ?_);try first | rw [hks] | rw [hk2] | rw [hk3]) | (refine m5 _ _ ?_;cbv)
 all_goals (clear m1 m2 m3 m4 m5;cases m0;(try clear hks;try clear hk2;try clear hk3);try dsimp only)
 all_goals try simp only [sm] at *
 all_goals (try simp only [WB] at *)
 all_goals (try omega)
 . simp only [qg (show i<9223372036854775807 by omega),qjJ,qf7,hfl]
   have e:=JS (z:=(⟨0,0,0,0,false⟩:Tie)) (d:=Tie.z) hn (show i<n by omega)
   have ih':=ih (by omega)
   rw [<-e] at ih'
   exact ⟨ih'⟩
 . obtain rfl:i=n:=by omega
   rw [hfl,vP hn];rfl
def qhL:Wr:=w1 Kq qnj (fun l=>[LLe l 1048576])
theorem qhz:qA Tryz.prog 30 qhL:=zt fun l h=>qjM l (h _ (.head _)).out
theorem qmv (q:Tie):qe Tryz.prog 67 [yv q,yv q] (rB true):=by
 refine qe.of qc (fn:=Tryz.f67) (c:=Tryz.f67.body.getD .skip) (dr:=fun n=>qa 0 [] n) Tryz.func67 rfl (by kernel_rfl) (by kernel_rfl) (by kernel_rfl) ?_
 obtain ⟨x1,x2,x3,x4,x5⟩:=q
 refine SEx.go (X:=XX) qc (fun n=>qa [] [] n) (fun _=>none) qd 60 ?_
 intro M R L N m0 m1 m2 m3 m4 m5
 cases M
 cbv
 repeat' first | refine m1 _ _ ?_ ?_ | refine m2 _ _ fun h=>?_ | refine m3 _ ?_ | (refine m4 _ _ (Hd.out ?_);try first | rw [hks] | rw [hk2] | rw [hk3]) | (refine m5 _ _ ?_;cbv)
 all_goals (clear m1 m2 m3 m4 m5;cases m0;(try clear hks;try clear hk2;try clear hk3);try dsimp only)
 all_goals try simp only [sm] at *
 all_goals first
  | exact absurd trivial (by assumption)
  | rfl
  | (exfalso;simp_all;done)
def qlD:Wr:=w2 yQ yQ (fun _ _=>rB true) (fun q r=>[ym q r])
theorem qkX:qA Tryz.prog 67 qlD:=qG fun q r h=>by
 obtain rfl:=(h _ (.head _)).out
 exact qmv q
theorem qjp (l:List Tie)(hs:l.length<=maxLen):qe Tryz.prog 34 [y8 l,y8 l] (rB true):=by
 refine qe.of qc (fn:=Tryz.f34) (c:=Tryz.f34.body.getD .skip) (dr:=fun n=>qa 0 [(6,8)] n) Tryz.func34 rfl (by kernel_rfl) (by kernel_rfl) (by kernel_rfl) ?_
 unfold maxLen at hs
 have hO:qp Tryz.prog (qL [(67,qlD)]):=qb qkX qd
 refine SEx.go (X:=XX) qc (fun n=>qa [] [(4,[0,1,5])] n) (fun _=>none) hO 60 ?_
 intro M R L N m0 m1 m2 m3 m4 m5
 cases M
 cbv
 repeat' first | refine m1 _ _ ?_ ?_ | refine m2 _ _ fun h=>?_ | refine m3 _ ?_ | (refine m4 _ _ (Hd.out ?_);generalize hks:(List.cons _ _:List K)=ks) | (refine m5 _ _ ?_;cbv)
 all_goals (clear m1 m2 m3 m4 m5;cases m0;try dsimp only)
 all_goals try simp only [sm] at *
 . exact absurd trivial (by assumption)
 generalize hn:l.length=n at *
 refine ⟨SEx.same (SEx.idx n (fun i:Nat=>⟨27,[(0,bL (.tie l)),(1,bL (.tie l)),(5,bI i)],[]⟩) (fun _=>rB true) ?_) rfl rfl⟩
 intro i hi ih
 rw [<-hks]
 refine SEx.go (X:=XX) qc (fun n=>qa [] [(4,[0,1,5])] n) (fun _=>none) hO 60 ?_
 intro M R L N m0 m1 m2 m3 m4 m5
 cases M
 cbv
 repeat' first | refine m1 _ _ ?_ ?_ | refine m2 _ _ fun h=>?_ | refine m3 _ ?_ | (refine m4 _ _ (Hd.out ?_);try first | rw [hks] | rw [hk2] | rw [hk3]) | (refine m5 _ _ ?_;cbv)
 all_goals (clear m1 m2 m3 m4 m5;cases m0;(try clear hks;try clear hk2;try clear hk3);try dsimp only)
 all_goals try simp only [sm] at *
 all_goals first
  | omega
  | exact absurd trivial (by assumption)
  | rfl
  | exact ⟨rfl⟩
  | contradiction
  | (simp only [qg (show i<9223372036854775807 by omega)];exact ⟨ih (by omega)⟩)
def qiP:Wr:=w2 Kq Kq (fun _ _=>rB true) (fun l m=>[ym l m,LLe l maxLen])
theorem qgV:qA Tryz.prog 34 qiP:=qG fun l m h=>by
 obtain rfl:=(h _ (.head _)).out
 exact qjp l (h _ (.tail _ (.head _))).out
end Go.Proofs.YtfafehnchmelnaaGreat.Ai
namespace Go.Proofs.YtfafehnchmelnaaGreat.Ai
open Go
set_option maxRecDepth 100000
variable [qf]
def zu (q:qi)(n:Int):Int:=if n<q.name.size then -1 else szL q.label (n-q.name.size)
def qee (g:List Int->Int->Int):Wr:=w2 kx dcI (fun l n=>rI (g l n)) (fun l n=>[LLe l maxLen,qj0 n])
theorem qd7:qA Tryz.prog 84 (qee szL):=qf8
theorem qm3 {α:Type}(l:List α){n:Int}(h:0<=n):szL l n<=n:=by unfold szL;split<;>omega
theorem qkB (q:qi)(n:Int)(hs:q.name.size<=maxLen)(hl:q.label.length<=maxLen)(hn:0<=n/\n<=9223372036854775807):qe Tryz.prog 49 [ws q,aI n] (rI (zu q n)):=by
 refine qe.of qc (fn:=Tryz.f49) (c:=Tryz.f49.body.getD .skip) (dr:=fun n=>qa 0 [] n) Tryz.func49 rfl (by kernel_rfl) (by kernel_rfl) (by kernel_rfl) ?_
 unfold maxLen at hs
 obtain ⟨g,hg⟩:∃ g:List Int->Int->Int,g=szL:=⟨_,rfl⟩
 have hO:qp Tryz.prog (qL [(84,qee g)]):=by subst hg;exact qb qd7 qd
 obtain ⟨x1,x2,x3⟩:=q
 have hs:x1.size<=2 ^ 63-1:=hs
 have hl:x2.length<=maxLen:=hl
 refine SEx.go (X:=XX) qc (fun n=>qa [] [] n) (fun _=>none) hO 60 ?_
 intro M R L N m0 m1 m2 m3 m4 m5
 cases M
 cbv
 repeat' first | refine m1 _ _ ?_ ?_ | refine m2 _ _ fun h=>?_ | refine m3 _ ?_ | (refine m4 _ _ (Hd.out ?_);try first | rw [hks] | rw [hk2] | rw [hk3]) | (refine m5 _ _ ?_;cbv)
 all_goals (clear m1 m2 m3 m4 m5;cases m0;(try clear hks;try clear hk2;try clear hk3);try dsimp only)
 all_goals try simp only [sm] at *
 all_goals (try rw [qy (by omega) (by omega)] at *)
 all_goals first
  | exact ⟨hl⟩
  | exact ⟨⟨by omega,by omega⟩⟩
  | (simp only [JV,zu];rw [if_pos (by omega)];done)
  | (subst hg;simp only [JV,zu];rw [if_neg (by omega)];done)
  | (subst hg;simp only [JV,zu];rw [if_neg (by omega)];unfold szL at *;split<;>omega)
theorem yI (q:qi){n:Int}(h:0<=n):zu q n<=n:=by
 unfold zu
 split
 . omega
 . have:=qm3 q.label (n:=n-q.name.size) (by omega)
   omega
structure Wa (q:qi)(n:Nat):Prop where
 name:q.name.size<=n
 label:q.label.length<=n
theorem qft {q:qi}{n:Int}(h:0<=zu q n):(q.name.size:Int)<=n/\(q.label.length:Int)<=n:=by
 unfold zu szL at h
 split at h
 . omega
 . split at h<;>omega
def qhR (f:qi->Int->Int):Wr:=w2 JQ dcI (fun q n=>rI (f q n)) (fun q n=>[Wa q maxLen,qj0 n])
theorem qgY:qA Tryz.prog 49 (qhR zu):=qG fun q n h=>qkB q n (h _ (.head _)).name (h _ (.head _)).label (h _ (.tail _ (.head _))).out
def szF {α:Type}(f:α->Int->Int):List α->Int->Int
 | [],n=>n
 | q::r,n=>if f q n<0 then -1 else szF f r (f q n)
theorem qdc {α:Type}{f:α->Int->Int}{l:List α}{i:Nat}{m:Int}(z:α)(h:i<l.length):szF f (l.drop i) m=if f (l.getD i z) m<0 then -1 else szF f (l.drop (i+1)) (f (l.getD i z) m):=by
 rw [List.drop_eq_getElem_cons h,zG h]
 rfl
def ke (l:List qi)(n:Int):Int:=if n<l.length then -1 else szF zu l (n-l.length)
theorem qgy (l:List qi)(n:Int)(hs:l.length<=maxLen)(hq:∀ q∈l,Wa q maxLen)(hn:0<=n/\n<=9223372036854775807):qe Tryz.prog 24 [vN l,aI n] (rI (ke l n)):=by
 refine qe.of qc (fn:=Tryz.f24) (c:=Tryz.f24.body.getD .skip) (dr:=fun n=>qa 0 [] n) Tryz.func24 rfl (by kernel_rfl) (by kernel_rfl) (by kernel_rfl) ?_
 unfold maxLen at hs
 obtain ⟨g,hg⟩:∃ g,g=zu:=⟨_,rfl⟩
 have hO:qp Tryz.prog (qL [(49,qhR g)]):=by subst hg;exact qb qgY qd
 refine SEx.go (X:=XX) qc (fun n=>qa [] [(5,[0,1,5])] n) (fun _=>none) hO 60 ?_
 intro M R L N m0 m1 m2 m3 m4 m5
 cases M
 cbv
 repeat' first | refine m1 _ _ ?_ ?_ | refine m2 _ _ fun h=>?_ | refine m3 _ ?_ | (refine m4 _ _ (Hd.out ?_);generalize hks:(List.cons _ _:List K)=ks) | (refine m5 _ _ ?_;cbv)
 all_goals (clear m1 m2 m3 m4 m5;cases m0;try dsimp only)
 all_goals try simp only [sm] at *
 . rw [qy (by omega) (by omega)] at *
   simp only [JV,ke]
   split<;>omega
 rw [qy (by omega) (by omega)] at *
 have h0:0<=n-l.length:=by assumption
 rw [show ke l n=szF zu (l.drop 0) (n-l.length) by unfold ke;rw [if_neg (by omega)];rfl]
 refine ⟨SEx.same (SEx.ind (fun x:Nat×Int=>⟨27,[(0,bL (.node false none l)),(1,.v (false,[.fz (.int .i64 x.2)])),(5,bI x.1)],[]⟩) (fun x=>rI (szF zu (l.drop x.1) x.2)) (fun x=>x.1<=l.length/\0<=x.2/\x.2<=n) (fun x=>l.length-x.1) (0,n-l.length) ⟨by omega,h0,by omega⟩ ?_) rfl rfl⟩
 rintro ⟨i,m⟩ ⟨hi,hm1,hm2⟩ ih
 dsimp only at hi hm1 hm2 ih ⊢
 rw [<-hks]
 refine SEx.go (X:=XX) qc (fun n=>qa [] [(5,[0,1,5])] n) (fun _=>none) hO 60 ?_
 intro M R L N m0 m1 m2 m3 m4 m5
 cases M
 cbv
 repeat' first | refine m1 _ _ ?_ ?_ | refine m2 _ _ fun h=>?_ | refine m3 _ ?_ | (refine m4 _ _ (Hd.out ?_);try first | rw [hks] | rw [hk2] | rw [hk3]) | (refine m5 _ _ ?_;cbv)
 all_goals (clear m1 m2 m3 m4 m5;cases m0;(try clear hks;try clear hk2;try clear hk3);try dsimp only)
 all_goals try simp only [sm] at *
 all_goals first
  | omega
  | exact hq _ (qo (z:=qi.z) (by omega)).out
  | exact ⟨⟨hm1,by omega⟩⟩
  | (subst hg
     have hi':i<l.length:=by omega
     rw [qdc qi.z hi',if_pos (by assumption)]
     rfl)
  | (subst hg
     have hi':i<l.length:=by omega
     have h2:0<=zu (l.getD i qi.z) m:=by assumption
     have h3:=yI (l.getD i qi.z) hm1
     simp only [qg (show i<9223372036854775807 by omega)]
     exact ⟨(ih (i+1,zu (l.getD i qi.z) m) ⟨by show i+1<=l.length;omega,h2,by show zu _ m<=n;omega⟩ (by show l.length-(i+1)<_;omega)).same rfl (by rw [qdc qi.z hi',if_neg (by omega)])⟩)
  | (obtain rfl:i=l.length:=by omega
     rw [List.drop_length]
     rfl)
  | trace_state
theorem qku (q:qi)(hl:q.label.length<=1048576):qe Tryz.prog 60 [ws q] (qpI q):=by
 refine qe.of qc (fn:=Tryz.f60) (c:=Tryz.f60.body.getD .skip) (dr:=fun n=>qa 0 [] n) Tryz.func60 rfl (by kernel_rfl) (by kernel_rfl) (by kernel_rfl) ?_
 have hO:qp Tryz.prog (qL [(100,qiu)]):=qb qfT qd
 obtain ⟨x1,x2,x3⟩:=q
 have hl:x2.length<=1048576:=hl
 refine SEx.go (X:=XX) qc (fun n=>qa [] [] n) (fun _=>none) hO 60 ?_
 intro M R L N m0 m1 m2 m3 m4 m5
 cases M
 cbv
 repeat' first | refine m1 _ _ ?_ ?_ | refine m2 _ _ fun h=>?_ | refine m3 _ ?_ | (refine m4 _ _ (Hd.out ?_);try first | rw [hks] | rw [hk2] | rw [hk3]) | (refine m5 _ _ ?_;cbv)
 all_goals (clear m1 m2 m3 m4 m5;cases m0;(try clear hks;try clear hk2;try clear hk3);try dsimp only)
 all_goals try simp only [sm] at *
 all_goals first
  | rfl
  | exact ⟨hl⟩
theorem qj3 (q:qi)(hl:q.label.length<=maxLen):qe Tryz.prog 66 [ws q,ws q] (rB true):=by
 refine qe.of qc (fn:=Tryz.f66) (c:=Tryz.f66.body.getD .skip) (dr:=fun n=>qa 0 [] n) Tryz.func66 rfl (by kernel_rfl) (by kernel_rfl) (by kernel_rfl) ?_
 have hO:qp Tryz.prog (qL [(109,qiB)]):=qb qfF qd
 obtain ⟨x1,x2,x3⟩:=q
 have hl:x2.length<=maxLen:=hl
 refine SEx.go (X:=XX) qc (fun n=>qa [] [] n) (fun _=>none) hO 60 ?_
 intro M R L N m0 m1 m2 m3 m4 m5
 cases M
 cbv
 repeat' first | refine m1 _ _ ?_ ?_ | refine m2 _ _ fun h=>?_ | refine m3 _ ?_ | (refine m4 _ _ (Hd.out ?_);try first | rw [hks] | rw [hk2] | rw [hk3]) | (refine m5 _ _ ?_;cbv)
 all_goals (clear m1 m2 m3 m4 m5;cases m0;(try clear hks;try clear hk2;try clear hk3);try dsimp only)
 all_goals try simp only [sm] at *
 all_goals first
  | exact absurd trivial (by assumption)
  | rfl
  | exact ⟨rfl⟩
  | exact ⟨hl⟩
  | (exfalso;simp_all;done)
structure qpH (q:qi)(n:Nat):Prop where out:q.label.length<=n
def qiV:Wr:=w1 JQ qpI (fun q=>[qpH q 1048576])
theorem qhy:qA Tryz.prog 60 qiV:=zt fun q h=>qku q (h _ (.head _)).out
def qhU:Wr:=w2 JQ JQ (fun _ _=>rB true) (fun q r=>[ym q r,qpH q maxLen])
theorem qgr:qA Tryz.prog 66 qhU:=qG fun q r h=>by
 obtain rfl:=(h _ (.head _)).out
 exact qj3 q (h _ (.tail _ (.head _))).out
theorem qk7 {fl:List qi}{i:Nat}(h:i<fl.length)(s:ByteArray)(lab:List Int)(w:Int) :
 Wp qi.z ((fl.set i ⟨s,(fl.getD i qi.z).2,(fl.getD i qi.z).3⟩).set i ⟨((fl.set i ⟨s,(fl.getD i qi.z).2,(fl.getD i qi.z).3⟩).getD i qi.z).1,lab,((fl.set i ⟨s,(fl.getD i qi.z).2,(fl.getD i qi.z).3⟩).getD i qi.z).3⟩) i (fun q=>⟨q.name,q.label,w⟩)=fl.set i ⟨s,lab,w⟩:=by
 simp [Wp,List.getD_eq_getElem?_getD,h]
theorem qg1 (l:List qi)(hs:l.length<=1048576)(hl:∀ q∈l,q.label.length<=1048576):qe Tryz.prog 29 [vN l] (qgw l):=by
 refine qe.of qc (fn:=Tryz.f29) (c:=Tryz.f29.body.getD .skip) (dr:=fun n=>qa 0 [] n) Tryz.func29 rfl (by kernel_rfl) (by kernel_rfl) (by kernel_rfl) ?_
 have hO:qp Tryz.prog (qL [(60,qiV)]):=qb qhy qd
 refine SEx.go (X:=XX) qc (fun n=>qa [] [(3,[0,3,4])] n) (fun _=>none) hO 60 ?_
 intro M R L N m0 m1 m2 m3 m4 m5
 cases M
 cbv
 repeat' first | refine m1 _ _ ?_ ?_ | refine m2 _ _ fun h=>?_ | refine m3 _ ?_ | (refine m4 _ _ (Hd.out ?_);generalize hks:(List.cons _ _:List K)=ks) | (refine m5 _ _ ?_;cbv)
 all_goals (clear m1 m2 m3 m4 m5;cases m0;try dsimp only)
 all_goals try simp only [sm] at *
 . have:=zm;omega
 generalize hn:l.length=n at *
 refine ⟨SEx.same (SEx.idx n (fun i:Nat=>⟨23,[(0,bL (.node false none l)),(3,bR 12288 n),(4,bI i)],[(12288,.osl (.node true none (Zo ⟨⟨#[]⟩,[],0⟩ l n i)))]⟩) (fun _=>qgw l) ?_) rfl rfl⟩
 intro i hi ih
 rw [<-hks]
 obtain ⟨fl,hfl⟩:∃ x,x=Zo (⟨⟨#[]⟩,[],0⟩:qi) l n i:=⟨_,rfl⟩
 have hf:=Wi (z:=(⟨⟨#[]⟩,[],0⟩:qi)) hn hi
 rw [<-hfl] at hf ⊢
 refine SEx.go (X:=XX) qc (fun n=>qa [] [(3,[0,3,4])] n) (fun _=>none) hO 60 ?_
 intro M R L N m0 m1 m2 m3 m4 m5
 cases M
 cbv
 repeat' first | refine m1 _ _ ?_ ?_ | refine m2 _ _ fun h=>?_ | refine m3 _ ?_ | (refine m4 _ _ (Hd.out ?_);try first | rw [hks] | rw [hk2] | rw [hk3]) | (refine m5 _ _ ?_;cbv)
 all_goals (clear m1 m2 m3 m4 m5;cases m0;(try clear hks;try clear hk2;try clear hk3);try dsimp only)
 all_goals try simp only [sm] at *
 all_goals (try simp only [List.length_set,WB])
 all_goals (try omega)
 . exact ⟨hl _ (qo (z:=qi.z) (by omega)).out⟩
 . simp only [qg (show i<9223372036854775807 by omega)]
   have e:=JS (z:=(⟨⟨#[]⟩,[],0⟩:qi)) (d:=qi.z) hn (show i<n by omega)
   have ih':=ih (by omega)
   rw [<-e,<-hfl] at ih'
   refine ⟨ih'.same ?_ rfl⟩
   rw [qk7 (by omega)]
   rfl
 . obtain rfl:i=n:=by omega
   rw [hfl,vP hn];rfl
theorem qfC (l:List qi)(hs:l.length<=maxLen)(hl:∀ q∈l,q.label.length<=maxLen):qe Tryz.prog 33 [vN l,vN l] (rB true):=by
 refine qe.of qc (fn:=Tryz.f33) (c:=Tryz.f33.body.getD .skip) (dr:=fun n=>qa 0 [(6,8)] n) Tryz.func33 rfl (by kernel_rfl) (by kernel_rfl) (by kernel_rfl) ?_
 unfold maxLen at hs
 have hO:qp Tryz.prog (qL [(66,qhU)]):=qb qgr qd
 refine SEx.go (X:=XX) qc (fun n=>qa [] [(4,[0,1,5])] n) (fun _=>none) hO 60 ?_
 intro M R L N m0 m1 m2 m3 m4 m5
 cases M
 cbv
 repeat' first | refine m1 _ _ ?_ ?_ | refine m2 _ _ fun h=>?_ | refine m3 _ ?_ | (refine m4 _ _ (Hd.out ?_);generalize hks:(List.cons _ _:List K)=ks) | (refine m5 _ _ ?_;cbv)
 all_goals (clear m1 m2 m3 m4 m5;cases m0;try dsimp only)
 all_goals try simp only [sm] at *
 . exact absurd trivial (by assumption)
 generalize hn:l.length=n at *
 refine ⟨SEx.same (SEx.idx n (fun i:Nat=>⟨27,[(0,bL (.node false none l)),(1,bL (.node false none l)),(5,bI i)],[]⟩) (fun _=>rB true) ?_) rfl rfl⟩
 intro i hi ih
 rw [<-hks]
 refine SEx.go (X:=XX) qc (fun n=>qa [] [(4,[0,1,5])] n) (fun _=>none) hO 60 ?_
 intro M R L N m0 m1 m2 m3 m4 m5
 cases M
 cbv
 repeat' first | refine m1 _ _ ?_ ?_ | refine m2 _ _ fun h=>?_ | refine m3 _ ?_ | (refine m4 _ _ (Hd.out ?_);try first | rw [hks] | rw [hk2] | rw [hk3]) | (refine m5 _ _ ?_;cbv)
 all_goals (clear m1 m2 m3 m4 m5;cases m0;(try clear hks;try clear hk2;try clear hk3);try dsimp only)
 all_goals try simp only [sm] at *
 all_goals first
  | omega
  | exact absurd trivial (by assumption)
  | rfl
  | exact ⟨rfl⟩
  | contradiction
  | exact ⟨hl _ (qo (z:=qi.z) (by omega)).out⟩
  | (simp only [qg (show i<9223372036854775807 by omega)];exact ⟨ih (by omega)⟩)
structure vZ (l:List qi)(n:Nat):Prop where out:∀ q∈l,q.label.length<=n
structure qiw (l:List qi)(n:Nat):Prop where out:∀ q∈l,Wa q n
def qff (f:List qi->Int->Int):Wr:=w2 wv dcI (fun l n=>rI (f l n)) (fun l n=>[LLe l maxLen,qiw l maxLen,qj0 n])
theorem qdm:qA Tryz.prog 24 (qff ke):=qG fun l n h=>qgy l n (h _ (.head _)).out (h _ (.tail _ (.head _))).out (h _ (.tail _ (.tail _ (.head _)))).out
def qc2:Wr:=w1 wv qgw (fun l=>[LLe l 1048576,vZ l 1048576])
theorem qfh:qA Tryz.prog 29 qc2:=zt fun l h=>qg1 l (h _ (.head _)).out (h _ (.tail _ (.head _))).out
def qcV:Wr:=w2 wv wv (fun _ _=>rB true) (fun l m=>[ym l m,LLe l maxLen,vZ l maxLen])
theorem qew:qA Tryz.prog 33 qcV:=qG fun l m h=>by
 obtain rfl:=(h _ (.head _)).out
 exact qfC l (h _ (.tail _ (.head _))).out (h _ (.tail _ (.tail _ (.head _)))).out
end Go.Proofs.YtfafehnchmelnaaGreat.Ai
namespace Go.Proofs.YtfafehnchmelnaaGreat.Ai
open Go
set_option maxRecDepth 100000
variable [qf]
def jt (t:qm)(n:Int):Int:=if ke t.nodes n<0 then -1 else if szL t.ties (ke t.nodes n)<0 then -1 else szL t.ties (ke t.nodes n)
theorem qm9:∀ (l:List qi) (n:Int),0<=n->szF zu l n<=n/\(0<=szF zu l n->∀ q∈l,(q.name.size:Int)<=n/\(q.label.length:Int)<=n)
 | [],n,h=>⟨Int.le_refl _,fun _ q hq=>by cases hq⟩
 | q::r,n,h=>by
   have h0:=yI q h
   unfold szF
   by_cases hn:zu q n<0
   . rw [if_pos hn];exact ⟨by omega,fun h=>by omega⟩
   . rw [if_neg hn]
     have ih:=qm9 r (zu q n) (by omega)
     refine ⟨by omega,fun h1 x hx=>?_⟩
     rcases List.mem_cons.1 hx with rfl | hx
     . exact qft (by omega)
     . have:=ih.2 h1 x hx;omega
theorem WK {l:List qi}{n:Int}(h:0<=n):ke l n<=n/\(0<=ke l n->(l.length:Int)<=n/\∀ q∈l,(q.name.size:Int)<=n/\(q.label.length:Int)<=n):=by
 unfold ke
 split
 . exact ⟨by omega,fun h=>by omega⟩
 . have:=qm9 l (n-l.length) (by omega)
   refine ⟨by omega,fun h1=>⟨by omega,fun q hq=>?_⟩⟩
   have:=this.2 h1 q hq
   omega
theorem qkb (t:qm)(n:Int)(h1:t.nodes.length<=maxLen)(h2:t.ties.length<=maxLen)(h3:∀ q∈t.nodes,Wa q maxLen)(hn:0<=n/\n<=9223372036854775807):qe Tryz.prog 9 [qN t,aI n] (rI (jt t n)):=by
 refine qe.of qc (fn:=Tryz.f9) (c:=Tryz.f9.body.getD .skip) (dr:=fun n=>qa 0 [] n) Tryz.func9 rfl (by kernel_rfl) (by kernel_rfl) (by kernel_rfl) ?_
 obtain ⟨f,hf⟩:∃ f,f=ke:=⟨_,rfl⟩
 obtain ⟨g,hg⟩:∃ g:List Tie->Int->Int,g=szL:=⟨_,rfl⟩
 have hO:qp Tryz.prog (qL [(24,qff f),(25,qiz g)]):=by subst hf hg;exact qb qdm (qb qfP qd)
 obtain ⟨cs,ps,hr⟩:=t
 have h1:cs.length<=maxLen:=h1
 have h2:ps.length<=maxLen:=h2
 have h3:∀ q∈cs,Wa q maxLen:=h3
 have h4:f cs n<=n:=by rw [hf];exact (WK hn.1).1
 refine SEx.go (X:=XX) qc (fun n=>qa [] [] n) (fun _=>none) hO 60 ?_
 intro M R L N m0 m1 m2 m3 m4 m5
 cases M
 cbv
 repeat' first | refine m1 _ _ ?_ ?_ | refine m2 _ _ fun h=>?_ | refine m3 _ ?_ | (refine m4 _ _ (Hd.out ?_);try first | rw [hks] | rw [hk2] | rw [hk3]) | (refine m5 _ _ ?_;cbv)
 all_goals (clear m1 m2 m3 m4 m5;cases m0;(try clear hks;try clear hk2;try clear hk3);try dsimp only)
 all_goals try simp only [sm] at *
 all_goals first
  | exact ⟨h1⟩
  | exact ⟨h2⟩
  | exact ⟨h3⟩
  | exact ⟨hn⟩
  | exact ⟨⟨by omega,by omega⟩⟩
  | (subst hf hg;simp only [JV,jt];rw [if_pos (by assumption)];done)
  | (subst hf hg;simp only [JV,jt];rw [if_neg (by omega),if_pos (by assumption)];done)
  | (subst hf hg;simp only [JV,jt];rw [if_neg (by omega),if_neg (by omega)];done)
  | trace_state
theorem qjt (t:qm)(h1:t.nodes.length<=1048576)(h2:t.ties.length<=1048576)(h3:∀ q∈t.nodes,q.label.length<=1048576):qe Tryz.prog 11 [qN t] (qpG t):=by
 refine qe.of qc (fn:=Tryz.f11) (c:=Tryz.f11.body.getD .skip) (dr:=fun n=>qa 0 [] n) Tryz.func11 rfl (by kernel_rfl) (by kernel_rfl) (by kernel_rfl) ?_
 have hO:qp Tryz.prog (qL [(29,qc2),(30,qhL)]):=qb qfh (qb qhz qd)
 obtain ⟨cs,ps,hr⟩:=t
 have h1:cs.length<=1048576:=h1
 have h2:ps.length<=1048576:=h2
 have h3:∀ q∈cs,q.label.length<=1048576:=h3
 refine SEx.go (X:=XX) qc (fun n=>qa [] [] n) (fun n=>qa none qsd n) hO 8 ?_
 intro M R L N m0 m1 m2 m3 m4 m5
 cases M
 cbv
 repeat' first | refine m1 _ _ ?_ ?_ | refine m2 _ _ fun h=>?_ | refine m3 _ ?_ | (refine m4 _ _ (Hd.out ?_);try first | rw [hks] | rw [hk2] | rw [hk3]) | (refine m5 _ _ ?_;cbv)
 all_goals (clear m1 m2 m3 m4 m5;cases m0;(try clear hks;try clear hk2;try clear hk3);try dsimp only)
 all_goals try simp only [sm] at *
 all_goals first
  | exact ⟨h1⟩
  | exact ⟨h2⟩
  | exact ⟨h3⟩
  | rfl
  | trace_state
theorem qjZ (t:qm)(h1:t.nodes.length<=maxLen)(h2:t.ties.length<=maxLen)(h3:∀ q∈t.nodes,q.label.length<=maxLen):qe Tryz.prog 13 [qN t,qN t] (rB true):=by
 refine qe.of qc (fn:=Tryz.f13) (c:=Tryz.f13.body.getD .skip) (dr:=fun n=>qa 0 [] n) Tryz.func13 rfl (by kernel_rfl) (by kernel_rfl) (by kernel_rfl) ?_
 have hO:qp Tryz.prog (qL [(33,qcV),(34,qiP)]):=qb qew (qb qgV qd)
 obtain ⟨cs,ps,hr⟩:=t
 have h1:cs.length<=maxLen:=h1
 have h2:ps.length<=maxLen:=h2
 have h3:∀ q∈cs,q.label.length<=maxLen:=h3
 refine SEx.go (X:=XX) qc (fun n=>qa [] [] n) (fun _=>none) hO 60 ?_
 intro M R L N m0 m1 m2 m3 m4 m5
 cases M
 cbv
 repeat' first | refine m1 _ _ ?_ ?_ | refine m2 _ _ fun h=>?_ | refine m3 _ ?_ | (refine m4 _ _ (Hd.out ?_);try first | rw [hks] | rw [hk2] | rw [hk3]) | (refine m5 _ _ ?_;cbv)
 all_goals (clear m1 m2 m3 m4 m5;cases m0;(try clear hks;try clear hk2;try clear hk3);try dsimp only)
 all_goals try simp only [sm] at *
 all_goals first
  | exact ⟨h1⟩
  | exact ⟨h2⟩
  | exact ⟨h3⟩
  | exact ⟨rfl⟩
  | rfl
  | contradiction
  | exact absurd trivial (by assumption)
  | trace_state
def qij (f:qm->Int->Int):Wr:=w2 qM dcI (fun t n=>rI (f t n)) (fun t n=>[LLe t.nodes maxLen,LLe t.ties maxLen,qiw t.nodes maxLen,qj0 n])
theorem qfI:qA Tryz.prog 9 (qij jt):=qG fun t n h=>qkb t n (h _ (.head _)).out (h _ (.tail _ (.head _))).out (h _ (.tail _ (.tail _ (.head _)))).out (h _ (.tail _ (.tail _ (.tail _ (.head _))))).out
def qim:Wr:=w1 qM qpG (fun t=>[LLe t.nodes 1048576,LLe t.ties 1048576,vZ t.nodes 1048576])
theorem qg4:qA Tryz.prog 11 qim:=zt fun t h=>qjt t (h _ (.head _)).out (h _ (.tail _ (.head _))).out (h _ (.tail _ (.tail _ (.head _)))).out
def qiO:Wr:=w2 qM qM (fun _ _=>rB true) (fun t u=>[ym t u,LLe t.nodes maxLen,LLe t.ties maxLen,vZ t.nodes maxLen])
theorem qgu:qA Tryz.prog 13 qiO:=qG fun t u h=>by
 obtain rfl:=(h _ (.head _)).out
 exact qjZ t (h _ (.tail _ (.head _))).out (h _ (.tail _ (.tail _ (.head _)))).out (h _ (.tail _ (.tail _ (.tail _ (.head _))))).out
theorem qjN {t:qm}{n:Int}(h0:0<=n)(h:0<=jt t n):(t.nodes.length:Int)<=n/\(t.ties.length:Int)<=n/\(∀ q∈t.nodes,(q.name.size:Int)<=n/\(q.label.length:Int)<=n)/\jt t n<=n:=by
 unfold jt at h ⊢
 have h1:=WK (l:=t.nodes) h0
 split at h
 . omega
 . rename_i ha
   rw [if_neg ha]
   split at h
   . omega
   . rename_i hb
     rw [if_neg hb]
     have h2:=h1.2 (by omega)
     have h3:=qm3 t.ties (n:=ke t.nodes n) (by omega)
     refine ⟨h2.1,?_,h2.2,by omega⟩
     unfold szL at hb
     split at hb<;>omega
end Go.Proofs.YtfafehnchmelnaaGreat.Ai
namespace Go.Proofs.YtfafehnchmelnaaGreat.Ai
open Go
set_option maxRecDepth 100000
variable [qf]
def Vj (p:Nat->Bool)(n:Nat):Bool:=(List.range n).all p
theorem qiN {p:Nat->Bool}{n i:Nat}(hi:i<n)(h:p i=false):Vj p n=false:=by
 unfold Vj
 rw [List.all_eq_false]
 exact ⟨i,List.mem_range.2 hi,by rw [h];simp⟩
theorem ZH {p:Nat->Bool}{n:Nat}(h:∀ j,j<n->p j=true):Vj p n=true:=by
 unfold Vj
 rw [List.all_eq_true]
 exact fun j hj=>h j (List.mem_range.1 hj)
theorem KH {p:Nat->Bool}{n:Nat}(h:Vj p n=true):∀ j,j<n->p j=true:=by
 unfold Vj at h
 rw [List.all_eq_true] at h
 exact fun j hj=>h j (List.mem_range.2 hj)
structure IIn (n:Int):Prop where out:inI n
def zE (n:Int):Int:=if n<0 then IntKind.i64.wrap (-n) else n
theorem qmZ {n:Int}(h:inI n):IntKind.i64.wrap (-n)=if n=-9223372036854775808 then n else -n:=by
 rw [Q0] at h
 split
 . rename_i e;subst e;decide
 . exact qy (by omega) (by omega)
theorem qdW (n:Int):qe Tryz.prog 88 [aI n] (rI (zE n)):=by
 refine qe.of qc (fn:=Tryz.f88) (c:=Tryz.f88.body.getD .skip) (dr:=fun n=>qa 0 [] n) Tryz.func88 rfl (by kernel_rfl) (by kernel_rfl) (by kernel_rfl) ?_
 refine SEx.go (X:=XX) qc (fun n=>qa [] [] n) (fun _=>none) qd 60 ?_
 intro M R L N m0 m1 m2 m3 m4 m5
 cases M
 cbv
 repeat' first | refine m1 _ _ ?_ ?_ | refine m2 _ _ fun h=>?_ | refine m3 _ ?_ | (refine m4 _ _ (Hd.out ?_);try first | rw [hks] | rw [hk2] | rw [hk3]) | (refine m5 _ _ ?_;cbv)
 all_goals (clear m1 m2 m3 m4 m5;cases m0;(try clear hks;try clear hk2;try clear hk3);try dsimp only)
 all_goals try simp only [sm] at *
 . simp only [JV,zE];rw [if_pos (by assumption),Int.zero_sub]
 . simp only [JV,zE];rw [if_neg (by omega)]
theorem qen (n:Int)(h:inI n):qe Tryz.prog 81 [aI n] (rI (zE n)):=by
 refine qe.of qc (fn:=Tryz.f81) (c:=Tryz.f81.body.getD .skip) (dr:=fun n=>qa 0 [] n) Tryz.func81 rfl (by kernel_rfl) (by kernel_rfl) (by kernel_rfl) ?_
 refine SEx.go (X:=XX) qc (fun n=>qa [] [] n) (fun _=>none) qd 60 ?_
 intro M R L N m0 m1 m2 m3 m4 m5
 cases M
 cbv
 repeat' first | refine m1 _ _ ?_ ?_ | refine m2 _ _ fun h=>?_ | refine m3 _ ?_ | (refine m4 _ _ (Hd.out ?_);try first | rw [hks] | rw [hk2] | rw [hk3]) | (refine m5 _ _ ?_;cbv)
 all_goals (clear m1 m2 m3 m4 m5;cases m0;(try clear hks;try clear hk2;try clear hk3);try dsimp only)
 all_goals try simp only [sm] at *
 all_goals simp only [JV,zE,Int.zero_sub]
 all_goals rw [qmZ h]
 all_goals rw [Q0] at h
 all_goals (split<;>split<;>(try split at *)<;>omega)
def W0 (f:Int->Int):Wr:=w1 dcI (fun n=>rI (f n)) (fun n=>[IIn n])
theorem Wb:qA Tryz.prog 88 (W0 zE):=zt fun n _=>qdW n
theorem Wv:qA Tryz.prog 81 (W0 zE):=zt fun n h=>qen n (h _ (.head _)).out
def lP (l:List Int)(i:Nat):Bool:=decide (¬l.getD i 0=0/\-3<=l.getD i 0/\l.getD i 0<=3/\(0<i->zE (l.getD (i-1) 0)<zE (l.getD i 0)))
def qY (l:List Int):Bool:=Vj (lP l) l.length
theorem yE (l:List Int)(h1:l.length<=maxLen)(hx:∀ n∈l,inI n):qe Tryz.prog 114 [aIs l] (rB (qY l)):=by
 refine qe.of qc (fn:=Tryz.f114) (c:=Tryz.f114.body.getD .skip) (dr:=fun n=>qa 0 [] n) Tryz.func114 rfl (by kernel_rfl) (by kernel_rfl) (by kernel_rfl) ?_
 obtain ⟨m,hm⟩:∃ m,m=l.length:=⟨_,rfl⟩
 obtain ⟨r,hr⟩:∃ r,r=qY l:=⟨_,rfl⟩
 obtain ⟨f,hf⟩:∃ f,f=zE:=⟨_,rfl⟩
 have hO:qp Tryz.prog (qL [(81,W0 f)]):=by subst hf;exact qb Wv qd
 unfold maxLen at h1
 rw [<-hr]
 refine SEx.go (X:=XX) qc (fun n=>qa [] [(2,[0,5,6,7])] n) (fun _=>none) hO 60 ?_
 intro M R L N m0 m1 m2 m3 m4 m5
 cases M
 cbv
 repeat' first | refine m1 _ _ ?_ ?_ | refine m2 _ _ fun h=>?_ | refine m3 _ ?_ | (refine m4 _ _ (Hd.out ?_);generalize hks:(List.cons _ _:List K)=ks) | (refine m5 _ _ ?_;cbv)
 all_goals (clear m1 m2 m3 m4 m5;cases m0;try dsimp only)
 all_goals try simp only [sm] at *
 refine ⟨SEx.same (SEx.ind (α:=Nat) (fun i=>⟨38,[(0,bL (.i l)),(5,bL (.i l)),(6,bI m),(7,bI i)],[]⟩) (fun _=>rB r) (fun i=>i<=m/\∀ j,j<i->lP l j=true) (fun i=>m-i) 0 ⟨by omega,fun j h=>by omega⟩ ?_) (by rw [hm];rfl) rfl⟩
 rintro i ⟨hi,hj⟩ ih
 rw [<-hks]
 have hw:0<(i:Int)->IntKind.i64.wrap ((i:Int)-1)=((i-1:Nat):Int):=fun h=>by rw [qy (by omega) (by omega)];omega
 have hbad:i<l.length->lP l i=false->r=false:=fun h h2=>by rw [hr,qY,qiN h h2]
 have hgo:∀ (h:i<m) (h2:lP l i=true),i+1<=m/\∀ j,j<i+1->lP l j=true:=fun h h2=>⟨h,fun j hj'=>by
  by_cases e:j=i
  . rw [e];exact h2
  . exact hj j (by omega)⟩
 refine SEx.go (X:=XX) qc (fun n=>qa [] [(2,[0,5,6,7])] n) (fun _=>none) hO 60 ?_
 intro M R L N m0 m1 m2 m3 m4 m5
 cases M
 cbv
 repeat' first | refine m1 _ _ ?_ ?_ | refine m2 _ _ fun h=>?_ | refine m3 _ ?_ | (refine m4 _ _ (Hd.out ?_);try first | rw [hks] | rw [hk2] | rw [hk3]) | (refine m5 _ _ ?_;cbv)
 all_goals (clear m1 m2 m3 m4 m5;cases m0;(try clear hks;try clear hk2;try clear hk3);try dsimp only)
 all_goals try simp only [sm] at *
 all_goals (try rw [hw (by omega)] at *)
 all_goals (try simp only [Int.toNat_natCast] at *)
 all_goals (clear hO;subst hf)
 all_goals first
  | omega
  | exact ⟨hx _ (qo (z:=(0:Int)) (by omega)).out⟩
  | (have hb:=hbad (by omega) (decide_eq_false (by rintro ⟨h1,h2,h3,h4⟩;first | contradiction | omega | (have:=h4 (by omega);omega)))
     rw [hb];rfl)
  | (have hp:lP l i=true:=decide_eq_true ⟨by assumption,by assumption,by assumption,fun h=>by first | assumption | (exfalso;omega)⟩
     simp only [qg (show i<9223372036854775807 by omega)]
     exact ⟨(ih (i+1) (hgo (by omega) hp) (by omega)).same rfl rfl⟩)
  | (have hee:i=m:=by omega
     subst hee
     rw [hr,qY,ZH (by rw [<-hm];exact hj)];rfl)
theorem yr (l:List Int)(h1:l.length<=maxLen)(hx:∀ n∈l,inI n):qe Tryz.prog 121 [aIs l] (rB (qY l)):=by
 refine qe.of qc (fn:=Tryz.f121) (c:=Tryz.f121.body.getD .skip) (dr:=fun n=>qa 0 [] n) Tryz.func121 rfl (by kernel_rfl) (by kernel_rfl) (by kernel_rfl) ?_
 obtain ⟨m,hm⟩:∃ m,m=l.length:=⟨_,rfl⟩
 obtain ⟨r,hr⟩:∃ r,r=qY l:=⟨_,rfl⟩
 obtain ⟨f0,hf0⟩:∃ f,f=kE:=⟨_,rfl⟩
 obtain ⟨f,hf⟩:∃ f,f=zE:=⟨_,rfl⟩
 have hO:qp Tryz.prog (qL [(39,qdT f0),(88,W0 f)]):=by subst hf hf0;exact qb ZL (qb Wb qd)
 unfold maxLen at h1
 rw [<-hr]
 refine SEx.go (X:=XX) qc (fun n=>qa [] [(2,[0,5,6,7])] n) (fun _=>none) hO 60 ?_
 intro M R L N m0 m1 m2 m3 m4 m5
 cases M
 cbv
 repeat' first | refine m1 _ _ ?_ ?_ | refine m2 _ _ fun h=>?_ | refine m3 _ ?_ | (refine m4 _ _ (Hd.out ?_);generalize hks:(List.cons _ _:List K)=ks) | (refine m5 _ _ ?_;cbv)
 all_goals (clear m1 m2 m3 m4 m5;cases m0;try dsimp only)
 all_goals try simp only [sm] at *
 refine ⟨SEx.same (SEx.ind (α:=Nat) (fun i=>⟨35,[(0,bL (.i l)),(5,bL (.i l)),(6,bI m),(7,bI i)],[]⟩) (fun _=>rB r) (fun i=>i<=m/\∀ j,j<i->lP l j=true) (fun i=>m-i) 0 ⟨by omega,fun j h=>by omega⟩ ?_) (by rw [hm];rfl) rfl⟩
 rintro i ⟨hi,hj⟩ ih
 rw [<-hks]
 have hw:0<(i:Int)->IntKind.i64.wrap ((i:Int)-1)=((i-1:Nat):Int):=fun h=>by rw [qy (by omega) (by omega)];omega
 have hbad:i<l.length->lP l i=false->r=false:=fun h h2=>by rw [hr,qY,qiN h h2]
 have hgo:∀ (h:i<m) (h2:lP l i=true),i+1<=m/\∀ j,j<i+1->lP l j=true:=fun h h2=>⟨h,fun j hj'=>by
  by_cases e:j=i
  . rw [e];exact h2
  . exact hj j (by omega)⟩
 have hft:f0 (l.getD i 0) (-3) 3=true->-3<=l.getD i 0/\l.getD i 0<=3:=by subst hf0;intro h;simpa [kE] using h
 have hff:f0 (l.getD i 0) (-3) 3=false->¬(-3<=l.getD i 0/\l.getD i 0<=3):=by subst hf0;intro h h2;simp only [kE,decide_eq_true h2.1,decide_eq_true h2.2] at h;cases h
 refine SEx.go (X:=XX) qc (fun n=>qa [] [(2,[0,5,6,7])] n) (fun _=>none) hO 60 ?_
 intro M R L N m0 m1 m2 m3 m4 m5
 cases M
 cbv
 repeat' first | refine m1 _ _ ?_ ?_ | refine m2 _ _ fun h=>?_ | refine m3 _ ?_ | (refine m4 _ _ (Hd.out ?_);try first | rw [hks] | rw [hk2] | rw [hk3]) | (refine m5 _ _ ?_;cbv)
 all_goals (clear m1 m2 m3 m4 m5;cases m0;(try clear hks;try clear hk2;try clear hk3);try dsimp only)
 all_goals try simp only [sm] at *
 all_goals (try (have hA:=hft (by assumption);have hA1:=hA.1;have hA2:=hA.2))
 all_goals (try have hB:=hff (by assumption))
 all_goals (try rw [hw (by omega)] at *)
 all_goals (try simp only [Int.toNat_natCast] at *)
 all_goals (clear hO;subst hf)
 all_goals first
  | omega
  | exact ⟨hx _ (qo (z:=(0:Int)) (by omega)).out⟩
  | (have hb:=hbad (by omega) (decide_eq_false (by rintro ⟨h1,h2,h3,h4⟩;first | contradiction | omega | (have:=h4 (by omega);omega)))
     rw [hb];rfl)
  | (have hp:lP l i=true:=decide_eq_true ⟨by assumption,by assumption,by assumption,fun h=>by first | assumption | (exfalso;omega)⟩
     simp only [qg (show i<9223372036854775807 by omega)]
     exact ⟨(ih (i+1) (hgo (by omega) hp) (by omega)).same rfl rfl⟩)
  | (have hee:i=m:=by omega
     subst hee
     rw [hr,qY,ZH (by rw [<-hm];exact hj)];rfl)
structure ZP (l:List Int):Prop where
 len:l.length<=maxLen
 all:∀ n∈l,inI n
def QF (f:List Int->Bool):Wr:=w1 kx (fun l=>rB (f l)) (fun l=>[ZP l])
theorem wo:qA Tryz.prog 121 (QF qY):=zt fun l h=>yr l (h _ (.head _)).len (h _ (.head _)).all
theorem Z4:qA Tryz.prog 114 (QF qY):=zt fun l h=>yE l (h _ (.head _)).len (h _ (.head _)).all
end Go.Proofs.YtfafehnchmelnaaGreat.Ai
namespace Go.Proofs.YtfafehnchmelnaaGreat.Ai
open Go
set_option maxRecDepth 100000
variable [qf]
def Zw (l:List Int)(v:Int):Bool:=decide (0<=zT (fun x=>v == x) l 0)
theorem qnf (l:List Int)(v:Int)(h1:l.length<=maxLen):qe Tryz.prog 82 [aIs l,aI v] (rB (Zw l v)):=by
 refine qe.of qc (fn:=Tryz.f82) (c:=Tryz.f82.body.getD .skip) (dr:=fun n=>qa 0 [] n) Tryz.func82 rfl (by kernel_rfl) (by kernel_rfl) (by kernel_rfl) ?_
 obtain ⟨f,hf⟩:∃ f:List Int->Int->Int,f=fun l v=>zT (fun x=>v == x) l 0:=⟨_,rfl⟩
 have hO:qp Tryz.prog (qL [(118,qhV f)]):=by subst hf;exact qb qgo qd
 refine SEx.go (X:=XX) qc (fun n=>qa [] [] n) (fun _=>none) hO 60 ?_
 intro M R L N m0 m1 m2 m3 m4 m5
 cases M
 cbv
 repeat' first | refine m1 _ _ ?_ ?_ | refine m2 _ _ fun h=>?_ | refine m3 _ ?_ | (refine m4 _ _ (Hd.out ?_);try first | rw [hks] | rw [hk2] | rw [hk3]) | (refine m5 _ _ ?_;cbv)
 all_goals (clear m1 m2 m3 m4 m5;cases m0;(try clear hks;try clear hk2;try clear hk3);try dsimp only)
 all_goals try simp only [sm] at *
 all_goals first
  | exact ⟨h1⟩
  | (subst hf;rfl)
theorem qqn (l:List Int)(v:Int)(h1:l.length<=maxLen):qe Tryz.prog 89 [aIs l,aI v] (rB (Zw l v)):=by
 refine qe.of qc (fn:=Tryz.f89) (c:=Tryz.f89.body.getD .skip) (dr:=fun n=>qa 0 [] n) Tryz.func89 rfl (by kernel_rfl) (by kernel_rfl) (by kernel_rfl) ?_
 unfold maxLen at h1
 obtain ⟨g,hg⟩:∃ g:Nat->Bool,g=fun i=>decide (0<=zT (fun x=>v == x) (l.drop i) i):=⟨_,rfl⟩
 rw [show Zw l v=g 0 by rw [hg];rfl]
 refine SEx.go (X:=XX) qc (fun n=>qa [] [(2,[1,7,8,9])] n) (fun _=>none) qd 60 ?_
 intro M R L N m0 m1 m2 m3 m4 m5
 cases M
 cbv
 repeat' first | refine m1 _ _ ?_ ?_ | refine m2 _ _ fun h=>?_ | refine m3 _ ?_ | (refine m4 _ _ (Hd.out ?_);generalize hks:(List.cons _ _:List K)=ks) | (refine m5 _ _ ?_;cbv)
 all_goals (clear m1 m2 m3 m4 m5;cases m0;try dsimp only)
 all_goals try simp only [sm] at *
 obtain ⟨m,hm⟩:∃ m,m=l.length:=⟨_,rfl⟩
 refine ⟨SEx.same (SEx.idx m (fun i=>⟨17,[(1,bI v),(7,bL (.i l)),(8,bI m),(9,bI i)],[]⟩) (fun i=>rB (g i)) ?_) (by rw [hm];rfl) rfl⟩
 intro i hi ih
 rw [<-hks]
 refine SEx.go (X:=XX) qc (fun n=>qa [] [(2,[1,7,8,9])] n) (fun _=>none) qd 60 ?_
 intro M R L N m0 m1 m2 m3 m4 m5
 cases M
 cbv
 repeat' first | refine m1 _ _ ?_ ?_ | refine m2 _ _ fun h=>?_ | refine m3 _ ?_ | (refine m4 _ _ (Hd.out ?_);try first | rw [hks] | rw [hk2] | rw [hk3]) | (refine m5 _ _ ?_;cbv)
 all_goals (clear m1 m2 m3 m4 m5;cases m0;(try clear hks;try clear hk2;try clear hk3);try dsimp only)
 all_goals try simp only [sm] at *
 all_goals first
  | omega
  | (have hh:l.getD i 0=v:=by assumption
     rw [hg];simp only [jE];rw [jT (z:=(0:Int)) (by omega) (by rw [hh];simp),decide_eq_true (by omega)])
  | (have hh:¬l.getD i 0=v:=by assumption
     simp only [qg (show i<9223372036854775807 by omega)]
     have e:g i=g (i+1):=by rw [hg];simp only;rw [Q5 (z:=(0:Int)) (by omega) (beq_eq_false_iff_ne.2 (fun e=>hh e.symm))]
     exact ⟨(ih (by omega)).same rfl (by rw [e])⟩)
  | (rw [hg];simp only [jE];rw [jY (by omega)];rfl)
  | trace_state
def qfG (f:List Int->Int->Bool):Wr:=w2 kx dcI (fun l v=>rB (f l v)) (fun l _=>[LLe l maxLen])
theorem YF:qA Tryz.prog 89 (qfG Zw):=qG fun l v h=>qqn l v (h _ (.head _)).out
theorem qdK:qA Tryz.prog 82 (qfG Zw):=qG fun l v h=>qnf l v (h _ (.head _)).out
def QN (q:qi):Bool:=jZ q.name 0&&qY q.label&&(decide (0<=q.watch)&&decide (q.watch<=3))
theorem qad (q:qi)(hs:q.name.size<=maxLen)(hl:q.label.length<=maxLen)(hx:∀ n∈q.label,inI n):qe Tryz.prog 85 [ws q] (rB (QN q)):=by
 refine qe.of qc (fn:=Tryz.f85) (c:=Tryz.f85.body.getD .skip) (dr:=fun n=>qa 0 [] n) Tryz.func85 rfl (by kernel_rfl) (by kernel_rfl) (by kernel_rfl) ?_
 obtain ⟨f0,hf0⟩:∃ f,f=kE:=⟨_,rfl⟩
 obtain ⟨f1,hf1⟩:∃ f,f=(jZ · 0):=⟨_,rfl⟩
 obtain ⟨f2,hf2⟩:∃ f,f=qY:=⟨_,rfl⟩
 have hO:qp Tryz.prog (qL [(120,qb4 f1),(121,QF f2),(39,qdT f0)]):=by subst hf0 hf1 hf2;exact qb qk3 (qb wo (qb ZL qd))
 obtain ⟨x1,x2,x3⟩:=q
 refine SEx.go (X:=XX) qc (fun n=>qa [] [] n) (fun _=>none) hO 60 ?_
 intro M R L N m0 m1 m2 m3 m4 m5
 cases M
 cbv
 repeat' first | refine m1 _ _ ?_ ?_ | refine m2 _ _ fun h=>?_ | refine m3 _ ?_ | (refine m4 _ _ (Hd.out ?_);try first | rw [hks] | rw [hk2] | rw [hk3]) | (refine m5 _ _ ?_;cbv)
 all_goals (clear m1 m2 m3 m4 m5;cases m0;(try clear hks;try clear hk2;try clear hk3);try dsimp only)
 all_goals try simp only [sm] at *
 all_goals first
  | exact ⟨hs⟩
  | exact ⟨hl,hx⟩
  | (subst hf0 hf1 hf2;simp only [jE,QN];simp_all [kE];done)
  | trace_state
theorem qab (q:qi)(hs:q.name.size<=maxLen)(hl:q.label.length<=maxLen)(hx:∀ n∈q.label,inI n):qe Tryz.prog 73 [ws q] (rB (QN q)):=by
 refine qe.of qc (fn:=Tryz.f73) (c:=Tryz.f73.body.getD .skip) (dr:=fun n=>qa 0 [] n) Tryz.func73 rfl (by kernel_rfl) (by kernel_rfl) (by kernel_rfl) ?_
 obtain ⟨f1,hf1⟩:∃ f,f=(jZ · 0):=⟨_,rfl⟩
 obtain ⟨f2,hf2⟩:∃ f,f=qY:=⟨_,rfl⟩
 have hO:qp Tryz.prog (qL [(113,qb4 f1),(114,QF f2)]):=by subst hf1 hf2;exact qb qj7 (qb Z4 qd)
 obtain ⟨x1,x2,x3⟩:=q
 refine SEx.go (X:=XX) qc (fun n=>qa [] [] n) (fun _=>none) hO 60 ?_
 intro M R L N m0 m1 m2 m3 m4 m5
 cases M
 cbv
 repeat' first | refine m1 _ _ ?_ ?_ | refine m2 _ _ fun h=>?_ | refine m3 _ ?_ | (refine m4 _ _ (Hd.out ?_);try first | rw [hks] | rw [hk2] | rw [hk3]) | (refine m5 _ _ ?_;cbv)
 all_goals (clear m1 m2 m3 m4 m5;cases m0;(try clear hks;try clear hk2;try clear hk3);try dsimp only)
 all_goals try simp only [sm] at *
 all_goals first
  | exact ⟨hs⟩
  | exact ⟨hl,hx⟩
  | (subst hf1 hf2;simp only [jE,QN];simp_all;done)
  | (subst hf1 hf2;simp only [jE,QN];rw [decide_eq_false (by omega)];simp;done)
  | trace_state
end Go.Proofs.YtfafehnchmelnaaGreat.Ai
namespace Go.Proofs.YtfafehnchmelnaaGreat.Ai
open Go
set_option maxRecDepth 100000
variable [qf]
def qbQ (x:Int):Bool:=decide (-1<=x)&&decide (x<=1)
def qW (l:List Int):Bool:=qD (fun _ x=>qbQ x) l 0&&decide (l.length=3)
theorem YM (n:Int):qe Tryz.prog 139 [aI n] (rB (!qbQ n)):=by
 refine qe.of qc (fn:=Tryz.f139) (c:=Tryz.f139.body.getD .skip) (dr:=fun n=>qa 0 [] n) Tryz.func139 rfl (by kernel_rfl) (by kernel_rfl) (by kernel_rfl) ?_
 refine SEx.go (X:=XX) qc (fun n=>qa [] [] n) (fun _=>none) qd 60 ?_
 intro M R L N m0 m1 m2 m3 m4 m5
 cases M
 cbv
 repeat' first | refine m1 _ _ ?_ ?_ | refine m2 _ _ fun h=>?_ | refine m3 _ ?_ | (refine m4 _ _ (Hd.out ?_);try first | rw [hks] | rw [hk2] | rw [hk3]) | (refine m5 _ _ ?_;cbv)
 all_goals (clear m1 m2 m3 m4 m5;cases m0;(try clear hks;try clear hk2;try clear hk3);try dsimp only)
 all_goals try simp only [sm] at *
 all_goals simp only [jE,qbQ]
 all_goals first
  | (rw [decide_eq_false (show ¬-1<=n by omega)];rfl)
  | (rw [decide_eq_true (show -1<=n by omega)];rw [Bool.eq_iff_iff];simp;done)
theorem Vg (l:List Int)(h1:l.length<=maxLen):qe Tryz.prog 125 [aIs l] (rB (qW l)):=by
 refine qe.of qc (fn:=Tryz.f125) (c:=Tryz.f125.body.getD .skip) (dr:=fun n=>qa 0 [] n) Tryz.func125 rfl (by kernel_rfl) (by kernel_rfl) (by kernel_rfl) ?_
 obtain ⟨f,hf⟩:∃ f:List Int->Bool,f=fun l=>l.any (fun n=>!qbQ n):=⟨_,rfl⟩
 have hO:qp Tryz.prog (qL [(45,wCl kx 139 [] (fun l=>rB (f l)) (fun l=>[LLe l maxLen]))]):=by
  subst hf
  exact qb (qbO fun l h=>ZX l _ _ _ (fun q _=>YM q) (h _ (.head _)).out) qd
 have ha:qD (fun _ x=>qbQ x) l 0=!f l:=by
  rw [hf,show (!List.any l fun n=>!qbQ n)=l.all qbQ by rw [List.not_any_eq_all_not];simp]
  generalize 0=k
  induction l generalizing k with
  | nil=>rfl
  | cons x r ih=>simp only [qD,List.all_cons];rw [ih (by simp at h1;omega)]
 rw [show qW l=(!f l&&decide (l.length=3)) by unfold qW;rw [ha]]
 clear ha hf
 refine SEx.go (X:=XX) qc (fun n=>qa [] [] n) (fun _=>none) hO 60 ?_
 intro M R L N m0 m1 m2 m3 m4 m5
 cases M
 cbv
 repeat' first | refine m1 _ _ ?_ ?_ | refine m2 _ _ fun h=>?_ | refine m3 _ ?_ | (refine m4 _ _ (Hd.out ?_);try first | rw [hks] | rw [hk2] | rw [hk3]) | (refine m5 _ _ ?_;cbv)
 all_goals (clear m1 m2 m3 m4 m5;cases m0;(try clear hks;try clear hk2;try clear hk3);try dsimp only)
 all_goals try simp only [sm] at *
 all_goals first
  | exact ⟨rfl⟩
  | exact ⟨h1⟩
  | (simp only [jE];rw [decide_eq_true (by omega),Bool.and_true];done)
  | (simp only [jE];rw [decide_eq_false (by omega),Bool.and_false];done)
def Wn (f:List Int->Bool):Wr:=w1 kx (fun l=>rB (f l)) (fun l=>[LLe l maxLen])
theorem JM:qA Tryz.prog 125 (Wn qW):=zt fun l h=>Vg l (h _ (.head _)).out
theorem qbT (t:qm)(s:ByteArray)(h1:t.nodes.length<=maxLen):qe Tryz.prog 86 [qN t,aS s] (rI (zT (fun q=>eqS q.name s) t.nodes 0)):=by
 refine qe.of qc (fn:=Tryz.f86) (c:=Tryz.f86.body.getD .skip) (dr:=fun n=>qa 0 [] n) Tryz.func86 rfl (by kernel_rfl) (by kernel_rfl) (by kernel_rfl) ?_
 obtain ⟨cs,ps,hr⟩:=t
 have h1:cs.length<=maxLen:=h1
 unfold maxLen at h1
 show SEx _ _ _ _ _ _ (rI (zT _ cs 0))
 refine SEx.go (X:=XX) qc (fun n=>qa [] [(2,[1,8,9,10])] n) (fun _=>none) qd 60 ?_
 intro M R L N m0 m1 m2 m3 m4 m5
 cases M
 cbv
 repeat' first | refine m1 _ _ ?_ ?_ | refine m2 _ _ fun h=>?_ | refine m3 _ ?_ | (refine m4 _ _ (Hd.out ?_);generalize hks:(List.cons _ _:List K)=ks) | (refine m5 _ _ ?_;cbv)
 all_goals (clear m1 m2 m3 m4 m5;cases m0;try dsimp only)
 all_goals try simp only [sm] at *
 obtain ⟨n,hn⟩:∃ n,n=cs.length:=⟨_,rfl⟩
 refine ⟨SEx.same (SEx.idx n (fun i=>⟨21,[(1,bS s),(8,bL (.node false none cs)),(9,bI n),(10,bI i)],[]⟩) (fun i=>rI (zT (fun q=>eqS q.name s) (cs.drop i) i)) ?_) (by rw [hn];rfl) rfl⟩
 intro i hi ih
 rw [<-hks]
 refine SEx.go (X:=XX) qc (fun n=>qa [] [(2,[1,8,9,10])] n) (fun _=>none) qd 60 ?_
 intro M R L N m0 m1 m2 m3 m4 m5
 cases M
 cbv
 repeat' first | refine m1 _ _ ?_ ?_ | refine m2 _ _ fun h=>?_ | refine m3 _ ?_ | (refine m4 _ _ (Hd.out ?_);try first | rw [hks] | rw [hk2] | rw [hk3]) | (refine m5 _ _ ?_;cbv)
 all_goals (clear m1 m2 m3 m4 m5;cases m0;(try clear hks;try clear hk2;try clear hk3);try dsimp only)
 all_goals try simp only [sm] at *
 all_goals first
  | omega
  | exact ⟨rfl,by cases caps<;>rfl⟩
  | exact ⟨rfl,rfl⟩
  | exact qo (z:=qi.z) (by omega)
  | (rw [jT (p:=fun q=>eqS q.name s) (l:=cs) (i:=i) qi.z (by omega) (by first | assumption | exact beq_iff_eq.2 (by assumption))];rfl)
  | (rw [jY (by omega)];rfl)
  | (simp only [qg (show i<9223372036854775807 by omega)];exact ⟨(ih (by omega)).same rfl (by rw [Q5 (p:=fun q=>eqS q.name s) (l:=cs) (i:=i) qi.z (by omega) (by first | assumption | exact beq_eq_false_iff_ne.2 (by assumption) | (simp_all;done))])⟩)
def qrF (k:Nat):Dc (List Int):=⟨fun s=>aF k [.ptr [.sl (.i s)]],fun | (false,[.fn f [.ptr [.sl (.i s)]]])=>(match nq f k with | true=>some s | false=>none) | _=>none,by
 intro x a h
 split at h
 . split at h
   . rename_i hk
     obtain rfl:=QG.1 hk
     simp only [Option.some.injEq] at h;subst h;rfl
   . cases h
 . cases h⟩
def JN (a b:List Int):Bool:=qY a&&qY b&&b.all (Zw a)
theorem Kx {α:Type}(p:α->Bool):∀ (l:List α) (k:Nat),qD (fun _ x=>p x) l k=l.all p
 | [],_=>rfl
 | a::r,k=>by simp only [qD,List.all_cons,Kx p r]
theorem Vk (x:Int)(a:List Int)(h1:a.length<=maxLen):qe Tryz.prog 119 [aI x,(false,[.ptr [.sl (.i a)]])] (rB (!Zw a x)):=by
 refine qe.of qc (fn:=Tryz.f119) (c:=Tryz.f119.body.getD .skip) (dr:=fun n=>qa 0 [] n) Tryz.func119 rfl (by kernel_rfl) (by kernel_rfl) (by kernel_rfl) ?_
 obtain ⟨f,hf⟩:∃ f,f=Zw:=⟨_,rfl⟩
 have hO:qp Tryz.prog (qL [(82,qfG f)]):=by subst hf;exact qb qdK qd
 rw [<-hf]
 refine SEx.go (X:=XX) qc (fun n=>qa [] [] n) (fun _=>none) hO 60 ?_
 intro M R L N m0 m1 m2 m3 m4 m5
 cases M
 cbv
 repeat' first | refine m1 _ _ ?_ ?_ | refine m2 _ _ fun h=>?_ | refine m3 _ ?_ | (refine m4 _ _ (Hd.out ?_);try first | rw [hks] | rw [hk2] | rw [hk3]) | (refine m5 _ _ ?_;cbv)
 all_goals (clear m1 m2 m3 m4 m5;cases m0;(try clear hks;try clear hk2;try clear hk3);try dsimp only)
 all_goals try simp only [sm] at *
 all_goals first
  | exact ⟨h1⟩
  | rfl
theorem V4 (a b:List Int)(ha:ZP a)(hb:ZP b):qe Tryz.prog 83 [aIs a,aIs b] (rB (JN a b)):=by
 refine qe.of qc (fn:=Tryz.f83) (c:=Tryz.f83.body.getD .skip) (dr:=fun n=>qa 0 [] n) Tryz.func83 rfl (by kernel_rfl) (by kernel_rfl) (by kernel_rfl) ?_
 obtain ⟨f,hf⟩:∃ f,f=qY:=⟨_,rfl⟩
 obtain ⟨g,hg⟩:∃ g:List Int->List Int->Bool,g=fun l a=>l.any (fun x=>!Zw a x):=⟨_,rfl⟩
 have hO:qp Tryz.prog (qL [(114,QF f),(45,w2 kx (qrF 119) (fun l s=>rB (g l s)) (fun l s=>[LLe l maxLen,LLe s maxLen]))]):=by
  subst hf hg
  exact qb Z4 (qb (qG fun l s h=>ZX l _ _ _ (fun q _=>Vk q s (h _ (.tail _ (.head _))).out) (h _ (.head _)).out) qd)
 rw [show JN a b=(f a&&f b&&!g b a) by rw [hf,hg];unfold JN;rw [show (!List.any b fun x=>!Zw a x)=b.all (Zw a) by rw [List.not_any_eq_all_not];simp]]
 clear hf hg
 refine SEx.go (X:=XX) qc (fun n=>qa [] [] n) (fun _=>none) hO 60 ?_
 intro M R L N m0 m1 m2 m3 m4 m5
 cases M
 cbv
 repeat' first | refine m1 _ _ ?_ ?_ | refine m2 _ _ fun h=>?_ | refine m3 _ ?_ | (refine m4 _ _ (Hd.out ?_);try first | rw [hks] | rw [hk2] | rw [hk3]) | (refine m5 _ _ ?_;cbv)
 all_goals (clear m1 m2 m3 m4 m5;cases m0;(try clear hks;try clear hk2;try clear hk3);try dsimp only)
 all_goals try simp only [sm] at *
 all_goals first
  | exact ha
  | exact hb
  | exact ⟨rfl⟩
  | exact ⟨ha.len⟩
  | exact ⟨hb.len⟩
  | (simp only [jE];simp_all;done)
  | trace_state
theorem Yh (a b:List Int)(ha:ZP a)(hb:ZP b):qe Tryz.prog 90 [aIs a,aIs b] (rB (JN a b)):=by
 refine qe.of qc (fn:=Tryz.f90) (c:=Tryz.f90.body.getD .skip) (dr:=fun n=>qa 0 [] n) Tryz.func90 rfl (by kernel_rfl) (by kernel_rfl) (by kernel_rfl) ?_
 obtain ⟨f,hf⟩:∃ f,f=qY:=⟨_,rfl⟩
 obtain ⟨g,hg⟩:∃ f,f=Zw:=⟨_,rfl⟩
 have hO:qp Tryz.prog (qL [(121,QF f),(89,qfG g)]):=by subst hf hg;exact qb wo (qb YF qd)
 rw [show JN a b=(f a&&f b&&qD (fun _ x=>g a x) (b.drop 0) 0) by rw [hf,hg,List.drop_zero,Kx];rfl]
 clear hf hg
 have hal:=ha.len
 have hbl:=hb.len
 unfold maxLen at hbl
 refine SEx.go (X:=XX) qc (fun n=>qa [] [(4,[0,15,16,17])] n) (fun _=>none) hO 60 ?_
 intro M R L N m0 m1 m2 m3 m4 m5
 cases M
 cbv
 repeat' first | refine m1 _ _ ?_ ?_ | refine m2 _ _ fun h=>?_ | refine m3 _ ?_ | (refine m4 _ _ (Hd.out ?_);generalize hks:(List.cons _ _:List K)=ks) | (refine m5 _ _ ?_;cbv)
 all_goals (clear m1 m2 m3 m4 m5;cases m0;try dsimp only)
 all_goals try simp only [sm] at *
 all_goals first
  | exact ha
  | exact hb
  | (simp only [jE];simp_all;done)
  | skip
 rw [show f a=true by assumption,show f b=true by assumption,Bool.true_and,Bool.true_and]
 obtain ⟨m,hm⟩:∃ m,m=b.length:=⟨_,rfl⟩
 refine ⟨SEx.same (SEx.idx m (fun i=>⟨26,[(0,bL (.i a)),(15,bL (.i b)),(16,bI m),(17,bI i)],[]⟩) (fun i=>rB (qD (fun _ x=>g a x) (b.drop i) i)) ?_) (by rw [hm];rfl) rfl⟩
 intro i hi ih
 rw [<-hks]
 refine SEx.go (X:=XX) qc (fun n=>qa [] [(4,[0,15,16,17])] n) (fun _=>none) hO 60 ?_
 intro M R L N m0 m1 m2 m3 m4 m5
 cases M
 cbv
 repeat' first | refine m1 _ _ ?_ ?_ | refine m2 _ _ fun h=>?_ | refine m3 _ ?_ | (refine m4 _ _ (Hd.out ?_);try first | rw [hks] | rw [hk2] | rw [hk3]) | (refine m5 _ _ ?_;cbv)
 all_goals (clear m1 m2 m3 m4 m5;cases m0;(try clear hks;try clear hk2;try clear hk3);try dsimp only)
 all_goals try simp only [sm] at *
 all_goals first
  | omega
  | exact ⟨hal⟩
  | (rw [Vp (p:=fun _ x=>g a x) (l:=b) (i:=i) (0:Int) (by omega) (by assumption)];rfl)
  | (simp only [qg (show i<9223372036854775807 by omega)];exact ⟨(ih (by omega)).same rfl (by rw [wM (p:=fun _ x=>g a x) (l:=b) (i:=i) (0:Int) (by omega) (by assumption)])⟩)
  | (rw [List.drop_eq_nil_of_le (by omega)];rfl)
  | trace_state
def w5 (f:List Int->List Int->Bool):Wr:=w2 kx kx (fun a b=>rB (f a b)) (fun a b=>[ZP a,ZP b])
theorem qcS:qA Tryz.prog 90 (w5 JN):=qG fun a b h=>Yh a b (h _ (.head _)) (h _ (.tail _ (.head _)))
theorem qbI:qA Tryz.prog 83 (w5 JN):=qG fun a b h=>V4 a b (h _ (.head _)) (h _ (.tail _ (.head _)))
end Go.Proofs.YtfafehnchmelnaaGreat.Ai
namespace Go.Proofs.YtfafehnchmelnaaGreat.Ai
open Go
set_option maxRecDepth 100000
variable [qf]
structure qpF (p:Int):Prop where out:0<p
def zo (l:List qi)(p:Int):Int:=zT (fun q=>q.watch == p) l 0
theorem KU (t:qm)(p:Int)(h1:t.nodes.length<=maxLen):qe Tryz.prog 87 [qN t,aI p] (rI (zo t.nodes p)):=by
 refine qe.of qc (fn:=Tryz.f87) (c:=Tryz.f87.body.getD .skip) (dr:=fun n=>qa 0 [] n) Tryz.func87 rfl (by kernel_rfl) (by kernel_rfl) (by kernel_rfl) ?_
 obtain ⟨cs,ps,hr⟩:=t
 have h1:cs.length<=maxLen:=h1
 unfold maxLen at h1
 show SEx _ _ _ _ _ _ (rI (zT _ cs 0))
 refine SEx.go (X:=XX) qc (fun n=>qa [] [(2,[1,8,9,10])] n) (fun _=>none) qd 60 ?_
 intro M R L N m0 m1 m2 m3 m4 m5
 cases M
 cbv
 repeat' first | refine m1 _ _ ?_ ?_ | refine m2 _ _ fun h=>?_ | refine m3 _ ?_ | (refine m4 _ _ (Hd.out ?_);generalize hks:(List.cons _ _:List K)=ks) | (refine m5 _ _ ?_;cbv)
 all_goals (clear m1 m2 m3 m4 m5;cases m0;try dsimp only)
 all_goals try simp only [sm] at *
 obtain ⟨n,hn⟩:∃ n,n=cs.length:=⟨_,rfl⟩
 refine ⟨SEx.same (SEx.idx n (fun i=>⟨21,[(1,bI p),(8,bL (.node false none cs)),(9,bI n),(10,bI i)],[]⟩) (fun i=>rI (zT (fun q=>q.watch == p) (cs.drop i) i)) ?_) (by rw [hn];rfl) rfl⟩
 intro i hi ih
 rw [<-hks]
 refine SEx.go (X:=XX) qc (fun n=>qa [] [(2,[1,8,9,10])] n) (fun _=>none) qd 60 ?_
 intro M R L N m0 m1 m2 m3 m4 m5
 cases M
 cbv
 repeat' first | refine m1 _ _ ?_ ?_ | refine m2 _ _ fun h=>?_ | refine m3 _ ?_ | (refine m4 _ _ (Hd.out ?_);try first | rw [hks] | rw [hk2] | rw [hk3]) | (refine m5 _ _ ?_;cbv)
 all_goals (clear m1 m2 m3 m4 m5;cases m0;(try clear hks;try clear hk2;try clear hk3);try dsimp only)
 all_goals try simp only [sm] at *
 all_goals first
  | omega
  | exact ⟨rfl,by cases caps<;>rfl⟩
  | exact ⟨rfl,rfl⟩
  | exact qo (z:=qi.z) (by omega)
  | (rw [jT (p:=fun q=>q.watch == p) (l:=cs) (i:=i) qi.z (by omega) (by first | assumption | exact beq_iff_eq.2 (by assumption))];rfl)
  | (rw [jY (by omega)];rfl)
  | (simp only [qg (show i<9223372036854775807 by omega)];exact ⟨(ih (by omega)).same rfl (by rw [Q5 (p:=fun q=>q.watch == p) (l:=cs) (i:=i) qi.z (by omega) (by first | assumption | exact beq_eq_false_iff_ne.2 (by assumption) | (simp_all;done))])⟩)
 all_goals trace_state
def qrY (k:Nat):Dc Int:=⟨fun s=>aF k [.ptr [.int .i64 s]],fun | (false,[.fn f [.ptr [.int .i64 s]]])=>(match nq f k with | true=>some s | false=>none) | _=>none,by
 intro x a h
 split at h
 . split at h
   . rename_i hk
     obtain rfl:=QG.1 hk
     simp only [Option.some.injEq] at h;subst h;rfl
   . cases h
 . cases h⟩
theorem Vb (q:qi)(p:Int)(hp:0<p):qe Tryz.prog 117 [ws q,(false,[.ptr [.int .i64 p]])] (rB (q.watch == p)):=by
 refine qe.of qc (fn:=Tryz.f117) (c:=Tryz.f117.body.getD .skip) (dr:=fun n=>qa 0 [] n) Tryz.func117 rfl (by kernel_rfl) (by kernel_rfl) (by kernel_rfl) ?_
 obtain ⟨x1,x2,x3⟩:=q
 refine SEx.go (X:=XX) qc (fun n=>qa [] [] n) (fun _=>none) qd 60 ?_
 intro M R L N m0 m1 m2 m3 m4 m5
 cases M
 cbv
 repeat' first | refine m1 _ _ ?_ ?_ | refine m2 _ _ fun h=>?_ | refine m3 _ ?_ | (refine m4 _ _ (Hd.out ?_);try first | rw [hks] | rw [hk2] | rw [hk3]) | (refine m5 _ _ ?_;cbv)
 all_goals (clear m1 m2 m3 m4 m5;cases m0;(try clear hks;try clear hk2;try clear hk3);try dsimp only)
 all_goals try simp only [sm] at *
 all_goals first
  | rfl
  | (exfalso;omega)
  | trace_state
theorem yb (t:qm)(p:Int)(h1:t.nodes.length<=maxLen)(hp:0<p):qe Tryz.prog 80 [qN t,aI p] (rI (zo t.nodes p)):=by
 refine qe.of qc (fn:=Tryz.f80) (c:=Tryz.f80.body.getD .skip) (dr:=fun n=>qa 0 [] n) Tryz.func80 rfl (by kernel_rfl) (by kernel_rfl) (by kernel_rfl) ?_
 obtain ⟨f,hf⟩:∃ f,f=zo:=⟨_,rfl⟩
 have hO:qp Tryz.prog (qL [(116,w2 wv (qrY 117) (fun l s=>rI (f l s)) (fun l s=>[LLe l maxLen,qpF s]))]):=by
  subst hf
  exact qb (qG fun l s h=>Yp l _ _ _ (fun q _=>Vb q s (h _ (.tail _ (.head _))).out) (h _ (.head _)).out) qd
 obtain ⟨cs,ps,hr⟩:=t
 have h1:cs.length<=maxLen:=h1
 refine SEx.go (X:=XX) qc (fun n=>qa [] [] n) (fun _=>none) hO 60 ?_
 intro M R L N m0 m1 m2 m3 m4 m5
 cases M
 cbv
 repeat' first | refine m1 _ _ ?_ ?_ | refine m2 _ _ fun h=>?_ | refine m3 _ ?_ | (refine m4 _ _ (Hd.out ?_);try first | rw [hks] | rw [hk2] | rw [hk3]) | (refine m5 _ _ ?_;cbv)
 all_goals (clear m1 m2 m3 m4 m5;cases m0;(try clear hks;try clear hk2;try clear hk3);try dsimp only)
 all_goals try simp only [sm] at *
 all_goals first
  | exact ⟨h1⟩
  | exact ⟨hp⟩
  | (subst hf;rfl)
  | trace_state
def Ky (f:List qi->Int->Int):Wr:=w2 qM dcI (fun t p=>rI (f t.nodes p)) (fun t p=>[LLe t.nodes maxLen,qpF p])
theorem qbf:qA Tryz.prog 87 (Ky zo):=qG fun t p h=>KU t p (h _ (.head _)).out
theorem wI:qA Tryz.prog 80 (Ky zo):=qG fun t p h=>yb t p (h _ (.head _)).out (h _ (.tail _ (.head _))).out
end Go.Proofs.YtfafehnchmelnaaGreat.Ai
namespace Go.Proofs.YtfafehnchmelnaaGreat.Ai
open Go
set_option maxRecDepth 100000
variable [qf]
def qcT (n:Int):Bool:=decide (-20<=n)&&decide (n<=20)
theorem qk9 (n:Int):qe Tryz.prog 75 [aI n] (rB (qcT n)):=by
 refine qe.of qc (fn:=Tryz.f75) (c:=Tryz.f75.body.getD .skip) (dr:=fun n=>qa 0 [] n) Tryz.func75 rfl (by kernel_rfl) (by kernel_rfl) (by kernel_rfl) ?_
 refine SEx.go (X:=XX) qc (fun n=>qa [] [] n) (fun _=>none) qd 60 ?_
 intro M R L N m0 m1 m2 m3 m4 m5
 cases M
 cbv
 repeat' first | refine m1 _ _ ?_ ?_ | refine m2 _ _ fun h=>?_ | refine m3 _ ?_ | (refine m4 _ _ (Hd.out ?_);try first | rw [hks] | rw [hk2] | rw [hk3]) | (refine m5 _ _ ?_;cbv)
 all_goals (clear m1 m2 m3 m4 m5;cases m0;(try clear hks;try clear hk2;try clear hk3);try dsimp only)
 all_goals try simp only [sm] at *
 all_goals simp only [jE,qcT]
 all_goals first
  | (rw [decide_eq_false (show ¬-20<=n by omega)];rfl)
  | (rw [decide_eq_true (show -20<=n by omega),Bool.true_and])
def qpw (f:Int->Bool):Wr:=w1 dcI (fun n=>rB (f n)) (fun _=>[])
theorem qnC:qA Tryz.prog 75 (qpw qcT):=zt fun n _=>qk9 n
def Q8 (a b:List Int):Bool:=decide (a.length=b.length)&&qD (fun i x=>x == b.getD i 0) a 0
theorem qhr (a b:List Int)(h1:a.length<=maxLen)(h2:b.length<=maxLen):qe Tryz.prog 91 [aIs a,aIs b] (rB (Q8 a b)):=by
 refine qe.of qc (fn:=Tryz.f91) (c:=Tryz.f91.body.getD .skip) (dr:=fun n=>qa 0 [] n) Tryz.func91 rfl (by kernel_rfl) (by kernel_rfl) (by kernel_rfl) ?_
 unfold maxLen at h1 h2
 rw [show Q8 a b=(decide (a.length=b.length)&&qD (fun i x=>x == b.getD i 0) (a.drop 0) 0) by rw [List.drop_zero];rfl]
 refine SEx.go (X:=XX) qc (fun n=>qa [] [(4,[1,12,13,14])] n) (fun _=>none) qd 60 ?_
 intro M R L N m0 m1 m2 m3 m4 m5
 cases M
 cbv
 repeat' first | refine m1 _ _ ?_ ?_ | refine m2 _ _ fun h=>?_ | refine m3 _ ?_ | (refine m4 _ _ (Hd.out ?_);generalize hks:(List.cons _ _:List K)=ks) | (refine m5 _ _ ?_;cbv)
 all_goals (clear m1 m2 m3 m4 m5;cases m0;try dsimp only)
 all_goals try simp only [sm] at *
 . simp only [jE];rw [decide_eq_false (by omega)];rfl
 have hab:a.length=b.length:=by omega
 rw [decide_eq_true hab,Bool.true_and]
 obtain ⟨m,hm⟩:∃ m,m=a.length:=⟨_,rfl⟩
 refine ⟨SEx.same (SEx.idx m (fun i=>⟨26,[(1,bL (.i b)),(12,bL (.i a)),(13,bI m),(14,bI i)],[]⟩) (fun i=>rB (qD (fun i x=>x == b.getD i 0) (a.drop i) i)) ?_) (by rw [hm];rfl) rfl⟩
 intro i hi ih
 rw [<-hks]
 refine SEx.go (X:=XX) qc (fun n=>qa [] [(4,[1,12,13,14])] n) (fun _=>none) qd 60 ?_
 intro M R L N m0 m1 m2 m3 m4 m5
 cases M
 cbv
 repeat' first | refine m1 _ _ ?_ ?_ | refine m2 _ _ fun h=>?_ | refine m3 _ ?_ | (refine m4 _ _ (Hd.out ?_);try first | rw [hks] | rw [hk2] | rw [hk3]) | (refine m5 _ _ ?_;cbv)
 all_goals (clear m1 m2 m3 m4 m5;cases m0;(try clear hks;try clear hk2;try clear hk3);try dsimp only)
 all_goals try simp only [sm] at *
 all_goals first
  | omega
  | (rw [Vp (p:=fun i x=>x == b.getD i 0) (l:=a) (i:=i) (0:Int) (by omega) (beq_eq_false_iff_ne.2 (by assumption))];rfl)
  | (simp only [qg (show i<9223372036854775807 by omega)];exact ⟨(ih (by omega)).same rfl (by rw [wM (p:=fun i x=>x == b.getD i 0) (l:=a) (i:=i) (0:Int) (by omega) (beq_iff_eq.2 (by assumption))])⟩)
  | (rw [List.drop_eq_nil_of_le (by omega)];rfl)
  | trace_state
theorem qkI (a b:List Int)(h1:a.length<=maxLen)(h2:b.length<=maxLen):qe Tryz.prog 76 [aIs a,aIs b] (rB (Q8 a b)):=by
 refine qe.of qc (fn:=Tryz.f76) (c:=Tryz.f76.body.getD .skip) (dr:=fun n=>qa 0 [(6,8)] n) Tryz.func76 rfl (by kernel_rfl) (by kernel_rfl) (by kernel_rfl) ?_
 unfold maxLen at h1 h2
 rw [show Q8 a b=(decide (a.length=b.length)&&qD (fun i x=>x == b.getD i 0) (a.drop 0) 0) by rw [List.drop_zero];rfl]
 refine SEx.go (X:=XX) qc (fun n=>qa [] [(4,[0,1,12,13])] n) (fun _=>none) qd 60 ?_
 intro M R L N m0 m1 m2 m3 m4 m5
 cases M
 cbv
 repeat' first | refine m1 _ _ ?_ ?_ | refine m2 _ _ fun h=>?_ | refine m3 _ ?_ | (refine m4 _ _ (Hd.out ?_);generalize hks:(List.cons _ _:List K)=ks) | (refine m5 _ _ ?_;cbv)
 all_goals (clear m1 m2 m3 m4 m5;cases m0;try dsimp only)
 all_goals try simp only [sm] at *
 . simp only [jE];rw [decide_eq_false (by omega)];rfl
 have hab:a.length=b.length:=by omega
 rw [decide_eq_true hab,Bool.true_and]
 obtain ⟨m,hm⟩:∃ m,m=a.length:=⟨_,rfl⟩
 refine ⟨SEx.same (SEx.idx m (fun i=>⟨26,[(0,bL (.i a)),(1,bL (.i b)),(12,bI m),(13,bI i)],[]⟩) (fun i=>rB (qD (fun i x=>x == b.getD i 0) (a.drop i) i)) ?_) (by rw [hm];rfl) rfl⟩
 intro i hi ih
 rw [<-hks]
 refine SEx.go (X:=XX) qc (fun n=>qa [] [(4,[0,1,12,13])] n) (fun _=>none) qd 60 ?_
 intro M R L N m0 m1 m2 m3 m4 m5
 cases M
 cbv
 repeat' first | refine m1 _ _ ?_ ?_ | refine m2 _ _ fun h=>?_ | refine m3 _ ?_ | (refine m4 _ _ (Hd.out ?_);try first | rw [hks] | rw [hk2] | rw [hk3]) | (refine m5 _ _ ?_;cbv)
 all_goals (clear m1 m2 m3 m4 m5;cases m0;(try clear hks;try clear hk2;try clear hk3);try dsimp only)
 all_goals try simp only [sm] at *
 all_goals first
  | omega
  | (rw [Vp (p:=fun i x=>x == b.getD i 0) (l:=a) (i:=i) (0:Int) (by omega) (beq_eq_false_iff_ne.2 (by assumption))];rfl)
  | (simp only [qg (show i<9223372036854775807 by omega)];exact ⟨(ih (by omega)).same rfl (by rw [wM (p:=fun i x=>x == b.getD i 0) (l:=a) (i:=i) (0:Int) (by omega) (beq_iff_eq.2 (by assumption))])⟩)
  | (rw [List.drop_eq_nil_of_le (by omega)];rfl)
  | trace_state
theorem qaj:∀ (a c:List Int) (b:List Int) (k:Nat),c=b.drop k->a.length=c.length->(qD (fun i x=>x == b.getD i 0) a k=decide (a=c))
 | [],[],_,_,_,_=>rfl
 | [],_::_,_,_,_,h=>by simp at h
 | _::_,[],_,_,_,h=>by simp at h
 | x::r,y::s,b,k,hc,hl=>by
   have hk:k<b.length:=by
    apply Decidable.byContradiction;intro h
    rw [List.drop_eq_nil_of_le (by omega)] at hc;cases hc
   rw [List.drop_eq_getElem_cons hk] at hc
   injection hc with h1 h2
   unfold qD
   rw [qaj r s b (k+1) h2 (by simpa using hl),List.getD_eq_getElem?_getD,List.getElem?_eq_getElem hk,Option.getD_some,<-h1]
   rw [Bool.eq_iff_iff];simp
theorem qdj (a b:List Int):Q8 a b=decide (a=b):=by
 unfold Q8
 by_cases h:a.length=b.length
 . rw [decide_eq_true h,Bool.true_and,qaj a b b 0 rfl h]
 . rw [decide_eq_false h,Bool.false_and,decide_eq_false (fun e=>h (by rw [e]))]
def qbr (f:List Int->List Int->Bool):Wr:=w2 kx kx (fun a b=>rB (f a b)) (fun a b=>[LLe a maxLen,LLe b maxLen])
theorem qkS:qA Tryz.prog 91 (qbr Q8):=qG fun a b h=>qhr a b (h _ (.head _)).out (h _ (.tail _ (.head _))).out
theorem qjy:qA Tryz.prog 76 (qbr Q8):=qG fun a b h=>qkI a b (h _ (.head _)).out (h _ (.tail _ (.head _))).out
structure YE (q:qi):Prop where
 name:q.name.size<=maxLen
 len:q.label.length<=maxLen
 all:∀ n∈q.label,inI n
def Vr (f:qi->Bool):Wr:=w1 JQ (fun q=>rB (f q)) (fun q=>[YE q])
theorem qde:qA Tryz.prog 85 (Vr QN):=zt fun q h=>qad q (h _ (.head _)).name (h _ (.head _)).len (h _ (.head _)).all
theorem qeN:qA Tryz.prog 73 (Vr QN):=zt fun q h=>qab q (h _ (.head _)).name (h _ (.head _)).len (h _ (.head _)).all
end Go.Proofs.YtfafehnchmelnaaGreat.Ai
namespace Go.Proofs.YtfafehnchmelnaaGreat.Ai
open Go
set_option maxRecDepth 100000
variable [qf]
def Ku (l:List Tie)(x:Int):Int:=zT (fun q=>q.free&&q.dst == x) l 0
theorem qeT (t:qm)(x:Int)(h1:t.ties.length<=maxLen):qe Tryz.prog 92 [qN t,aI x] (rI (Ku t.ties x)):=by
 refine qe.of qc (fn:=Tryz.f92) (c:=Tryz.f92.body.getD .skip) (dr:=fun n=>qa 0 [] n) Tryz.func92 rfl (by kernel_rfl) (by kernel_rfl) (by kernel_rfl) ?_
 obtain ⟨ns,cs,hr⟩:=t
 have h1:cs.length<=maxLen:=h1
 unfold maxLen at h1
 show SEx _ _ _ _ _ _ (rI (zT _ cs 0))
 refine SEx.go (X:=XX) qc (fun n=>qa [] [(2,[1,8,9,10])] n) (fun _=>none) qd 60 ?_
 intro M R L N m0 m1 m2 m3 m4 m5
 cases M
 cbv
 repeat' first | refine m1 _ _ ?_ ?_ | refine m2 _ _ fun h=>?_ | refine m3 _ ?_ | (refine m4 _ _ (Hd.out ?_);generalize hks:(List.cons _ _:List K)=ks) | (refine m5 _ _ ?_;cbv)
 all_goals (clear m1 m2 m3 m4 m5;cases m0;try dsimp only)
 all_goals try simp only [sm] at *
 obtain ⟨n,hn⟩:∃ n,n=cs.length:=⟨_,rfl⟩
 refine ⟨SEx.same (SEx.idx n (fun i=>⟨25,[(1,bI x),(8,bL (.tie cs)),(9,bI n),(10,bI i)],[]⟩) (fun i=>rI (zT (fun q=>q.free&&q.dst == x) (cs.drop i) i)) ?_) (by rw [hn];rfl) rfl⟩
 intro i hi ih
 rw [<-hks]
 refine SEx.go (X:=XX) qc (fun n=>qa [] [(2,[1,8,9,10])] n) (fun _=>none) qd 60 ?_
 intro M R L N m0 m1 m2 m3 m4 m5
 cases M
 cbv
 repeat' first | refine m1 _ _ ?_ ?_ | refine m2 _ _ fun h=>?_ | refine m3 _ ?_ | (refine m4 _ _ (Hd.out ?_);try first | rw [hks] | rw [hk2] | rw [hk3]) | (refine m5 _ _ ?_;cbv)
 all_goals (clear m1 m2 m3 m4 m5;cases m0;(try clear hks;try clear hk2;try clear hk3);try dsimp only)
 all_goals try simp only [sm] at *
 all_goals first
  | omega
  | (rw [jT (p:=fun q=>q.free&&q.dst == x) (l:=cs) (i:=i) Tie.z (by omega) (by simp_all)];rfl)
  | (rw [jY (by omega)];rfl)
  | (simp only [qg (show i<9223372036854775807 by omega)];exact ⟨(ih (by omega)).same rfl (by rw [Q5 (p:=fun q=>q.free&&q.dst == x) (l:=cs) (i:=i) Tie.z (by omega) (by simp_all)])⟩)
def qfm (f:List Tie->Int->Int):Wr:=w2 qM dcI (fun t x=>rI (f t.ties x)) (fun t _=>[LLe t.ties maxLen])
theorem qa7:qA Tryz.prog 92 (qfm Ku):=qG fun t x h=>qeT t x (h _ (.head _)).out
end Go.Proofs.YtfafehnchmelnaaGreat.Ai
namespace Go.Proofs.YtfafehnchmelnaaGreat.Ai
open Go
set_option maxRecDepth 100000
variable [qf]
def nd (ns:List qi)(x:Int):qi:=ns.getD x.toNat qi.z
def wl (ns:List qi)(ts:List Tie)(i:Nat)(q:Tie):Bool :=
 decide (0<=q.src/\q.src<=ns.length-1/\0<=q.dst/\q.dst<=ns.length-1/\¬q.src=q.dst/\-20<=q.low/\q.high<=20/\q.low<=q.high)&&(!q.free||(decide (1<=q.low/\¬q.dst=0/\(nd ns q.dst).watch=0)&&Q8 (nd ns q.src).label (nd ns q.dst).label&&decide (Ku ts q.dst=i)))
theorem qfL (t:qm)(i:Int)(hi:0<=i/\i<t.ties.length)(h1:t.nodes.length<=maxLen)(h2:t.ties.length<=maxLen)(h3:∀ q∈t.nodes,q.label.length<=maxLen):qe Tryz.prog 51 [qN t,aI i] (rB (wl t.nodes t.ties i.toNat (t.ties.getD i.toNat Tie.z))):=by
 refine qe.of qc (fn:=Tryz.f51) (c:=Tryz.f51.body.getD .skip) (dr:=fun n=>qa 0 [(5,45)] n) Tryz.func51 rfl (by kernel_rfl) (by kernel_rfl) (by kernel_rfl) ?_
 obtain ⟨f0,hf0⟩:∃ f,f=kE:=⟨_,rfl⟩
 obtain ⟨f1,hf1⟩:∃ f,f=Q8:=⟨_,rfl⟩
 obtain ⟨f2,hf2⟩:∃ f,f=Ku:=⟨_,rfl⟩
 have hO:qp Tryz.prog (qL [(39,qdT f0),(91,qbr f1),(92,qfm f2)]):=by subst hf0 hf1 hf2;exact qb ZL (qb qkS (qb qa7 qd))
 obtain ⟨ns,ts,hr⟩:=t
 have hi:0<=i/\i<ts.length:=hi
 have h1:ns.length<=maxLen:=h1
 have h2:ts.length<=maxLen:=h2
 have h3:∀ q∈ns,q.label.length<=maxLen:=h3
 show SEx _ _ _ _ _ _ (rB (wl ns ts i.toNat (ts.getD i.toNat Tie.z)))
 obtain ⟨n,rfl⟩:∃ n:Nat,i=n:=⟨i.toNat,by omega⟩
 refine SEx.go (X:=XX) qc (fun n=>qa [] [] n) (fun _=>none) hO 60 ?_
 intro M R L N m0 m1 m2 m3 m4 m5
 cases M
 cbv
 repeat' first | refine m1 _ _ ?_ ?_ | refine m2 _ _ fun h=>?_ | refine m3 _ ?_ | (refine m4 _ _ (Hd.out ?_);try first | rw [hks] | rw [hk2] | rw [hk3]) | (refine m5 _ _ ?_;cbv)
 all_goals (clear m1 m2 m3 m4 m5;cases m0;(try clear hks;try clear hk2;try clear hk3);try dsimp only)
 all_goals try simp only [sm] at *
 all_goals (have hQ:=qo (z:=Tie.z) (l:=ts) (i:=n) (by omega);generalize ts.getD n Tie.z=q at *;obtain ⟨x1,x2,x3,x4,x5⟩:=q)
 all_goals (clear hO;subst hf0 hf1 hf2;unfold maxLen at h1 h2;try dsimp only at *)
 all_goals (try simp only [qy (n:=(ns.length:Int)-1) (by omega) (by omega),kE,Bool.and_eq_true,Bool.and_eq_false_iff,decide_eq_true_eq,decide_eq_false_iff_not] at *)
 all_goals first
  | omega
  | exact ⟨h2⟩
  | exact ⟨h3 _ (qo (z:=qi.z) (by omega)).out⟩
  | (simp only [jE];symm;rw [Bool.eq_false_iff];intro h;simp only [wl,Bool.and_eq_true,Bool.or_eq_true,Bool.not_eq_true',decide_eq_true_eq] at h;simp only [nd] at h;first | omega | (simp_all;done) | (simp_all;omega))
  | (simp only [jE];symm;simp only [wl,Bool.and_eq_true,Bool.or_eq_true,Bool.not_eq_true',decide_eq_true_eq];first | (refine ⟨by omega,.inl ?_⟩;assumption) | (refine ⟨by omega,.inr ⟨⟨by omega,?_⟩,?_⟩⟩<;>assumption))
  | (simp only [jE];simp only [wl,nd];rw [Bool.eq_iff_iff];simp only [Bool.and_eq_true,Bool.or_eq_true,Bool.not_eq_true',decide_eq_true_eq,beq_iff_eq];constructor;(· intro h;exact ⟨by omega,.inr ⟨⟨⟨by assumption,by assumption,by assumption⟩,by assumption⟩,h⟩⟩);(· rintro ⟨-,h | h⟩;(· have:=h.symm.trans (by assumption:_=true);cases this);(· exact h.2)))
  | (simp only [jE];rw [Bool.eq_iff_iff];simp only [wl,Bool.and_eq_true,Bool.or_eq_true,Bool.not_eq_true',decide_eq_true_eq,beq_iff_eq];simp only [nd];constructor;(· intro h;exact ⟨by omega,.inr ⟨⟨⟨by assumption,by assumption,by assumption⟩,by assumption⟩,h⟩⟩);(· rintro ⟨-,h | h⟩;(· have:=h.symm.trans (by assumption:_=true);cases this);(· exact h.2)))
def qrc {α:Type}(k:Nat)(g:Bool)(d:Dc α)(hg:∀ a,(d.enc a).1=g):Dc α:=⟨fun a=>aF k [.ptr (d.enc a).2],fun | (false,[.fn f [.ptr x]])=>(match nq f k with | true=>d.dec (g,x) | false=>none) | _=>none,by
 intro x a h
 split at h
 . split at h
   . rename_i hk
     obtain rfl:=QG.1 hk
     have:=d.ok _ _ h
     have e:=congrArg Prod.snd this
     simp only [zV] at e
     simp only [zV,D.erL,D.er,aF,e]
   . cases h
 . cases h⟩
theorem qdS (u t:Tie):qe Tryz.prog 78 [yv u,(false,[.ptr t.d])] (rB (u.free&&u.dst == t.dst)):=by
 refine qe.of qc (fn:=Tryz.f78) (c:=Tryz.f78.body.getD .skip) (dr:=fun n=>qa 0 [] n) Tryz.func78 rfl (by kernel_rfl) (by kernel_rfl) (by kernel_rfl) ?_
 obtain ⟨x1,x2,x3,x4,x5⟩:=u
 obtain ⟨y1,y2,y3,y4,y5⟩:=t
 refine SEx.go (X:=XX) qc (fun n=>qa [] [] n) (fun _=>none) qd 60 ?_
 intro M R L N m0 m1 m2 m3 m4 m5
 cases M
 cbv
 repeat' first | refine m1 _ _ ?_ ?_ | refine m2 _ _ fun h=>?_ | refine m3 _ ?_ | (refine m4 _ _ (Hd.out ?_);try first | rw [hks] | rw [hk2] | rw [hk3]) | (refine m5 _ _ ?_;cbv)
 all_goals (clear m1 m2 m3 m4 m5;cases m0;(try clear hks;try clear hk2;try clear hk3);try dsimp only)
 all_goals try simp only [sm] at *
 all_goals simp only [jE]
 all_goals (rw [show x5=_ by assumption];rfl)
def qrQ (k:Nat):Dc Tie:=qrc k true yQ fun _=>rfl
def qeU (ns:List qi)(ts:List Tie)(i:Nat)(q:Tie):Bool :=
 decide (0<=q.src/\q.src<=ns.length-1/\0<=q.dst/\q.dst<=ns.length-1/\¬q.src=q.dst/\-20<=q.low/\q.high<=20/\q.low<=q.high)&&(!q.free||(decide (1<=q.low/\¬q.dst=0/\(nd ns q.dst).watch=0)&&Q8 (nd ns q.dst).label (nd ns q.src).label&&!((ts.take i).any fun u=>u.free&&u.dst == q.dst)))
theorem qgU (t:qm)(h1:t.nodes.length<=maxLen)(h2:t.ties.length<=maxLen)(h3:∀ q∈t.nodes,q.label.length<=maxLen):qe Tryz.prog 44 [qN t] (rB (qD (qeU t.nodes t.ties) t.ties 0&&decide (t.ties.length<=14))):=by
 refine qe.of qc (fn:=Tryz.f44) (c:=Tryz.f44.body.getD .skip) (dr:=fun n=>qa 0 [(7,33)] n) Tryz.func44 rfl (by kernel_rfl) (by kernel_rfl) (by kernel_rfl) ?_
 obtain ⟨f0,hf0⟩:∃ f,f=w8:=⟨_,rfl⟩
 obtain ⟨f1,hf1⟩:∃ f,f=Q8:=⟨_,rfl⟩
 obtain ⟨f2,hf2⟩:∃ f,f=qcT:=⟨_,rfl⟩
 obtain ⟨f3,hf3⟩:∃ f:List Tie->Tie->Bool,f=fun l q=>l.any fun u=>u.free&&u.dst == q.dst:=⟨_,rfl⟩
 have hO:qp Tryz.prog (qL [(74,qh1 f0),(75,qpw f2),(76,qbr f1),(77,w2 Kq (qrQ 78) (fun l q=>rB (f3 l q)) (fun l q=>[LLe l maxLen]))]):=by
  subst hf0 hf1 hf2 hf3
  exact qb qhB (qb qnC (qb qjy (qb (qG fun l q h=>KI l _ _ _ (fun u _=>qdS u q) (h _ (.head _)).out) qd)))
 obtain ⟨ns,ts,hr⟩:=t
 have h1:ns.length<=maxLen:=h1
 have h2:ts.length<=maxLen:=h2
 have h3:∀ q∈ns,q.label.length<=maxLen:=h3
 unfold maxLen at h1 h2
 show SEx _ _ _ _ _ _ (rB (qD (qeU ns ts) ts 0&&decide (ts.length<=14)))
 obtain ⟨c,hc⟩:∃ c,c=decide (ts.length<=14):=⟨_,rfl⟩
 obtain ⟨p,hp⟩:∃ p,p=qeU ns ts:=⟨_,rfl⟩
 rw [<-hc,<-hp]
 refine SEx.go (X:=XX) qc (fun n=>qa [] [(2,[1,6,7,8])] n) (fun _=>none) hO 60 ?_
 intro M R L N m0 m1 m2 m3 m4 m5
 cases M
 cbv
 repeat' first | refine m1 _ _ ?_ ?_ | refine m2 _ _ fun h=>?_ | refine m3 _ ?_ | (refine m4 _ _ (Hd.out ?_);generalize hks:(List.cons _ _:List K)=ks) | (refine m5 _ _ ?_;cbv)
 all_goals (clear m1 m2 m3 m4 m5;cases m0;try dsimp only)
 all_goals try simp only [sm] at *
 obtain ⟨m,hm⟩:∃ m,m=ts.length:=⟨_,rfl⟩
 refine ⟨SEx.same (SEx.idx m (fun i=>⟨105,[(1,bP 4096),(6,bL (.tie ts)),(7,bI m),(8,bI i)],[(4096,.obx [.fz (.sl (.node false none ns)),.fz (.sl (.tie ts)),.fz (.int .i64 hr)])]⟩) (fun i=>rB (qD p (ts.drop i) i&&c)) ?_) (by rw [hm];rfl) rfl⟩
 intro i hi ih
 rw [<-hks]
 have hl:i<m->zf _ _ _:=fun h=>zf.of p ts i c Tie.z (by omega)
 have he:i=m->(qD p (ts.drop i) i&&c)=c:=fun h=>qU (by omega)
 refine SEx.go (X:=XX) qc (fun n=>qa [] [(2,[1,6,7,8])] n) (fun _=>none) hO 60 ?_
 intro M R L N m0 m1 m2 m3 m4 m5
 cases M
 cbv
 repeat' first | refine m1 _ _ ?_ ?_ | refine m2 _ _ fun h=>?_ | refine m3 _ ?_ | (refine m4 _ _ (Hd.out ?_);try first | rw [hks] | rw [hk2] | rw [hk3]) | (refine m5 _ _ ?_;cbv)
 all_goals (clear m1 m2 m3 m4 m5;cases m0;(try clear hks;try clear hk2;try clear hk3);try dsimp only)
 all_goals try simp only [sm] at *
 all_goals (clear hO;subst hf0 hf1 hf2 hf3)
 all_goals (try simp only [qg (show i<9223372036854775807 by omega)])
 all_goals (try refine ⟨(ih (by omega)).same rfl ?_⟩)
 all_goals (clear ih)
 all_goals (generalize ts.getD i Tie.z=q at *;obtain ⟨x1,x2,x3,x4,x5⟩:=q;try dsimp only at *)
 all_goals (try simp only [w8,qcT,Bool.and_eq_true,Bool.and_eq_false_iff,decide_eq_true_eq,decide_eq_false_iff_not] at *)
 all_goals first
  | omega
  | exact ⟨h3 _ (qo (z:=qi.z) (by omega)).out⟩
  | (refine ⟨?_⟩;simp only [List.length_take];omega)
  | (rw [he (by omega),hc];simp only [jE];apply decide_eq_decide.2;omega)
  | (refine (hl (by omega)).stop _ ?_;clear hl he;rw [hp,Bool.eq_false_iff];intro h;simp only [qeU,Bool.and_eq_true,Bool.or_eq_true,Bool.not_eq_true',decide_eq_true_eq] at h;simp only [nd] at h;first | omega | (rcases h with ⟨-,h | h⟩;(· simp_all;done);(· refine absurd h.2 ?_;rw [Bool.not_eq_false];assumption)) | (generalize ns.getD x2.toNat qi.z=r2 at *;generalize ns.getD x1.toNat qi.z=r1 at *;cases r1;cases r2;simp_all;done) | (simp_all;omega))
  | (refine (hl (by omega)).go ?_;clear hl he;rw [hp];simp only [qeU,Bool.and_eq_true,Bool.or_eq_true,Bool.not_eq_true',decide_eq_true_eq];first | (refine ⟨by omega,.inl ?_⟩;assumption) | (refine ⟨by omega,.inr ⟨⟨⟨by omega,by omega,by assumption⟩,?_⟩,?_⟩⟩<;>assumption))
  | trace_state
theorem Jb {α:Type}{p:α->Bool}:∀ {l:List α} {i:Nat} (n:Nat) (z:α),i<l.length->p (l.getD i z)=true->(zT p l n=(n+i:Nat)↔(l.take i).any p=false)
 | [],i,n,z,h,_=>absurd h (Nat.not_lt_zero _)
 | a::r,0,n,z,_,hp=>by simp only [List.getD_cons_zero] at hp;simp [zT,hp]
 | a::r,i+1,n,z,h,hp=>by
   simp only [List.getD_cons_succ] at hp
   simp only [List.length_cons] at h
   have ih:=Jb (l:=r) (i:=i) (n+1) z (by omega) hp
   have hge:=(Vx p r (n+1)).2
   unfold zT
   simp only [List.take_succ_cons,List.any_cons]
   cases ha:p a with
   | true=>simp;omega
   | false =>
     simp only [Bool.false_or,Bool.false_eq_true,if_false]
     rw [<-ih,show n+1+i=n+(i+1) by omega]
theorem qha (a b:List Int):Q8 a b=Q8 b a:=by
 rw [qdj,qdj,Bool.eq_iff_iff]
 simp only [decide_eq_true_eq]
 exact ⟨fun h=>h.symm,fun h=>h.symm⟩
theorem qor {ns:List qi}{ts:List Tie}{i:Nat}{q:Tie}(h:ts[i]?=some q):qeU ns ts i q=wl ns ts i q:=by
 have hi:i<ts.length:=by rw [List.getElem?_eq_some_iff] at h;exact h.1
 have hq:ts.getD i Tie.z=q:=by rw [List.getD_eq_getElem?_getD,h];rfl
 unfold qeU wl
 cases hf:q.free with
 | false=>rfl
 | true =>
   have e:decide (Ku ts q.dst=i)=!((ts.take i).any fun u=>u.free&&u.dst == q.dst):=by
    have:=Jb (p:=fun u:Tie=>u.free&&u.dst == q.dst) (l:=ts) (i:=i) 0 Tie.z hi (by rw [hq,hf];simp)
    rw [Nat.zero_add] at this
    rw [Bool.eq_iff_iff]
    simp only [decide_eq_true_eq,Bool.not_eq_true']
    exact this
   rw [e,qha]
theorem qoq (ns:List qi)(ts:List Tie):qD (qeU ns ts) ts 0=qD (wl ns ts) ts 0:=wm ts 0 fun i q h=>by rw [Nat.zero_add];exact qor h
def qq8 (f:List qi->List Tie->Nat->Tie->Bool):Wr:=w2 qM dcI (fun t i=>rB (f t.nodes t.ties i.toNat (t.ties.getD i.toNat Tie.z))) (fun t i=>[InX i t.ties,LLe t.nodes maxLen,LLe t.ties maxLen,vZ t.nodes maxLen])
theorem qn9:qA Tryz.prog 51 (qq8 wl):=qG fun t i h=>qfL t i (h _ (.head _)).out (h _ (.tail _ (.head _))).out (h _ (.tail _ (.tail _ (.head _)))).out (h _ (.tail _ (.tail _ (.tail _ (.head _))))).out
def qe3 (f:List qi->List Tie->Bool):Wr:=w1 qM (fun t=>rB (f t.nodes t.ties)) (fun t=>[LLe t.nodes maxLen,LLe t.ties maxLen,vZ t.nodes maxLen])
def JC (ns:List qi)(ts:List Tie):Bool:=qD (wl ns ts) ts 0&&decide (ts.length<=14)
theorem qdg:qA Tryz.prog 44 (qe3 JC):=zt fun t h=>by unfold JC;rw [<-qoq];exact qgU t (h _ (.head _)).out (h _ (.tail _ (.head _))).out (h _ (.tail _ (.tail _ (.head _)))).out
end Go.Proofs.YtfafehnchmelnaaGreat.Ai
namespace Go.Proofs.YtfafehnchmelnaaGreat.Ai
open Go
set_option maxRecDepth 100000
variable [qf]
def qj5 (x:Int):Int:=IntKind.i64.wrap (-x)
def W4 (cs:List qi)(x:Int):List Int:=(cs.getD x.toNat qi.z).label
def wdB (cs:List qi)(l:List Int)(x:Int):Bool:=decide (0<=zo cs (zE x))&&(!Zw (W4 cs (zo cs (zE x))) x&&(!Zw (W4 cs (zo cs (zE x))) (qj5 x)&&JN l (W4 cs (zo cs (zE x)))))
def qaH (f:List qi->Int->Int):Wr:=w2 qM dcI (fun t p=>rI (f t.nodes p)) (fun t p=>[LLe t.nodes maxLen])
theorem qbd:qA Tryz.prog 87 (qaH zo):=qG fun t p h=>KU t p (h _ (.head _)).out
def qnw (f:List qi->ByteArray->Int):Wr:=w2 qM dcS (fun t p=>rI (f t.nodes p)) (fun t p=>[LLe t.nodes maxLen])
def qhS (l:List qi)(s:ByteArray):Int:=zT (fun q=>eqS q.name s) l 0
theorem qj8:qA Tryz.prog 86 (qnw qhS):=qG fun t p h=>qbT t p (h _ (.head _)).out
theorem qbg (l:List qi)(p:Int):zo l p<l.length/\(0<=zo l p\/zo l p=-1):=by
 unfold zo
 have:=Vx (fun q:qi=>q.watch == p) l 0
 omega
theorem qbM (t:qm)(l:List Int)(x:Int)(h1:t.nodes.length<=maxLen)(h2:∀ q∈t.nodes,ZP q.label)(hl:ZP l)(hx:inI x)(hp:0<zE x):qe Tryz.prog 47 [qN t,aIs l,aI x] (rB (wdB t.nodes l x)):=by
 refine qe.of qc (fn:=Tryz.f47) (c:=Tryz.f47.body.getD .skip) (dr:=fun n=>qa 0 [(1,3)] n) Tryz.func47 rfl (by kernel_rfl) (by kernel_rfl) (by kernel_rfl) ?_
 obtain ⟨f0,hf0⟩:∃ f,f=zE:=⟨_,rfl⟩
 obtain ⟨f1,hf1⟩:∃ f,f=zo:=⟨_,rfl⟩
 obtain ⟨f2,hf2⟩:∃ f,f=Zw:=⟨_,rfl⟩
 obtain ⟨f3,hf3⟩:∃ f,f=JN:=⟨_,rfl⟩
 have hO:qp Tryz.prog (qL [(81,W0 f0),(80,Ky f1),(82,qfG f2),(83,w5 f3)]):=by
  subst hf0 hf1 hf2 hf3
  exact qb Wv (qb wI (qb qdK (qb qbI qd)))
 obtain ⟨ns,ts,hr⟩:=t
 have h1:ns.length<=maxLen:=h1
 have h2:∀ q∈ns,ZP q.label:=h2
 show SEx _ _ _ _ _ _ (rB (wdB ns l x))
 rw [<-hf0] at hp
 have hlt:f1 ns (f0 x)<ns.length:=by rw [hf1];exact (qbg _ _).1
 refine SEx.go (X:=XX) qc (fun n=>qa [] [] n) (fun _=>none) hO 60 ?_
 intro M R L N m0 m1 m2 m3 m4 m5
 cases M
 cbv
 repeat' first | refine m1 _ _ ?_ ?_ | refine m2 _ _ fun h=>?_ | refine m3 _ ?_ | (refine m4 _ _ (Hd.out ?_);try first | rw [hks] | rw [hk2] | rw [hk3]) | (refine m5 _ _ ?_;cbv)
 all_goals (clear m1 m2 m3 m4 m5;cases m0;(try clear hks;try clear hk2;try clear hk3);try dsimp only)
 all_goals try simp only [sm] at *
 all_goals (clear hO;subst hf0 hf1 hf2 hf3)
 all_goals first
  | exact ⟨hx⟩
  | exact ⟨h1⟩
  | exact ⟨hp⟩
  | exact hl
  | omega
  | exact ⟨(h2 _ (qo (z:=qi.z) (by omega)).out).len⟩
  | exact h2 _ (qo (z:=qi.z) (by omega)).out
  | (simp only [jE];unfold wdB W4 qj5;delta qi.label;rw [decide_eq_false (by omega)];rfl)
  | (simp only [jE];unfold wdB W4 qj5;delta qi.label;rw [decide_eq_true (by omega)];simp_all;done)
  | skip
structure qr7 (x:Int):Prop where out:0<zE x
structure qqP (cs:List qi):Prop where out:∀ q∈cs,ZP q.label
theorem qhw (x:Int)(t:qm)(q:qi)(h1:t.nodes.length<=maxLen)(h2:∀ q∈t.nodes,ZP q.label)(hl:ZP q.label)(hx:inI x)(hp:0<zE x):qe Tryz.prog 46 [aI x,(false,[.ptr t.d]),(false,[.ptr q.d])] (rB (!wdB t.nodes q.label x)):=by
 refine qe.of qc (fn:=Tryz.f46) (c:=Tryz.f46.body.getD .skip) (dr:=fun n=>qa 0 [] n) Tryz.func46 rfl (by kernel_rfl) (by kernel_rfl) (by kernel_rfl) ?_
 obtain ⟨f,hf⟩:∃ f,f=wdB:=⟨_,rfl⟩
 have hO:qp Tryz.prog (qL [(47,w3 qM kx dcI (fun t l x=>rB (f t.nodes l x)) (fun t l x=>[LLe t.nodes maxLen,qqP t.nodes,ZP l,IIn x,qr7 x]))]):=by
  subst hf
  exact qb (QL fun t l x h=>qbM t l x (h _ (.head _)).out (h _ (.tail _ (.head _))).out (h _ (.tail _ (.tail _ (.head _)))) (h _ (.tail _ (.tail _ (.tail _ (.head _))))).out (h _ (.tail _ (.tail _ (.tail _ (.tail _ (.head _)))))).out) qd
 obtain ⟨ns,ts,hr⟩:=t
 obtain ⟨x1,x2,x3⟩:=q
 have h1:ns.length<=maxLen:=h1
 have h2:∀ q∈ns,ZP q.label:=h2
 have hl:ZP x2:=hl
 refine SEx.go (X:=XX) qc (fun n=>qa [] [] n) (fun _=>none) hO 60 ?_
 intro M R L N m0 m1 m2 m3 m4 m5
 cases M
 cbv
 repeat' first | refine m1 _ _ ?_ ?_ | refine m2 _ _ fun h=>?_ | refine m3 _ ?_ | (refine m4 _ _ (Hd.out ?_);try first | rw [hks] | rw [hk2] | rw [hk3]) | (refine m5 _ _ ?_;cbv)
 all_goals (clear m1 m2 m3 m4 m5;cases m0;(try clear hks;try clear hk2;try clear hk3);try dsimp only)
 all_goals try simp only [sm] at *
 all_goals first
  | exact ⟨h1⟩
  | exact ⟨h2⟩
  | exact hl
  | exact ⟨hx⟩
  | exact ⟨hp⟩
  | (subst hf;rfl)
def ndP (cs:List qi)(i:Nat)(q:qi):Bool:=QN q&&(decide (qhS cs q.name=i)&&(decide (q.watch=0)||decide (zo cs q.watch=i)))
def Yg (cs:List qi)(q:qi):Bool:=qD (fun _ x=>wdB cs q.label x) q.label 0
def j8 (cs:List qi):Bool:=decide (1<=(cs.length:Int)/\(cs.length:Int)<=7)&&(decide (((nd cs 0).label.length:Int)<=0)&&decide ((nd cs 0).watch=0))
theorem qbi (t:qm)(h1:t.nodes.length<=maxLen)(h2:∀ q∈t.nodes,YE q):qe Tryz.prog 50 [qN t] (rB (j8 t.nodes&&(qD (ndP t.nodes) t.nodes 0&&qD (fun _ q=>Yg t.nodes q) t.nodes 0))):=by
 refine qe.of qc (fn:=Tryz.f50) (c:=Tryz.f50.body.getD .skip) (dr:=fun n=>qa 0 [(15,3),(16,32)] n) Tryz.func50 rfl (by kernel_rfl) (by kernel_rfl) (by kernel_rfl) ?_
 obtain ⟨f0,hf0⟩:∃ f,f=kE:=⟨_,rfl⟩
 obtain ⟨f1,hf1⟩:∃ f,f=QN:=⟨_,rfl⟩
 obtain ⟨f2,hf2⟩:∃ f,f=qhS:=⟨_,rfl⟩
 obtain ⟨f3,hf3⟩:∃ f,f=zo:=⟨_,rfl⟩
 obtain ⟨f4,hf4⟩:∃ f,f=zE:=⟨_,rfl⟩
 obtain ⟨f5,hf5⟩:∃ f,f=Zw:=⟨_,rfl⟩
 obtain ⟨f6,hf6⟩:∃ f,f=JN:=⟨_,rfl⟩
 have hO:qp Tryz.prog (qL [(39,qdT f0),(85,Vr f1),(86,qnw f2),(87,qaH f3),(88,W0 f4),(89,qfG f5),(90,w5 f6)]):=by
  subst hf0 hf1 hf2 hf3 hf4 hf5 hf6
  exact qb ZL (qb qde (qb qj8 (qb qbd (qb Wb (qb YF (qb qcS qd))))))
 obtain ⟨cs,ts,hr⟩:=t
 have h1:cs.length<=maxLen:=h1
 have h2:∀ q∈cs,YE q:=h2
 unfold maxLen at h1
 show SEx _ _ _ _ _ _ (rB (j8 cs&&(qD (ndP cs) cs 0&&qD (fun _ q=>Yg cs q) cs 0)))
 obtain ⟨c,hc⟩:∃ c,c=qD (fun _ q=>Yg cs q) cs 0:=⟨_,rfl⟩
 obtain ⟨p,hp⟩:∃ p,p=ndP cs:=⟨_,rfl⟩
 rw [<-hc,<-hp]
 refine SEx.go (X:=XX) qc (fun n=>qa [] [(4,[1,33,34,35]),(10,[1,66,67,68]),(13,[1,6,66,67,68,73,74,75])] n) (fun _=>none) hO 60 ?_
 intro M R L N m0 m1 m2 m3 m4 m5
 cases M
 cbv
 repeat' first | refine m1 _ _ ?_ ?_ | refine m2 _ _ fun h=>?_ | refine m3 _ ?_ | (refine m4 _ _ (Hd.out ?_);generalize hks:(List.cons _ _:List K)=ks) | (refine m5 _ _ ?_;cbv)
 all_goals (clear m1 m2 m3 m4 m5;cases m0;try dsimp only)
 all_goals try simp only [sm] at *
 all_goals (try simp only [hf0,kE,Bool.and_eq_true,Bool.and_eq_false_iff,decide_eq_true_eq,decide_eq_false_iff_not] at *)
 all_goals first
  | omega
  | (refine qV ?_ _;unfold j8 nd;delta qi.label qi.watch;rw [decide_eq_false (by omega)];rfl)
  | (refine qV ?_ _;unfold j8 nd;delta qi.label qi.watch;rw [Bool.and_assoc,decide_eq_true (by omega),Bool.true_and,decide_eq_false (by omega)];rfl)
  | (refine qV ?_ _;unfold j8 nd;delta qi.label qi.watch;rw [decide_eq_true (by omega),decide_eq_true (by omega),decide_eq_false (by assumption)];rfl)
  | skip
 have hh:j8 cs=true:=by
  unfold j8 nd;delta qi.label qi.watch;rw [decide_eq_true (by omega),decide_eq_true (by omega),decide_eq_true (by assumption)];rfl
 rw [hh,Bool.true_and]
 obtain ⟨m,hm⟩:∃ m,m=cs.length:=⟨_,rfl⟩
 refine ⟨SEx.same (SEx.idx m (fun i=>⟨120,[(1,bP 4096),(33,bL (.node false none cs)),(34,bI m),(35,bI i)],[(4096,.obx [.fz (.sl (.node false none cs)),.fz (.sl (.tie ts)),.fz (.int .i64 hr)])]⟩) (fun i=>rB (qD p (cs.drop i) i&&c)) ?_) (by rw [hm];rfl) rfl⟩
 intro i hi ih
 rw [<-hks]
 have hl:i<m->zf _ _ _:=fun h=>zf.of p cs i c qi.z (by omega)
 have he:i=m->(qD p (cs.drop i) i&&c)=c:=fun h=>qU (by omega)
 refine SEx.go (X:=XX) qc (fun n=>qa [] [(4,[1,33,34,35]),(10,[1,66,67,68]),(13,[1,6,66,67,68,73,74,75])] n) (fun _=>none) hO 60 ?_
 intro M R L N m0 m1 m2 m3 m4 m5
 cases M
 cbv
 repeat' first | refine m1 _ _ ?_ ?_ | refine m2 _ _ fun h=>?_ | refine m3 _ ?_ | (refine m4 _ _ (Hd.out ?_);first | rw [hks] | generalize hk2:(List.cons _ _:List K)=k2) | (refine m5 _ _ ?_;cbv)
 all_goals (clear m1 m2 m3 m4 m5;cases m0;try dsimp only)
 all_goals try simp only [sm] at *
 all_goals (try simp only [qg (show i<9223372036854775807 by omega)])
 all_goals first
  | omega
  | exact h2 _ (qo (z:=qi.z) (by omega)).out
  | exact ⟨h1⟩
  | (refine (hl (by omega)).stop _ ?_;subst hf1 hf2 hf3;rw [hp];unfold ndP;delta qi.name qi.watch;simp_all;done)
  | (refine ⟨(ih (by omega)).same rfl ((hl (by omega)).go ?_)⟩;clear ih;subst hf1 hf2 hf3;rw [hp];unfold ndP;delta qi.name qi.watch;simp_all;done)
  | skip
 have him:i=m:=by omega
 rw [he him]
 clear ih hl he
 obtain ⟨pl,hpl⟩:∃ pl:Nat->qi->Bool,pl=fun _ q=>Yg cs q:=⟨_,rfl⟩
 rw [<-hpl] at hc
 refine ⟨SEx.same (SEx.idx m (fun i=>⟨120,[(1,bP 4096),(66,bL (.node false none cs)),(67,bI m),(68,bI i)],[(4096,.obx [.fz (.sl (.node false none cs)),.fz (.sl (.tie ts)),.fz (.int .i64 hr)])]⟩) (fun i=>rB (qD pl (cs.drop i) i&&true)) ?_) (by rw [hm];rfl) (by rw [hc,Bool.and_true];rfl)⟩
 intro k hk ih
 rw [<-hk2]
 have hl:k<m->zf _ _ _:=fun h=>zf.of pl cs k true qi.z (by omega)
 have he:k=m->(qD pl (cs.drop k) k&&true)=true:=fun h=>qU (by omega)
 refine SEx.go (X:=XX) qc (fun n=>qa [] [(4,[1,33,34,35]),(10,[1,66,67,68]),(13,[1,6,66,67,68,73,74,75])] n) (fun _=>none) hO 60 ?_
 intro M R L N m0 m1 m2 m3 m4 m5
 cases M
 cbv
 repeat' first | refine m1 _ _ ?_ ?_ | refine m2 _ _ fun h=>?_ | refine m3 _ ?_ | (refine m4 _ _ (Hd.out ?_);first | rw [hks] | rw [hk2] | generalize hk3:(List.cons _ _:List K)=k3) | (refine m5 _ _ ?_;cbv)
 all_goals (clear m1 m2 m3 m4 m5;cases m0;try dsimp only)
 all_goals try simp only [sm] at *
 all_goals first
  | omega
  | (refine qV ?_ _;rw [he (by omega)];done)
  | skip
 have hkm:k<m:=by omega
 obtain ⟨q,hq⟩:∃ q,q=cs.getD k qi.z:=⟨_,rfl⟩
 have hnq:YE q:=by rw [hq];exact h2 _ (qo (z:=qi.z) (by omega)).out
 obtain ⟨d,hd⟩:∃ d,d=(qD pl (cs.drop (k+1)) (k+1)&&true):=⟨_,rfl⟩
 have hs:(qD pl (cs.drop k) k&&true)=(qD (fun _ x=>wdB cs q.label x) (q.label.drop 0) 0&&d):=by
  rw [VI qi.z (show k<cs.length by omega),hd,<-hq,hpl,Bool.and_assoc];rfl
 rw [hs]
 rw [<-hd] at ih
 clear hl he hs hd
 obtain ⟨x1,x2,x3⟩:=q
 obtain ⟨w,hw⟩:∃ w,w=x2.length:=⟨_,rfl⟩
 have hlw:=hnq.len
 have hall:=hnq.all
 dsimp only at hlw hall
 unfold maxLen at hlw
 refine ⟨SEx.same (SEx.idx w (fun j=>⟨120,[(1,bP 4096),(6,bP 24576),(66,bL (.node false none cs)),(67,bI m),(68,bI k),(73,bL (.i x2)),(74,bI w),(75,bI j)],[(4096,.obx [.fz (.sl (.node false none cs)),.fz (.sl (.tie ts)),.fz (.int .i64 hr)]),(24576,.obx [.fz (.str x1),.fz (.sl (.i x2)),.fz (.int .i64 x3)])]⟩) (fun j=>rB (qD (fun _ x=>wdB cs x2 x) (x2.drop j) j&&d)) ?_) (by rw [hw,<-hq];rfl) rfl⟩
 intro j hj ihj
 rw [<-hk3]
 have hl:j<w->zf _ _ _:=fun h=>zf.of (fun _ x=>wdB cs x2 x) x2 j d (0:Int) (by omega)
 have he:j=w->(qD (fun _ x=>wdB cs x2 x) (x2.drop j) j&&d)=d:=fun h=>qU (by omega)
 have hlt:∀ x,f3 cs x<cs.length:=fun x=>by rw [hf3];exact (qbg _ _).1
 refine SEx.go (X:=XX) qc (fun n=>qa [] [(4,[1,33,34,35]),(10,[1,66,67,68]),(13,[1,6,66,67,68,73,74,75])] n) (fun _=>none) hO 60 ?_
 intro M R L N m0 m1 m2 m3 m4 m5
 cases M
 cbv
 repeat' first | refine m1 _ _ ?_ ?_ | refine m2 _ _ fun h=>?_ | refine m3 _ ?_ | (refine m4 _ _ (Hd.out ?_);try first | rw [hks] | rw [hk2] | rw [hk3]) | (refine m5 _ _ ?_;cbv)
 all_goals (clear m1 m2 m3 m4 m5;cases m0;(try clear hks;try clear hk2;try clear hk3);try dsimp only)
 all_goals try simp only [sm] at *
 all_goals (try simp only [qg (show j<9223372036854775807 by omega)])
 all_goals (try have h5:=hlt (f4 (x2.getD j 0)))
 all_goals first
  | omega
  | exact ⟨h1⟩
  | exact ⟨hall _ (qo (z:=(0:Int)) (by omega)).out⟩
  | exact ⟨(h2 _ (qo (z:=qi.z) (by omega)).out).len⟩
  | exact ⟨hlw,hall⟩
  | exact ⟨(h2 _ (qo (z:=qi.z) (by omega)).out).len,(h2 _ (qo (z:=qi.z) (by omega)).out).all⟩
  | (have hjw:j=w:=by omega
     rw [he hjw]
     simp only [qg (show k<9223372036854775807 by omega)]
     exact ⟨(ih hkm).same rfl rfl⟩)
  | (refine (hl (by omega)).stop _ ?_;subst hf3 hf4 hf5 hf6;unfold wdB W4 qj5;delta qi.label;rw [decide_eq_false (by omega)];rfl)
  | (refine (hl (by omega)).stop _ ?_;subst hf3 hf4 hf5 hf6;unfold wdB W4 qj5;delta qi.label;rw [decide_eq_true (by omega)];simp_all;done)
  | (refine ⟨(ihj (by omega)).same rfl ((hl (by omega)).go ?_)⟩;clear ih ihj;subst hf3 hf4 hf5 hf6;unfold wdB W4 qj5;delta qi.label;rw [decide_eq_true (by omega)];simp_all;done)
  | skip
def K0 (q m:qi):Bool:=eqS m.name q.name||(decide (¬q.watch=0)&&m.watch == q.watch)
def ndI (cs:List qi)(i:Nat)(q:qi):Bool:=QN q&&qD (fun _ m=>!K0 q m) (cs.take i) 0
theorem qdk (t:qm)(h1:t.nodes.length<=maxLen)(h2:∀ q∈t.nodes,YE q):qe Tryz.prog 43 [qN t] (rB (j8 t.nodes&&qD (ndI t.nodes) t.nodes 0)):=by
 refine qe.of qc (fn:=Tryz.f43) (c:=Tryz.f43.body.getD .skip) (dr:=fun n=>qa 0 [] n) Tryz.func43 rfl (by kernel_rfl) (by kernel_rfl) (by kernel_rfl) ?_
 obtain ⟨f1,hf1⟩:∃ f,f=QN:=⟨_,rfl⟩
 have hO:qp Tryz.prog (qL [(73,Vr f1)]):=by
  subst hf1
  exact qb qeN qd
 obtain ⟨cs,ts,hr⟩:=t
 have h1:cs.length<=maxLen:=h1
 have h2:∀ q∈cs,YE q:=h2
 unfold maxLen at h1
 show SEx _ _ _ _ _ _ (rB (j8 cs&&qD (ndI cs) cs 0))
 obtain ⟨p,hp⟩:∃ p,p=ndI cs:=⟨_,rfl⟩
 rw [<-hp]
 refine SEx.go (X:=XX) qc (fun n=>qa [] [(4,[1,35,36,37]),(9,[1,4,35,36,37,48,49,50])] n) (fun _=>none) hO 60 ?_
 intro M R L N m0 m1 m2 m3 m4 m5
 cases M
 cbv
 repeat' first | refine m1 _ _ ?_ ?_ | refine m2 _ _ fun h=>?_ | refine m3 _ ?_ | (refine m4 _ _ (Hd.out ?_);generalize hks:(List.cons _ _:List K)=ks) | (refine m5 _ _ ?_;cbv)
 all_goals (clear m1 m2 m3 m4 m5;cases m0;try dsimp only)
 all_goals try simp only [sm] at *
 all_goals first
  | omega
  | (refine qV ?_ _;unfold j8 nd;delta qi.label qi.watch;rw [decide_eq_false (by omega)];rfl)
  | (refine qV ?_ _;unfold j8 nd;delta qi.label qi.watch;rw [Bool.and_assoc,decide_eq_true (by omega),Bool.true_and,decide_eq_false (by omega)];rfl)
  | (refine qV ?_ _;unfold j8 nd;delta qi.label qi.watch;rw [decide_eq_true (by omega),decide_eq_true (by omega),decide_eq_false (by assumption)];rfl)
  | skip
 have hh:j8 cs=true:=by
  unfold j8 nd;delta qi.label qi.watch;rw [decide_eq_true (by omega),decide_eq_true (by omega),decide_eq_true (by assumption)];rfl
 rw [hh,Bool.true_and]
 obtain ⟨m,hm⟩:∃ m,m=cs.length:=⟨_,rfl⟩
 refine ⟨SEx.same (SEx.idx m (fun i=>⟨73,[(1,bP 4096),(35,bL (.node false none cs)),(36,bI m),(37,bI i)],[(4096,.obx [.fz (.sl (.node false none cs)),.fz (.sl (.tie ts)),.fz (.int .i64 hr)])]⟩) (fun i=>rB (qD p (cs.drop i) i&&true)) ?_) (by rw [hm];rfl) (by rw [Bool.and_true];rfl)⟩
 intro i hi ih
 rw [<-hks]
 have hl:i<m->zf _ _ _:=fun h=>zf.of p cs i true qi.z (by omega)
 have he:i=m->(qD p (cs.drop i) i&&true)=true:=fun h=>qU (by omega)
 refine SEx.go (X:=XX) qc (fun n=>qa [] [(4,[1,35,36,37]),(9,[1,4,35,36,37,48,49,50])] n) (fun _=>none) hO 60 ?_
 intro M R L N m0 m1 m2 m3 m4 m5
 cases M
 cbv
 repeat' first | refine m1 _ _ ?_ ?_ | refine m2 _ _ fun h=>?_ | refine m3 _ ?_ | (refine m4 _ _ (Hd.out ?_);first | rw [hks] | generalize hk2:(List.cons _ _:List K)=k2) | (refine m5 _ _ ?_;cbv)
 all_goals (clear m1 m2 m3 m4 m5;cases m0;try dsimp only)
 all_goals try simp only [sm] at *
 all_goals (try simp only [qg (show i<9223372036854775807 by omega)])
 all_goals first
  | omega
  | exact h2 _ (qo (z:=qi.z) (by omega)).out
  | (refine qV ?_ _;rw [he (by omega)];done)
  | (refine (hl (by omega)).stop _ ?_;subst hf1;rw [hp];unfold ndI;simp_all;done)
  | skip
 have him:i<m:=by omega
 have hq1:f1 (cs.getD i qi.z)=true:=by assumption
 obtain ⟨q,hq⟩:∃ q,q=cs.getD i qi.z:=⟨_,rfl⟩
 rw [<-hq] at hq1
 obtain ⟨l,hll⟩:∃ l,l=cs.take i:=⟨_,rfl⟩
 obtain ⟨d,hd⟩:∃ d,d=(qD p (cs.drop (i+1)) (i+1)&&true):=⟨_,rfl⟩
 have hs:(qD p (cs.drop i) i&&true)=(qD (fun _ m=>!K0 q m) (l.drop 0) 0&&d):=by
  rw [VI qi.z (show i<cs.length by omega),hd,<-hq,hp,Bool.and_assoc,ndI,<-hf1,hq1,<-hll,Bool.true_and];rfl
 rw [hs]
 rw [<-hd] at ih
 clear hl he hs hd
 obtain ⟨x1,x2,x3⟩:=q
 obtain ⟨w,hw⟩:∃ w,w=l.length:=⟨_,rfl⟩
 have hwl:w<=cs.length:=by rw [hw,hll,List.length_take];omega
 refine ⟨SEx.same (SEx.idx w (fun j=>⟨73,[(1,bP 4096),(4,bP 16384),(35,bL (.node false none cs)),(36,bI m),(37,bI i),(48,bL (.node false none l)),(49,bI w),(50,bI j)],[(4096,.obx [.fz (.sl (.node false none cs)),.fz (.sl (.tie ts)),.fz (.int .i64 hr)]),(16384,.obx [.fz (.str x1),.fz (.sl (.i x2)),.fz (.int .i64 x3)])]⟩) (fun j=>rB (qD (fun _ m=>!K0 ⟨x1,x2,x3⟩ m) (l.drop j) j&&d)) ?_) (by rw [hw,<-hq,hll];rfl) rfl⟩
 intro j hj ihj
 rw [<-hk2]
 have hl:j<w->zf _ _ _:=fun h=>zf.of (fun _ m=>!K0 ⟨x1,x2,x3⟩ m) l j d qi.z (by omega)
 have he:j=w->(qD (fun _ m=>!K0 ⟨x1,x2,x3⟩ m) (l.drop j) j&&d)=d:=fun h=>qU (by omega)
 refine SEx.go (X:=XX) qc (fun n=>qa [] [(4,[1,35,36,37]),(9,[1,4,35,36,37,48,49,50])] n) (fun _=>none) hO 60 ?_
 intro M R L N m0 m1 m2 m3 m4 m5
 cases M
 cbv
 repeat' first | refine m1 _ _ ?_ ?_ | refine m2 _ _ fun h=>?_ | refine m3 _ ?_ | (refine m4 _ _ (Hd.out ?_);try first | rw [hks] | rw [hk2] | rw [hk3]) | (refine m5 _ _ ?_;cbv)
 all_goals (clear m1 m2 m3 m4 m5;cases m0;(try clear hks;try clear hk2;try clear hk3);try dsimp only)
 all_goals try simp only [sm] at *
 all_goals (try simp only [qg (show j<9223372036854775807 by omega)])
 all_goals first
  | omega
  | (refine (hl (by omega)).stop _ ?_;unfold K0 eqS;delta qi.name qi.watch;simp_all;done)
  | (refine ⟨(ihj (by omega)).same rfl ((hl (by omega)).go ?_)⟩;clear ih ihj;unfold K0 eqS;delta qi.name qi.watch;simp_all;done)
  | (rw [he (by omega)];simp only [qg (show i<9223372036854775807 by omega)];exact ⟨(ih (by omega)).same rfl rfl⟩)
  | skip
theorem qlw {α:Type}(p q:α->Bool):∀ l:List α,(l.any fun x=>p x||q x)=(l.any p||l.any q)
 | []=>rfl
 | a::r=>by simp only [List.any_cons,qlw p q r];cases p a<;>cases q a<;>cases r.any p<;>cases r.any q<;>rfl
theorem qhH {α:Type}(c:Bool)(q:α->Bool):∀ l:List α,(l.any fun x=>c&&q x)=(c&&l.any q)
 | []=>by simp
 | a::r=>by simp only [List.any_cons,qhH c q r];cases c<;>rfl
theorem qmq (s:ByteArray):eqS s s=true:=by unfold eqS;simp
theorem qqS {cs:List qi}{i:Nat}{q:qi}(h:cs[i]?=some q):ndI cs i q=ndP cs i q:=by
 have hi:i<cs.length:=by rw [List.getElem?_eq_some_iff] at h;exact h.1
 have hq:cs.getD i qi.z=q:=by rw [List.getD_eq_getElem?_getD,h];rfl
 have e1:decide (qhS cs q.name=i)=!((cs.take i).any fun r=>eqS r.name q.name):=by
  have:=Jb (p:=fun r:qi=>eqS r.name q.name) (l:=cs) (i:=i) 0 qi.z hi (by rw [hq];exact qmq _)
  rw [Nat.zero_add] at this
  rw [Bool.eq_iff_iff]
  simp only [decide_eq_true_eq,Bool.not_eq_true']
  exact this
 have e2:decide (zo cs q.watch=i)=!((cs.take i).any fun r=>r.watch == q.watch):=by
  have:=Jb (p:=fun r:qi=>r.watch == q.watch) (l:=cs) (i:=i) 0 qi.z hi (by rw [hq];exact beq_self_eq_true _)
  rw [Nat.zero_add] at this
  rw [Bool.eq_iff_iff]
  simp only [decide_eq_true_eq,Bool.not_eq_true']
  exact this
 have e3:qD (fun _ m=>!K0 q m) (cs.take i) 0=!(((cs.take i).any fun r=>eqS r.name q.name)||(decide (¬q.watch=0)&&(cs.take i).any fun r=>r.watch == q.watch)):=by
  rw [Kx,<-qhH,<-qlw,List.not_any_eq_all_not];rfl
 unfold ndI ndP
 rw [e1,e2,e3,Bool.not_or,Bool.not_and,decide_not,Bool.not_not]
theorem qmI (cs:List qi):qD (ndI cs) cs 0=qD (ndP cs) cs 0:=wm cs 0 fun i q h=>by rw [Nat.zero_add];exact qqS h
structure qpS (cs:List qi):Prop where out:∀ q∈cs,YE q
def jL (cs:List qi):Bool:=j8 cs&&qD (ndP cs) cs 0
def qiy (cs:List qi):Bool:=qD (fun _ q=>Yg cs q) cs 0
def Ji (f:List qi->Bool):Wr:=w1 qM (fun t=>rB (f t.nodes)) (fun t=>[LLe t.nodes maxLen,qpS t.nodes])
def nlB (cs:List qi):Bool:=jL cs&&qiy cs
theorem Y4:qA Tryz.prog 50 (Ji nlB):=zt fun t h=>by
 unfold nlB jL qiy
 rw [Bool.and_assoc]
 exact qbi t (h _ (.head _)).out (h _ (.tail _ (.head _))).out
theorem qcD:qA Tryz.prog 43 (Ji jL):=zt fun t h=>by
 unfold jL
 rw [<-qmI]
 exact qdk t (h _ (.head _)).out (h _ (.tail _ (.head _))).out
def qd4 (n:Int):Bool:=decide (1<=n)&&decide (n<=10)
def qO (t:qm):Bool:=jL t.nodes&&(qiy t.nodes&&(JC t.nodes t.ties&&qd4 t.hor))
structure kj (t:qm):Prop where
 len:t.nodes.length<=maxLen
 tlen:t.ties.length<=maxLen
 nodes:∀ q∈t.nodes,YE q
theorem Y6 (t:qm)(ht:kj t):qe Tryz.prog 26 [qN t] (rB (qO t)):=by
 refine qe.of qc (fn:=Tryz.f26) (c:=Tryz.f26.body.getD .skip) (dr:=fun n=>qa 0 [] n) Tryz.func26 rfl (by kernel_rfl) (by kernel_rfl) (by kernel_rfl) ?_
 have h1:=ht.len
 have h2:=ht.tlen
 have h3:=ht.nodes
 clear ht
 obtain ⟨f1,hf1⟩:∃ f,f=nlB:=⟨_,rfl⟩
 obtain ⟨f3,hf3⟩:∃ f,f=kE:=⟨_,rfl⟩
 obtain ⟨f4,hf4⟩:∃ f,f=wl:=⟨_,rfl⟩
 have hO:qp Tryz.prog (qL [(50,Ji f1),(39,qdT f3),(51,qq8 f4)]):=by
  subst hf1 hf3 hf4
  exact qb Y4 (qb ZL (qb qn9 qd))
 obtain ⟨ns,ts,hr⟩:=t
 have h1:ns.length<=maxLen:=h1
 have h2:ts.length<=maxLen:=h2
 have h3:∀ q∈ns,YE q:=h3
 unfold maxLen at h2
 obtain ⟨a,ha⟩:∃ a,a=decide (ts.length<=14):=⟨_,rfl⟩
 obtain ⟨d,hd⟩:∃ a,a=qd4 hr:=⟨_,rfl⟩
 obtain ⟨p,hp⟩:∃ p:Nat->Tie->Bool,p=f4 ns ts:=⟨_,rfl⟩
 have hs:qO ⟨ns,ts,hr⟩=(f1 ns&&(qD p ts 0&&(a&&d))):=by
  rw [hf1,hp,hf4,ha,hd];unfold qO JC nlB;rw [Bool.and_assoc,Bool.and_assoc]
 rw [hs]
 have hdd:f3 hr 1 10=d:=by rw [hf3,hd];rfl
 clear hd hs
 refine SEx.go (X:=XX) qc (fun n=>qa [] [(4,[1,21,22])] n) (fun _=>none) hO 60 ?_
 intro M R L N m0 m1 m2 m3 m4 m5
 cases M
 cbv
 repeat' first | refine m1 _ _ ?_ ?_ | refine m2 _ _ fun h=>?_ | refine m3 _ ?_ | (refine m4 _ _ (Hd.out ?_);generalize hks:(List.cons _ _:List K)=ks) | (refine m5 _ _ ?_;cbv)
 all_goals (clear m1 m2 m3 m4 m5;cases m0;try dsimp only)
 all_goals try simp only [sm] at *
 all_goals (try rw [hdd] at *)
 all_goals first
  | exact ⟨h1⟩
  | exact ⟨h3⟩
  | (refine qV ?_ _;simp_all;done)
  | (refine qV ?_ _;rw [ha,decide_eq_false (by omega)];simp;done)
  | skip
 rw [show f1 ns=true by assumption,Bool.true_and,show a=true by rw [ha];exact decide_eq_true (by omega),show d=true by assumption,Bool.true_and]
 obtain ⟨m,hm⟩:∃ m,m=ts.length:=⟨_,rfl⟩
 refine ⟨SEx.same (SEx.idx m (fun i=>⟨30,[(1,bP 4096),(21,bI m),(22,bI i)],[(4096,.obx [.fz (.sl (.node false none ns)),.fz (.sl (.tie ts)),.fz (.int .i64 hr)])]⟩) (fun i=>rB (qD p (ts.drop i) i&&true)) ?_) (by rw [hm];rfl) rfl⟩
 intro i hi ih
 rw [<-hks]
 have hl:i<m->zf _ _ _:=fun h=>zf.of p ts i true Tie.z (by omega)
 have he:i=m->(qD p (ts.drop i) i&&true)=true:=fun h=>qU (by omega)
 refine SEx.go (X:=XX) qc (fun n=>qa [] [(4,[1,21,22])] n) (fun _=>none) hO 60 ?_
 intro M R L N m0 m1 m2 m3 m4 m5
 cases M
 cbv
 repeat' first | refine m1 _ _ ?_ ?_ | refine m2 _ _ fun h=>?_ | refine m3 _ ?_ | (refine m4 _ _ (Hd.out ?_);try first | rw [hks] | rw [hk2] | rw [hk3]) | (refine m5 _ _ ?_;cbv)
 all_goals (clear m1 m2 m3 m4 m5;cases m0;(try clear hks;try clear hk2;try clear hk3);try dsimp only)
 all_goals try simp only [sm] at *
 all_goals (try simp only [qg (show i<9223372036854775807 by omega)])
 all_goals first
  | omega
  | exact ⟨h1⟩
  | exact ⟨h2⟩
  | exact ⟨fun q hq=>(h3 q hq).len⟩
  | exact ⟨⟨by omega,by omega⟩⟩
  | (refine qV ?_ _;rw [he (by omega)];done)
  | (refine (hl (by omega)).stop _ ?_;rw [hp];assumption)
  | (refine ⟨(ih (by omega)).same rfl ((hl (by omega)).go ?_)⟩;rw [hp];assumption)
  | skip
end Go.Proofs.YtfafehnchmelnaaGreat.Ai
namespace Go.Proofs.YtfafehnchmelnaaGreat.Ai
open Go
set_option maxRecDepth 100000
variable [qf]
def qrt {α β:Type}(k:Nat)(g h:Bool)(d:Dc α)(e:Dc β):Dc (α×β):=⟨fun a=>aF k [.ptr (d.enc a.1).2,.ptr (e.enc a.2).2],fun | (false,[.fn f [.ptr x,.ptr y]])=>(match nq f k with | true=>(match d.dec (g,x),e.dec (h,y) with | some a,some b=>some (a,b) | _,_=>none) | false=>none) | _=>none,by
 intro x a hh
 split at hh
 . split at hh
   . rename_i hk
     obtain rfl:=QG.1 hk
     split at hh
     . rename_i a' b' ha hb
       simp only [Option.some.injEq] at hh
       subst hh
       have e1:=congrArg Prod.snd (d.ok _ _ ha)
       have e2:=congrArg Prod.snd (e.ok _ _ hb)
       simp only [zV] at e1 e2
       simp only [zV,D.erL,D.er,aF,e1,e2]
     . cases hh
   . cases hh
 . cases hh⟩
structure qrf (l:List Int):Prop where out:∀ x∈l,inI x/\0<zE x
theorem v6 {x:Int}(h0:¬x=0)(h1:-3<=x)(h2:x<=3):0<zE x:=by
 unfold zE
 split
 . rw [qy (by omega) (by omega)];omega
 . omega
theorem yO {x:Int}(h1:-3<=x)(h2:x<=3):zE x<=3:=by
 unfold zE
 split
 . rw [qy (by omega) (by omega)];omega
 . omega
theorem Z6 {l:List Int}(h:qY l=true){x:Int}(hx:x∈l):¬x=0/\-3<=x/\x<=3:=by
 obtain ⟨i,hi,rfl⟩:=List.mem_iff_getElem.1 hx
 have:=of_decide_eq_true (KH h i hi)
 rw [zG hi] at this
 exact ⟨this.1,this.2.1,this.2.2.1⟩
theorem v8 {l:List Int}(h:qY l=true):∀ x∈l,inI x/\0<zE x:=fun x hx=>by
 have ⟨h1,h2,h3⟩:=Z6 h hx
 exact ⟨by rw [Q0];omega,v6 h1 h2 h3⟩
theorem QD {α:Type}{p:Nat->α->Bool}:∀ {l:List α} {n:Nat} {q:α},qD p l n=true->q∈l->∃ i,p i q=true
 | a::r,n,q,h,hq=>by
   unfold qD at h
   rw [Bool.and_eq_true] at h
   rcases List.mem_cons.1 hq with rfl | hq
   . exact ⟨n,h.1⟩
   . exact QD h.2 hq
theorem WV {cs:List qi}(h:jL cs=true){q:qi}(hq:q∈cs):QN q=true:=by
 unfold jL at h
 rw [Bool.and_eq_true] at h
 obtain ⟨i,hi⟩:=QD h.2 hq
 unfold ndP at hi
 rw [Bool.and_eq_true] at hi
 exact hi.1
theorem WR {q:qi}(h:QN q=true):qY q.label=true:=by
 unfold QN at h
 simp only [Bool.and_eq_true] at h
 exact h.1.2
def qrP (l:List Int)(t:qm)(q:qi):Bool:=l.any fun x=>!wdB t.nodes q.label x
theorem YR (t:qm)(ht:kj t):qe Tryz.prog 21 [qN t] (rB (qO t)):=by
 refine qe.of qc (fn:=Tryz.f21) (c:=Tryz.f21.body.getD .skip) (dr:=fun n=>qa 0 [] n) Tryz.func21 rfl (by kernel_rfl) (by kernel_rfl) (by kernel_rfl) ?_
 have h1:=ht.len
 have h2:=ht.tlen
 have h3:=ht.nodes
 clear ht
 obtain ⟨f1,hf1⟩:∃ f,f=jL:=⟨_,rfl⟩
 obtain ⟨f2,hf2⟩:∃ f,f=JC:=⟨_,rfl⟩
 obtain ⟨f3,hf3⟩:∃ f,f=qrP:=⟨_,rfl⟩
 have hO:qp Tryz.prog (qL [(43,Ji f1),(44,qe3 f2),(45,w2 kx (qrt 46 true true qM JQ) (fun l x=>rB (f3 l x.1 x.2)) (fun l x=>[LLe l maxLen,qrf l,LLe x.1.nodes maxLen,qpS x.1.nodes,YE x.2]))]):=by
  subst hf1 hf2 hf3
  exact qb qcD (qb qdg (qb (qG fun l x h=>by
   have g1:=(h _ (.head _)).out
   have g2:=(h _ (.tail _ (.head _))).out
   have g3:=(h _ (.tail _ (.tail _ (.head _)))).out
   have g4:=(h _ (.tail _ (.tail _ (.tail _ (.head _))))).out
   have g5:=h _ (.tail _ (.tail _ (.tail _ (.tail _ (.head _)))))
   exact ZX l _ _ _ (fun y hy=>qhw y x.1 x.2 g3 (fun q hq=>⟨(g4 q hq).len,(g4 q hq).all⟩) ⟨g5.len,g5.all⟩ (g2 y hy).1 (g2 y hy).2) g1) qd))
 obtain ⟨ns,ts,hr⟩:=t
 have h1:ns.length<=maxLen:=h1
 have h2:ts.length<=maxLen:=h2
 have h3:∀ q∈ns,YE q:=h3
 have h1':=h1
 unfold maxLen at h1'
 obtain ⟨d,hd⟩:∃ a,a=qd4 hr:=⟨_,rfl⟩
 obtain ⟨p,hp⟩:∃ p:Nat->qi->Bool,p=fun _ q=>Yg ns q:=⟨_,rfl⟩
 have hs:qO ⟨ns,ts,hr⟩=(f1 ns&&(f2 ns ts&&(d&&qD p ns 0))):=by
  rw [hf1,hp,hf2,hd];unfold qO qiy;dsimp only
  generalize qD (fun _ q=>Yg ns q) ns 0=a
  generalize JC ns ts=b
  generalize qd4 hr=c
  generalize jL ns=e
  revert a b c e;decide
 rw [hs]
 clear hs
 refine SEx.go (X:=XX) qc (fun n=>qa [] [(4,[1,24,25,26])] n) (fun _=>none) hO 60 ?_
 intro M R L N m0 m1 m2 m3 m4 m5
 cases M
 cbv
 repeat' first | refine m1 _ _ ?_ ?_ | refine m2 _ _ fun h=>?_ | refine m3 _ ?_ | (refine m4 _ _ (Hd.out ?_);generalize hks:(List.cons _ _:List K)=ks) | (refine m5 _ _ ?_;cbv)
 all_goals (clear m1 m2 m3 m4 m5;cases m0;try dsimp only)
 all_goals try simp only [sm] at *
 all_goals first
  | exact ⟨h1⟩
  | exact ⟨h2⟩
  | exact ⟨h3⟩
  | exact ⟨fun q hq=>(h3 q hq).len⟩
  | (refine qV ?_ _;rw [show f1 ns=false by assumption];rfl)
  | (refine qV ?_ _;rw [show f2 ns ts=false by assumption];simp;done)
  | (refine qV ?_ _;rw [hd,qd4,decide_eq_false (by omega)];simp;done)
  | (refine qV ?_ _;rw [hd,qd4,decide_eq_false (show ¬hr<=10 by omega)];simp;done)
  | skip
 have hn1:jL ns=true:=by rw [<-hf1];assumption
 rw [show f1 ns=true by assumption,show f2 ns ts=true by assumption,show d=true by rw [hd,qd4,decide_eq_true (by omega),decide_eq_true (by omega)];rfl,Bool.true_and,Bool.true_and,Bool.true_and]
 obtain ⟨m,hm⟩:∃ m,m=ns.length:=⟨_,rfl⟩
 refine ⟨SEx.same (SEx.idx m (fun i=>⟨35,[(1,bP 4096),(24,bL (.node false none ns)),(25,bI m),(26,bI i)],[(4096,.obx [.fz (.sl (.node false none ns)),.fz (.sl (.tie ts)),.fz (.int .i64 hr)])]⟩) (fun i=>rB (qD p (ns.drop i) i&&true)) ?_) (by rw [hm];rfl) (by rw [Bool.and_true];rfl)⟩
 intro i hi ih
 rw [<-hks]
 have hl:i<m->zf _ _ _:=fun h=>zf.of p ns i true qi.z (by omega)
 have he:i=m->(qD p (ns.drop i) i&&true)=true:=fun h=>qU (by omega)
 have hmem:i<m->Mem (ns.getD i qi.z) ns:=fun h=>qo (by omega)
 have hps:∀ q:qi,f3 q.label ⟨ns,ts,hr⟩ q=!p i q:=fun q=>by
  rw [hf3,hp];show (q.label.any fun x=>!wdB ns q.label x)=!qD (fun _ x=>wdB ns q.label x) q.label 0;rw [Kx,List.not_all_eq_any_not]
 refine SEx.go (X:=XX) qc (fun n=>qa [] [(4,[1,24,25,26])] n) (fun _=>none) hO 60 ?_
 intro M R L N m0 m1 m2 m3 m4 m5
 cases M
 cbv
 repeat' first | refine m1 _ _ ?_ ?_ | refine m2 _ _ fun h=>?_ | refine m3 _ ?_ | (refine m4 _ _ (Hd.out ?_);try first | rw [hks] | rw [hk2] | rw [hk3]) | (refine m5 _ _ ?_;cbv)
 all_goals (clear m1 m2 m3 m4 m5;cases m0;(try clear hks;try clear hk2;try clear hk3);try dsimp only)
 all_goals try simp only [sm] at *
 all_goals (try simp only [qg (show i<9223372036854775807 by omega)])
 all_goals first
  | omega
  | exact ⟨h1⟩
  | exact ⟨h3⟩
  | exact ⟨(h3 _ (hmem (by omega)).out).len⟩
  | exact ⟨v8 (WR (WV hn1 (hmem (by omega)).out))⟩
  | exact h3 _ (hmem (by omega)).out
  | (refine qV ?_ _;rw [he (by omega)];done)
  | (refine (hl (by omega)).stop _ ?_;have hx:=hps (ns.getD i qi.z);simp_all;done)
  | (refine ⟨(ih (by omega)).same rfl ((hl (by omega)).go ?_)⟩;clear ih;have hx:=hps (ns.getD i qi.z);simp_all;done)
  | skip
def Jp (f:qm->Bool):Wr:=w1 qM (fun t=>rB (f t)) (fun t=>[kj t])
theorem WJ:qA Tryz.prog 26 (Jp qO):=zt fun t h=>Y6 t (h _ (.head _))
theorem WF:qA Tryz.prog 21 (Jp qO):=zt fun t h=>YR t (h _ (.head _))
theorem zO {t:qm}(h:qO t=true):1<=t.hor/\t.hor<=10:=by
 unfold qO qd4 at h
 simp only [Bool.and_eq_true,decide_eq_true_eq] at h
 exact h.2.2.2
theorem qF {t:qm}(h:qO t=true):1<=t.nodes.length/\t.nodes.length<=7:=by
 unfold qO jL j8 at h
 simp only [Bool.and_eq_true,decide_eq_true_eq] at h
 omega
theorem zU {t:qm}(h:qO t=true):t.ties.length<=14:=by
 unfold qO JC at h
 simp only [Bool.and_eq_true,decide_eq_true_eq] at h
 exact h.2.2.1.2
theorem kG {t:qm}(h:qO t=true){q:qi}(hq:q∈t.nodes):qY q.label=true:=by
 unfold qO at h
 rw [Bool.and_eq_true] at h
 exact WR (WV h.1 hq)
end Go.Proofs.YtfafehnchmelnaaGreat.Ai
namespace Go.Proofs.YtfafehnchmelnaaGreat.Ai
open Go
set_option maxRecDepth 100000
variable [qf]
def QU (times:List Int)(w:Int):Bool:=decide (0<=w)&&decide (¬times.getD w.toNat 0=-1)
def Zu (now:Int)(i:Nat)(n:Int):Bool:=decide ((i=0->n=0)/\(0<i->-1<=n/\n<=now-1))
def qcA (cs:List qi)(times:List Int)(i:Nat)(v:Int):Bool:=decide (¬v=0) == QU times (zo cs ((i:Int)+1))
def jJ (t:qm)(x:qh):Bool:=decide (0<=x.now/\x.now<=t.hor+1/\x.times.length=t.nodes.length)&&(qW x.vals&&(qD (Zu x.now) x.times 0&&qD (qcA t.nodes x.times) x.vals 0))
structure Jv (x:qh):Prop where
 now:inI x.now
 tlen:x.times.length<=maxLen
 vlen:x.vals.length<=maxLen
theorem q8 {l:List Int}(h:qW l=true):l.length=3:=by
 unfold qW at h
 simp only [Bool.and_eq_true,decide_eq_true_eq] at h
 exact h.2
theorem qcs (a b:Int):decide (¬a=b)=!(a == b):=by by_cases h:a=b<;>simp [h]
theorem qfy (t:qm)(x:qh)(ht:qO t=true)(hx:Jv x):qe Tryz.prog 101 [qN t,qQ x] (rB (jJ t x)):=by
 refine qe.of qc (fn:=Tryz.f101) (c:=Tryz.f101.body.getD .skip) (dr:=fun n=>qa 0 [] n) Tryz.func101 rfl (by kernel_rfl) (by kernel_rfl) (by kernel_rfl) ?_
 have hh:=zO ht
 have hn:=qF ht
 have h2:=hx.tlen
 have h3:=hx.vlen
 have h4:=hx.now
 clear ht hx
 rw [Q0] at h4
 obtain ⟨f1,hf1⟩:∃ f,f=qW:=⟨_,rfl⟩
 obtain ⟨f2,hf2⟩:∃ f,f=zo:=⟨_,rfl⟩
 have hO:qp Tryz.prog (qL [(125,Wn f1),(80,Ky f2)]):=by
  subst hf1 hf2
  exact qb JM (qb wI qd)
 obtain ⟨ns,ts,hr⟩:=t
 obtain ⟨now,times,vals⟩:=x
 dsimp only at hh hn h2 h3 h4
 unfold maxLen at h2 h3
 obtain ⟨p,hp⟩:∃ p,p=Zu now:=⟨_,rfl⟩
 obtain ⟨q,hq⟩:∃ q,q=qcA ns times:=⟨_,rfl⟩
 obtain ⟨d,hd⟩:∃ d,d=qD q vals 0:=⟨_,rfl⟩
 have hs:jJ ⟨ns,ts,hr⟩ ⟨now,times,vals⟩=(decide (0<=now/\now<=hr+1/\times.length=ns.length)&&(f1 vals&&(qD p times 0&&d))):=by
  rw [hf1,hp,hd,hq];rfl
 rw [hs]
 clear hs
 obtain ⟨r,hrr⟩:∃ r,r=(decide (0<=now/\now<=hr+1/\times.length=ns.length)&&(f1 vals&&(qD p times 0&&d))):=⟨_,rfl⟩
 rw [<-hrr]
 have h1r:IntKind.i64.wrap (hr+1)=hr+1:=qy (by omega) (by omega)
 refine SEx.go (X:=XX) qc (fun n=>qa [] [(4,[2,3,37,38,39]),(10,[2,3,67,68,69])] n) (fun _=>none) hO 60 ?_
 intro M R L N m0 m1 m2 m3 m4 m5
 cases M
 cbv
 repeat' first | refine m1 _ _ ?_ ?_ | refine m2 _ _ fun h=>?_ | refine m3 _ ?_ | (refine m4 _ _ (Hd.out ?_);generalize hks:(List.cons _ _:List K)=ks) | (refine m5 _ _ ?_;cbv)
 all_goals (clear m1 m2 m3 m4 m5;cases m0;try dsimp only)
 all_goals try simp only [sm] at *
 all_goals (try rw [h1r] at *)
 all_goals first
  | omega
  | exact ⟨h3⟩
  | (refine qV ?_ _;rw [hrr,decide_eq_false (by omega)];rfl)
  | (refine qV ?_ _;rw [hrr,show f1 vals=false by assumption];simp;done)
  | skip
 rw [show f1 vals=true by assumption,decide_eq_true (by omega),Bool.true_and,Bool.true_and] at hrr
 rw [hrr]
 clear hrr
 have hv3:vals.length=3:=by apply q8;rw [<-hf1];assumption
 obtain ⟨m,hm⟩:∃ m,m=times.length:=⟨_,rfl⟩
 refine ⟨SEx.same (SEx.idx m (fun i=>⟨92,[(2,bP 8192),(3,bP 12288),(37,bL (.i times)),(38,bI m),(39,bI i)],[(8192,.obx [.fz (.sl (.node false none ns)),.fz (.sl (.tie ts)),.fz (.int .i64 hr)]),(12288,.obx [.fz (.int .i64 now),.fz (.sl (.i times)),.fz (.sl (.i vals))])]⟩) (fun i=>rB (qD p (times.drop i) i&&d)) ?_) (by rw [hm];rfl) rfl⟩
 intro i hi ih
 rw [<-hks]
 have hl:i<m->zf _ _ _:=fun h=>zf.of p times i d (0:Int) (by omega)
 have he:i=m->(qD p (times.drop i) i&&d)=d:=fun h=>qU (by omega)
 have h1n:IntKind.i64.wrap (now-1)=now-1:=qy (by omega) (by omega)
 refine SEx.go (X:=XX) qc (fun n=>qa [] [(4,[2,3,37,38,39]),(10,[2,3,67,68,69])] n) (fun _=>none) hO 60 ?_
 intro M R L N m0 m1 m2 m3 m4 m5
 cases M
 cbv
 repeat' first | refine m1 _ _ ?_ ?_ | refine m2 _ _ fun h=>?_ | refine m3 _ ?_ | (refine m4 _ _ (Hd.out ?_);first | rw [hks] | generalize hk2:(List.cons _ _:List K)=k2) | (refine m5 _ _ ?_;cbv)
 all_goals (clear m1 m2 m3 m4 m5;cases m0;try dsimp only)
 all_goals try simp only [sm] at *
 all_goals (try simp only [qg (show i<9223372036854775807 by omega),h1n] at *)
 all_goals first
  | omega
  | (refine (hl (by omega)).stop _ ?_;rw [hp,Zu];apply decide_eq_false;omega)
  | (refine ⟨(ih (by omega)).same rfl ((hl (by omega)).go ?_)⟩;rw [hp,Zu];apply decide_eq_true;omega)
  | skip
 have him:i=m:=by omega
 rw [he him]
 clear ih hl he
 rw [hd]
 clear hd
 refine ⟨SEx.same (SEx.idx 3 (fun i=>⟨92,[(2,bP 8192),(3,bP 12288),(67,bL (.i vals)),(68,bI 3),(69,bI i)],[(8192,.obx [.fz (.sl (.node false none ns)),.fz (.sl (.tie ts)),.fz (.int .i64 hr)]),(12288,.obx [.fz (.int .i64 now),.fz (.sl (.i times)),.fz (.sl (.i vals))])]⟩) (fun i=>rB (qD q (vals.drop i) i&&true)) ?_) (by rw [hv3];rfl) (by rw [Bool.and_true];rfl)⟩
 intro k hk ih
 rw [<-hk2]
 have hl:k<3->zf _ _ _:=fun h=>zf.of q vals k true (0:Int) (by omega)
 have he:k=3->(qD q (vals.drop k) k&&true)=true:=fun h=>qU (by omega)
 have hlt:∀ x,f2 ns x<ns.length:=fun x=>by rw [hf2];exact (qbg _ _).1
 have hqk:q k (vals.getD k 0)=(decide (¬vals.getD k 0=0) == QU times (f2 ns ((k+1:Nat):Int))):=by
  rw [hq,hf2];rfl
 have h5:=hlt ((k+1:Nat):Int)
 refine SEx.go (X:=XX) qc (fun n=>qa [] [(4,[2,3,37,38,39]),(10,[2,3,67,68,69])] n) (fun _=>none) hO 60 ?_
 intro M R L N m0 m1 m2 m3 m4 m5
 cases M
 cbv
 repeat' first | refine m1 _ _ ?_ ?_ | refine m2 _ _ fun h=>?_ | refine m3 _ ?_ | (refine m4 _ _ (Hd.out ?_);try first | rw [hks] | rw [hk2] | rw [hk3]) | (refine m5 _ _ ?_;cbv)
 all_goals (clear m1 m2 m3 m4 m5;cases m0;(try clear hks;try clear hk2;try clear hk3);try dsimp only)
 all_goals try simp only [sm] at *
 all_goals (try simp only [qg (show k<9223372036854775807 by omega)] at *)
 all_goals first
  | omega
  | exact ⟨by omega⟩
  | (refine qV ?_ _;rw [he (by omega)];done)
  | (refine (hl (by omega)).stop _ ?_;rw [hqk];unfold QU;clear hqk hl he ih;generalize f2 ns ((k+1:Nat):Int)=w at *;rw [decide_eq_true (show 0<=w by assumption)];generalize times.getD w.toNat 0=b at *;generalize vals.getD k 0=a at *;rw [qcs,qcs];generalize (a == 0)=u at *;generalize (b == -1)=v at *;cases u<;>cases v<;>simp_all;done)
  | (refine (hl (by omega)).stop _ ?_;rw [hqk];unfold QU;clear hqk hl he ih;generalize f2 ns ((k+1:Nat):Int)=w at *;rw [decide_eq_false (show ¬0<=w by omega)];generalize vals.getD k 0=a at *;by_cases ha:a=0<;>simp_all;done)
  | (refine ⟨(ih (by omega)).same rfl ((hl (by omega)).go ?_)⟩;rw [hqk];unfold QU;clear hqk hl he ih;generalize f2 ns ((k+1:Nat):Int)=w at *;rw [decide_eq_true (show 0<=w by assumption)];generalize times.getD w.toNat 0=b at *;generalize vals.getD k 0=a at *;rw [qcs,qcs];generalize (a == 0)=u at *;generalize (b == -1)=v at *;cases u<;>cases v<;>simp_all;done)
  | (refine ⟨(ih (by omega)).same rfl ((hl (by omega)).go ?_)⟩;rw [hqk];unfold QU;clear hqk hl he ih;generalize f2 ns ((k+1:Nat):Int)=w at *;rw [decide_eq_false (show ¬0<=w by omega)];generalize vals.getD k 0=a at *;by_cases ha:a=0<;>simp_all;done)
  | skip
def WI (t:qm)(x:qh):Bool:=qO t&&jJ t x
structure qq5 (t:qm):Prop where out:qO t=true
def qeX (f:qm->qh->Bool):Wr:=w2 qM qP (fun t x=>rB (f t x)) (fun t x=>[qq5 t,Jv x])
theorem qec:qA Tryz.prog 101 (qeX jJ):=qG fun t x h=>qfy t x (h _ (.head _)).out (h _ (.tail _ (.head _)))
def qdV (f:qm->qh->Bool):Wr:=w2 qM qP (fun t x=>rB (f t x)) (fun t x=>[kj t,Jv x])
theorem VR (t:qm)(x:qh)(ht:kj t)(hx:Jv x):qe Tryz.prog 62 [qN t,qQ x] (rB (WI t x)):=by
 refine qe.of qc (fn:=Tryz.f62) (c:=Tryz.f62.body.getD .skip) (dr:=fun n=>qa 0 [] n) Tryz.func62 rfl (by kernel_rfl) (by kernel_rfl) (by kernel_rfl) ?_
 obtain ⟨f1,hf1⟩:∃ f,f=qO:=⟨_,rfl⟩
 obtain ⟨f2,hf2⟩:∃ f,f=jJ:=⟨_,rfl⟩
 have hO:qp Tryz.prog (qL [(21,Jp f1),(101,qeX f2)]):=by
  subst hf1 hf2
  exact qb WF (qb qec qd)
 rw [show WI t x=(f1 t&&f2 t x) by rw [hf1,hf2];rfl]
 have hsh:f1 t=true->qO t=true:=fun h=>by rw [hf1] at h;exact h
 obtain ⟨ns,ts,hr⟩:=t
 obtain ⟨now,times,vals⟩:=x
 refine SEx.go (X:=XX) qc (fun n=>qa [] [] n) (fun _=>none) hO 60 ?_
 intro M R L N m0 m1 m2 m3 m4 m5
 cases M
 cbv
 repeat' first | refine m1 _ _ ?_ ?_ | refine m2 _ _ fun h=>?_ | refine m3 _ ?_ | (refine m4 _ _ (Hd.out ?_);try first | rw [hks] | rw [hk2] | rw [hk3]) | (refine m5 _ _ ?_;cbv)
 all_goals (clear m1 m2 m3 m4 m5;cases m0;(try clear hks;try clear hk2;try clear hk3);try dsimp only)
 all_goals try simp only [sm] at *
 all_goals first
  | exact ht
  | exact hx
  | exact ⟨hsh (by assumption)⟩
  | (refine qV ?_ _;simp_all;done)
  | skip
theorem qbE:qA Tryz.prog 62 (qdV WI):=qG fun t x h=>VR t x (h _ (.head _)) (h _ (.tail _ (.head _)))
end Go.Proofs.YtfafehnchmelnaaGreat.Ai
namespace Go.Proofs.YtfafehnchmelnaaGreat.Ai
open Go
set_option maxRecDepth 100000
variable [qf]
def KC (v:List Int)(x:Int):Int:=if x<0 then -(v.getD (zE x-1).toNat 0) else v.getD (zE x-1).toNat 0
def Zt (v:List Int):List Int->Int->Int
 | [],s=>s
 | x::r,s=>Zt v r (min s (KC v x))
theorem vY {v l:List Int}{i:Nat}{s:Int}(h:i<l.length):Zt v (l.drop i) s=Zt v (l.drop (i+1)) (min s (KC v (l.getD i 0))):=by
 rw [List.drop_eq_getElem_cons h,zG h]
 rfl
theorem QK {v:List Int}(h:qW v=true)(i:Nat):-1<=v.getD i 0/\v.getD i 0<=1:=by
 unfold qW at h
 rw [Bool.and_eq_true] at h
 by_cases hi:i<v.length
 . obtain ⟨j,hj⟩:=QD h.1 (qo (z:=(0:Int)) hi).out
   simpa [qbQ] using hj
 . rw [List.getD_eq_getElem?_getD,List.getElem?_eq_none (by omega)]
   exact ⟨by decide,by decide⟩
theorem qix {v:List Int}(h:qW v=true)(x:Int):-1<=KC v x/\KC v x<=1:=by
 unfold KC
 have:=QK h (zE x-1).toNat
 split<;>omega
theorem qiA {v:List Int}(h:qW v=true):∀ (l:List Int) (s:Int),-1<=s->s<=1->-1<=Zt v l s/\Zt v l s<=1
 | [],s,h1,h2=>⟨h1,h2⟩
 | x::r,s,h1,h2=>qiA h r _ (by have:=qix h x;omega) (by omega)
structure qrX (l:List Int):Prop where out:qY l=true
structure qq6 (l:List Int):Prop where out:qW l=true
theorem qcY {l:List Int}(h:qY l=true):l.length<=3:=by
 have key:∀ n,n<=l.length->∀ j,j<n->(j:Int)+1<=zE (l.getD j 0):=by
  intro n hn j hj
  induction j with
  | zero =>
    have:=(v8 h _ (qo (z:=(0:Int)) (show 0<l.length by omega)).out).2
    omega
  | succ j ih =>
    have h1:=ih (by omega)
    have h2:=(of_decide_eq_true (KH h (j+1) (by omega))).2.2.2 (by omega)
    rw [Nat.add_sub_cancel] at h2
    omega
 apply Decidable.byContradiction
 intro hn
 have h1:=key l.length (Nat.le_refl _) 3 (by omega)
 have h2:=Z6 h (qo (z:=(0:Int)) (show 3<l.length by omega)).out
 have h3:=yO h2.2.1 h2.2.2
 omega
theorem qmh (a s:Int):(if a<s then a else s)=min s a:=by rw [Int.min_def];split<;>split<;>omega
theorem Va (l v:List Int)(hl:qY l=true)(hv:qW v=true):qe Tryz.prog 94 [aIs l,aIs v] (rI (Zt v l 1)):=by
 refine qe.of qc (fn:=Tryz.f94) (c:=Tryz.f94.body.getD .skip) (dr:=fun n=>qa 0 [] n) Tryz.func94 rfl (by kernel_rfl) (by kernel_rfl) (by kernel_rfl) ?_
 obtain ⟨f,hf⟩:∃ f,f=zE:=⟨_,rfl⟩
 have hO:qp Tryz.prog (qL [(88,W0 f)]):=by subst hf;exact qb Wb qd
 have h3:=qcY hl
 have hv3:=q8 hv
 rw [show Zt v l 1=Zt v (l.drop 0) 1 by rw [List.drop_zero]]
 refine SEx.go (X:=XX) qc (fun n=>qa [] [(3,[1,5,9,10,11])] n) (fun _=>none) hO 60 ?_
 intro M R L N m0 m1 m2 m3 m4 m5
 cases M
 cbv
 repeat' first | refine m1 _ _ ?_ ?_ | refine m2 _ _ fun h=>?_ | refine m3 _ ?_ | (refine m4 _ _ (Hd.out ?_);generalize hks:(List.cons _ _:List K)=ks) | (refine m5 _ _ ?_;cbv)
 all_goals (clear m1 m2 m3 m4 m5;cases m0;try dsimp only)
 all_goals try simp only [sm] at *
 obtain ⟨m,hm⟩:∃ m,m=l.length:=⟨_,rfl⟩
 refine ⟨SEx.same (SEx.idxS m (fun i (s:Int)=>⟨30,[(1,bL (.i v)),(5,bI s),(9,bL (.i l)),(10,bI m),(11,bI i)],[]⟩) (fun i s=>rI (Zt v (l.drop i) s)) (fun _ _=>True) 1 trivial ?_) (by rw [hm];rfl) rfl⟩
 intro i s hi _ ih
 rw [<-hks]
 have hp:i<m->0<f (l.getD i 0)/\f (l.getD i 0)<=3:=fun h=>by
  have h2:=Z6 hl (qo (z:=(0:Int)) (show i<l.length by omega)).out
  rw [hf]
  exact ⟨v6 h2.1 h2.2.1 h2.2.2,yO h2.2.1 h2.2.2⟩
 have hw:i<m->IntKind.i64.wrap (f (l.getD i 0)-1)=f (l.getD i 0)-1:=fun h=>by have:=hp h;exact qy (by omega) (by omega)
 refine SEx.go (X:=XX) qc (fun n=>qa [] [(3,[1,5,9,10,11])] n) (fun _=>none) hO 60 ?_
 intro M R L N m0 m1 m2 m3 m4 m5
 cases M
 cbv
 repeat' first | refine m1 _ _ ?_ ?_ | refine m2 _ _ fun h=>?_ | refine m3 _ ?_ | (refine m4 _ _ (Hd.out ?_);try first | rw [hks] | rw [hk2] | rw [hk3]) | (refine m5 _ _ ?_;cbv)
 all_goals (clear m1 m2 m3 m4 m5;cases m0;(try clear hks;try clear hk2;try clear hk3);try dsimp only)
 all_goals try simp only [sm] at *
 all_goals (try (have h7:=hp (by omega)))
 all_goals (try rw [hw (by omega)] at *)
 all_goals (have hvr:=QK hv (f (l.getD i 0)-1).toNat;try rw [qy (n:=0-v.getD (f (l.getD i 0)-1).toNat 0) (by omega) (by omega)])
 all_goals (try simp only [qg (show i<9223372036854775807 by omega),qmh])
 all_goals first
  | omega
  | exact ⟨(v8 hl _ (qo (z:=(0:Int)) (by omega)).out).1⟩
  | (refine ⟨(ih _ (by omega) trivial).same rfl ?_⟩;rw [vY (show i<l.length by omega),KC,if_pos (by assumption),hf,Int.zero_sub];done)
  | (refine ⟨(ih _ (by omega) trivial).same rfl ?_⟩;rw [vY (show i<l.length by omega),KC,if_neg (by omega),hf];done)
  | (rw [List.drop_eq_nil_of_le (by omega)];rfl)
  | skip
theorem qck (x:Int)(v:List Int)(hx:¬x=0/\-3<=x/\x<=3)(hv:qW v=true):qe Tryz.prog 148 [aI x,aIs v] (rI (KC v x)):=by
 refine qe.of qc (fn:=Tryz.f148) (c:=Tryz.f148.body.getD .skip) (dr:=fun n=>qa 0 [] n) Tryz.func148 rfl (by kernel_rfl) (by kernel_rfl) (by kernel_rfl) ?_
 obtain ⟨f,hf⟩:∃ f,f=zE:=⟨_,rfl⟩
 have hO:qp Tryz.prog (qL [(81,W0 f)]):=by subst hf;exact qb Wv qd
 have hv3:=q8 hv
 have hp:0<f x/\f x<=3:=by rw [hf];exact ⟨v6 hx.1 hx.2.1 hx.2.2,yO hx.2.1 hx.2.2⟩
 have hw:IntKind.i64.wrap (f x-1)=f x-1:=qy (by omega) (by omega)
 refine SEx.go (X:=XX) qc (fun n=>qa [] [] n) (fun _=>none) hO 60 ?_
 intro M R L N m0 m1 m2 m3 m4 m5
 cases M
 cbv
 repeat' first | refine m1 _ _ ?_ ?_ | refine m2 _ _ fun h=>?_ | refine m3 _ ?_ | (refine m4 _ _ (Hd.out ?_);try first | rw [hks] | rw [hk2] | rw [hk3]) | (refine m5 _ _ ?_;cbv)
 all_goals (clear m1 m2 m3 m4 m5;cases m0;(try clear hks;try clear hk2;try clear hk3);try dsimp only)
 all_goals try simp only [sm] at *
 all_goals (try rw [hw] at *)
 all_goals (have hvr:=QK hv (f x-1).toNat;try rw [qy (n:=0-v.getD (f x-1).toNat 0) (by omega) (by omega)])
 all_goals first
  | omega
  | (refine ⟨?_⟩;rw [Q0];omega)
  | (simp only [JV];rw [KC,if_pos (by assumption),hf,Int.zero_sub];done)
  | (simp only [JV];rw [KC,if_neg (by omega),hf];done)
  | skip
structure qsc (x:Int):Prop where out:¬x=0/\-3<=x/\x<=3
def qmx (f:List Int->Int->Int):Wr:=w2 dcI kx (fun x v=>rI (f v x)) (fun x v=>[qsc x,qq6 v])
theorem qle:qA Tryz.prog 148 (qmx KC):=qG fun x v h=>qck x v (h _ (.head _)).out (h _ (.tail _ (.head _))).out
theorem Ki (l v:List Int)(hl:ZP l)(hv:v.length<=maxLen):qe Tryz.prog 140 [aIs l,aIs v] (rI (if qY l=true/\qW v=true then Zt v l 1 else -1)):=by
 refine qe.of qc (fn:=Tryz.f140) (c:=Tryz.f140.body.getD .skip) (dr:=fun n=>qa 0 [] n) Tryz.func140 rfl (by kernel_rfl) (by kernel_rfl) (by kernel_rfl) ?_
 obtain ⟨f,hf⟩:∃ f,f=KC:=⟨_,rfl⟩
 obtain ⟨f1,hf1⟩:∃ f,f=qY:=⟨_,rfl⟩
 obtain ⟨f2,hf2⟩:∃ f,f=qW:=⟨_,rfl⟩
 have hO:qp Tryz.prog (qL [(114,QF f1),(125,Wn f2),(148,qmx f)]):=by subst hf hf1 hf2;exact qb Z4 (qb JM (qb qle qd))
 rw [<-hf1,<-hf2]
 refine SEx.go (X:=XX) qc (fun n=>qa [] [(5,[1,5,16,17,18])] n) (fun _=>none) hO 60 ?_
 intro M R L N m0 m1 m2 m3 m4 m5
 cases M
 cbv
 repeat' first | refine m1 _ _ ?_ ?_ | refine m2 _ _ fun h=>?_ | refine m3 _ ?_ | (refine m4 _ _ (Hd.out ?_);generalize hks:(List.cons _ _:List K)=ks) | (refine m5 _ _ ?_;cbv)
 all_goals (clear m1 m2 m3 m4 m5;cases m0;try dsimp only)
 all_goals try simp only [sm] at *
 all_goals first
  | exact hl
  | exact ⟨hv⟩
  | (simp only [JV];rw [if_neg];rintro ⟨h1,h2⟩;simp_all;done)
  | skip
 rw [if_pos ⟨by assumption,by assumption⟩]
 have hlb:qY l=true:=by rw [<-hf1];assumption
 have hvb:qW v=true:=by rw [<-hf2];assumption
 have h3:=qcY hlb
 obtain ⟨m,hm⟩:∃ m,m=l.length:=⟨_,rfl⟩
 refine ⟨SEx.same (SEx.idxS m (fun i (s:Int)=>⟨29,[(1,bL (.i v)),(5,bI s),(16,bL (.i l)),(17,bI m),(18,bI i)],[]⟩) (fun i s=>rI (Zt v (l.drop i) s)) (fun _ _=>True) 1 trivial ?_) (by rw [hm];rfl) rfl⟩
 intro i s hi _ ih
 rw [<-hks]
 refine SEx.go (X:=XX) qc (fun n=>qa [] [(5,[1,5,16,17,18])] n) (fun _=>none) hO 60 ?_
 intro M R L N m0 m1 m2 m3 m4 m5
 cases M
 cbv
 repeat' first | refine m1 _ _ ?_ ?_ | refine m2 _ _ fun h=>?_ | refine m3 _ ?_ | (refine m4 _ _ (Hd.out ?_);try first | rw [hks] | rw [hk2] | rw [hk3]) | (refine m5 _ _ ?_;cbv)
 all_goals (clear m1 m2 m3 m4 m5;cases m0;(try clear hks;try clear hk2;try clear hk3);try dsimp only)
 all_goals try simp only [sm] at *
 all_goals (try simp only [qg (show i<9223372036854775807 by omega),qmh])
 all_goals first
  | omega
  | exact ⟨Z6 hlb (qo (z:=(0:Int)) (by omega)).out⟩
  | exact ⟨hvb⟩
  | (refine ⟨(ih _ (by omega) trivial).same rfl ?_⟩;rw [vY (show i<l.length by omega),hf];done)
  | (rw [List.drop_eq_nil_of_le (by omega)];rfl)
  | skip
def nsI (t:qm)(x:qh)(i:Int):Int:=Zt x.vals (nd t.nodes i).label 1
structure StT (t:qm)(x:qh):Prop where
 sh:qO t=true
 st:jJ t x=true
theorem StT.vals {t:qm}{x:qh}(h:StT t x):qW x.vals=true:=by
 have:=h.st
 unfold jJ at this
 rw [Bool.and_eq_true,Bool.and_eq_true] at this
 exact this.2.1
theorem StT.now {t:qm}{x:qh}(h:StT t x):0<=x.now/\x.now<=t.hor+1/\x.times.length=t.nodes.length:=by
 have:=h.st
 unfold jJ at this
 rw [Bool.and_eq_true,decide_eq_true_eq] at this
 exact this.1
theorem vV {α:Type}{p:Nat->α->Bool}:∀ {l:List α} {n i:Nat} (z:α),qD p l n=true->i<l.length->p (n+i) (l.getD i z)=true
 | a::r,n,0,z,h,_=>by
   unfold qD at h
   rw [Bool.and_eq_true] at h
   simpa using h.1
 | a::r,n,i+1,z,h,hi=>by
   unfold qD at h
   rw [Bool.and_eq_true] at h
   have:=vV z h.2 (show i<r.length by simpa using hi)
   rw [List.getD_cons_succ,show n+(i+1)=n+1+i by omega]
   exact this
theorem StT.time {t:qm}{x:qh}(h:StT t x)(i:Nat):-1<=x.times.getD i 0/\x.times.getD i 0<=10:=by
 have hn:=h.now
 have hh:=zO h.sh
 have:=h.st
 unfold jJ at this
 rw [Bool.and_eq_true,Bool.and_eq_true,Bool.and_eq_true] at this
 by_cases hi:i<x.times.length
 . have h1:=vV (0:Int) this.2.2.1 hi
   rw [Nat.zero_add,Zu,decide_eq_true_eq] at h1
   by_cases h0:i=0
   . have:=h1.1 h0;omega
   . have:=h1.2 (by omega);omega
 . rw [List.getD_eq_getElem?_getD,List.getElem?_eq_none (by omega)]
   exact ⟨by decide,by decide⟩
structure kO (t:qm)(x:qh):Prop where
 sh:kj t
 st:Jv x
theorem qcE (t:qm)(x:qh)(i:Int)(hs:kO t x)(h:StT t x)(hi:0<=i/\i<t.nodes.length):qe Tryz.prog 128 [qN t,qQ x,aI i] (rI (nsI t x i)):=by
 refine qe.of qc (fn:=Tryz.f128) (c:=Tryz.f128.body.getD .skip) (dr:=fun n=>qa 0 [(1,8)] n) Tryz.func128 rfl (by kernel_rfl) (by kernel_rfl) (by kernel_rfl) ?_
 have h1:=kG h.sh (qo (z:=qi.z) (show i.toNat<t.nodes.length by omega)).out
 have h2:=h.vals
 have h3:=hs.sh.nodes _ (qo (z:=qi.z) (show i.toNat<t.nodes.length by omega)).out
 have h4:=hs.st.vlen
 unfold nsI nd
 obtain ⟨f,hf⟩:∃ f:List Int->List Int->Int,f=fun l v=>if qY l=true/\qW v=true then Zt v l 1 else -1:=⟨_,rfl⟩
 have hO:qp Tryz.prog (qL [(140,w2 kx kx (fun l v=>rI (f l v)) (fun l v=>[ZP l,LLe v maxLen]))]):=by
  subst hf
  exact qb (qG fun l v h=>Ki l v (h _ (.head _)) (h _ (.tail _ (.head _))).out) qd
 have he:f (t.nodes.getD i.toNat qi.z).label x.vals=Zt x.vals (t.nodes.getD i.toNat qi.z).label 1:=by rw [hf];exact if_pos ⟨h1,h2⟩
 rw [<-he]
 clear hs h hf he
 obtain ⟨ns,ts,hr⟩:=t
 obtain ⟨now,times,vals⟩:=x
 dsimp only at hi h1 h2 h3 h4
 refine SEx.go (X:=XX) qc (fun n=>qa [] [] n) (fun _=>none) hO 60 ?_
 intro M R L N m0 m1 m2 m3 m4 m5
 cases M
 cbv
 repeat' first | refine m1 _ _ ?_ ?_ | refine m2 _ _ fun h=>?_ | refine m3 _ ?_ | (refine m4 _ _ (Hd.out ?_);try first | rw [hks] | rw [hk2] | rw [hk3]) | (refine m5 _ _ ?_;cbv)
 all_goals (clear m1 m2 m3 m4 m5;cases m0;(try clear hks;try clear hk2;try clear hk3);try dsimp only)
 all_goals try simp only [sm] at *
 all_goals first
  | omega
  | exact ⟨h3.len,h3.all⟩
  | exact ⟨h4⟩
  | rfl
  | skip
end Go.Proofs.YtfafehnchmelnaaGreat.Ai
namespace Go.Proofs.YtfafehnchmelnaaGreat.Ai
open Go
set_option maxRecDepth 100000
variable [qf]
def qja (l v:List Int):Int:=Zt v l 1
def Qy (f:List Int->List Int->Int):Wr:=w2 kx kx (fun l v=>rI (f l v)) (fun l v=>[qrX l,qq6 v])
theorem jC:qA Tryz.prog 94 (Qy qja):=qG fun l v h=>Va l v (h _ (.head _)).out (h _ (.tail _ (.head _))).out
def wg (f:qm->qh->Int->Int):Wr:=w3 qM qP dcI (fun t x i=>rI (f t x i)) (fun t x i=>[kO t x,StT t x,InX i t.nodes])
theorem JD:qA Tryz.prog 128 (wg nsI):=QL fun t x i h=>qcE t x i (h _ (.head _)) (h _ (.tail _ (.head _))) (h _ (.tail _ (.tail _ (.head _)))).out
structure QV (t:qm)(q:Tie):Prop where
 src:0<=q.src/\q.src<t.nodes.length
 dst:0<=q.dst/\q.dst<t.nodes.length
theorem kB {t:qm}(h:qO t=true){q:Tie}(hq:q∈t.ties):QV t q:=by
 have hn:=qF h
 unfold qO JC at h
 simp only [Bool.and_eq_true] at h
 obtain ⟨i,hi⟩:=QD h.2.2.1.1 hq
 unfold wl at hi
 rw [Bool.and_eq_true,decide_eq_true_eq] at hi
 exact ⟨by omega,by omega⟩
def K4 (t:qm)(x:qh)(q:Tie):Bool :=
 if ¬x.times.getD q.src.toNat 0=-1/\¬x.times.getD q.dst.toNat 0=-1 then !(decide (q.low<=x.times.getD q.dst.toNat 0-x.times.getD q.src.toNat 0)&&decide (x.times.getD q.dst.toNat 0-x.times.getD q.src.toNat 0<=q.high))
 else if q.free=true then false
 else if ¬x.times.getD q.src.toNat 0=-1 then decide (nsI t x q.dst=1)&&decide (q.high<x.now-x.times.getD q.src.toNat 0)
 else if ¬x.times.getD q.dst.toNat 0=-1 then decide (nsI t x q.src=1)&&decide (x.times.getD q.dst.toNat 0-x.now<q.low)
 else false
theorem qc3 (t:qm)(x:qh)(q:Tie)(h:StT t x)(hq:QV t q):qe Tryz.prog 93 [qN t,qQ x,yv q] (rB (K4 t x q)):=by
 refine qe.of qc (fn:=Tryz.f93) (c:=Tryz.f93.body.getD .skip) (dr:=fun n=>qa 0 [(8,18),(10,18)] n) Tryz.func93 rfl (by kernel_rfl) (by kernel_rfl) (by kernel_rfl) ?_
 obtain ⟨f0,hf0⟩:∃ f,f=kE:=⟨_,rfl⟩
 obtain ⟨f1,hf1⟩:∃ f,f=qja:=⟨_,rfl⟩
 have hO:qp Tryz.prog (qL [(39,qdT f0),(94,Qy f1)]):=by
  subst hf0 hf1
  exact qb ZL (qb jC qd)
 have hv:=h.vals
 have hn:=h.now
 have hh:=zO h.sh
 have ht:=h.time
 have hl:∀ n∈t.nodes,qY n.label=true:=fun n hn=>kG h.sh hn
 have h5:=hq.src
 have h6:=hq.dst
 have hr:K4 t x q=if ¬x.times.getD q.src.toNat 0=-1/\¬x.times.getD q.dst.toNat 0=-1 then !(f0 (x.times.getD q.dst.toNat 0-x.times.getD q.src.toNat 0) q.low q.high)
  else if q.free=true then false
  else if ¬x.times.getD q.src.toNat 0=-1 then decide (f1 (t.nodes.getD q.dst.toNat qi.z).label x.vals=1)&&decide (q.high<x.now-x.times.getD q.src.toNat 0)
  else if ¬x.times.getD q.dst.toNat 0=-1 then decide (f1 (t.nodes.getD q.src.toNat qi.z).label x.vals=1)&&decide (x.times.getD q.dst.toNat 0-x.now<q.low)
  else false:=by rw [hf0,hf1];rfl
 rw [hr]
 clear h hq hr
 obtain ⟨ns,ts,hr⟩:=t
 obtain ⟨now,times,vals⟩:=x
 obtain ⟨x1,x2,x3,x4,x5⟩:=q
 dsimp only at hv hn hh ht h5 h6 hl ⊢
 have hta:=ht x1.toNat
 have htb:=ht x2.toNat
 have hw1:IntKind.i64.wrap (times.getD x2.toNat 0-times.getD x1.toNat 0)=times.getD x2.toNat 0-times.getD x1.toNat 0:=qy (by omega) (by omega)
 have hw2:IntKind.i64.wrap (now-times.getD x1.toNat 0)=now-times.getD x1.toNat 0:=qy (by omega) (by omega)
 have hw3:IntKind.i64.wrap (times.getD x2.toNat 0-now)=times.getD x2.toNat 0-now:=qy (by omega) (by omega)
 refine SEx.go (X:=XX) qc (fun n=>qa [] [] n) (fun _=>none) hO 60 ?_
 intro M R L N m0 m1 m2 m3 m4 m5
 cases M
 cbv
 repeat' first | refine m1 _ _ ?_ ?_ | refine m2 _ _ fun h=>?_ | refine m3 _ ?_ | (refine m4 _ _ (Hd.out ?_);try first | rw [hks] | rw [hk2] | rw [hk3]) | (refine m5 _ _ ?_;cbv)
 all_goals (clear m1 m2 m3 m4 m5;cases m0;(try clear hks;try clear hk2;try clear hk3);try dsimp only)
 all_goals try simp only [sm] at *
 all_goals (clear hO ht)
 all_goals (try simp only [hw1,hw2,hw3] at *)
 all_goals first
  | omega
  | contradiction
  | exact ⟨hv⟩
  | exact ⟨hl _ (qo (z:=qi.z) (by omega)).out⟩
  | (refine qV ?_ _;delta qi.label at *;clear hl;simp_all;done)
  | skip
theorem qiX {α:Type}{p:Nat->α->Bool}(z:α):∀ (l:List α) (n:Nat),qD p l n=Vj (fun i=>p (n+i) (l.getD i z)) l.length
 | [],n=>rfl
 | a::r,n=>by
   unfold qD Vj
   rw [List.length_cons,List.range_succ_eq_map,List.all_cons,List.all_map,qiX z r (n+1)]
   show (p n a&&_)=(p n a&&_)
   congr 1
   unfold Vj
   congr 1
   funext i
   show p (n+1+i) _=p (n+(i+1)) _
   rw [show n+1+i=n+(i+1) by omega]
   rfl
theorem vF {α:Type}{p:Nat->α->Bool}(z:α)(l:List α):qD p l 0=Vj (fun i=>p i (l.getD i z)) l.length:=by
 rw [qiX z l 0];simp only [Nat.zero_add]
def qnM (t:qm)(x:qh)(i:Nat):Bool:=!(decide (x.times.getD i 0=-1)&&decide (0<=nsI t x i))
def jz (t:qm)(x:qh):Bool:=Vj (qnM t x) t.nodes.length
def zY (t:qm)(x:qh):Bool:=!(qD (fun _ q=>!K4 t x q) t.ties 0&&(decide (x.now<=t.hor)||jz t x))
theorem qfj (t:qm)(x:qh)(hs:kj t)(h:StT t x):qe Tryz.prog 53 [qN t,qQ x] (rB (jz t x)):=by
 refine qe.of qc (fn:=Tryz.f53) (c:=Tryz.f53.body.getD .skip) (dr:=fun n=>qa 0 [] n) Tryz.func53 rfl (by kernel_rfl) (by kernel_rfl) (by kernel_rfl) ?_
 obtain ⟨f1,hf1⟩:∃ f,f=qja:=⟨_,rfl⟩
 have hO:qp Tryz.prog (qL [(94,Qy f1)]):=by
  subst hf1
  exact qb jC qd
 have hv:=h.vals
 have hn:=h.now
 have h1:=qF h.sh
 have hl:∀ n∈t.nodes,qY n.label=true:=fun n hn=>kG h.sh hn
 obtain ⟨p,hp⟩:∃ p:Nat->qi->Bool,p=fun i q=>!(decide (x.times.getD i 0=-1)&&decide (0<=f1 q.label x.vals)):=⟨_,rfl⟩
 have hr:jz t x=(qD p t.nodes 0&&true):=by
  rw [Bool.and_true,vF qi.z,hp,hf1];rfl
 rw [hr]
 clear h hs hr
 obtain ⟨ns,ts,hr⟩:=t
 obtain ⟨now,times,vals⟩:=x
 dsimp only at hv hn h1 hl hp ⊢
 refine SEx.go (X:=XX) qc (fun n=>qa [] [(2,[3,8,9,10])] n) (fun _=>none) hO 60 ?_
 intro M R L N m0 m1 m2 m3 m4 m5
 cases M
 cbv
 repeat' first | refine m1 _ _ ?_ ?_ | refine m2 _ _ fun h=>?_ | refine m3 _ ?_ | (refine m4 _ _ (Hd.out ?_);generalize hks:(List.cons _ _:List K)=ks) | (refine m5 _ _ ?_;cbv)
 all_goals (clear m1 m2 m3 m4 m5;cases m0;try dsimp only)
 all_goals try simp only [sm] at *
 obtain ⟨m,hm⟩:∃ m,m=ns.length:=⟨_,rfl⟩
 refine ⟨SEx.same (SEx.idx m (fun i=>⟨30,[(3,bP 12288),(8,bL (.node false none ns)),(9,bI m),(10,bI i)],[(12288,.obx [.fz (.int .i64 now),.fz (.sl (.i times)),.fz (.sl (.i vals))])]⟩) (fun i=>rB (qD p (ns.drop i) i&&true)) ?_) (by rw [hm];rfl) rfl⟩
 intro i hi ih
 rw [<-hks]
 have hl2:i<m->zf _ _ _:=fun h=>zf.of p ns i true qi.z (by omega)
 have he:i=m->(qD p (ns.drop i) i&&true)=true:=fun h=>qU (by omega)
 refine SEx.go (X:=XX) qc (fun n=>qa [] [(2,[3,8,9,10])] n) (fun _=>none) hO 60 ?_
 intro M R L N m0 m1 m2 m3 m4 m5
 cases M
 cbv
 repeat' first | refine m1 _ _ ?_ ?_ | refine m2 _ _ fun h=>?_ | refine m3 _ ?_ | (refine m4 _ _ (Hd.out ?_);try first | rw [hks] | rw [hk2] | rw [hk3]) | (refine m5 _ _ ?_;cbv)
 all_goals (clear m1 m2 m3 m4 m5;cases m0;(try clear hks;try clear hk2;try clear hk3);try dsimp only)
 all_goals try simp only [sm] at *
 all_goals (try simp only [qg (show i<9223372036854775807 by omega)] at *)
 all_goals first
  | omega
  | exact ⟨hv⟩
  | exact ⟨hl _ (qo (z:=qi.z) (by omega)).out⟩
  | (refine qV ?_ _;rw [he (by omega)];done)
  | (refine (hl2 (by omega)).stop _ ?_;rw [hp];delta qi.label at *;clear hl2 he ih hl;simp_all;done)
  | (refine ⟨(ih (by omega)).same rfl ((hl2 (by omega)).go ?_)⟩;rw [hp];delta qi.label at *;clear hl2 he ih hl;simp_all;done)
  | skip
theorem YX (t:qm)(x:qh)(hs:kj t)(h:StT t x):qe Tryz.prog 52 [qN t,qQ x] (rB (zY t x)):=by
 refine qe.of qc (fn:=Tryz.f52) (c:=Tryz.f52.body.getD .skip) (dr:=fun n=>qa 0 [] n) Tryz.func52 rfl (by kernel_rfl) (by kernel_rfl) (by kernel_rfl) ?_
 obtain ⟨f1,hf1⟩:∃ f,f=qja:=⟨_,rfl⟩
 obtain ⟨f2,hf2⟩:∃ f,f=K4:=⟨_,rfl⟩
 have hO:qp Tryz.prog (qL [(94,Qy f1),(93,w3 qM qP yQ (fun t x q=>rB (f2 t x q)) (fun t x q=>[StT t x,QV t q]))]):=by
  subst hf1 hf2
  exact qb jC (qb (QL fun t x q h=>qc3 t x q (h _ (.head _)) (h _ (.tail _ (.head _)))) qd)
 have hv:=h.vals
 have hn:=h.now
 have h1:=qF h.sh
 have h2:=zU h.sh
 have hl:∀ n∈t.nodes,qY n.label=true:=fun n hn=>kG h.sh hn
 have ht:∀ q∈t.ties,QV t q:=fun q hq=>kB h.sh hq
 obtain ⟨p,hp⟩:∃ p:Nat->qi->Bool,p=fun i q=>!(decide (t.hor<x.now)&&(decide (x.times.getD i 0=-1)&&decide (0<=f1 q.label x.vals))):=⟨_,rfl⟩
 obtain ⟨pt,hpt⟩:∃ p:Nat->Tie->Bool,p=fun _ q=>!f2 t x q:=⟨_,rfl⟩
 have e:qD p t.nodes 0=(decide (x.now<=t.hor)||jz t x):=by
  rw [vF qi.z,hp,hf1]
  by_cases hc:t.hor<x.now
  . rw [decide_eq_true hc,decide_eq_false (show ¬x.now<=t.hor by omega),Bool.false_or];rfl
  . rw [decide_eq_false hc,decide_eq_true (show x.now<=t.hor by omega),Bool.true_or]
    exact ZH fun j hj=>rfl
 obtain ⟨d,hd⟩:∃ d,d=qD p t.nodes 0:=⟨_,rfl⟩
 have hr:zY t x=!(qD pt t.ties 0&&d):=by
  rw [hd,e,hpt,hf2];rfl
 rw [hr]
 clear hs hr e
 obtain ⟨ns,ts,hr⟩:=t
 obtain ⟨now,times,vals⟩:=x
 dsimp only at hv hn h1 h2 hl hp hd ht ⊢
 refine SEx.go (X:=XX) qc (fun n=>qa [] [(2,[2,3,10,11,12]),(8,[2,3,22,23,24])] n) (fun _=>none) hO 60 ?_
 intro M R L N m0 m1 m2 m3 m4 m5
 cases M
 cbv
 repeat' first | refine m1 _ _ ?_ ?_ | refine m2 _ _ fun h=>?_ | refine m3 _ ?_ | (refine m4 _ _ (Hd.out ?_);generalize hks:(List.cons _ _:List K)=ks) | (refine m5 _ _ ?_;cbv)
 all_goals (clear m1 m2 m3 m4 m5;cases m0;try dsimp only)
 all_goals try simp only [sm] at *
 obtain ⟨m,hm⟩:∃ m,m=ts.length:=⟨_,rfl⟩
 refine ⟨SEx.same (SEx.idx m (fun i=>⟨51,[(2,bP 8192),(3,bP 12288),(10,bL (.tie ts)),(11,bI m),(12,bI i)],[(8192,.obx [.fz (.sl (.node false none ns)),.fz (.sl (.tie ts)),.fz (.int .i64 hr)]),(12288,.obx [.fz (.int .i64 now),.fz (.sl (.i times)),.fz (.sl (.i vals))])]⟩) (fun i=>rB (!(qD pt (ts.drop i) i&&d))) ?_) (by rw [hm];rfl) rfl⟩
 intro i hi ih
 rw [<-hks]
 have hl2:i<m->zf _ _ _:=fun h=>zf.of pt ts i d Tie.z (by omega)
 have he:i=m->(qD pt (ts.drop i) i&&d)=d:=fun h=>qU (by omega)
 refine SEx.go (X:=XX) qc (fun n=>qa [] [(2,[2,3,10,11,12]),(8,[2,3,22,23,24])] n) (fun _=>none) hO 60 ?_
 intro M R L N m0 m1 m2 m3 m4 m5
 cases M
 cbv
 repeat' first | refine m1 _ _ ?_ ?_ | refine m2 _ _ fun h=>?_ | refine m3 _ ?_ | (refine m4 _ _ (Hd.out ?_);first | rw [hks] | generalize hk2:(List.cons _ _:List K)=k2) | (refine m5 _ _ ?_;cbv)
 all_goals (clear m1 m2 m3 m4 m5;cases m0;try dsimp only)
 all_goals try simp only [sm] at *
 all_goals (try simp only [qg (show i<9223372036854775807 by omega)] at *)
 all_goals first
  | omega
  | exact h
  | exact ht _ (qo (z:=Tie.z) (by omega)).out
  | (refine (hl2 (by omega)).stopN _ ?_;rw [hpt];clear hl2 he ih hl ht;simp_all;done)
  | (refine ⟨(ih (by omega)).same rfl ((hl2 (by omega)).goN ?_)⟩;rw [hpt];clear hl2 he ih hl ht;simp_all;done)
  | skip
 have him:i=m:=by omega
 rw [he him,hd]
 clear ih hl2 he hd
 obtain ⟨w,hw⟩:∃ w,w=ns.length:=⟨_,rfl⟩
 refine ⟨SEx.same (SEx.idx w (fun i=>⟨51,[(2,bP 8192),(3,bP 12288),(22,bL (.node false none ns)),(23,bI w),(24,bI i)],[(8192,.obx [.fz (.sl (.node false none ns)),.fz (.sl (.tie ts)),.fz (.int .i64 hr)]),(12288,.obx [.fz (.int .i64 now),.fz (.sl (.i times)),.fz (.sl (.i vals))])]⟩) (fun i=>rB (!(qD p (ns.drop i) i&&true))) ?_) (by rw [hw];rfl) (by rw [Bool.and_true];rfl)⟩
 intro k hk ih
 rw [<-hk2]
 have hl2:k<w->zf _ _ _:=fun h=>zf.of p ns k true qi.z (by omega)
 have he:k=w->(qD p (ns.drop k) k&&true)=true:=fun h=>qU (by omega)
 refine SEx.go (X:=XX) qc (fun n=>qa [] [(2,[2,3,10,11,12]),(8,[2,3,22,23,24])] n) (fun _=>none) hO 60 ?_
 intro M R L N m0 m1 m2 m3 m4 m5
 cases M
 cbv
 repeat' first | refine m1 _ _ ?_ ?_ | refine m2 _ _ fun h=>?_ | refine m3 _ ?_ | (refine m4 _ _ (Hd.out ?_);try first | rw [hks] | rw [hk2] | rw [hk3]) | (refine m5 _ _ ?_;cbv)
 all_goals (clear m1 m2 m3 m4 m5;cases m0;(try clear hks;try clear hk2;try clear hk3);try dsimp only)
 all_goals try simp only [sm] at *
 all_goals (try simp only [qg (show k<9223372036854775807 by omega)] at *)
 all_goals first
  | omega
  | exact ⟨hv⟩
  | exact ⟨hl _ (qo (z:=qi.z) (by omega)).out⟩
  | (refine qV ?_ _;rw [he (by omega)];rfl)
  | (refine (hl2 (by omega)).stopN _ ?_;rw [hp];delta qi.label at *;clear hl2 he ih hl ht;simp_all;done)
  | (refine ⟨(ih (by omega)).same rfl ((hl2 (by omega)).goN ?_)⟩;rw [hp];delta qi.label at *;clear hl2 he ih hl ht;simp_all;done)
  | (refine ⟨(ih (by omega)).same rfl ((hl2 (by omega)).goN ?_)⟩;rw [hp];dsimp only;rw [decide_eq_false (show ¬hr<now by omega)];rfl)
  | skip
end Go.Proofs.YtfafehnchmelnaaGreat.Ai
namespace Go.Proofs.YtfafehnchmelnaaGreat.Ai
open Go
set_option maxRecDepth 100000
variable [qf]
theorem VS (t:qm)(x:qh)(q:Tie)(hs:kO t x)(hst:StT t x)(hq:QV t q):qe Tryz.prog 127 [qN t,qQ x,yv q] (rB (K4 t x q)):=by
 refine qe.of qc (fn:=Tryz.f127) (c:=Tryz.f127.body.getD .skip) (dr:=fun n=>qa 0 [(1,14)] n) Tryz.func127 rfl (by kernel_rfl) (by kernel_rfl) (by kernel_rfl) ?_
 obtain ⟨f1,hf1⟩:∃ f,f=nsI:=⟨_,rfl⟩
 have hO:qp Tryz.prog (qL [(128,wg f1)]):=by
  subst hf1
  exact qb JD qd
 have hn:=hst.now
 have hh:=zO hst.sh
 have ht:=hst.time
 have h5:=hq.src
 have h6:=hq.dst
 have hr:K4 t x q=if ¬x.times.getD q.src.toNat 0=-1/\¬x.times.getD q.dst.toNat 0=-1 then !(decide (q.low<=x.times.getD q.dst.toNat 0-x.times.getD q.src.toNat 0)&&decide (x.times.getD q.dst.toNat 0-x.times.getD q.src.toNat 0<=q.high))
  else if q.free=true then false
  else if ¬x.times.getD q.src.toNat 0=-1 then decide (f1 t x q.dst=1)&&decide (q.high<x.now-x.times.getD q.src.toNat 0)
  else if ¬x.times.getD q.dst.toNat 0=-1 then decide (f1 t x q.src=1)&&decide (x.times.getD q.dst.toNat 0-x.now<q.low)
  else false:=by rw [hf1];rfl
 rw [hr]
 clear hq hr
 obtain ⟨ns,ts,hr⟩:=t
 obtain ⟨now,times,vals⟩:=x
 obtain ⟨x1,x2,x3,x4,x5⟩:=q
 dsimp only at hn hh ht h5 h6 ⊢
 have hta:=ht x1.toNat
 have htb:=ht x2.toNat
 have hw1:IntKind.i64.wrap (times.getD x2.toNat 0-times.getD x1.toNat 0)=times.getD x2.toNat 0-times.getD x1.toNat 0:=qy (by omega) (by omega)
 have hw2:IntKind.i64.wrap (now-times.getD x1.toNat 0)=now-times.getD x1.toNat 0:=qy (by omega) (by omega)
 have hw3:IntKind.i64.wrap (times.getD x2.toNat 0-now)=times.getD x2.toNat 0-now:=qy (by omega) (by omega)
 refine SEx.go (X:=XX) qc (fun n=>qa [] [] n) (fun _=>none) hO 60 ?_
 intro M R L N m0 m1 m2 m3 m4 m5
 cases M
 cbv
 repeat' first | refine m1 _ _ ?_ ?_ | refine m2 _ _ fun h=>?_ | refine m3 _ ?_ | (refine m4 _ _ (Hd.out ?_);try first | rw [hks] | rw [hk2] | rw [hk3]) | (refine m5 _ _ ?_;cbv)
 all_goals (clear m1 m2 m3 m4 m5;cases m0;(try clear hks;try clear hk2;try clear hk3);try dsimp only)
 all_goals try simp only [sm] at *
 all_goals (clear hO ht)
 all_goals (try simp only [hw1,hw2,hw3] at *)
 all_goals first
  | omega
  | contradiction
  | exact hs
  | exact hst
  | exact ⟨h5⟩
  | exact ⟨h6⟩
  | (refine qV ?_ _;clear hs hst hw1 hw2 hw3;simp_all;done)
  | (refine qV ?_ _;clear hs hst hw1 hw2 hw3;rw [if_pos ⟨by assumption,by assumption⟩];first | (rw [decide_eq_false (show ¬_ by omega)];rfl) | (rw [decide_eq_true (show x3<=_ by omega),Bool.true_and,Bool.eq_iff_iff];simp;done))
  | skip
def qnk (f:qm->qh->Tie->Bool):Wr:=w3 qM qP yQ (fun t x q=>rB (f t x q)) (fun t x q=>[kO t x,StT t x,QV t q])
theorem qkC:qA Tryz.prog 127 (qnk K4):=QL fun t x q h=>VS t x q (h _ (.head _)) (h _ (.tail _ (.head _))) (h _ (.tail _ (.tail _ (.head _))))
theorem qbK (q:Tie)(t:qm)(x:qh)(hs:kO t x)(hst:StT t x)(hq:QV t q):qe Tryz.prog 126 [yv q,(false,[.ptr t.d]),(false,[.ptr x.d])] (rB (K4 t x q)):=by
 refine qe.of qc (fn:=Tryz.f126) (c:=Tryz.f126.body.getD .skip) (dr:=fun n=>qa 0 [] n) Tryz.func126 rfl (by kernel_rfl) (by kernel_rfl) (by kernel_rfl) ?_
 obtain ⟨f,hf⟩:∃ f,f=K4:=⟨_,rfl⟩
 have hO:qp Tryz.prog (qL [(127,qnk f)]):=by subst hf;exact qb qkC qd
 rw [<-hf]
 obtain ⟨ns,ts,hr⟩:=t
 obtain ⟨now,times,vals⟩:=x
 obtain ⟨x1,x2,x3,x4,x5⟩:=q
 refine SEx.go (X:=XX) qc (fun n=>qa [] [] n) (fun _=>none) hO 60 ?_
 intro M R L N m0 m1 m2 m3 m4 m5
 cases M
 cbv
 repeat' first | refine m1 _ _ ?_ ?_ | refine m2 _ _ fun h=>?_ | refine m3 _ ?_ | (refine m4 _ _ (Hd.out ?_);try first | rw [hks] | rw [hk2] | rw [hk3]) | (refine m5 _ _ ?_;cbv)
 all_goals (clear m1 m2 m3 m4 m5;cases m0;(try clear hks;try clear hk2;try clear hk3);try dsimp only)
 all_goals try simp only [sm] at *
 all_goals first
  | exact hs
  | exact hst
  | exact hq
  | rfl
  | skip
theorem qfv (t:qm)(x:qh)(hs:kO t x)(hst:StT t x):qe Tryz.prog 103 [qN t,qQ x] (rB (jz t x)):=by
 refine qe.of qc (fn:=Tryz.f103) (c:=Tryz.f103.body.getD .skip) (dr:=fun n=>qa 0 [] n) Tryz.func103 rfl (by kernel_rfl) (by kernel_rfl) (by kernel_rfl) ?_
 obtain ⟨f,hf⟩:∃ f,f=nsI:=⟨_,rfl⟩
 have hO:qp Tryz.prog (qL [(128,wg f)]):=by subst hf;exact qb JD qd
 have hn:=hst.now
 have h1:=qF hst.sh
 have hge:∀ i,-1<=f t x i:=fun i=>by rw [hf];unfold nsI;exact (qiA hst.vals _ 1 (by decide) (by decide)).1
 obtain ⟨p,hp⟩:∃ p:Nat->Int->Bool,p=fun (i:Nat) (n:Int)=>!(decide (n=-1)&&!decide (f t x (i:Int)=-1)):=⟨_,rfl⟩
 have hr:jz t x=(qD p x.times 0&&true):=by
  rw [Bool.and_true,vF (0:Int),hn.2.2,hp]
  unfold jz
  congr 1
  funext i
  unfold qnM
  have:=hge i
  rw [hf] at this
  rw [hf,show decide (0<=nsI t x i)=!decide (nsI t x i=-1) by rw [<-decide_not];exact decide_eq_decide.2 (by omega)]
 rw [hr]
 clear hr hf
 obtain ⟨ns,ts,hr⟩:=t
 obtain ⟨now,times,vals⟩:=x
 dsimp only at hn h1 hp ⊢
 refine SEx.go (X:=XX) qc (fun n=>qa [] [(2,[2,3,8,9,10])] n) (fun _=>none) hO 60 ?_
 intro M R L N m0 m1 m2 m3 m4 m5
 cases M
 cbv
 repeat' first | refine m1 _ _ ?_ ?_ | refine m2 _ _ fun h=>?_ | refine m3 _ ?_ | (refine m4 _ _ (Hd.out ?_);generalize hks:(List.cons _ _:List K)=ks) | (refine m5 _ _ ?_;cbv)
 all_goals (clear m1 m2 m3 m4 m5;cases m0;try dsimp only)
 all_goals try simp only [sm] at *
 obtain ⟨m,hm⟩:∃ m,m=times.length:=⟨_,rfl⟩
 refine ⟨SEx.same (SEx.idx m (fun i=>⟨25,[(2,bP 8192),(3,bP 12288),(8,bL (.i times)),(9,bI m),(10,bI i)],[(8192,.obx [.fz (.sl (.node false none ns)),.fz (.sl (.tie ts)),.fz (.int .i64 hr)]),(12288,.obx [.fz (.int .i64 now),.fz (.sl (.i times)),.fz (.sl (.i vals))])]⟩) (fun i=>rB (qD p (times.drop i) i&&true)) ?_) (by rw [hm];rfl) rfl⟩
 intro i hi ih
 rw [<-hks]
 have hl2:i<m->zf _ _ _:=fun h=>zf.of p times i true (0:Int) (by omega)
 have he:i=m->(qD p (times.drop i) i&&true)=true:=fun h=>qU (by omega)
 refine SEx.go (X:=XX) qc (fun n=>qa [] [(2,[2,3,8,9,10])] n) (fun _=>none) hO 60 ?_
 intro M R L N m0 m1 m2 m3 m4 m5
 cases M
 cbv
 repeat' first | refine m1 _ _ ?_ ?_ | refine m2 _ _ fun h=>?_ | refine m3 _ ?_ | (refine m4 _ _ (Hd.out ?_);try first | rw [hks] | rw [hk2] | rw [hk3]) | (refine m5 _ _ ?_;cbv)
 all_goals (clear m1 m2 m3 m4 m5;cases m0;(try clear hks;try clear hk2;try clear hk3);try dsimp only)
 all_goals try simp only [sm] at *
 all_goals (try simp only [qg (show i<9223372036854775807 by omega)] at *)
 all_goals first
  | omega
  | exact hs
  | exact hst
  | exact ⟨⟨by omega,by omega⟩⟩
  | (refine qV ?_ _;rw [he (by omega)];done)
  | (refine (hl2 (by omega)).stop _ ?_;rw [hp];dsimp only;rw [decide_eq_true (by assumption),decide_eq_false (by assumption)];rfl)
  | (refine ⟨(ih (by omega)).same rfl ((hl2 (by omega)).go ?_)⟩;rw [hp];dsimp only;rw [decide_eq_false (by assumption)];rfl)
  | (refine ⟨(ih (by omega)).same rfl ((hl2 (by omega)).go ?_)⟩;rw [hp];dsimp only;rw [decide_eq_true (by assumption),decide_eq_true (by assumption)];rfl)
  | skip
def jx (f:qm->qh->Bool):Wr:=w2 qM qP (fun t x=>rB (f t x)) (fun t x=>[kO t x,StT t x])
theorem W6:qA Tryz.prog 103 (jx jz):=qG fun t x h=>qfv t x (h _ (.head _)) (h _ (.tail _ (.head _)))
theorem qlS:qA Tryz.prog 53 (jx jz):=qG fun t x h=>qfj t x (h _ (.head _)).sh (h _ (.tail _ (.head _)))
theorem qdb:qA Tryz.prog 52 (jx zY):=qG fun t x h=>YX t x (h _ (.head _)).sh (h _ (.tail _ (.head _)))
structure qrs (t:qm)(l:List Tie):Prop where out:∀ q∈l,QV t q
def qhE (l:List Tie)(t:qm)(x:qh):Bool:=l.any fun q=>K4 t x q
theorem qeK (t:qm)(x:qh)(hs:kO t x)(hst:StT t x):qe Tryz.prog 102 [qN t,qQ x] (rB (zY t x)):=by
 refine qe.of qc (fn:=Tryz.f102) (c:=Tryz.f102.body.getD .skip) (dr:=fun n=>qa 0 [] n) Tryz.func102 rfl (by kernel_rfl) (by kernel_rfl) (by kernel_rfl) ?_
 obtain ⟨f,hf⟩:∃ f,f=qhE:=⟨_,rfl⟩
 obtain ⟨g,hg⟩:∃ f,f=jz:=⟨_,rfl⟩
 have hO:qp Tryz.prog (qL [(103,jx g),(77,w2 Kq (qrt 126 true true qM qP) (fun l x=>rB (f l x.1 x.2)) (fun l x=>[LLe l maxLen,qrs x.1 l,kO x.1 x.2,StT x.1 x.2]))]):=by
  subst hf hg
  exact qb W6 (qb (qG fun l x h=>by
   have g1:=(h _ (.head _)).out
   have g2:=(h _ (.tail _ (.head _))).out
   have g3:=h _ (.tail _ (.tail _ (.head _)))
   have g4:=h _ (.tail _ (.tail _ (.tail _ (.head _))))
   exact KI l _ _ _ (fun y hy=>qbK y x.1 x.2 g3 g4 (g2 y hy)) g1) qd)
 have hr:zY t x=(f t.ties t x||(decide (t.hor<x.now)&&!g t x)):=by
  rw [hf,hg]
  unfold zY qhE
  rw [Kx,Bool.not_and,List.not_all_eq_any_not,Bool.not_or]
  simp only [Bool.not_not]
  congr 2
  rw [<-decide_not]
  exact decide_eq_decide.2 (by omega)
 have h1:=hs.sh.tlen
 have h2:∀ q∈t.ties,QV t q:=fun q hq=>kB hst.sh hq
 rw [hr]
 clear hr hf hg
 obtain ⟨ns,ts,hr⟩:=t
 obtain ⟨now,times,vals⟩:=x
 dsimp only at h1 h2 ⊢
 refine SEx.go (X:=XX) qc (fun n=>qa [] [] n) (fun _=>none) hO 60 ?_
 intro M R L N m0 m1 m2 m3 m4 m5
 cases M
 cbv
 repeat' first | refine m1 _ _ ?_ ?_ | refine m2 _ _ fun h=>?_ | refine m3 _ ?_ | (refine m4 _ _ (Hd.out ?_);try first | rw [hks] | rw [hk2] | rw [hk3]) | (refine m5 _ _ ?_;cbv)
 all_goals (clear m1 m2 m3 m4 m5;cases m0;(try clear hks;try clear hk2;try clear hk3);try dsimp only)
 all_goals try simp only [sm] at *
 all_goals first
  | exact ⟨h1⟩
  | exact ⟨h2⟩
  | exact hs
  | exact hst
  | (refine qV ?_ _;clear hs hst;simp_all;done)
  | (refine qV ?_ _;rw [decide_eq_false (show ¬hr<now by omega)];simp_all;done)
  | skip
theorem qcZ:qA Tryz.prog 102 (jx zY):=qG fun t x h=>qeK t x (h _ (.head _)) (h _ (.tail _ (.head _)))
end Go.Proofs.YtfafehnchmelnaaGreat.Ai
namespace Go.Proofs.YtfafehnchmelnaaGreat.Ai
open Go
set_option maxRecDepth 100000
variable [qf]
theorem qbk.le {t:qm}(h:qbk t):kj t:=⟨h.len,h.tlen,fun q hq=>⟨(h.nodes q hq).name,(h.nodes q hq).len,(h.nodes q hq).label⟩⟩
structure qmT (t:qm)(n:Int):Prop where
 len:t.nodes.length<=1048576
 tlen:t.ties.length<=1048576
 labs:∀ q∈t.nodes,q.label.length<=1048576
 le:n<=1048576
theorem qqF {t:qm}(h:0<=jt t 1048576):qmT t (jt t 1048576):=by
 have:=qjN (n:=1048576) (by decide) h
 exact ⟨by omega,by omega,fun q hq=>by have:=(this.2.2.1 q hq).2;omega,this.2.2.2⟩
end Go.Proofs.YtfafehnchmelnaaGreat.Ai
namespace Go.Proofs.YtfafehnchmelnaaGreat.Ai
open Go
set_option maxRecDepth 100000
variable [qf]
theorem qeW (x:qh)(h1:x.times.length<=1048576)(h2:x.vals.length<=1048576):qe Tryz.prog 99 [qQ x] (kD x):=by
 refine qe.of qc (fn:=Tryz.f99) (c:=Tryz.f99.body.getD .skip) (dr:=fun n=>qa 0 [(1,10)] n) Tryz.func99 rfl (by kernel_rfl) (by kernel_rfl) (by kernel_rfl) ?_
 obtain ⟨now,times,vals⟩:=x
 dsimp only at h1 h2
 refine SEx.go (X:=XX) qc (fun n=>qa [] [] n) (fun _=>none) qd 60 ?_
 intro M R L N m0 m1 m2 m3 m4 m5
 cases M
 cbv
 repeat' first | refine m1 _ _ ?_ ?_ | refine m2 _ _ fun h=>?_ | refine m3 _ ?_ | (refine m4 _ _ (Hd.out ?_);try first | rw [hks] | rw [hk2] | rw [hk3]) | (refine m5 _ _ ?_;cbv)
 all_goals (clear m1 m2 m3 m4 m5;cases m0;(try clear hks;try clear hk2;try clear hk3);try dsimp only)
 all_goals try simp only [sm] at *
 all_goals first
  | (have:=zm;omega)
  | rfl
structure Yn (x:qh):Prop where
 tlen:x.times.length<=1048576
 vlen:x.vals.length<=1048576
def Jr:Wr:=w1 qP kD (fun x=>[Yn x])
theorem ZR:qA Tryz.prog 99 Jr:=zt fun x h=>qeW x (h _ (.head _)).tlen (h _ (.head _)).vlen
def qlX (t:qm)(x:qh):Bool:=qO t&&(decide (0<=x.now)&&(decide (x.now<=t.hor)&&jJ t ⟨x.now+1,x.times,x.vals⟩))
end Go.Proofs.YtfafehnchmelnaaGreat.Ai
namespace Go.Proofs.YtfafehnchmelnaaGreat.Ai
open Go
set_option maxRecDepth 100000
variable [qf]
def Jy (v ps vs:List Int):Nat->List Int
 | 0=>v
 | i+1=>(Jy v ps vs i).set (ps.getD i 0-1).toNat (vs.getD i 0)
theorem ZB (v ps vs:List Int):∀ i,(Jy v ps vs i).length=v.length
 | 0=>rfl
 | i+1=>by simp only [Jy,List.length_set,ZB v ps vs i]
structure PrT (ps:List Int):Prop where out:∀ p∈ps,1<=p/\p<=3
def qfD (x:qh)(ps vs:List Int):qh:=⟨IntKind.i64.wrap (x.now+1),x.times,Jy x.vals ps vs ps.length⟩
theorem Y2 (x:qh)(ps vs:List Int)(hz:Yn x)(h3:x.vals.length=3)(hl:vs.length=ps.length)(h1:ps.length<=1048576)(hp:∀ p∈ps,1<=p/\p<=3):qe Tryz.prog 124 [qQ x,aIs ps,aIs vs] (kD (qfD x ps vs)):=by
 refine qe.of qc (fn:=Tryz.f124) (c:=Tryz.f124.body.getD .skip) (dr:=fun n=>qa 0 [(5,8)] n) Tryz.func124 rfl (by kernel_rfl) (by kernel_rfl) (by kernel_rfl) ?_
 have hO:qp Tryz.prog (qL [(99,Jr)]):=qb ZR qd
 obtain ⟨now,times,vals⟩:=x
 dsimp only at h3
 refine SEx.go (X:=XX) qc (fun n=>qa [] [(3,[2,6,7,12,13,14])] n) (fun _=>none) hO 60 ?_
 intro M R L N m0 m1 m2 m3 m4 m5
 cases M
 cbv
 repeat' first | refine m1 _ _ ?_ ?_ | refine m2 _ _ fun h=>?_ | refine m3 _ ?_ | (refine m4 _ _ (Hd.out ?_);generalize hks:(List.cons _ _:List K)=ks) | (refine m5 _ _ ?_;cbv)
 all_goals (clear m1 m2 m3 m4 m5;cases m0;try dsimp only)
 all_goals try simp only [sm] at *
 all_goals first
  | exact hz
  | skip
 obtain ⟨m,hm⟩:∃ m,m=ps.length:=⟨_,rfl⟩
 refine ⟨SEx.same (SEx.idx m (fun i=>⟨34,[(2,bL (.i vs)),(6,bP 24576),(7,bP 28672),(12,bL (.i ps)),(13,bI m),(14,bI i)],[(24576,.obx [.fz (.int .i64 0),.onil,.onil]),(28672,.obx [.fz (.int .i64 now),.osl (.i times),.osl (.i (Jy vals ps vs i))])]⟩) (fun _=>kD (qfD ⟨now,times,vals⟩ ps vs)) ?_) (by rw [hm];rfl) rfl⟩
 intro i hi ih
 rw [<-hks]
 obtain ⟨c,hc⟩:∃ c,c=Jy vals ps vs i:=⟨_,rfl⟩
 have hcl:c.length=3:=by rw [hc,ZB,h3]
 have hpi:i<m->1<=ps.getD i 0/\ps.getD i 0<=3:=fun h=>hp _ (qo (z:=(0:Int)) (by omega)).out
 have hw:i<m->IntKind.i64.wrap (ps.getD i 0-1)=ps.getD i 0-1:=fun h=>by have:=hpi h;exact qy (by omega) (by omega)
 rw [<-hc]
 refine SEx.go (X:=XX) qc (fun n=>qa [] [(3,[2,6,7,12,13,14])] n) (fun _=>none) hO 60 ?_
 intro M R L N m0 m1 m2 m3 m4 m5
 cases M
 cbv
 repeat' first | refine m1 _ _ ?_ ?_ | refine m2 _ _ fun h=>?_ | refine m3 _ ?_ | (refine m4 _ _ (Hd.out ?_);try first | rw [hks] | rw [hk2] | rw [hk3]) | (refine m5 _ _ ?_;cbv)
 all_goals (clear m1 m2 m3 m4 m5;cases m0;(try clear hks;try clear hk2;try clear hk3);try dsimp only)
 all_goals try simp only [sm] at *
 all_goals (try (have h8:=hpi (by omega)))
 all_goals (try rw [hw (by omega)] at *)
 all_goals (try simp only [qg (show i<9223372036854775807 by omega)])
 all_goals first
  | omega
  | (refine ⟨(ih (by omega)).same ?_ rfl⟩;show _=_;rw [show Jy vals ps vs (i+1)=c.set (ps.getD i 0-1).toNat (vs.getD i 0) by rw [hc];rfl];rfl)
  | (obtain rfl:i=m:=by omega
     unfold qfD
     rw [<-hm,hc];rfl)
  | skip
theorem qld (l:List Int)(h1:l.length<=1048576):qe Tryz.prog 69 [aIs l] (rIs l):=by
 refine qe.of qc (fn:=Tryz.f69) (c:=Tryz.f69.body.getD .skip) (dr:=fun n=>qa 0 [] n) Tryz.func69 rfl (by kernel_rfl) (by kernel_rfl) (by kernel_rfl) ?_
 refine SEx.go (X:=XX) qc (fun n=>qa [] [] n) (fun _=>none) qd 60 ?_
 intro M R L N m0 m1 m2 m3 m4 m5
 cases M
 cbv
 repeat' first | refine m1 _ _ ?_ ?_ | refine m2 _ _ fun h=>?_ | refine m3 _ ?_ | (refine m4 _ _ (Hd.out ?_);try first | rw [hks] | rw [hk2] | rw [hk3]) | (refine m5 _ _ ?_;cbv)
 all_goals (clear m1 m2 m3 m4 m5;cases m0;(try clear hks;try clear hk2;try clear hk3);try dsimp only)
 all_goals try simp only [sm] at *
 all_goals first
  | (have:=zm;omega)
  | (have hl:l=[]:=List.eq_nil_of_length_eq_zero (by omega)
     subst hl;rfl)
  | rfl
end Go.Proofs.YtfafehnchmelnaaGreat.Ai
namespace Go.Proofs.YtfafehnchmelnaaGreat.Ai
open Go
set_option maxRecDepth 100000
variable [qf]
def qhN:Wr:=w1 kx rIs (fun l=>[LLe l 1048576])
theorem qfw:qA Tryz.prog 69 qhN:=zt fun l h=>qld l (h _ (.head _)).out
theorem qbv (x:qh)(hz:Yn x):qe Tryz.prog 135 [qQ x] (kD x):=by
 refine qe.of qc (fn:=Tryz.f135) (c:=Tryz.f135.body.getD .skip) (dr:=fun n=>qa 0 [(1,8)] n) Tryz.func135 rfl (by kernel_rfl) (by kernel_rfl) (by kernel_rfl) ?_
 have hO:qp Tryz.prog (qL [(69,qhN)]):=qb qfw qd
 have h1:=hz.tlen
 have h2:=hz.vlen
 clear hz
 obtain ⟨now,times,vals⟩:=x
 dsimp only at h1 h2
 refine SEx.go (X:=XX) qc (fun n=>qa [] [] n) (fun _=>none) hO 60 ?_
 intro M R L N m0 m1 m2 m3 m4 m5
 cases M
 cbv
 repeat' first | refine m1 _ _ ?_ ?_ | refine m2 _ _ fun h=>?_ | refine m3 _ ?_ | (refine m4 _ _ (Hd.out ?_);try first | rw [hks] | rw [hk2] | rw [hk3]) | (refine m5 _ _ ?_;cbv)
 all_goals (clear m1 m2 m3 m4 m5;cases m0;(try clear hks;try clear hk2;try clear hk3);try dsimp only)
 all_goals try simp only [sm] at *
 all_goals first
  | exact ⟨h1⟩
  | exact ⟨h2⟩
  | rfl
def Vy:Wr:=w1 qP kD (fun x=>[Yn x])
theorem J7:qA Tryz.prog 135 Vy:=zt fun x h=>qbv x (h _ (.head _))
theorem Vi (x:qh)(ps vs:List Int)(hz:Yn x)(h3:x.vals.length=3)(hl:vs.length=ps.length)(h1:ps.length<=1048576)(hp:∀ p∈ps,1<=p/\p<=3):qe Tryz.prog 147 [qQ x,aIs ps,aIs vs] (kD (qfD x ps vs)):=by
 refine qe.of qc (fn:=Tryz.f147) (c:=Tryz.f147.body.getD .skip) (dr:=fun n=>qa 0 [(5,8)] n) Tryz.func147 rfl (by kernel_rfl) (by kernel_rfl) (by kernel_rfl) ?_
 have hO:qp Tryz.prog (qL [(135,Vy)]):=qb J7 qd
 obtain ⟨now,times,vals⟩:=x
 dsimp only at h3
 refine SEx.go (X:=XX) qc (fun n=>qa [] [(3,[2,6,7,12,13,14])] n) (fun _=>none) hO 60 ?_
 intro M R L N m0 m1 m2 m3 m4 m5
 cases M
 cbv
 repeat' first | refine m1 _ _ ?_ ?_ | refine m2 _ _ fun h=>?_ | refine m3 _ ?_ | (refine m4 _ _ (Hd.out ?_);generalize hks:(List.cons _ _:List K)=ks) | (refine m5 _ _ ?_;cbv)
 all_goals (clear m1 m2 m3 m4 m5;cases m0;try dsimp only)
 all_goals try simp only [sm] at *
 all_goals first
  | exact hz
  | skip
 obtain ⟨m,hm⟩:∃ m,m=ps.length:=⟨_,rfl⟩
 refine ⟨SEx.same (SEx.idx m (fun i=>⟨34,[(2,bL (.i vs)),(6,bP 24576),(7,bP 28672),(12,bL (.i ps)),(13,bI m),(14,bI i)],[(24576,.obx [.fz (.int .i64 0),.onil,.onil]),(28672,.obx [.fz (.int .i64 now),.osl (.i times),.osl (.i (Jy vals ps vs i))])]⟩) (fun _=>kD (qfD ⟨now,times,vals⟩ ps vs)) ?_) (by rw [hm];rfl) rfl⟩
 intro i hi ih
 rw [<-hks]
 obtain ⟨c,hc⟩:∃ c,c=Jy vals ps vs i:=⟨_,rfl⟩
 have hcl:c.length=3:=by rw [hc,ZB,h3]
 have hpi:i<m->1<=ps.getD i 0/\ps.getD i 0<=3:=fun h=>hp _ (qo (z:=(0:Int)) (by omega)).out
 have hw:i<m->IntKind.i64.wrap (ps.getD i 0-1)=ps.getD i 0-1:=fun h=>by have:=hpi h;exact qy (by omega) (by omega)
 rw [<-hc]
 refine SEx.go (X:=XX) qc (fun n=>qa [] [(3,[2,6,7,12,13,14])] n) (fun _=>none) hO 60 ?_
 intro M R L N m0 m1 m2 m3 m4 m5
 cases M
 cbv
 repeat' first | refine m1 _ _ ?_ ?_ | refine m2 _ _ fun h=>?_ | refine m3 _ ?_ | (refine m4 _ _ (Hd.out ?_);try first | rw [hks] | rw [hk2] | rw [hk3]) | (refine m5 _ _ ?_;cbv)
 all_goals (clear m1 m2 m3 m4 m5;cases m0;(try clear hks;try clear hk2;try clear hk3);try dsimp only)
 all_goals try simp only [sm] at *
 all_goals (try (have h8:=hpi (by omega)))
 all_goals (try rw [hw (by omega)] at *)
 all_goals (try simp only [qg (show i<9223372036854775807 by omega)])
 all_goals first
  | omega
  | (refine ⟨(ih (by omega)).same ?_ rfl⟩;show _=_;rw [show Jy vals ps vs (i+1)=c.set (ps.getD i 0-1).toNat (vs.getD i 0) by rw [hc];rfl];rfl)
  | (obtain rfl:i=m:=by omega
     unfold qfD
     rw [<-hm,hc];rfl)
  | skip
def obF (v ps vs:List Int):List Int:=Jy v ps vs ps.length
structure V3 (v:List Int):Prop where out:v.length=3
structure SLn (a b:List Int):Prop where out:a.length=b.length
def nxI (n:Int):Int:=IntKind.i64.wrap (n+1)
def qoH (g:Int->Int)(f:List Int->List Int->List Int->List Int):Wr:=w3 qP kx kx (fun x ps vs=>kD ⟨g x.now,x.times,f x.vals ps vs⟩) (fun x ps vs=>[Yn x,V3 x.vals,SLn vs ps,LLe ps 1048576,PrT ps])
theorem qne:qA Tryz.prog 124 (qoH nxI obF):=QL fun x ps vs h=>Y2 x ps vs (h _ (.head _)) (h _ (.tail _ (.head _))).out (h _ (.tail _ (.tail _ (.head _)))).out (h _ (.tail _ (.tail _ (.tail _ (.head _))))).out (h _ (.tail _ (.tail _ (.tail _ (.tail _ (.head _)))))).out
theorem qlp:qA Tryz.prog 147 (qoH nxI obF):=QL fun x ps vs h=>Vi x ps vs (h _ (.head _)) (h _ (.tail _ (.head _))).out (h _ (.tail _ (.tail _ (.head _)))).out (h _ (.tail _ (.tail _ (.tail _ (.head _))))).out (h _ (.tail _ (.tail _ (.tail _ (.tail _ (.head _)))))).out
end Go.Proofs.YtfafehnchmelnaaGreat.Ai
namespace Go.Proofs.YtfafehnchmelnaaGreat.Ai
open Go
set_option maxRecDepth 100000
variable [qf]
def zZ (p:Int->Bool)(l:List Int):List Int:=l.filter fun x=>!p x
def yo (p:Int->Bool)(l:List Int):List Int:=zZ p l++List.replicate (l.length-(zZ p l).length) 0
def qmX (g:FuncId)(caps:List D)(l:List Int)(p:Int->Bool)(L:List (Nat×Wr)):Qe:=fun g' as'=>match as' with
 | (false,[.int .i64 q])::r=>some ([qnI g' g r caps,Mem q l],rB (p q))
 | xs=>qL L g' xs
theorem qnu {P:Program}{g:FuncId}{caps:List D}{l:List Int}{p:Int->Bool}{L:List (Nat×Wr)}(hp:∀ q∈l,qe P g (aI q::Ql caps) (rB (p q)))(hL:qp P (qL L)):qp P (qmX g caps l p L):=by
 intro g' as'
 unfold qmX
 split
 . refine R.Sim.mk fun hq=>?_
   obtain ⟨rfl,rfl⟩:=hq _ (.head _)
   exact hp _ (hq _ (.tail _ (.head _))).out
 . exact hL _ _
theorem wk {α:Type}(p:α->Bool)(z:α):∀ (l:List α) (n:Nat),(zT p l n=-1/\∀ q∈l,p q=false)\/∃ i,i<l.length/\zT p l n=((n+i:Nat):Int)/\p (l.getD i z)=true/\∀ q∈l.take i,p q=false
 | [],n=>.inl ⟨rfl,fun q h=>by cases h⟩
 | a::r,n=>by
   unfold zT
   cases h:p a with
   | true=>exact .inr ⟨0,by simp,by simp,by simpa using h,fun q h=>by simp at h⟩
   | false =>
     rw [if_neg (by simp)]
     rcases wk p z r (n+1) with ⟨h1,h2⟩ | ⟨i,h1,h2,h3,h4⟩
     . exact .inl ⟨h1,fun q hq=>(List.mem_cons.1 hq).elim (fun e=>e▸h) (h2 q)⟩
     . refine .inr ⟨i+1,by simpa using h1,by rw [h2];congr 1;omega,by simpa using h3,fun q hq=>?_⟩
       rw [List.take_succ_cons] at hq
       exact (List.mem_cons.1 hq).elim (fun e=>e▸h) (h4 q)
theorem qaB {p:Int->Bool}{l:List Int}(h:∀ q∈l,p q=false):zZ p l=l:=by
 unfold zZ
 rw [List.filter_eq_self]
 intro q hq
 rw [h q hq];rfl
theorem qgp {p:Int->Bool}{l:List Int}{j:Nat}(h:j<l.length):zZ p (l.take (j+1))=zZ p (l.take j)++(if p (l.getD j 0)=true then [] else [l.getD j 0]):=by
 unfold zZ
 rw [List.take_add_one,List.filter_append,zG h,List.getElem?_eq_getElem h,Option.toList_some,List.filter_cons,List.filter_nil]
 cases p l[j]<;>rfl
theorem qi7 {c:List Int}{i n:Nat}(hn:c.length=n)(hi:i<=n):kT c i (n-i) 0=c.take i++List.replicate (n-i) 0:=by
 apply List.ext_getElem?
 intro j
 rw [jV,List.getElem?_append,List.length_take,hn,Nat.min_eq_left hi,List.getElem?_take,List.getElem?_replicate]
 by_cases h1:j<i
 . rw [if_neg (by omega),if_pos h1,if_pos h1]
 . rw [if_neg h1]
   by_cases h2:j<n
   . rw [if_pos (by omega),if_pos (by omega)]
   . rw [if_neg (by omega),if_neg (by omega),List.getElem?_eq_none (by omega)]
theorem qlv {c:List Int}{i:Nat}(v:Int)(h:i<c.length):(c.set i v).take (i+1)=c.take i++[v]:=by
 rw [List.take_add_one,List.take_set_of_le (Nat.le_refl i),List.getElem?_set_self h];rfl
theorem qeR {c l:List Int}{j:Nat}(h:c.drop j=l.drop j):c.drop (j+1)=l.drop (j+1):=by
 have:=congrArg (List.drop 1) h
 rwa [List.drop_drop,List.drop_drop] at this
theorem WA (l:List Int)(g:FuncId)(a b:List D)(p:Int->Bool)(hp:∀ q∈l,qe Tryz.prog g [aI q,(false,[.ptr a]),(false,[.ptr b])] (rB (p q)))(h1:l.length<=maxLen) :
 Qg Tryz.prog 160 [wR l.length,(false,[.clo g [.fz (.ptr a),.fz (.ptr b)]])] [(lrt 0,.osl (.i l))] [.rf (lrt 0,[]) true 0 l.length]
  (.v (false,[.rf (lrt 0,[]) false 0 (zZ p l).length])) [(lrt 0,.osl (.i (yo p l)))] [.rf (lrt 0,[]) true 0 l.length]:=by
 refine Qg.of qc (fn:=Tryz.f160) (c:=Tryz.f160.body.getD .skip) (dr:=fun n=>qa 0 [] n) (r:=(_,_,_)) Tryz.func160 rfl (by kernel_rfl) (by kernel_rfl) (by kernel_rfl) ?_
 obtain ⟨f,hf⟩:∃ f:List Int->Int,f=fun l=>zT p l 0:=⟨_,rfl⟩
 have hO:qp Tryz.prog (qmX g [.ptr a,.ptr b] l p [(79,wCl kx g [.ptr a,.ptr b] (fun l=>rI (f l)) (fun m=>[ym m l]))]):=by
  subst hf
  exact qnu hp (qb (qbO fun m h=>by obtain rfl:=(h _ (.head _)).out;exact WM m g [.ptr a,.ptr b] p hp h1) qd)
 unfold maxLen at h1
 have hc:=wk p 0 l 0
 rw [show zT p l 0=f l by rw [hf]] at hc
 have hkl:(zZ p l).length<=l.length:=List.length_filter_le _ _
 have hka:=qaB (p:=p) (l:=l)
 have hks':∀ j,j<l.length->zZ p (l.take (j+1))=zZ p (l.take j)++(if p (l.getD j 0)=true then [] else [l.getD j 0]):=fun j h=>qgp h
 have hkt:zZ p (l.take l.length)=zZ p l:=by rw [List.take_length]
 obtain ⟨kl,hkl0⟩:∃ kl,kl=zZ p l:=⟨_,rfl⟩
 obtain ⟨m,hm⟩:∃ m,m=kl.length:=⟨_,rfl⟩
 obtain ⟨dl,hdl⟩:∃ dl,dl=yo p l:=⟨_,rfl⟩
 rw [<-hkl0,<-hm,<-hdl]
 unfold yo at hdl
 rw [<-hkl0,<-hm] at hdl
 rw [<-hkl0] at hkl hka hkt
 generalize hn:l.length=n at *
 obtain ⟨tt,htt⟩:∃ t:Nat->List Int,t=fun j=>zZ p (l.take j):=⟨_,rfl⟩
 rw [show zZ p (l.take n)=tt n by rw [htt]] at hkt
 have hst:∀ j,j<n->tt (j+1)=tt j++(if p (l.getD j 0)=true then [] else [l.getD j 0]):=fun j h=>by rw [htt];exact hks' j h
 clear hks'
 refine jl.go (X:=(XX.withF [4])) qc (fun n=>qa [] [(5,[0,1,5,6,4294967296])] n) (fun _=>none) hO 60 1 ?_
 intro M R L N m0 m1 m2 m3 m4 m5
 cases M
 cbv
 repeat' first | refine m1 _ _ ?_ ?_ | refine m2 _ _ fun h=>?_ | refine m3 _ ?_ | (refine m4 _ _ (Hd.out ?_);generalize hks:(List.cons _ _:List K)=ks) | (refine m5 _ _ ?_;cbv)
 all_goals (clear m1 m2 m3 m4 m5;cases m0;try dsimp only)
 all_goals try simp only [sm] at *
 all_goals first
  | exact hn.symm
  | exact ⟨rfl⟩
  | exact ⟨rfl,rfl⟩
  | (have e:kl=l:=by
      rcases hc with ⟨_,h2⟩ | ⟨i,_,h2,_⟩
      . exact hka h2
      . omega
     have e2:m=n:=by rw [hm,e,hn]
     subst e2
     rw [Nat.sub_self,List.replicate_zero,List.append_nil,e] at hdl
     subst hdl
     refine ⟨?_,?_,?_⟩<;>rfl)
  | skip
 obtain ⟨i0,hi0,hfi,hpi,hbe⟩:∃ i,i<n/\f l=(i:Int)/\p (l.getD i 0)=true/\∀ q∈l.take i,p q=false:=by
  rcases hc with ⟨h2,_⟩ | ⟨i,h2,h3,h4,h5⟩
  . contradiction
  . exact ⟨i,h2,by rw [h3,Nat.zero_add],h4,h5⟩
 rw [hfi,qg (show i0<9223372036854775807 by omega)]
 have htl:∀ j,(tt j).length<=j:=fun j=>by
  rw [htt]
  show (zZ p (l.take j)).length<=j
  unfold zZ
  exact Nat.le_trans (List.length_filter_le _ _) (by rw [List.length_take];omega)
 have ht0:tt (i0+1)=l.take i0:=by
  rw [hst i0 hi0,hpi,if_pos rfl,List.append_nil,htt]
  exact qaB hbe
 have htn:∀ j,j<=n->(tt j).length<=m:=fun j hj=>by
  have key:∀ d,j+d<=n->(tt j).length<=(tt (j+d)).length:=by
   intro d
   induction d with
   | zero=>intro _;exact Nat.le_refl _
   | succ d ih =>
     intro h
     have:=ih (by omega)
     rw [<-Nat.add_assoc,hst (j+d) (by omega),List.length_append]
     omega
  have:=key (n-j) (by omega)
  rw [show j+(n-j)=n by omega,hkt,<-hm] at this
  exact this
 clear hf hka hc hbe hkl0 htt
 refine ⟨jl.same (jl.ind (α:=Nat×List Int×Nat) (fun x=>⟨42,[(0,bR 41000000 n),(1,.v (false,[.clo g [.fz (.ptr a),.fz (.ptr b)]])),(5,bI x.2.2),(6,bI x.1),(4294967296,bR 41000000 n)],[(41000000,.osl (.i x.2.1))]⟩) (fun _=>(.v (false,[.rf (lrt 0,[]) false 0 m]),[(lrt 0,.osl (.i dl))],[.rf (lrt 0,[]) true 0 n])) (fun x=>x.1<=n/\x.2.2<x.1/\x.2.1.length=n/\x.2.1.take x.2.2=tt x.1/\x.2.1.drop x.1=l.drop x.1) (fun x=>n-x.1) (i0+1,l,i0) ⟨by show i0+1<=n;omega,Nat.lt_succ_self i0,hn,ht0.symm,rfl⟩ ?_) rfl ⟨rfl,rfl,rfl⟩⟩
 rintro ⟨j,c,i⟩ ⟨hj,hij,hcl,hct,hcd⟩ ih
 dsimp only at hj hij hcl hct hcd ih ⊢
 rw [<-hks]
 have hcj:j<n->c.getD j 0=l.getD j 0:=fun h=>by
  have:=congrArg (fun x:List Int=>x[0]?) hcd
  simp only [List.getElem?_drop,Nat.add_zero] at this
  rw [List.getD_eq_getElem?_getD,List.getD_eq_getElem?_getD,this]
 have hil:i=(tt j).length:=by rw [<-hct,List.length_take];omega
 refine jl.go (X:=(XX.withF [4])) qc (fun n=>qa [] [(5,[0,1,5,6,4294967296])] n) (fun _=>none) hO 60 1 ?_
 intro M R L N m0 m1 m2 m3 m4 m5
 cases M
 cbv
 repeat' first | refine m1 _ _ ?_ ?_ | refine m2 _ _ fun h=>?_ | refine m3 _ ?_ | (refine m4 _ _ (Hd.out ?_);try rw [hks]) | (refine m5 _ _ ?_;cbv)
 all_goals (clear m1 m2 m3 m4 m5;cases m0;(try clear hks);try dsimp only)
 all_goals try simp only [sm] at *
 all_goals (try simp only [Nat.zero_add] at *)
 all_goals (try simp only [hcj (by omega),qg (show j<9223372036854775807 by omega),qg (show i<9223372036854775807 by omega)] at *)
 all_goals first
  | exact hn.symm
  | omega
  | (rw [jf];omega)
  | exact ⟨rfl,rfl⟩
  | exact qo (z:=(0:Int)) (by omega)
  | (have hpj:p (l.getD j 0)=false:=by assumption
     refine ⟨(ih (j+1,c.set i (l.getD j 0),i+1) ⟨by show j+1<=n;omega,by show i+1<j+1;omega,by show (c.set i (l.getD j 0)).length=n;rw [List.length_set];exact hcl,?_,?_⟩ (by show n-(j+1)<n-j;omega)).same rfl ⟨rfl,rfl,rfl⟩⟩
     . show (c.set i (l.getD j 0)).take (i+1)=tt (j+1)
       rw [qlv _ (by omega),hct,hst j (by omega),hpj];rfl
     . show (c.set i (l.getD j 0)).drop (j+1)=l.drop (j+1)
       rw [List.drop_set_of_lt (by omega),qeR hcd])
  | (have hpj:p (l.getD j 0)=true:=by assumption
     refine ⟨(ih (j+1,c,i) ⟨by show j+1<=n;omega,by show i<j+1;omega,hcl,?_,?_⟩ (by show n-(j+1)<n-j;omega)).same rfl ⟨rfl,rfl,rfl⟩⟩
     . show c.take i=tt (j+1)
       rw [hct,hst j (by omega),hpj,if_pos rfl,List.append_nil]
     . show c.drop (j+1)=l.drop (j+1)
       exact qeR hcd)
  | (have e:j=n:=by omega
     subst e
     have hmi:m=i:=by rw [hm,<-hkt,<-hil]
     have e2:dl=kT c i (j-i) 0:=by rw [qi7 hcl (by omega),hct,hkt,hdl,hmi]
     subst hmi
     rw [e2]
     refine ⟨?_,?_,?_⟩<;>rfl)
  | skip
def ku (q:Nat->Bool)(i:Nat):List Int:=((List.range i).filter q).map fun (j:Nat)=>(j:Int)
theorem w7 {q:Nat->Bool}{i:Nat}(h:q i=true):ku q (i+1)=ku q i++[(i:Int)]:=by
 simp only [ku,List.range_succ,List.filter_append,List.map_append,List.filter_cons,List.filter_nil,h,if_true,List.map_cons,List.map_nil]
theorem vf {q:Nat->Bool}{i:Nat}(h:q i=false):ku q (i+1)=ku q i:=by
 simp only [ku,List.range_succ,List.filter_append,List.map_append,List.filter_cons,List.filter_nil,h,Bool.false_eq_true,if_false,List.map_nil,List.append_nil]
theorem QQ (q:Nat->Bool)(i:Nat):(ku q i).length<=i:=by
 simp only [ku,List.length_map]
 exact Nat.le_trans (List.length_filter_le _ _) (by simp)
theorem wB {q:Nat->Bool}{n:Nat}{x:Int}(h:x∈ku q n):0<=x/\x<n/\q x.toNat=true:=by
 simp only [ku,List.mem_map,List.mem_filter,List.mem_range] at h
 obtain ⟨j,⟨h1,h2⟩,rfl⟩:=h
 exact ⟨by omega,by omega,by simpa using h2⟩
theorem qe4 (q:Nat->Bool)(p:Int->Bool)(n:Nat):(ku q n).filter p=ku (fun j=>q j&&p j) n:=by
 simp only [ku,List.filter_map,List.filter_filter]
 congr 1
 congr 1
 funext j
 simp [Function.comp,Bool.and_comm]
def chQ (ts:List Tie)(i:Nat):Bool:=decide (0<i)&&decide (Ku ts i<0)
def chL (t:qm):List Int:=ku (chQ t.ties) t.nodes.length
def enP (t:qm)(x:qh)(i:Int):Bool:=decide (x.times.getD i.toNat 0=-1)&&decide (nsI t x i=1)
def enL (t:qm)(x:qh):List Int:=(chL t).filter (enP t x)
theorem qeH (q:Tie)(x:Int):qe Tryz.prog 171 [yv q,(false,[.ptr [.int .i64 x]])] (rB (q.free&&q.dst == x)):=by
 refine qe.of qc (fn:=Tryz.f171) (c:=Tryz.f171.body.getD .skip) (dr:=fun n=>qa 0 [] n) Tryz.func171 rfl (by kernel_rfl) (by kernel_rfl) (by kernel_rfl) ?_
 obtain ⟨x1,x2,x3,x4,x5⟩:=q
 refine SEx.go (X:=XX) qc (fun n=>qa [] [] n) (fun _=>none) qd 60 ?_
 intro M R L N m0 m1 m2 m3 m4 m5
 cases M
 cbv
 repeat' first | refine m1 _ _ ?_ ?_ | refine m2 _ _ fun h=>?_ | refine m3 _ ?_ | (refine m4 _ _ (Hd.out ?_);try first | rw [hks] | rw [hk2] | rw [hk3]) | (refine m5 _ _ ?_;cbv)
 all_goals (clear m1 m2 m3 m4 m5;cases m0;(try clear hks;try clear hk2;try clear hk3);try dsimp only)
 all_goals try simp only [sm] at *
 all_goals (refine qV ?_ _;simp_all;done)
theorem qhd (t:qm)(x:Int)(h1:t.ties.length<=maxLen):qe Tryz.prog 169 [qN t,aI x] (rI (Ku t.ties x)):=by
 refine qe.of qc (fn:=Tryz.f169) (c:=Tryz.f169.body.getD .skip) (dr:=fun n=>qa 0 [] n) Tryz.func169 rfl (by kernel_rfl) (by kernel_rfl) (by kernel_rfl) ?_
 obtain ⟨f,hf⟩:∃ f,f=Ku:=⟨_,rfl⟩
 have hO:qp Tryz.prog (qL [(115,w2 Kq (qrc 171 false dcI fun _=>rfl) (fun l x=>rI (f l x)) (fun l x=>[LLe l maxLen]))]):=by
  subst hf
  exact qb (qG fun l x h=>JJ l 171 [.ptr [.int .i64 x]] (fun q=>q.free&&q.dst == x) (fun q _=>qeH q x) (h _ (.head _)).out) qd
 obtain ⟨ns,ts,hr⟩:=t
 rw [<-hf]
 refine SEx.go (X:=XX) qc (fun n=>qa [] [] n) (fun _=>none) hO 60 ?_
 intro M R L N m0 m1 m2 m3 m4 m5
 cases M
 cbv
 repeat' first | refine m1 _ _ ?_ ?_ | refine m2 _ _ fun h=>?_ | refine m3 _ ?_ | (refine m4 _ _ (Hd.out ?_);try first | rw [hks] | rw [hk2] | rw [hk3]) | (refine m5 _ _ ?_;cbv)
 all_goals (clear m1 m2 m3 m4 m5;cases m0;(try clear hks;try clear hk2;try clear hk3);try dsimp only)
 all_goals try simp only [sm] at *
 all_goals first
  | exact ⟨h1⟩
  | rfl
  | skip
theorem qjc:qA Tryz.prog 169 (qfm Ku):=qG fun t x h=>qhd t x (h _ (.head _)).out
theorem qkn (t:qm)(h1:t.ties.length<=maxLen)(h2:1<=t.nodes.length/\t.nodes.length<=7):qe Tryz.prog 161 [qN t] (rUs (chL t)):=by
 refine qe.of qc (fn:=Tryz.f161) (c:=Tryz.f161.body.getD .skip) (dr:=fun n=>qa 0 [] n) Tryz.func161 rfl (by kernel_rfl) (by kernel_rfl) (by kernel_rfl) ?_
 obtain ⟨f,hf⟩:∃ f,f=Ku:=⟨_,rfl⟩
 have hO:qp Tryz.prog (qL [(169,qfm f)]):=by subst hf;exact qb qjc qd
 obtain ⟨ns,ts,hr⟩:=t
 dsimp only at h1 h2
 obtain ⟨q,hq⟩:∃ q,q=chQ ts:=⟨_,rfl⟩
 obtain ⟨r,hrr⟩:∃ r,r=chL ⟨ns,ts,hr⟩:=⟨_,rfl⟩
 rw [<-hrr]
 have hrr:r=ku q ns.length:=by rw [hrr,hq];rfl
 have hq0:q 0=false:=by rw [hq];rfl
 have hqs:∀ j:Nat,q (j+1)=decide (f ts ((j+1:Nat):Int)<0):=fun j=>by rw [hq,hf];unfold chQ;rw [decide_eq_true (Nat.succ_pos j),Bool.true_and]
 clear hq
 obtain ⟨m,hm⟩:∃ m,m=ns.length:=⟨_,rfl⟩
 rw [<-hm] at h2 hrr
 refine SEx.go (X:=XX) qc (fun n=>qa [] [(3,[1,3,4])] n) (fun _=>none) hO 60 ?_
 intro M R L N m0 m1 m2 m3 m4 m5
 cases M
 cbv
 repeat' first | refine m1 _ _ ?_ ?_ | refine m2 _ _ fun h=>?_ | refine m3 _ ?_ | (refine m4 _ _ (Hd.out ?_);generalize hks:(List.cons _ _:List K)=ks) | (refine m5 _ _ ?_;cbv)
 all_goals (clear m1 m2 m3 m4 m5;cases m0;try dsimp only)
 all_goals try simp only [sm] at *
 refine ⟨SEx.same (SEx.idx (m-1) (fun j=>⟨21,[(1,bP 4096),(3,bR 12288 (ku q (j+1)).length),(4,bI (j+1:Nat))],[(4096,.obx [.fz (.sl (.node false none ns)),.fz (.sl (.tie ts)),.fz (.int .i64 hr)]),(12288,.osl (.i (ku q (j+1))))]⟩) (fun _=>rUs r) ?_) (by rw [vf hq0];rfl) rfl⟩
 intro j hj ih
 rw [<-hks]
 obtain ⟨u,hu⟩:∃ u,u=ku q (j+1):=⟨_,rfl⟩
 have hul:u.length<=j+1:=by rw [hu];exact QQ _ _
 rw [<-hu]
 obtain ⟨n,hn⟩:∃ n,n=u.length:=⟨_,rfl⟩
 rw [<-hn] at hul ⊢
 obtain ⟨k,hk⟩:∃ k,k=j+1:=⟨_,rfl⟩
 have hqk:q k=decide (f ts (k:Int)<0):=by rw [hk];exact hqs j
 rw [<-hk] at hul hu ih ⊢
 refine SEx.go (X:=XX) qc (fun n=>qa [] [(3,[1,3,4])] n) (fun _=>none) hO 60 ?_
 intro M R L N m0 m1 m2 m3 m4 m5
 cases M
 cbv
 repeat' first | refine m1 _ _ ?_ ?_ | refine m2 _ _ fun h=>?_ | refine m3 _ ?_ | (refine m4 _ _ (Hd.out ?_);try first | rw [hks] | rw [hk2] | rw [hk3]) | (refine m5 _ _ ?_;cbv)
 all_goals (clear m1 m2 m3 m4 m5;cases m0;(try clear hks;try clear hk2;try clear hk3);try dsimp only)
 all_goals try simp only [sm] at *
 all_goals try simp only [List.length_append,List.length_cons,List.length_nil,List.length_set] at *
 all_goals (try omega)
 all_goals (try (have:=zm;omega))
 all_goals (try simp only [qg (show k<9223372036854775807 by omega)])
 all_goals first
  | exact ⟨h1⟩
  | (have ih':=ih (by omega)
     rw [w7 (by rw [hqk];exact decide_eq_true (by assumption)),<-hu,List.length_append] at ih'
     exact ⟨ih'.same rfl rfl⟩)
  | (have ih':=ih (by omega)
     rw [vf (by rw [hqk];exact decide_eq_false (by omega)),<-hu,<-hn] at ih'
     exact ⟨ih'.same rfl rfl⟩)
  | (have e:k=m:=by omega
     rw [hrr,<-e,hu];rfl)
  | skip
structure StV (t:qm)(x:qh):Prop where
 sh:qO t=true
 vals:qW x.vals=true
theorem YS (t:qm)(x:qh)(i:Int)(hs:kO t x)(h:StV t x)(hi:0<=i/\i<t.nodes.length):qe Tryz.prog 128 [qN t,qQ x,aI i] (rI (nsI t x i)):=by
 refine qe.of qc (fn:=Tryz.f128) (c:=Tryz.f128.body.getD .skip) (dr:=fun n=>qa 0 [(1,8)] n) Tryz.func128 rfl (by kernel_rfl) (by kernel_rfl) (by kernel_rfl) ?_
 have h1:=kG h.sh (qo (z:=qi.z) (show i.toNat<t.nodes.length by omega)).out
 have h2:=h.vals
 have h3:=hs.sh.nodes _ (qo (z:=qi.z) (show i.toNat<t.nodes.length by omega)).out
 have h4:=hs.st.vlen
 unfold nsI nd
 obtain ⟨f,hf⟩:∃ f:List Int->List Int->Int,f=fun l v=>if qY l=true/\qW v=true then Zt v l 1 else -1:=⟨_,rfl⟩
 have hO:qp Tryz.prog (qL [(140,w2 kx kx (fun l v=>rI (f l v)) (fun l v=>[ZP l,LLe v maxLen]))]):=by
  subst hf
  exact qb (qG fun l v h=>Ki l v (h _ (.head _)) (h _ (.tail _ (.head _))).out) qd
 have he:f (t.nodes.getD i.toNat qi.z).label x.vals=Zt x.vals (t.nodes.getD i.toNat qi.z).label 1:=by rw [hf];exact if_pos ⟨h1,h2⟩
 rw [<-he]
 clear hs h hf he
 obtain ⟨ns,ts,hr⟩:=t
 obtain ⟨now,times,vals⟩:=x
 dsimp only at hi h1 h2 h3 h4
 refine SEx.go (X:=XX) qc (fun n=>qa [] [] n) (fun _=>none) hO 60 ?_
 intro M R L N m0 m1 m2 m3 m4 m5
 cases M
 cbv
 repeat' first | refine m1 _ _ ?_ ?_ | refine m2 _ _ fun h=>?_ | refine m3 _ ?_ | (refine m4 _ _ (Hd.out ?_);try first | rw [hks] | rw [hk2] | rw [hk3]) | (refine m5 _ _ ?_;cbv)
 all_goals (clear m1 m2 m3 m4 m5;cases m0;(try clear hks;try clear hk2;try clear hk3);try dsimp only)
 all_goals try simp only [sm] at *
 all_goals first
  | omega
  | exact ⟨h3.len,h3.all⟩
  | exact ⟨h4⟩
  | rfl
  | skip
def qfr (f:qm->qh->Int->Int):Wr:=w3 qM qP dcI (fun t x i=>rI (f t x i)) (fun t x i=>[kO t x,StV t x,InX i t.nodes])
theorem qeM:qA Tryz.prog 128 (qfr nsI):=QL fun t x i h=>YS t x i (h _ (.head _)) (h _ (.tail _ (.head _))) (h _ (.tail _ (.tail _ (.head _)))).out
theorem qcW (i:Int)(t:qm)(x:qh)(hs:kO t x)(h:StV t x)(hl:x.times.length=t.nodes.length)(hi:0<=i/\i<t.nodes.length):qe Tryz.prog 162 [aI i,(false,[.ptr x.d]),(false,[.ptr t.d])] (rB (!enP t x i)):=by
 refine qe.of qc (fn:=Tryz.f162) (c:=Tryz.f162.body.getD .skip) (dr:=fun n=>qa 0 [] n) Tryz.func162 rfl (by kernel_rfl) (by kernel_rfl) (by kernel_rfl) ?_
 obtain ⟨f,hf⟩:∃ f,f=nsI:=⟨_,rfl⟩
 have hO:qp Tryz.prog (qL [(128,qfr f)]):=by subst hf;exact qb qeM qd
 unfold enP
 rw [<-hf]
 clear hf
 obtain ⟨ns,ts,hr⟩:=t
 obtain ⟨now,times,vals⟩:=x
 dsimp only at hl hi
 refine SEx.go (X:=XX) qc (fun n=>qa [] [] n) (fun _=>none) hO 60 ?_
 intro M R L N m0 m1 m2 m3 m4 m5
 cases M
 cbv
 repeat' first | refine m1 _ _ ?_ ?_ | refine m2 _ _ fun h=>?_ | refine m3 _ ?_ | (refine m4 _ _ (Hd.out ?_);try first | rw [hks] | rw [hk2] | rw [hk3]) | (refine m5 _ _ ?_;cbv)
 all_goals (clear m1 m2 m3 m4 m5;cases m0;(try clear hks;try clear hk2;try clear hk3);try dsimp only)
 all_goals try simp only [sm] at *
 all_goals first
  | omega
  | exact hs
  | exact h
  | exact ⟨hi⟩
  | (refine qV ?_ _;rw [decide_eq_false (by assumption)];rfl)
  | (refine qV ?_ _;rw [decide_eq_true (by assumption),Bool.true_and];generalize f _ _ i=v;by_cases hv:v=1<;>simp [hv];done)
  | skip
structure ChT (t:qm):Prop where
 len:t.ties.length<=maxLen
 nod:1<=t.nodes.length/\t.nodes.length<=7
def qif (f:qm->List Int):Wr:=w1 qM (fun t=>rUs (f t)) (fun t=>[ChT t])
theorem qgF:qA Tryz.prog 161 (qif chL):=zt fun t h=>qkn t (h _ (.head _)).len (h _ (.head _)).nod
structure qrr (p:SP)(n m:Nat)(l l0:List Int)(g' g:Nat)(a' a b' b:List D):Prop where out:p=(lrt 0,[])/\m=n/\l.length=n/\l=l0/\g'=g/\a'=a/\b'=b
def qnS (g:Nat)(a b:List D)(l0:List Int)(k d:List Int->List Int)(ln:List Int->Nat):WrW
 | [(false,[.rf p true 0 n]),(false,[.clo g' [.fz (.ptr a'),.fz (.ptr b')]])],[(.sl m,.osl (.i l))]=>some ([qrr p n m l l0 g' g a' a b' b],(.v (false,[.rf (lrt 0,[]) false 0 (ln (k l))]),[(lrt 0,.osl (.i (d l)))],[.rf (lrt 0,[]) true 0 n]))
 | _,_=>none
theorem qo2 {g:Nat}{a b:List D}{l0:List Int}{p:Int->Bool}(hp:∀ q∈l0,qe Tryz.prog g [aI q,(false,[.ptr a]),(false,[.ptr b])] (rB (p q)))(h1:l0.length<=maxLen) :
 qip Tryz.prog 160 (qnS g a b l0 (zZ p) (yo p) List.length):=by
 intro xs ls
 unfold qnS
 split
 . refine R.Sim.mk fun hq=>?_
   obtain ⟨rfl,rfl,rfl,rfl,rfl,rfl,rfl⟩:=(hq _ (.head _)).out
   exact WA _ _ _ _ p hp h1
 . exact R.Sim.none'
theorem qnc (p:Int->Bool)(l:List Int):(yo p l).length=l.length:=by
 have:(zZ p l).length<=l.length:=List.length_filter_le _ _
 unfold yo
 rw [List.length_append,List.length_replicate]
 omega
theorem qjL (p:Int->Bool)(l:List Int):((yo p l).drop 0).take (zZ p l).length=zZ p l:=by
 rw [List.drop_zero]
 unfold yo
 rw [List.take_left]
theorem qkv (p:Int->Bool)(l:List Int):zZ (fun i=>!p i) l=l.filter p:=by
 unfold zZ
 congr 1
 funext x
 simp
end Go.Proofs.YtfafehnchmelnaaGreat.Ai
