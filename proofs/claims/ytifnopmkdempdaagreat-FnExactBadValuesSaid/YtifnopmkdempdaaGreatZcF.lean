/- The law's proof, part 6 of 12: what of its author's texts it needs; no condition. -/
import Derived.Test.YtifnopmkdempdaaGreatProg
import Derived.KernelRfl
import Derived.Test.YtifnopmkdempdaaGreatZcE
set_option linter.unusedSectionVars false
set_option linter.unusedSimpArgs false
set_option linter.unusedVariables false
namespace Go.Proofs.YtifnopmkdempdaaGreat.Ai
open Go
set_option maxRecDepth 100000
variable [qh]
def tr3:Ty:={ kind:=TK.int IntKind.i64,agg:=false,size:=1,bytes:=8,zero:=[C.int IntKind.i64 (Int.ofNat 0)] }
theorem ty3:kR Tryz.prog 3=some tr3:=by kernel_rfl
def tr4:Ty:={ kind:=TK.bool,agg:=false,size:=1,bytes:=1,zero:=[C.bool false] }
theorem ty4:kR Tryz.prog 4=some tr4:=by kernel_rfl
def tr5:Ty:={ kind:=TK.int IntKind.u8,agg:=false,size:=1,bytes:=1,zero:=[C.int IntKind.u8 (Int.ofNat 0)] }
theorem ty5:kR Tryz.prog 5=some tr5:=by kernel_rfl
def tr9:Ty:={ kind:=TK.str,agg:=false,size:=1,bytes:=16,zero:=[C.str { data:={ toList:=[] } }] }
theorem ty9:kR Tryz.prog 9=some tr9:=by kernel_rfl
def tr22:Ty:={ kind:=TK.sl 82,agg:=false,size:=1,bytes:=24,zero:=[C.nilsl] }
theorem ty22:kR Tryz.prog 22=some tr22:=by kernel_rfl
def tr23:Ty:={ kind:=TK.sl 92,agg:=false,size:=1,bytes:=24,zero:=[C.nilsl] }
theorem ty23:kR Tryz.prog 23=some tr23:=by kernel_rfl
def tr25:Ty:={ kind:=TK.st [(0,1,false),(1,1,false),(2,1,false)],agg:=true,size:=3,bytes:=56,zero:=[C.nilsl,C.nilsl,C.int IntKind.i64 (Int.ofNat 0)] }
theorem ty25:kR Tryz.prog 25=some tr25:=by kernel_rfl
def tr26:Ty:={ kind:=TK.sl 3,agg:=false,size:=1,bytes:=24,zero:=[C.nilsl] }
theorem ty26:kR Tryz.prog 26=some tr26:=by kernel_rfl
def tr28:Ty:={ kind:=TK.st [(0,1,false),(1,1,false),(2,1,false)],agg:=true,size:=3,bytes:=56,zero:=[C.int IntKind.i64 (Int.ofNat 0),C.nilsl,C.nilsl] }
theorem ty28:kR Tryz.prog 28=some tr28:=by kernel_rfl
def tr32:Ty:={ kind:=TK.sl 87,agg:=false,size:=1,bytes:=24,zero:=[C.nilsl] }
theorem ty32:kR Tryz.prog 32=some tr32:=by kernel_rfl
def tr33:Ty:={ kind:=TK.sl 90,agg:=false,size:=1,bytes:=24,zero:=[C.nilsl] }
theorem ty33:kR Tryz.prog 33=some tr33:=by kernel_rfl
def tr35:Ty:={ kind:=TK.st [(0,1,false),(1,1,false),(2,1,false)],agg:=true,size:=3,bytes:=56,zero:=[C.nilsl,C.nilsl,C.int IntKind.i64 (Int.ofNat 0)] }
theorem ty35:kR Tryz.prog 35=some tr35:=by kernel_rfl
def tr37:Ty:={ kind:=TK.st [(0,1,false),(1,1,false),(2,1,false)],agg:=true,size:=3,bytes:=56,zero:=[C.int IntKind.i64 (Int.ofNat 0),C.nilsl,C.nilsl] }
theorem ty37:kR Tryz.prog 37=some tr37:=by kernel_rfl
def tr55:Ty:={ kind:=TK.sl 26,agg:=false,size:=1,bytes:=24,zero:=[C.nilsl] }
theorem ty55:kR Tryz.prog 55=some tr55:=by kernel_rfl
def tr59:Ty:={ kind:=TK.oth,agg:=false,size:=1,bytes:=8,zero:=[C.un] }
theorem ty59:kR Tryz.prog 59=some tr59:=by kernel_rfl
def tr82:Ty:={ kind:=TK.st [(0,1,false),(1,1,false),(2,1,false)],agg:=true,size:=3,bytes:=48,zero:=[C.str { data:={ toList:=[] } },C.nilsl,C.int IntKind.i64 (Int.ofNat 0)] }
theorem ty82:kR Tryz.prog 82=some tr82:=by kernel_rfl
def tr83:Ty:={ kind:=TK.int IntKind.u64,agg:=false,size:=1,bytes:=8,zero:=[C.int IntKind.u64 (Int.ofNat 0)] }
theorem ty83:kR Tryz.prog 83=some tr83:=by kernel_rfl
def tr87:Ty:={ kind:=TK.st [(0,1,false),(1,1,false),(2,1,false)],agg:=true,size:=3,bytes:=48,zero:=[C.str { data:={ toList:=[] } },C.nilsl,C.int IntKind.i64 (Int.ofNat 0)] }
theorem ty87:kR Tryz.prog 87=some tr87:=by kernel_rfl
def tr90:Ty:={ kind:=TK.st [(0,1,false),(1,1,false),(2,1,false),(3,1,false),(4,1,false)],agg:=true,size:=5,bytes:=40,zero:=[C.int IntKind.i64 (Int.ofNat 0),C.int IntKind.i64 (Int.ofNat 0),C.int IntKind.i64 (Int.ofNat 0),C.int IntKind.i64 (Int.ofNat 0),C.bool false] }
theorem ty90:kR Tryz.prog 90=some tr90:=by kernel_rfl
def tr92:Ty:={ kind:=TK.st [(0,1,false),(1,1,false),(2,1,false),(3,1,false),(4,1,false)],agg:=true,size:=5,bytes:=40,zero:=[C.int IntKind.i64 (Int.ofNat 0),C.int IntKind.i64 (Int.ofNat 0),C.int IntKind.i64 (Int.ofNat 0),C.int IntKind.i64 (Int.ofNat 0),C.bool false] }
theorem ty92:kR Tryz.prog 92=some tr92:=by kernel_rfl
def tr93:Ty:={ kind:=TK.mp 9 4,agg:=false,size:=1,bytes:=8,zero:=[C.un] }
theorem ty93:kR Tryz.prog 93=some tr93:=by kernel_rfl
def tr95:Ty:={ kind:=TK.st [(0,3,true),(3,1,false)],agg:=true,size:=4,bytes:=64,zero:=[C.nilsl,C.nilsl,C.int IntKind.i64 (Int.ofNat 0),C.un] }
theorem ty95:kR Tryz.prog 95=some tr95:=by kernel_rfl
def tr116:Ty:={ kind:=TK.sl 5,agg:=false,size:=1,bytes:=24,zero:=[C.nilsl] }
theorem ty116:kR Tryz.prog 116=some tr116:=by kernel_rfl
def tr122:Ty:={ kind:=TK.sl 4,agg:=false,size:=1,bytes:=24,zero:=[C.nilsl] }
theorem ty122:kR Tryz.prog 122=some tr122:=by kernel_rfl
def tr135:Ty:={ kind:=TK.int IntKind.i64,agg:=false,size:=1,bytes:=8,zero:=[C.int IntKind.i64 (Int.ofNat 0)] }
theorem ty135:kR Tryz.prog 135=some tr135:=by kernel_rfl
def tr143:Ty:={ kind:=TK.int IntKind.u32,agg:=false,size:=1,bytes:=4,zero:=[C.int IntKind.u32 (Int.ofNat 0)] }
theorem ty143:kR Tryz.prog 143=some tr143:=by kernel_rfl
def tr145:Ty:={ kind:=TK.int IntKind.u64,agg:=false,size:=1,bytes:=8,zero:=[C.int IntKind.u64 (Int.ofNat 0)] }
theorem ty145:kR Tryz.prog 145=some tr145:=by kernel_rfl
def tr148:Ty:={ kind:=TK.int IntKind.u64,agg:=false,size:=1,bytes:=8,zero:=[C.int IntKind.u64 (Int.ofNat 0)] }
theorem ty148:kR Tryz.prog 148=some tr148:=by kernel_rfl
def TT:List (Nat×Option Ty):=[(3,some tr3),(26,some tr26),(35,some tr35),(37,some tr37),(87,some tr87),(90,some tr90),(32,some tr32),(55,some tr55),(4,some tr4),(33,some tr33),(9,some tr9),(83,some tr83),(25,some tr25),(28,some tr28),(95,some tr95),(82,some tr82),(5,some tr5),(92,some tr92),(22,some tr22),(23,some tr23),(93,some tr93),(59,some tr59),(116,some tr116),(122,some tr122),(143,some tr143),(148,some tr148),(135,some tr135),(145,some tr145)]
def XX:SX:={ T:=qa none TT,K:=fun t=>qa none [(3,some .i),(26,some .ii),(87,some .node),(90,some .tie),(4,some .b),(9,some .s),(82,some .node),(5,some .u),(92,some .tie),(135,some .i)] t }
theorem qc:kB Tryz.prog XX.T:=qk2 (by simp only [TT,List.mem_cons,List.not_mem_nil,or_false,forall_eq_or_imp,forall_eq,ty3,ty26,ty35,ty37,ty87,ty90,ty32,ty55,ty4,ty33,ty9,ty83,ty25,ty28,ty95,ty82,ty5,ty92,ty22,ty23,ty93,ty59,ty116,ty122,ty143,ty148,ty135,ty145];simp)
def qtm:List (Nat×Option (List Nat)):=[(2,some [0]),(3,some [1]),(4,some [1,2]),(5,some [1,2,3]),(6,some [1,2,3,4]),(7,some [1,2,3,5]),(8,some [1,2,3,6]),(9,some [1,2,3]),(10,some [1,2,3,8]),(11,some [1,2,3,9]),(12,some [1,2,3,10]),(13,some [1,2,3]),(14,some [2,3,12]),(15,some [2,3,13]),(16,some [2,3])]
def qti:List (Nat×Option (List Nat)):=[(2,some [0]),(3,some [1]),(4,some [1,2]),(5,some [1,2,3]),(6,some [1,2,3,4]),(7,some [1,2,3,5]),(8,some [1,2,3]),(9,some [1,2,3,7]),(10,some [1,2,3,8]),(11,some [1,2,3,9]),(12,some [1,2,3]),(13,some [2,3,11]),(14,some [2,3,12]),(15,some [2,3,13]),(16,some [2,3])]
end Go.Proofs.YtifnopmkdempdaaGreat.Ai
namespace Go.Proofs.YtifnopmkdempdaaGreat.Ai
open Go
set_option maxRecDepth 100000
variable [qh]
def bI (n:Int):TV B:=.v (false,[.fz (.int .i64 n)])
def bS (s:ByteArray):TV B:=.v (false,[.fz (.str s)])
def bL (x:LL):TV B:=.v (false,[.fz (.sl x)])
def bR (r len:Nat):TV B:=.v (false,[.rf (r,[]) true 0 len])
def bP (r:Nat):TV B:=.v (false,[.pp (r,[]) (true,0) 0])
theorem sm:type_of% (Bool.not_eq_true')/\type_of% (Bool.not_eq_false')/\type_of% (@decide_eq_true_eq)/\type_of% (@decide_eq_false_iff_not)/\type_of% (@Int.not_le)/\type_of% (@Int.not_lt)/\type_of% (@beq_iff_eq.{0})/\type_of% (@beq_eq_false_iff_ne.{0})/\type_of% (@ne_eq.{1})/\type_of% (@Int.ofNat_eq_natCast)/\type_of% (@Int.toNat_natCast)/\type_of% (@List.length_replicate.{0})/\type_of% (@qd3)/\type_of% (@Nat.sub_zero)/\type_of% (@List.drop_zero.{0})/\type_of% (@Cue.eta)/\type_of% (@Tie.eta)/\type_of% (@Edge.eta)/\type_of% (@Qu.eta)/\type_of% (@qi.eta):=⟨Bool.not_eq_true',Bool.not_eq_false',@decide_eq_true_eq,@decide_eq_false_iff_not,@Int.not_le,@Int.not_lt,@beq_iff_eq.{0},@beq_eq_false_iff_ne.{0},@ne_eq.{1},@Int.ofNat_eq_natCast,@Int.toNat_natCast,@List.length_replicate.{0},@qd3,@Nat.sub_zero,@List.drop_zero.{0},@Cue.eta,@Tie.eta,@Edge.eta,@Qu.eta,@qi.eta⟩
theorem SEx.idx {P:Program}{T:Nat->Option Ty}{dr:Nat->Nat}{rs:Array ResultVar}{ks:List K}(n:Nat)(f:Nat->SF)(R:Nat->TV W)
 (step:∀ i,i<=n->(i<n->SEx P T dr rs ks (f (i+1)) (R (i+1)))->SEx P T dr rs ks (f i) (R i)):SEx P T dr rs ks (f 0) (R 0) :=
 SEx.ind f R (fun i=>i<=n) (fun i=>n-i) 0 (Nat.zero_le _) fun i hi ih=>step i hi fun h=>ih (i+1) (by omega) (by omega)
theorem SEx.idxS {P:Program}{T:Nat->Option Ty}{dr:Nat->Nat}{rs:Array ResultVar}{ks:List K}{α:Type}(n:Nat)(f:Nat->α->SF)(R:Nat->α->TV W)(Inv:Nat->α->Prop)(s0:α)(h0:Inv 0 s0)
 (step:∀ i s,i<=n->Inv i s->(∀ s',i<n->Inv (i+1) s'->SEx P T dr rs ks (f (i+1) s') (R (i+1) s'))->SEx P T dr rs ks (f i s) (R i s)):SEx P T dr rs ks (f 0 s0) (R 0 s0) :=
 SEx.ind (fun x:Nat×α=>f x.1 x.2) (fun x=>R x.1 x.2) (fun x=>x.1<=n/\Inv x.1 x.2) (fun x=>n-x.1) (0,s0) ⟨Nat.zero_le _,h0⟩ fun x hx ih=>step x.1 x.2 hx.1 hx.2 fun s' h hI=>ih (x.1+1,s') ⟨by show x.1+1<=n;omega,hI⟩ (by show n-(x.1+1)<n-x.1;omega)
structure vb {α:Type}(a b:α):Prop where out:a=b
structure LLe {α:Type}(l:List α)(n:Nat):Prop where out:l.length<=n
theorem qr {n:Int}(h1:-9223372036854775808<=n)(h2:n<=9223372036854775807):IntKind.i64.wrap n=n:=IntWalk.i64_in n ⟨h1,h2⟩
theorem qg {i:Nat}(h:i<9223372036854775807):IntKind.i64.wrap ((i:Int)+1)=((i+1:Nat):Int):=by
 rw [qr (by omega) (by omega)];rfl
structure qs2 (s:ByteArray):Prop where out:s.size<=maxLen
structure qiB (n:Int):Prop where out:0<=n/\n<=9223372036854775807
structure Hd (p:Prop):Prop where out:p
theorem zB:(1048576:Int)<=lim:=by decide
theorem zn {α:Type}{l:List α}{i:Nat}{z:α}(h:i<l.length):l.getD i z=l[i]:=by rw [List.getD_eq_getElem?_getD,List.getElem?_eq_getElem h,Option.getD_some]
def eqS (a b:ByteArray):Bool:=a.toList == b.toList
def zK {α:Type}(p:α->Bool):List α->Nat->Int
 | [],_=>-1
 | a::r,n=>if p a=true then n else zK p r (n+1)
theorem qjK {α:Type}{p:α->Bool}{l:List α}{i n:Nat}(z:α)(h:i<l.length):zK p (l.drop i) n=if p (l.getD i z)=true then (n:Int) else zK p (l.drop (i+1)) (n+1):=by
 rw [List.drop_eq_getElem_cons h,List.getD_eq_getElem?_getD,List.getElem?_eq_getElem h,Option.getD_some];rfl
theorem jK {α:Type}{p:α->Bool}{l:List α}{i n:Nat}(z:α)(h:i<l.length)(hp:p (l.getD i z)=true):zK p (l.drop i) n=n:=by rw [qjK z h,if_pos hp]
theorem QG {α:Type}{p:α->Bool}{l:List α}{i n:Nat}(z:α)(h:i<l.length)(hp:p (l.getD i z)=false):zK p (l.drop i) n=zK p (l.drop (i+1)) (n+1):=by rw [qjK z h,hp];rfl
theorem jJ {α:Type}{p:α->Bool}{l:List α}{i n:Nat}(h:l.length<=i):zK p (l.drop i) n=-1:=by rw [List.drop_eq_nil_of_le h];rfl
def qtp (k:Nat):Dc ByteArray:=⟨fun s=>aF k [.ptr [.str s]],fun | (false,[.fn f [.ptr [.str s]]])=>(match nq f k with | true=>some s | false=>none) | _=>none,by
 intro x a h
 split at h
 . split at h
   . rename_i hk
     obtain rfl:=Q1.1 hk
     simp only [Option.some.injEq] at h;subst h;rfl
   . cases h
 . cases h⟩
structure qob (g' g:FuncId)(r:List (V1 D))(caps:List D):Prop where
 fn:g'=g
 caps:r=jY caps
structure Mem {α:Type}(x:α)(l:List α):Prop where out:x∈l
theorem qn {α:Type}{l:List α}{i:Nat}{z:α}(h:i<l.length):Mem (l.getD i z) l:=⟨by rw [List.getD_eq_getElem?_getD,List.getElem?_eq_getElem h,Option.getD_some];exact List.getElem_mem _⟩
def qlQ {α:Type}(d:Dc α)(g:FuncId)(caps:List D)(l:List α)(p:α->Bool):Qt:=fun g' as'=>match as' with
 | x::r=>(match d.dec x with
   | some q=>some ([qob g' g r caps,Mem q l],rB (p q))
   | none=>none)
 | []=>none
theorem yq {P:Program}{α:Type}{d:Dc α}{g:FuncId}{caps:List D}{l:List α}{p:α->Bool}(hp:∀ q∈l,qe P g (d.enc q::jY caps) (rB (p q))):qp P (qlQ d g caps l p):=by
 intro g' as'
 unfold qlQ
 split
 . split
   . rename_i hx
     refine R.Sim.mk fun hq=>?_
     obtain ⟨rfl,rfl⟩:=hq _ (.head _)
     exact (hp _ (hq _ (.tail _ (.head _))).out).er (by simp only [qx,d.ok _ _ hx]) rfl
   . exact R.Sim.none'
 . exact R.Sim.none'
theorem Jk {α:Type}(p:α->Bool):∀ (l:List α) (n:Nat),decide (0<=zK p l n)=l.any p
 | [],n=>rfl
 | a::r,n=>by
   unfold zK
   rw [List.any_cons]
   cases h:p a with
   | true=>rw [if_pos rfl];simp
   | false=>rw [if_neg (by simp)];exact Jk p r (n+1)
def qA {α:Type}(p:Nat->α->Bool):List α->Nat->Bool
 | [],_=>true
 | a::r,n=>p n a&&qA p r (n+1)
theorem ya {α:Type}{p:Nat->α->Bool}{l:List α}{i n:Nat}(z:α)(h:i<l.length):qA p (l.drop i) n=(p n (l.getD i z)&&qA p (l.drop (i+1)) (n+1)):=by
 rw [List.drop_eq_getElem_cons h,List.getD_eq_getElem?_getD,List.getElem?_eq_getElem h,Option.getD_some];rfl
theorem Wb {α:Type}{p:Nat->α->Bool}{l:List α}{i n:Nat}(z:α)(h:i<l.length)(hp:p n (l.getD i z)=true):qA p (l.drop i) n=qA p (l.drop (i+1)) (n+1):=by rw [ya z h,hp];rfl
theorem vV {α:Type}{p:Nat->α->Bool}{l:List α}{i n:Nat}(z:α)(h:i<l.length)(hp:p n (l.getD i z)=false):qA p (l.drop i) n=false:=by rw [ya z h,hp];rfl
theorem qm2 {α:Type}{p:Nat->α->Bool}{l:List α}{i n:Nat}(h:l.length<=i):qA p (l.drop i) n=true:=by rw [List.drop_eq_nil_of_le h];rfl
theorem wP {α:Type}{p q:Nat->α->Bool}:∀ (l:List α) (n:Nat),(∀ i a,l[i]?=some a->p (n+i) a=q (n+i) a)->qA p l n=qA q l n
 | [],_,_=>rfl
 | a::r,n,h=>by
   have h1:qA p r (n+1)=qA q r (n+1):=wP r (n+1) fun i b hi=>by
    have:=h (i+1) b (by simpa using hi)
    rwa [show n+(i+1)=n+1+i by omega] at this
   show (p n a&&qA p r (n+1))=(q n a&&qA q r (n+1))
   rw [h1,show p n a=q n a from h 0 a rfl]
def wCl {α:Type}(d:Dc α)(g:FuncId)(caps:List D)(f:α->TV W)(p:α->List Prop):Wr
 | [x,(false,[.fn g' caps'])]=>(match d.dec x with | some l=>some (vb g' g::vb caps' caps::p l,f l) | none=>none)
 | _=>none
theorem Yw {P:Program}{k:FuncId}{α:Type}{d:Dc α}{g:FuncId}{caps:List D}{f:α->TV W}{p:α->List Prop}(h:∀ l,Holds (p l)->qe P k [d.enc l,aF g caps] (f l)):qy P k (wCl d g caps f p):=by
 intro xs
 unfold wCl
 split
 . split
   . rename_i hx
     refine R.Sim.mk fun hq=>?_
     obtain ⟨rfl⟩:=hq _ (.head _)
     obtain ⟨rfl⟩:=hq _ (.tail _ (.head _))
     exact (h _ fun r hr=>hq r (.tail _ (.tail _ hr))).er (by simp only [qx,d.ok _ _ hx];rfl) rfl
   . exact R.Sim.none'
 . exact R.Sim.none'
theorem vH {α:Type}{p:Nat->α->Bool}{l:List α}{i:Nat}{c:Bool}(z:α)(h:i<l.length)(hp:p i (l.getD i z)=true):(qA p (l.drop i) i&&c)=(qA p (l.drop (i+1)) (i+1)&&c):=by rw [Wb z h hp]
theorem Vz {α:Type}{p:Nat->α->Bool}{l:List α}{i:Nat}{c:Bool}(z:α)(h:i<l.length)(hp:p i (l.getD i z)=false):(qA p (l.drop i) i&&c)=false:=by rw [vV z h hp];rfl
theorem qP {α:Type}{p:Nat->α->Bool}{l:List α}{i:Nat}{c:Bool}(h:l.length<=i):(qA p (l.drop i) i&&c)=c:=by rw [qm2 h];rfl
theorem qcl {α:Type}(p:α->Bool):∀ (l:List α) (n:Nat),zK p l n<n+l.length/\(zK p l n=-1\/(n:Int)<=zK p l n)
 | [],n=>by simp [zK];omega
 | a::r,n=>by
   have:=qcl p r (n+1)
   unfold zK
   simp only [List.length_cons]
   split<;>omega
theorem qM {a b:Bool}(h:b=a)(k:Bool):eR (.v (false,[.fz (.bool k a)]))=eR (rB b):=by rw [jF];exact h.symm
structure zb (p A B:Bool):Prop where
 yes:p=true->A=B
 no:p=false->A=false
theorem zb.of {α:Type}(p:Nat->α->Bool)(l:List α)(i:Nat)(c:Bool)(z:α)(h:i<l.length):zb (p i (l.getD i z)) (qA p (l.drop i) i&&c) (qA p (l.drop (i+1)) (i+1)&&c):=⟨vH z h,Vz z h⟩
theorem zb.stop {p A B:Bool}(h:zb p A B)(k:Bool)(hp:p=false):eR (.v (false,[.fz (.bool k false)]))=eR (rB A):=qM (h.no hp) k
theorem zb.go {p A B:Bool}(h:zb p A B)(hp:p=true):eR (rB B)=eR (rB A):=by rw [h.yes hp]
theorem zb.stopN {p A B:Bool}(h:zb p A B)(k:Bool)(hp:p=false):eR (.v (false,[.fz (.bool k true)]))=eR (rB (!A)):=qM (by rw [h.no hp];rfl) k
theorem zb.goN {p A B:Bool}(h:zb p A B)(hp:p=true):eR (rB (!B))=eR (rB (!A)):=by rw [h.yes hp]
end Go.Proofs.YtifnopmkdempdaaGreat.Ai
namespace Go.Proofs.YtifnopmkdempdaaGreat.Ai
open Go
set_option maxRecDepth 100000
variable [qh]
theorem Vq (l:List Int)(g:FuncId)(caps:List D)(p:Int->Bool)(hp:∀ q∈l,qe Tryz.prog g (aI q::jY caps) (rB (p q)))(h1:l.length<=maxLen):qe Tryz.prog 90 [aIs l,aF g caps] (rI (zK p l 0)):=by
 refine qe.of qc (fn:=Tryz.f90) (c:=Tryz.f90.body.getD .skip) (dr:=fun n=>qa 0 [] n) Tryz.func90 rfl (by kernel_rfl) (by kernel_rfl) (by kernel_rfl) ?_
 unfold maxLen at h1
 have hO:qp Tryz.prog (qlQ dcI g caps l p):=yq hp
 refine SEx.go (X:=XX) qc (fun n=>qa [] [(2,[0,1,7,8])] n) (fun _=>none) hO 60 ?_
 intro M R L N m0 m1 m2 m3 m4 m5
 cases M
 cbv
 repeat' first | refine m1 _ _ ?_ ?_ | refine m2 _ _ fun h=>?_ | refine m3 _ ?_ | (refine m4 _ _ (Hd.out ?_);generalize hks:(List.cons _ _:List K)=ks) | (refine m5 _ _ ?_;cbv)
 all_goals (clear m1 m2 m3 m4 m5;cases m0;try dsimp only)
 all_goals try simp only [sm] at *
 obtain ⟨n,hn⟩:∃ n,n=l.length:=⟨_,rfl⟩
 refine ⟨SEx.same (SEx.idx n (fun i=>⟨19,[(0,bL (.i l)),(1,.v (false,[.fz (.fn g caps)])),(7,bI n),(8,bI i)],[]⟩) (fun i=>rI (zK p (l.drop i) i)) ?_) (by rw [hn];rfl) rfl⟩
 intro i hi ih
 rw [<-hks]
 refine SEx.go (X:=XX) qc (fun n=>qa [] [(2,[0,1,7,8])] n) (fun _=>none) hO 60 ?_
 intro M R L N m0 m1 m2 m3 m4 m5
 cases M
 cbv
 repeat' first | refine m1 _ _ ?_ ?_ | refine m2 _ _ fun h=>?_ | refine m3 _ ?_ | (refine m4 _ _ (Hd.out ?_);try first | rw [hks] | rw [hk2] | rw [hk3]) | (refine m5 _ _ ?_;cbv)
 all_goals (clear m1 m2 m3 m4 m5;cases m0;(try clear hks;try clear hk2;try clear hk3);try dsimp only)
 all_goals try simp only [sm] at *
 all_goals first
  | omega
  | exact ⟨rfl,by cases caps<;>rfl⟩
  | exact ⟨rfl,rfl⟩
  | exact qn (z:=(0:Int)) (by omega)
  | (rw [jK (p:=p) (l:=l) (i:=i) (0:Int) (by omega) (by first | assumption | exact beq_iff_eq.2 (by assumption))];rfl)
  | (rw [jJ (by omega)];rfl)
  | (simp only [qg (show i<9223372036854775807 by omega)];exact ⟨(ih (by omega)).same rfl (by rw [QG (p:=p) (l:=l) (i:=i) (0:Int) (by omega) (by first | assumption | exact beq_eq_false_iff_ne.2 (by assumption) | (simp_all;done))])⟩)
theorem Kn (l:List Int)(g:FuncId)(caps:List D)(p:Int->Bool)(hp:∀ q∈l,qe Tryz.prog g (aI q::jY caps) (rB (p q)))(h1:l.length<=maxLen):qe Tryz.prog 117 [aIs l,aF g caps] (rB (l.any p)):=by
 refine qe.of qc (fn:=Tryz.f117) (c:=Tryz.f117.body.getD .skip) (dr:=fun n=>qa 0 [] n) Tryz.func117 rfl (by kernel_rfl) (by kernel_rfl) (by kernel_rfl) ?_
 obtain ⟨f,hf⟩:∃ f:List Int->Int,f=fun l=>zK p l 0:=⟨_,rfl⟩
 have hO:qp Tryz.prog (qJ [(90,wCl zX g caps (fun l=>rI (f l)) (fun m=>[vb m l]))]):=by subst hf;exact qb (Yw fun m h=>by obtain rfl:=(h _ (.head _)).out;exact Vq m g caps p hp h1) qd
 refine SEx.go (X:=XX) qc (fun n=>qa [] [] n) (fun _=>none) hO 60 ?_
 intro M R L N m0 m1 m2 m3 m4 m5
 cases M
 cbv
 repeat' first | refine m1 _ _ ?_ ?_ | refine m2 _ _ fun h=>?_ | refine m3 _ ?_ | (refine m4 _ _ (Hd.out ?_);try first | rw [hks] | rw [hk2] | rw [hk3]) | (refine m5 _ _ ?_;cbv)
 all_goals (clear m1 m2 m3 m4 m5;cases m0;(try clear hks;try clear hk2;try clear hk3);try dsimp only)
 all_goals try simp only [sm] at *
 all_goals first
  | exact ⟨rfl⟩
  | (rw [<-Jk p l 0,hf];rfl)
theorem wg (l:List Tie)(g:FuncId)(caps:List D)(p:Tie->Bool)(hp:∀ q∈l,qe Tryz.prog g (y8 q::jY caps) (rB (p q)))(h1:l.length<=maxLen):qe Tryz.prog 148 [yX l,aF g caps] (rI (zK p l 0)):=by
 refine qe.of qc (fn:=Tryz.f148) (c:=Tryz.f148.body.getD .skip) (dr:=fun n=>qa 0 [] n) Tryz.func148 rfl (by kernel_rfl) (by kernel_rfl) (by kernel_rfl) ?_
 unfold maxLen at h1
 have hO:qp Tryz.prog (qlQ Yc g caps l p):=yq hp
 refine SEx.go (X:=XX) qc (fun n=>qa [] [(2,[0,1,7,8])] n) (fun _=>none) hO 60 ?_
 intro M R L N m0 m1 m2 m3 m4 m5
 cases M
 cbv
 repeat' first | refine m1 _ _ ?_ ?_ | refine m2 _ _ fun h=>?_ | refine m3 _ ?_ | (refine m4 _ _ (Hd.out ?_);generalize hks:(List.cons _ _:List K)=ks) | (refine m5 _ _ ?_;cbv)
 all_goals (clear m1 m2 m3 m4 m5;cases m0;try dsimp only)
 all_goals try simp only [sm] at *
 obtain ⟨n,hn⟩:∃ n,n=l.length:=⟨_,rfl⟩
 refine ⟨SEx.same (SEx.idx n (fun i=>⟨19,[(0,bL (.tie l)),(1,.v (false,[.fz (.fn g caps)])),(7,bI n),(8,bI i)],[]⟩) (fun i=>rI (zK p (l.drop i) i)) ?_) (by rw [hn];rfl) rfl⟩
 intro i hi ih
 rw [<-hks]
 refine SEx.go (X:=XX) qc (fun n=>qa [] [(2,[0,1,7,8])] n) (fun _=>none) hO 60 ?_
 intro M R L N m0 m1 m2 m3 m4 m5
 cases M
 cbv
 repeat' first | refine m1 _ _ ?_ ?_ | refine m2 _ _ fun h=>?_ | refine m3 _ ?_ | (refine m4 _ _ (Hd.out ?_);try first | rw [hks] | rw [hk2] | rw [hk3]) | (refine m5 _ _ ?_;cbv)
 all_goals (clear m1 m2 m3 m4 m5;cases m0;(try clear hks;try clear hk2;try clear hk3);try dsimp only)
 all_goals try simp only [sm] at *
 all_goals first
  | omega
  | exact ⟨rfl,by cases caps<;>rfl⟩
  | exact ⟨rfl,rfl⟩
  | exact qn (z:=Tie.z) (by omega)
  | (rw [jK (p:=p) (l:=l) (i:=i) Tie.z (by omega) (by first | assumption | exact beq_iff_eq.2 (by assumption))];rfl)
  | (rw [jJ (by omega)];rfl)
  | (simp only [qg (show i<9223372036854775807 by omega)];exact ⟨(ih (by omega)).same rfl (by rw [QG (p:=p) (l:=l) (i:=i) Tie.z (by omega) (by first | assumption | exact beq_eq_false_iff_ne.2 (by assumption) | (simp_all;done))])⟩)
theorem Ji (l:List Tie)(g:FuncId)(caps:List D)(p:Tie->Bool)(hp:∀ q∈l,qe Tryz.prog g (y8 q::jY caps) (rB (p q)))(h1:l.length<=maxLen):qe Tryz.prog 125 [yX l,aF g caps] (rB (l.any p)):=by
 refine qe.of qc (fn:=Tryz.f125) (c:=Tryz.f125.body.getD .skip) (dr:=fun n=>qa 0 [] n) Tryz.func125 rfl (by kernel_rfl) (by kernel_rfl) (by kernel_rfl) ?_
 obtain ⟨f,hf⟩:∃ f:List Tie->Int,f=fun l=>zK p l 0:=⟨_,rfl⟩
 have hO:qp Tryz.prog (qJ [(148,wCl K8 g caps (fun l=>rI (f l)) (fun m=>[vb m l]))]):=by subst hf;exact qb (Yw fun m h=>by obtain rfl:=(h _ (.head _)).out;exact wg m g caps p hp h1) qd
 refine SEx.go (X:=XX) qc (fun n=>qa [] [] n) (fun _=>none) hO 60 ?_
 intro M R L N m0 m1 m2 m3 m4 m5
 cases M
 cbv
 repeat' first | refine m1 _ _ ?_ ?_ | refine m2 _ _ fun h=>?_ | refine m3 _ ?_ | (refine m4 _ _ (Hd.out ?_);try first | rw [hks] | rw [hk2] | rw [hk3]) | (refine m5 _ _ ?_;cbv)
 all_goals (clear m1 m2 m3 m4 m5;cases m0;(try clear hks;try clear hk2;try clear hk3);try dsimp only)
 all_goals try simp only [sm] at *
 all_goals first
  | exact ⟨rfl⟩
  | (rw [<-Jk p l 0,hf];rfl)
theorem YC (l:List qi)(g:FuncId)(caps:List D)(p:qi->Bool)(hp:∀ q∈l,qe Tryz.prog g (Wa q::jY caps) (rB (p q)))(h1:l.length<=maxLen):qe Tryz.prog 146 [WV l,aF g caps] (rI (zK p l 0)):=by
 refine qe.of qc (fn:=Tryz.f146) (c:=Tryz.f146.body.getD .skip) (dr:=fun n=>qa 0 [] n) Tryz.func146 rfl (by kernel_rfl) (by kernel_rfl) (by kernel_rfl) ?_
 unfold maxLen at h1
 have hO:qp Tryz.prog (qlQ wm g caps l p):=yq hp
 refine SEx.go (X:=XX) qc (fun n=>qa [] [(2,[0,1,7,8])] n) (fun _=>none) hO 60 ?_
 intro M R L N m0 m1 m2 m3 m4 m5
 cases M
 cbv
 repeat' first | refine m1 _ _ ?_ ?_ | refine m2 _ _ fun h=>?_ | refine m3 _ ?_ | (refine m4 _ _ (Hd.out ?_);generalize hks:(List.cons _ _:List K)=ks) | (refine m5 _ _ ?_;cbv)
 all_goals (clear m1 m2 m3 m4 m5;cases m0;try dsimp only)
 all_goals try simp only [sm] at *
 obtain ⟨n,hn⟩:∃ n,n=l.length:=⟨_,rfl⟩
 refine ⟨SEx.same (SEx.idx n (fun i=>⟨19,[(0,bL (.node false none l)),(1,.v (false,[.fz (.fn g caps)])),(7,bI n),(8,bI i)],[]⟩) (fun i=>rI (zK p (l.drop i) i)) ?_) (by rw [hn];rfl) rfl⟩
 intro i hi ih
 rw [<-hks]
 refine SEx.go (X:=XX) qc (fun n=>qa [] [(2,[0,1,7,8])] n) (fun _=>none) hO 60 ?_
 intro M R L N m0 m1 m2 m3 m4 m5
 cases M
 cbv
 repeat' first | refine m1 _ _ ?_ ?_ | refine m2 _ _ fun h=>?_ | refine m3 _ ?_ | (refine m4 _ _ (Hd.out ?_);try first | rw [hks] | rw [hk2] | rw [hk3]) | (refine m5 _ _ ?_;cbv)
 all_goals (clear m1 m2 m3 m4 m5;cases m0;(try clear hks;try clear hk2;try clear hk3);try dsimp only)
 all_goals try simp only [sm] at *
 all_goals first
  | omega
  | exact ⟨rfl,by cases caps<;>rfl⟩
  | exact ⟨rfl,rfl⟩
  | exact qn (z:=qi.z) (by omega)
  | (rw [jK (p:=p) (l:=l) (i:=i) qi.z (by omega) (by first | assumption | exact beq_iff_eq.2 (by assumption))];rfl)
  | (rw [jJ (by omega)];rfl)
  | (simp only [qg (show i<9223372036854775807 by omega)];exact ⟨(ih (by omega)).same rfl (by rw [QG (p:=p) (l:=l) (i:=i) qi.z (by omega) (by first | assumption | exact beq_eq_false_iff_ne.2 (by assumption) | (simp_all;done))])⟩)
theorem qcZ (l:List (List Int))(g:FuncId)(caps:List D)(p:(List Int)->Bool)(hp:∀ q∈l,qe Tryz.prog g (aIs q::jY caps) (rB (p q)))(h1:l.length<=maxLen):qe Tryz.prog 91 [qlc l,aF g caps] (rI (zK p l 0)):=by
 refine qe.of qc (fn:=Tryz.f91) (c:=Tryz.f91.body.getD .skip) (dr:=fun n=>qa 0 [] n) Tryz.func91 rfl (by kernel_rfl) (by kernel_rfl) (by kernel_rfl) ?_
 unfold maxLen at h1
 have hO:qp Tryz.prog (qlQ zX g caps l p):=yq hp
 refine SEx.go (X:=XX) qc (fun n=>qa [] [(2,[0,1,7,8])] n) (fun _=>none) hO 60 ?_
 intro M R L N m0 m1 m2 m3 m4 m5
 cases M
 cbv
 repeat' first | refine m1 _ _ ?_ ?_ | refine m2 _ _ fun h=>?_ | refine m3 _ ?_ | (refine m4 _ _ (Hd.out ?_);generalize hks:(List.cons _ _:List K)=ks) | (refine m5 _ _ ?_;cbv)
 all_goals (clear m1 m2 m3 m4 m5;cases m0;try dsimp only)
 all_goals try simp only [sm] at *
 obtain ⟨n,hn⟩:∃ n,n=l.length:=⟨_,rfl⟩
 refine ⟨SEx.same (SEx.idx n (fun i=>⟨19,[(0,bL (.ii false none l)),(1,.v (false,[.fz (.fn g caps)])),(7,bI n),(8,bI i)],[]⟩) (fun i=>rI (zK p (l.drop i) i)) ?_) (by rw [hn];rfl) rfl⟩
 intro i hi ih
 rw [<-hks]
 refine SEx.go (X:=XX) qc (fun n=>qa [] [(2,[0,1,7,8])] n) (fun _=>none) hO 60 ?_
 intro M R L N m0 m1 m2 m3 m4 m5
 cases M
 cbv
 repeat' first | refine m1 _ _ ?_ ?_ | refine m2 _ _ fun h=>?_ | refine m3 _ ?_ | (refine m4 _ _ (Hd.out ?_);try first | rw [hks] | rw [hk2] | rw [hk3]) | (refine m5 _ _ ?_;cbv)
 all_goals (clear m1 m2 m3 m4 m5;cases m0;(try clear hks;try clear hk2;try clear hk3);try dsimp only)
 all_goals try simp only [sm] at *
 all_goals first
  | omega
  | exact ⟨rfl,by cases caps<;>rfl⟩
  | exact ⟨rfl,rfl⟩
  | exact qn (z:=([]:List Int)) (by omega)
  | (rw [jK (p:=p) (l:=l) (i:=i) ([]:List Int) (by omega) (by first | assumption | exact beq_iff_eq.2 (by assumption))];rfl)
  | (rw [jJ (by omega)];rfl)
  | (simp only [qg (show i<9223372036854775807 by omega)];exact ⟨(ih (by omega)).same rfl (by rw [QG (p:=p) (l:=l) (i:=i) ([]:List Int) (by omega) (by first | assumption | exact beq_eq_false_iff_ne.2 (by assumption) | (simp_all;done))])⟩)
theorem qaR (l:List (List Int))(g:FuncId)(caps:List D)(p:(List Int)->Bool)(hp:∀ q∈l,qe Tryz.prog g (aIs q::jY caps) (rB (p q)))(h1:l.length<=maxLen):qe Tryz.prog 52 [qlc l,aF g caps] (rB (l.any p)):=by
 refine qe.of qc (fn:=Tryz.f52) (c:=Tryz.f52.body.getD .skip) (dr:=fun n=>qa 0 [] n) Tryz.func52 rfl (by kernel_rfl) (by kernel_rfl) (by kernel_rfl) ?_
 obtain ⟨f,hf⟩:∃ f:List (List Int)->Int,f=fun l=>zK p l 0:=⟨_,rfl⟩
 have hO:qp Tryz.prog (qJ [(91,wCl qj7 g caps (fun l=>rI (f l)) (fun m=>[vb m l]))]):=by subst hf;exact qb (Yw fun m h=>by obtain rfl:=(h _ (.head _)).out;exact qcZ m g caps p hp h1) qd
 refine SEx.go (X:=XX) qc (fun n=>qa [] [] n) (fun _=>none) hO 60 ?_
 intro M R L N m0 m1 m2 m3 m4 m5
 cases M
 cbv
 repeat' first | refine m1 _ _ ?_ ?_ | refine m2 _ _ fun h=>?_ | refine m3 _ ?_ | (refine m4 _ _ (Hd.out ?_);try first | rw [hks] | rw [hk2] | rw [hk3]) | (refine m5 _ _ ?_;cbv)
 all_goals (clear m1 m2 m3 m4 m5;cases m0;(try clear hks;try clear hk2;try clear hk3);try dsimp only)
 all_goals try simp only [sm] at *
 all_goals first
  | exact ⟨rfl⟩
  | (rw [<-Jk p l 0,hf];rfl)
theorem qkm (l:List Int)(v:Int)(h1:l.length<=maxLen):qe Tryz.prog 92 [aIs l,aI v] (rI (zK (fun x=>v == x) l 0)):=by
 refine qe.of qc (fn:=Tryz.f92) (c:=Tryz.f92.body.getD .skip) (dr:=fun n=>qa 0 [] n) Tryz.func92 rfl (by kernel_rfl) (by kernel_rfl) (by kernel_rfl) ?_
 unfold maxLen at h1
 refine SEx.go (X:=XX) qc (fun n=>qa [] [(2,[0,1,7,8])] n) (fun _=>none) qd 60 ?_
 intro M R L N m0 m1 m2 m3 m4 m5
 cases M
 cbv
 repeat' first | refine m1 _ _ ?_ ?_ | refine m2 _ _ fun h=>?_ | refine m3 _ ?_ | (refine m4 _ _ (Hd.out ?_);generalize hks:(List.cons _ _:List K)=ks) | (refine m5 _ _ ?_;cbv)
 all_goals (clear m1 m2 m3 m4 m5;cases m0;try dsimp only)
 all_goals try simp only [sm] at *
 obtain ⟨n,hn⟩:∃ n,n=l.length:=⟨_,rfl⟩
 refine ⟨SEx.same (SEx.idx n (fun i=>⟨19,[(0,bL (.i l)),(1,bI v),(7,bI n),(8,bI i)],[]⟩) (fun i=>rI (zK (fun x=>v == x) (l.drop i) i)) ?_) (by rw [hn];rfl) rfl⟩
 intro i hi ih
 rw [<-hks]
 refine SEx.go (X:=XX) qc (fun n=>qa [] [(2,[0,1,7,8])] n) (fun _=>none) qd 60 ?_
 intro M R L N m0 m1 m2 m3 m4 m5
 cases M
 cbv
 repeat' first | refine m1 _ _ ?_ ?_ | refine m2 _ _ fun h=>?_ | refine m3 _ ?_ | (refine m4 _ _ (Hd.out ?_);try first | rw [hks] | rw [hk2] | rw [hk3]) | (refine m5 _ _ ?_;cbv)
 all_goals (clear m1 m2 m3 m4 m5;cases m0;(try clear hks;try clear hk2;try clear hk3);try dsimp only)
 all_goals try simp only [sm] at *
 all_goals first
  | omega
  | exact ⟨rfl,by cases caps<;>rfl⟩
  | exact ⟨rfl,rfl⟩
  | exact qn (z:=(0:Int)) (by omega)
  | (rw [jK (p:=fun x=>v == x) (l:=l) (i:=i) (0:Int) (by omega) (by first | assumption | exact beq_iff_eq.2 (by assumption))];rfl)
  | (rw [jJ (by omega)];rfl)
  | (simp only [qg (show i<9223372036854775807 by omega)];exact ⟨(ih (by omega)).same rfl (by rw [QG (p:=fun x=>v == x) (l:=l) (i:=i) (0:Int) (by omega) (by first | assumption | exact beq_eq_false_iff_ne.2 (by assumption) | (simp_all;done))])⟩)
def qjb (f:List Int->Int->Int):Wr:=w2 zX dcI (fun l v=>rI (f l v)) (fun l _=>[LLe l maxLen])
theorem qib:qy Tryz.prog 92 (qjb fun l v=>zK (fun x=>v == x) l 0):=qE fun l v h=>qkm l v (h _ (.head _)).out
end Go.Proofs.YtifnopmkdempdaaGreat.Ai
namespace Go.Proofs.YtifnopmkdempdaaGreat.Ai
open Go
set_option maxRecDepth 100000
variable [qh]
def inB (n lo hi:Int):Bool:=decide (lo<=n/\n<=hi)
def bt (s:ByteArray)(i:Nat):Int:=(s[i]?.getD 0).toNat
def qjg (s:ByteArray)(i:Nat):Bool:=decide (97<=bt s i/\bt s i<=122\/i≠0/\48<=bt s i/\bt s i<=57)
def Qm (s:ByteArray)(i:Nat):Bool:=(List.range' i (s.size-i)).all (qjg s)&&decide (1<=s.size/\s.size<=8)
theorem qdZ {s:ByteArray}{i:Nat}(h:i<s.size):Qm s i=(qjg s i&&Qm s (i+1)):=by
 unfold Qm
 rw [show s.size-i=(s.size-(i+1))+1 by omega,List.range'_succ,List.all_cons,Bool.and_assoc]
theorem qeC {s:ByteArray}{i:Nat}(h:i<s.size)(hc:¬(97<=bt s i/\bt s i<=122\/i≠0/\48<=bt s i/\bt s i<=57)):Qm s i=false:=by
 rw [qdZ h,qjg,decide_eq_false hc,Bool.false_and]
theorem qbE {s:ByteArray}{i:Nat}(h:i<s.size)(hc:97<=bt s i/\bt s i<=122\/i≠0/\48<=bt s i/\bt s i<=57):Qm s i=Qm s (i+1):=by
 rw [qdZ h,qjg,decide_eq_true hc,Bool.true_and]
theorem qeP {s:ByteArray}{i:Nat}(h:s.size<=i):Qm s i=decide (1<=s.size/\s.size<=8):=by
 unfold Qm
 rw [show s.size-i=0 by omega]
 simp
theorem qmT (a b c:Int):qe Tryz.prog 104 [aI a,aI b,aI c] (rB (inB a b c)):=by
 refine qe.of qc (fn:=Tryz.f104) (c:=Tryz.f104.body.getD .skip) (dr:=fun n=>qa 0 [] n) Tryz.func104 rfl (by kernel_rfl) (by kernel_rfl) (by kernel_rfl) ?_
 refine SEx.walk (X:=XX) qc (fun n=>qa [] [] n) qd 100 ?_
 intro M R L N hM hR hL hN
 cases M
 cbv
 cases hM
 try dsimp only
 repeat' first | apply And.intro | (intro h;try simp only [Bool.not_eq_true',Bool.not_eq_false',decide_eq_true_eq,decide_eq_false_iff_not,Int.not_le,Int.not_lt,beq_iff_eq,beq_eq_false_iff_ne,ne_eq,Int.ofNat_eq_natCast,Int.toNat_natCast,List.length_replicate,qd3,Nat.sub_zero,List.drop_zero,Cue.eta,Tie.eta,Edge.eta,Qu.eta,qi.eta] at h) | (refine hR _ ?_) | (refine hL _ _ (Hd.out ?_)) | (refine hN _ _ (Hd.out ?_))
 all_goals simp only [jF,inB]
 all_goals (rw [Bool.eq_iff_iff];simp;try omega)
def qsF (f:Int->Int->Int->Bool):Wr:=w3 dcI dcI dcI (fun x y z=>rB (f x y z)) (fun _ _ _=>[])
theorem qpm:qy Tryz.prog 104 (qsF inB):=jv fun x y z _=>qmT x y z
theorem qaF (s:ByteArray)(hs:s.size<=maxLen):qe Tryz.prog 170 [aS s] (rB (Qm s 0)):=by
 refine qe.of qc (fn:=Tryz.f170) (c:=Tryz.f170.body.getD .skip) (dr:=fun n=>qa 0 [] n) Tryz.func170 rfl (by kernel_rfl) (by kernel_rfl) (by kernel_rfl) ?_
 obtain ⟨f,hf⟩:∃ f,f=inB:=⟨_,rfl⟩
 have hO:qp Tryz.prog (qJ [(104,qsF f)]):=by subst hf;exact qb qpm qd
 unfold maxLen at hs
 refine SEx.walk (X:=XX) qc (fun n=>qa [] [(2,[0,3])] n) hO 100 ?_
 intro M R L N hM hR hL hN
 cases M
 cbv
 cases hM
 try dsimp only
 refine hL _ _ ?_
 clear hR hL hN R L N
 generalize hks:(List.cons _ _:List K)=ks
 refine SEx.same (SEx.ind (fun i:Nat=>⟨42,[(0,.v (false,[.fz (.str s)])),(3,.v (false,[.fz (.int .i64 i)]))],[]⟩) (fun i=>rB (Qm s i)) (fun i=>i<=s.size) (fun i=>s.size-i) 0 (Nat.zero_le _) ?_) rfl rfl
 intro i hi ih
 rw [<-hks]
 refine SEx.walk (X:=XX) qc (fun n=>qa [] [(2,[0,3])] n) hO 100 ?_
 intro M R L N hM hR hL hN
 cases M
 cbv
 cases hM
 try dsimp only
 repeat' first | apply And.intro | (intro h;try simp only [Bool.not_eq_true',Bool.not_eq_false',decide_eq_true_eq,decide_eq_false_iff_not,Int.not_le,Int.not_lt,beq_iff_eq,beq_eq_false_iff_ne,ne_eq,Int.ofNat_eq_natCast,Int.toNat_natCast,List.length_replicate,qd3,Nat.sub_zero,List.drop_zero,Cue.eta,Tie.eta,Edge.eta,Qu.eta,qi.eta] at h) | (refine hR _ ?_) | (refine hL _ _ (Hd.out ?_)) | (refine hN _ _ (Hd.out ?_))
 all_goals simp only [Int.ofNat_eq_natCast,hks,jF]
 all_goals (try simp only [qg (show i<9223372036854775807 by omega)])
 all_goals first
  | omega
  | (rw [qeC]<;>(try unfold bt)<;>omega)
  | (rw [qbE (by omega) (by unfold bt;omega)];exact ⟨ih (i+1) (by omega) (by omega)⟩)
  | (rw [hf,qeP (by omega)];unfold inB;rw [Bool.eq_iff_iff];simp only [decide_eq_true_eq];omega)
theorem qaG (s:ByteArray)(hs:s.size<=maxLen):qe Tryz.prog 166 [aS s] (rB (Qm s 0)):=by
 refine qe.of qc (fn:=Tryz.f166) (c:=Tryz.f166.body.getD .skip) (dr:=fun n=>qa 0 [(4,22)] n) Tryz.func166 rfl (by kernel_rfl) (by kernel_rfl) (by kernel_rfl) ?_
 unfold maxLen at hs
 refine SEx.walk (X:=XX) qc (fun n=>qa [] [(2,[0,3])] n) qd 100 ?_
 intro M R L N hM hR hL hN
 cases M
 cbv
 cases hM
 try dsimp only
 refine hL _ _ ?_
 clear hR hL hN R L N
 generalize hks:(List.cons _ _:List K)=ks
 refine SEx.same (SEx.ind (fun i:Nat=>⟨50,[(0,.v (false,[.fz (.str s)])),(3,.v (false,[.fz (.int .i64 i)]))],[]⟩) (fun i=>rB (Qm s i)) (fun i=>i<=s.size) (fun i=>s.size-i) 0 (Nat.zero_le _) ?_) rfl rfl
 intro i hi ih
 rw [<-hks]
 refine SEx.walk (X:=XX) qc (fun n=>qa [] [(2,[0,3])] n) qd 100 ?_
 intro M R L N hM hR hL hN
 cases M
 cbv
 cases hM
 try dsimp only
 repeat' first | apply And.intro | (intro h;try simp only [Bool.not_eq_true',Bool.not_eq_false',decide_eq_true_eq,decide_eq_false_iff_not,Int.not_le,Int.not_lt,beq_iff_eq,beq_eq_false_iff_ne,ne_eq,Int.ofNat_eq_natCast,Int.toNat_natCast,List.length_replicate,qd3,Nat.sub_zero,List.drop_zero,Cue.eta,Tie.eta,Edge.eta,Qu.eta,qi.eta] at h) | (refine hR _ ?_) | (refine hL _ _ (Hd.out ?_)) | (refine hN _ _ (Hd.out ?_))
 all_goals simp only [Int.ofNat_eq_natCast,hks,jF]
 all_goals (try simp only [qg (show i<9223372036854775807 by omega)])
 all_goals first
  | omega
  | (rw [qeC]<;>(try unfold bt)<;>omega)
  | (rw [qbE (by omega) (by unfold bt;omega)];exact ⟨ih (i+1) (by omega) (by omega)⟩)
  | (rw [qeP (by omega),Bool.eq_iff_iff];simp only [decide_eq_true_eq,Bool.false_eq_true,false_iff];omega)
def qck (f:ByteArray->Bool):Wr:=w1 dcS (fun x=>rB (f x)) (fun x=>[qs2 x])
theorem qlG:qy Tryz.prog 170 (qck (Qm · 0)):=zx fun x h=>qaF x (h _ List.mem_cons_self).out
theorem qkn:qy Tryz.prog 166 (qck (Qm · 0)):=zx fun x h=>qaG x (h _ List.mem_cons_self).out
end Go.Proofs.YtifnopmkdempdaaGreat.Ai
namespace Go.Proofs.YtifnopmkdempdaaGreat.Ai
open Go
set_option maxRecDepth 100000
variable [qh]
def szL {α:Type}(l:List α)(n:Int):Int:=if n<l.length then -1 else n-l.length
theorem qkl (l:List Int)(n:Int)(hs:l.length<=maxLen)(hn:0<=n/\n<=9223372036854775807):qe Tryz.prog 32 [aIs l,aI n] (rI (szL l n)):=by
 refine qe.of qc (fn:=Tryz.f32) (c:=Tryz.f32.body.getD .skip) (dr:=fun n=>qa 0 [] n) Tryz.func32 rfl (by kernel_rfl) (by kernel_rfl) (by kernel_rfl) ?_
 unfold maxLen at hs
 refine SEx.go (X:=XX) qc (fun n=>qa [] [] n) (fun _=>none) qd 60 ?_
 intro M R L N m0 m1 m2 m3 m4 m5
 cases M
 cbv
 repeat' first | refine m1 _ _ ?_ ?_ | refine m2 _ _ fun h=>?_ | refine m3 _ ?_ | (refine m4 _ _ (Hd.out ?_);try first | rw [hks] | rw [hk2] | rw [hk3]) | (refine m5 _ _ ?_;cbv)
 all_goals (clear m1 m2 m3 m4 m5;cases m0;(try clear hks;try clear hk2;try clear hk3);try dsimp only)
 all_goals try simp only [sm] at *
 all_goals rw [qr (by omega) (by omega)] at *
 all_goals simp only [Km,szL]
 all_goals split<;>omega
def ZV {α:Type}(z:α)(l:List α)(n i:Nat):List α:=l.take i++List.replicate (n-i) z
theorem WR {α:Type}{z:α}{l:List α}{n i:Nat}(h:l.length=n)(hi:i<=n):(ZV z l n i).length=n:=by simp [ZV];omega
theorem wI {α:Type}{z d:α}{l:List α}{n i:Nat}(h:l.length=n)(hi:i<n):(ZV z l n i).set i (l.getD i d)=ZV z l n (i+1):=by
 have hl:i<l.length:=by omega
 unfold ZV
 rw [show n-i=(n-(i+1))+1 by omega,List.replicate_succ,List.set_append_right _ _ (by simp;omega)]
 rw [show i-(l.take i).length=0 by simp;omega,List.set_cons_zero,List.take_add_one,List.getElem?_eq_getElem hl]
 simp only [Option.toList_some,List.append_assoc,List.singleton_append,List.getD_eq_getElem?_getD,List.getElem?_eq_getElem hl,Option.getD_some]
theorem Ws {α:Type}{z:α}{l:List α}{n:Nat}(h:l.length=n):ZV z l n n=l:=by simp [ZV,<-h]
theorem qk6 (l:List Int)(hs:l.length<=1048576):qe Tryz.prog 13 [aIs l] (rIs l):=by
 refine qe.of qc (fn:=Tryz.f13) (c:=Tryz.f13.body.getD .skip) (dr:=fun n=>qa 0 [] n) Tryz.func13 rfl (by kernel_rfl) (by kernel_rfl) (by kernel_rfl) ?_
 refine SEx.go (X:=XX) qc (fun n=>qa [] [(3,[0,3,4])] n) (fun _=>none) qd 60 ?_
 intro M R L N m0 m1 m2 m3 m4 m5
 cases M
 cbv
 repeat' first | refine m1 _ _ ?_ ?_ | refine m2 _ _ fun h=>?_ | refine m3 _ ?_ | (refine m4 _ _ (Hd.out ?_);generalize hks:(List.cons _ _:List K)=ks) | (refine m5 _ _ ?_;cbv)
 all_goals (clear m1 m2 m3 m4 m5;cases m0;try dsimp only)
 all_goals try simp only [sm] at *
 . have:=zB;omega
 generalize hn:l.length=n at *
 refine ⟨SEx.same (SEx.ind (fun i:Nat=>⟨22,[(0,.v (false,[.fz (.sl (.i l))])),(3,.v (false,[.rf (12288,[]) true 0 n])),(4,.v (false,[.fz (.int .i64 i)]))],[(12288,.osl (.i (ZV 0 l n i)))]⟩) (fun _=>rIs l) (fun i=>i<=n) (fun i=>n-i) 0 (Nat.zero_le _) ?_) rfl rfl⟩
 intro i hi ih
 rw [<-hks]
 obtain ⟨fl,hfl⟩:∃ x,x=ZV 0 l n i:=⟨_,rfl⟩
 have hf:=WR (z:=(0:Int)) hn hi
 rw [<-hfl] at hf ⊢
 refine SEx.go (X:=XX) qc (fun n=>qa [] [(3,[0,3,4])] n) (fun _=>none) qd 60 ?_
 intro M R L N m0 m1 m2 m3 m4 m5
 cases M
 cbv
 repeat' first | refine m1 _ _ ?_ ?_ | refine m2 _ _ fun h=>?_ | refine m3 _ ?_ | (refine m4 _ _ (Hd.out ?_);try first | rw [hks] | rw [hk2] | rw [hk3]) | (refine m5 _ _ ?_;cbv)
 all_goals (clear m1 m2 m3 m4 m5;cases m0;(try clear hks;try clear hk2;try clear hk3);try dsimp only)
 all_goals try simp only [sm] at *
 all_goals first
  | omega
  | (simp only [qg (show i<9223372036854775807 by omega),hfl,wI hn (show i<n by omega)];exact ⟨ih (i+1) (by omega) (by omega)⟩)
  | (obtain rfl:i=n:=by omega
     rw [hfl,Ws hn];rfl)
def VV:Wr:=w1 zX rIs (fun l=>[LLe l 1048576])
theorem ww:qy Tryz.prog 13 VV:=zx fun l h=>qk6 l (h _ (.head _)).out
def qpj:Wr:=w2 zX dcI (fun l n=>rI (szL l n)) (fun l n=>[LLe l maxLen,qiB n])
theorem qgN:qy Tryz.prog 32 qpj:=qE fun l n h=>qkl l n (h _ (.head _)).out (h _ (.tail _ (.head _))).out
theorem qlS (l:List Int)(hs:l.length<=maxLen):qe Tryz.prog 17 [aIs l,aIs l] (rB true):=by
 refine qe.of qc (fn:=Tryz.f17) (c:=Tryz.f17.body.getD .skip) (dr:=fun n=>qa 0 [(6,8)] n) Tryz.func17 rfl (by kernel_rfl) (by kernel_rfl) (by kernel_rfl) ?_
 unfold maxLen at hs
 refine SEx.go (X:=XX) qc (fun n=>qa [] [(4,[0,1,5])] n) (fun _=>none) qd 60 ?_
 intro M R L N m0 m1 m2 m3 m4 m5
 cases M
 cbv
 repeat' first | refine m1 _ _ ?_ ?_ | refine m2 _ _ fun h=>?_ | refine m3 _ ?_ | (refine m4 _ _ (Hd.out ?_);generalize hks:(List.cons _ _:List K)=ks) | (refine m5 _ _ ?_;cbv)
 all_goals (clear m1 m2 m3 m4 m5;cases m0;try dsimp only)
 all_goals try simp only [sm] at *
 . exact absurd trivial (by assumption)
 generalize hn:l.length=n at *
 refine ⟨SEx.same (SEx.ind (fun i:Nat=>⟨26,[(0,.v (false,[.fz (.sl (.i l))])),(1,.v (false,[.fz (.sl (.i l))])),(5,.v (false,[.fz (.int .i64 i)]))],[]⟩) (fun _=>rB true) (fun i=>i<=n) (fun i=>n-i) 0 (Nat.zero_le _) ?_) rfl rfl⟩
 intro i hi ih
 rw [<-hks]
 refine SEx.go (X:=XX) qc (fun n=>qa [] [(4,[0,1,5])] n) (fun _=>none) qd 60 ?_
 intro M R L N m0 m1 m2 m3 m4 m5
 cases M
 cbv
 repeat' first | refine m1 _ _ ?_ ?_ | refine m2 _ _ fun h=>?_ | refine m3 _ ?_ | (refine m4 _ _ (Hd.out ?_);try first | rw [hks] | rw [hk2] | rw [hk3]) | (refine m5 _ _ ?_;cbv)
 all_goals (clear m1 m2 m3 m4 m5;cases m0;(try clear hks;try clear hk2;try clear hk3);try dsimp only)
 all_goals try simp only [sm] at *
 all_goals first
  | omega
  | exact absurd trivial (by assumption)
  | rfl
  | (simp only [qg (show i<9223372036854775807 by omega)];exact ⟨ih (i+1) (by omega) (by omega)⟩)
def V0:Wr:=w2 zX zX (fun _ _=>rB true) (fun l m=>[vb l m,LLe l maxLen])
theorem wy:qy Tryz.prog 17 V0:=qE fun l m h=>by
 obtain rfl:=(h _ (.head _)).out
 exact qlS l (h _ (.tail _ (.head _))).out
end Go.Proofs.YtifnopmkdempdaaGreat.Ai
namespace Go.Proofs.YtifnopmkdempdaaGreat.Ai
open Go
set_option maxRecDepth 100000
variable [qh]
def wR (n:Nat):V1 B:=(false,[.rf (lrt 0,[]) true 0 n])
def bI1 (n:Int):V1 B:=(false,[.fz (.int .i64 n)])
def kx (k:Int)(n:Nat):List Int:=(List.range n).map fun j=>k+(j:Nat)
theorem zO (k:Int)(n:Nat):(kx k n).length=n:=by simp [kx]
theorem qgo (k:Int)(n:Nat):kx k (n+1)=kx k n++[k+n]:=by simp [kx,List.range_succ]
theorem qel {q:Int}(h0:-9223372036854775808<=q)(h:q<9223372036854775807):IntKind.i64.wrap (q+1)=q+1:=by
 simp [IntKind.wrap,IntKind.bits,IntKind.signed];omega
theorem qk9 {k:Int}{i:Nat}{l:List Int}(hi:i<l.length):(kx k i++l.drop i).set i (k+i)=kx k (i+1)++l.drop (i+1):=by
 rw [List.set_append_right _ _ (by rw [zO];omega),zO,Nat.sub_self,qgo,List.append_assoc,List.drop_eq_getElem_cons hi];rfl
theorem VC (l:List Int)(k:Int)(hl:l.length<=maxLen)(hk:0<=k/\k+l.length<=4611686018427387904) :
 zY Tryz.prog 22 [wR l.length,bI1 k] [(lrt 0,.osl (.i l))] [.rf (lrt 0,[]) true 0 l.length] (.v (bI1 (k+l.length))) [(lrt 0,.osl (.i (kx k l.length)))] [.rf (lrt 0,[]) true 0 l.length]:=by
 refine zY.of qc (fn:=Tryz.f22) (c:=Tryz.f22.body.getD .skip) (dr:=fun n=>qa 0 [] n) (r:=(_,_,_)) Tryz.func22 rfl (by kernel_rfl) (by kernel_rfl) (by kernel_rfl) ?_
 generalize hn:l.length=n at *
 refine zP.go (X:=XX) qc (fun n=>qa [] [(2,[0,1,5,4294967296])] n) (fun _=>none) qd 60 1 ?_
 intro M R L N m0 m1 m2 m3 m4 m5
 cases M
 cbv
 repeat' first | refine m1 _ _ ?_ ?_ | refine m2 _ _ fun h=>?_ | refine m3 _ ?_ | (refine m4 _ _ (Hd.out ?_);generalize hks:(List.cons _ _:List K)=ks) | (refine m5 _ _ ?_;cbv)
 all_goals (clear m1 m2 m3 m4 m5;cases m0;try dsimp only)
 all_goals try simp only [sm] at *
 refine ⟨zP.same (zP.idx n (fun i=>⟨19,[(0,bR 41000000 n),(1,bI (k+i)),(5,bI i),(4294967296,bR 41000000 n)],[(41000000,.osl (.i (kx k i++l.drop i)))]⟩) (fun _=>(.v (bI1 (k+n)),[(lrt 0,.osl (.i (kx k n)))],[.rf (lrt 0,[]) true 0 n])) ?_) ?_ ⟨rfl,rfl,rfl⟩⟩
 rotate_left
 . rw [show k+((0:Nat):Int)=k by omega];rfl
 intro i hi ih
 rw [<-hks]
 obtain ⟨c,hc⟩:∃ c,c=kx k i++l.drop i:=⟨_,rfl⟩
 have hcl:c.length=n:=by rw [hc,List.length_append,zO,List.length_drop];omega
 rw [<-hc]
 obtain ⟨q,hq⟩:∃ q,q=k+(i:Int):=⟨_,rfl⟩
 rw [<-hq]
 unfold maxLen at hl
 refine zP.go (X:=XX) qc (fun n=>qa [] [(2,[0,1,5,4294967296])] n) (fun _=>none) qd 60 1 ?_
 intro M R L N m0 m1 m2 m3 m4 m5
 cases M
 cbv
 repeat' first | refine m1 _ _ ?_ ?_ | refine m2 _ _ fun h=>?_ | refine m3 _ ?_ | (refine m4 _ _ (Hd.out ?_);try rw [hks]) | (refine m5 _ _ ?_;cbv)
 all_goals (clear m1 m2 m3 m4 m5;cases m0;(try clear hks);try dsimp only)
 all_goals try simp only [sm] at *
 all_goals first
  | omega
  | (have hin:i=n:=by omega
     subst hin
     rw [List.drop_eq_nil_of_le (by omega),List.append_nil] at hc
     subst hc;subst hq
     refine ⟨?_,?_,?_⟩<;>rfl)
  | (simp only [qg (show i<9223372036854775807 by omega),qel (q:=q) (by omega) (by omega)]
     refine ⟨(ih (by omega)).same ?_ ⟨rfl,rfl,rfl⟩⟩
     rw [hc,hq,qk9 (k:=k) (i:=i) (l:=l) (by omega)]
     rw [show k+((i+1:Nat):Int)=k+i+1 by omega,show ((i+1:Nat):Int)=i+1 by omega]
     rfl)
def dch (k:Int):ByteArray:=⟨(List.map (fun n=>UInt8.ofNat n.toNat) [IntKind.u8.wrap (IntKind.i64.wrap (48+k.tmod 10))]).toArray⟩
theorem qfG (k:Int):(dch k).size=1:=rfl
def yE:Nat->Int->ByteArray->ByteArray
 | 0,_,out=>out
 | n+1,k,out=>if 0<k then yE n (k.tdiv 10) (dch k++out) else out
theorem qcK {k:Int}(h:0<k):0<=k.tdiv 10/\k.tdiv 10<k:=by
 rw [Int.tdiv_eq_ediv_of_nonneg (by omega)];omega
theorem qbA:∀ (n m:Nat) (k:Int) (out:ByteArray),k.toNat<=n->k.toNat<=m->yE n k out=yE m k out
 | 0,0,_,_,_,_=>rfl
 | 0,m+1,k,out,h,_=>by simp only [yE];rw [if_neg (by omega)]
 | n+1,0,k,out,_,h=>by simp only [yE];rw [if_neg (by omega)]
 | n+1,m+1,k,out,h1,h2=>by
   simp only [yE]
   split
   . rename_i h
     have:=qcK h
     exact qbA n m _ _ (by omega) (by omega)
   . rfl
theorem qlH {k:Int}(out:ByteArray)(h:0<k):yE k.toNat k out=yE (k.tdiv 10).toNat (k.tdiv 10) (dch k++out):=by
 have:=qcK h
 obtain ⟨n,hn⟩:∃ n,k.toNat=n+1:=⟨k.toNat-1,by omega⟩
 rw [hn]
 simp only [yE]
 rw [if_pos h]
 exact qbA _ _ _ _ (by omega) (by omega)
def mS:ByteArray:=⟨⟨[109]⟩⟩
def mT (k:Int):ByteArray:=mS++yE k.toNat k ⟨⟨[]⟩⟩
theorem qdO (k:Int)(hk:0<k/\k<=4611686018427387904):qe Tryz.prog 89 [aI k] (rS (mT k)):=by
 refine qe.of qc (fn:=Tryz.f89) (c:=Tryz.f89.body.getD .skip) (dr:=fun n=>qa 0 [] n) Tryz.func89 rfl (by kernel_rfl) (by kernel_rfl) (by kernel_rfl) ?_
 refine SEx.go (X:=XX) qc (fun n=>qa [] [(4,[0,3])] n) (fun _=>none) qd 60 ?_
 intro M R L N m0 m1 m2 m3 m4 m5
 cases M
 cbv
 repeat' first | refine m1 _ _ ?_ ?_ | refine m2 _ _ fun h=>?_ | refine m3 _ ?_ | (refine m4 _ _ (Hd.out ?_);generalize hks:(List.cons _ _:List K)=ks) | (refine m5 _ _ ?_;cbv)
 all_goals (clear m1 m2 m3 m4 m5;cases m0;try dsimp only)
 all_goals try simp only [sm] at *
 . exfalso;omega
 refine ⟨SEx.same (SEx.ind (α:=Int×ByteArray) (fun x=>⟨20,[(0,bI x.1),(3,bS x.2)],[]⟩) (fun x=>rS (mS++yE x.1.toNat x.1 x.2)) (fun x=>0<=x.1/\x.2.size+x.1<=4611686018427387904) (fun x=>x.1.toNat) (k,⟨⟨[]⟩⟩) ⟨by omega,by show (0:Int)+k<=_;omega⟩ ?_) rfl rfl⟩
 rintro ⟨q,out⟩ ⟨hq0,hq1⟩ ih
 simp only at hq0 hq1 ih ⊢
 rw [<-hks]
 refine SEx.go (X:=XX) qc (fun n=>qa [] [(4,[0,3])] n) (fun _=>none) qd 60 ?_
 intro M R L N m0 m1 m2 m3 m4 m5
 cases M
 cbv
 repeat' first | refine m1 _ _ ?_ ?_ | refine m2 _ _ fun h=>?_ | refine m3 _ ?_ | (refine m4 _ _ (Hd.out ?_);try first | rw [hks] | rw [hk2] | rw [hk3]) | (refine m5 _ _ ?_;cbv)
 all_goals (clear m1 m2 m3 m4 m5;cases m0;(try clear hks;try clear hk2;try clear hk3);try dsimp only)
 all_goals try simp only [sm] at *
 all_goals first
  | exact ⟨⟩
  | (intro h;cases h;done)
  | rfl
  | (show (dch q).size+out.size<=_;rw [qfG];omega)
  | (have h2:=qcK (k:=q) (by assumption)
     rw [qr (by omega) (by omega)]
     exact ⟨(ih (q.tdiv 10,dch q++out) ⟨h2.1,by show ((dch q++out).size:Int)+_<=_;rw [ByteArray.size_append,qfG];show ((1+out.size:Nat):Int)+q.tdiv 10<=_;omega⟩ (by show (q.tdiv 10).toNat<_;omega)).same rfl (by rw [qlH out (by assumption)])⟩)
  | (have hq:q=0:=by omega
     subst hq;rfl)
  | trace_state
structure qta (k:Int):Prop where out:0<k/\k<=4611686018427387904
def qr4 (f:Int->ByteArray):Wr:=w1 dcI (fun k=>rS (f k)) (fun k=>[qta k])
structure MkI {α:Type}(p:SP)(n m:Nat)(l:List α)(k:Int):Prop where out:p=(lrt 0,[])/\m=n/\l.length=n/\n<=maxLen/\0<=k/\k+n<=4611686018427387904
structure qsj (k:Int)(n:Nat):Prop where out:0<=k/\k+n<=4611686018427387904
def KI (k:Int)(n:Nat):Int:=k+n
def KK (f:Int->Nat->List Int)(g:Int->Nat->Int):WrW
 | [(false,[.rf p true 0 n]),(false,[.fz (.int .i64 k)])],[(.sl m,.osl (.i l))]=>some ([MkI p n m l k],(.v (bI1 (g k n)),[(lrt 0,.osl (.i (f k n)))],[.rf (lrt 0,[]) true 0 n]))
 | [(false,[.rf p true 0 n]),(false,[.fz (.int .i64 k)])],[(.sl m,.onil)]=>some ([MkI p n m ([]:List Int) k],(.v (bI1 k),[(lrt 0,.onil)],[.rf (lrt 0,[]) true 0 n]))
 | _,_=>none
theorem Wy:vF Tryz.prog 22 (KK kx KI):=by
 intro xs ls
 unfold KK
 split
 . refine R.Sim.mk fun hp=>?_
   obtain ⟨rfl,rfl,rfl,h1,h2,h3⟩:=(hp _ (.head _)).out
   exact VC _ _ h1 ⟨h2,h3⟩
 . refine R.Sim.mk fun hp=>?_
   obtain ⟨rfl,rfl,h0,h1,h2,h3⟩:=(hp _ (.head _)).out
   cases h0
   rename_i k
   have:=VC [] k h1 ⟨h2,h3⟩
   rw [show k+(([]:List Int).length:Int)=k by simp] at this
   exact this
 . exact R.Sim.none'
theorem qim {k:Int}{n i:Nat}(h:i<n):(kx k n).getD i 0=k+i:=by
 rw [zn (by rw [zO];exact h)];simp [kx]
theorem qd7 (k:Int)(n:Nat)(h1:n<=maxLen)(hk:0<=k/\k+n<=4611686018427387904):qe Tryz.prog 23 [aIs (kx k n),aI k] (rI (KI k n)):=by
 refine qe.of qc (fn:=Tryz.f23) (c:=Tryz.f23.body.getD .skip) (dr:=fun n=>qa 0 [] n) Tryz.func23 rfl (by kernel_rfl) (by kernel_rfl) (by kernel_rfl) ?_
 obtain ⟨c,hc⟩:∃ c,c=kx k n:=⟨_,rfl⟩
 have hcl:c.length=n:=by rw [hc,zO]
 rw [<-hc]
 refine SEx.go (X:=XX) qc (fun n=>qa [] [(2,[0,1,5])] n) (fun _=>none) qd 60 ?_
 intro M R L N m0 m1 m2 m3 m4 m5
 cases M
 cbv
 repeat' first | refine m1 _ _ ?_ ?_ | refine m2 _ _ fun h=>?_ | refine m3 _ ?_ | (refine m4 _ _ (Hd.out ?_);generalize hks:(List.cons _ _:List K)=ks) | (refine m5 _ _ ?_;cbv)
 all_goals (clear m1 m2 m3 m4 m5;cases m0;try dsimp only)
 all_goals try simp only [sm] at *
 refine ⟨SEx.same (SEx.idx n (fun i=>⟨21,[(0,bL (.i c)),(1,bI (k+i)),(5,bI i)],[]⟩) (fun _=>rI (KI k n)) ?_) (by rw [show k+((0:Nat):Int)=k by omega];rfl) rfl⟩
 intro i hi ih
 rw [<-hks]
 obtain ⟨q,hq⟩:∃ q,q=k+(i:Int):=⟨_,rfl⟩
 have hg:i<n->c.getD i 0=q:=fun h=>by rw [hc,hq,qim h]
 rw [<-hq]
 unfold maxLen at h1
 refine SEx.go (X:=XX) qc (fun n=>qa [] [(2,[0,1,5])] n) (fun _=>none) qd 60 ?_
 intro M R L N m0 m1 m2 m3 m4 m5
 cases M
 cbv
 repeat' first | refine m1 _ _ ?_ ?_ | refine m2 _ _ fun h=>?_ | refine m3 _ ?_ | (refine m4 _ _ (Hd.out ?_);try first | rw [hks] | rw [hk2] | rw [hk3]) | (refine m5 _ _ ?_;cbv)
 all_goals (clear m1 m2 m3 m4 m5;cases m0;(try clear hks;try clear hk2;try clear hk3);try dsimp only)
 all_goals try simp only [sm] at *
 all_goals first
  | omega
  | (exfalso;have:=hg (by omega);first | contradiction | (simp_all;done))
  | (simp only [qg (show i<9223372036854775807 by omega),qel (q:=q) (by omega) (by omega)]
     refine ⟨(ih (by omega)).same ?_ rfl⟩
     rw [hq,show k+((i+1:Nat):Int)=k+i+1 by omega,show ((i+1:Nat):Int)=i+1 by omega]
     rfl)
  | (obtain rfl:i=n:=by omega
     subst hq;rfl)
  | trace_state
def qo5 (g:Int->Nat->Int)(f:Int->Nat->List Int)(ln:List Int->Nat):Wr:=w2 zX dcI (fun l k=>rI (g k (ln l))) (fun l k=>[vb l (f k (ln l)),LLe l maxLen,qsj k (ln l)])
theorem qk8:qy Tryz.prog 23 (qo5 KI kx List.length):=qE fun l k h=>by
 have e:=(h _ (.head _)).out
 have h1:=(h _ (.tail _ (.head _))).out
 have h2:=(h _ (.tail _ (.tail _ (.head _)))).out
 have:=qd7 k l.length h1 h2
 rwa [<-e] at this
end Go.Proofs.YtifnopmkdempdaaGreat.Ai
namespace Go.Proofs.YtifnopmkdempdaaGreat.Ai
open Go
set_option maxRecDepth 100000
variable [qh]
def pI (l:List Int)(i:Nat):Bool:=decide (1<=l.getD i 0/\l.getD i 0<=3/\(0<i->l.getD (i-1) 0<l.getD i 0))
def okP (l:List Int):Bool:=(List.range l.length).all (pI l)
theorem qoo {l:List Int}{i:Nat}(hi:i<l.length)(h:pI l i=false):okP l=false:=by
 unfold okP
 rw [List.all_eq_false]
 exact ⟨i,List.mem_range.2 hi,by rw [h];simp⟩
theorem qc3 {l:List Int}(h:∀ j,j<l.length->pI l j=true):okP l=true:=by
 unfold okP
 rw [List.all_eq_true]
 exact fun j hj=>h j (List.mem_range.1 hj)
theorem qq2 {l:List Int}{n:Nat}(h:∀ j,j<n->pI l j=true):∀ j,j<n->(j:Int)+1<=l.getD j 0
 | 0,hj=>by have:=of_decide_eq_true (h 0 hj);omega
 | j+1,hj=>by
   have h1:=of_decide_eq_true (h (j+1) hj)
   have h2:=qq2 h j (by omega)
   have h3:=h1.2.2 (by omega)
   rw [Nat.add_sub_cancel] at h3
   omega
theorem yA {l:List Int}{n:Nat}(h:∀ j,j<n->pI l j=true):n<=3:=by
 apply Decidable.byContradiction
 intro hn
 have h1:=qq2 h 3 (by omega)
 have h2:=of_decide_eq_true (h 3 (by omega))
 omega
theorem qmI {l:List Int}{i:Nat}(h1:1<=l.getD i 0)(h2:l.getD i 0<=3)(h3:0<i->l.getD (i-1) 0<l.getD i 0):pI l i=true:=decide_eq_true ⟨h1,h2,h3⟩
def kb (a b c:Int):Bool:=decide (b<=a)&&decide (a<=c)
theorem qqF (a b c:Int):qe Tryz.prog 104 [aI a,aI b,aI c] (rB (kb a b c)):=by
 refine qe.of qc (fn:=Tryz.f104) (c:=Tryz.f104.body.getD .skip) (dr:=fun n=>qa 0 [] n) Tryz.func104 rfl (by kernel_rfl) (by kernel_rfl) (by kernel_rfl) ?_
 refine SEx.go (X:=XX) qc (fun n=>qa [] [] n) (fun _=>none) qd 60 ?_
 intro M R L N m0 m1 m2 m3 m4 m5
 cases M
 cbv
 repeat' first | refine m1 _ _ ?_ ?_ | refine m2 _ _ fun h=>?_ | refine m3 _ ?_ | (refine m4 _ _ (Hd.out ?_);try first | rw [hks] | rw [hk2] | rw [hk3]) | (refine m5 _ _ ?_;cbv)
 all_goals (clear m1 m2 m3 m4 m5;cases m0;(try clear hks;try clear hk2;try clear hk3);try dsimp only)
 all_goals try simp only [sm] at *
 . simp only [jF,kb]
   rw [decide_eq_true (show b<=a by assumption),Bool.true_and]
 . simp only [jF,kb]
   rw [decide_eq_false (show ¬b<=a by omega),Bool.false_and]
theorem Qg {n:Nat}(h:n<18446744073709551616):IntKind.u64.wrap (n:Int)=(n:Int):=by
 simp [IntKind.wrap,IntKind.bits,IntKind.signed];omega
theorem qeI {m:Nat}(h:m<=3):IntKind.i64.wrap (1 * 2 ^ min m IntKind.i64.bits)=((2 ^ m:Nat):Int):=by
 have:m=0\/m=1\/m=2\/m=3:=by omega
 rcases this with rfl | rfl | rfl | rfl<;>decide
theorem WW {m:Nat}(h:m<=3):2 ^ m<=8:=by
 have:m=0\/m=1\/m=2\/m=3:=by omega
 rcases this with rfl | rfl | rfl | rfl<;>decide
def qkI (n i:Nat):Int:=IntKind.i64.wrap (1-IntKind.i64.wrap (2 * IntKind.i64.wrap (((BitVec.ofInt IntKind.i64.bits ((n:Int).fdiv (2 ^ min i IntKind.i64.bits)) &&& BitVec.ofInt IntKind.i64.bits 1).toNat:Nat):Int)))
def WK (n i:Nat):List Int:=(List.range i).map (qkI n)
def vf (m n:Nat):List (List Int):=(List.range n).map fun n=>WK n m
theorem qbi (n i:Nat):WK n (i+1)=WK n i++[qkI n i]:=by simp [WK,List.range_succ]
theorem qbS (m n:Nat):vf m (n+1)=vf m n++[WK n m]:=by simp [vf,List.range_succ]
theorem KR (n i:Nat):(WK n i).length=i:=by simp [WK]
theorem qag (m n:Nat):(vf m n).length=n:=by simp [vf]
def jr (l:List Int):List (List Int):=if okP l then vf l.length (2 ^ l.length) else []
def Ys (f:Int->Int->Int->Bool):Wr:=w3 dcI dcI dcI (fun a b c=>rB (f a b c)) (fun _ _ _=>[])
theorem Qf:qy Tryz.prog 104 (Ys kb):=jv fun a b c _=>qqF a b c
theorem qgI (l:List Int)(h1:l.length<=1048576):qe Tryz.prog 79 [aIs l] (Q0 (jr l)):=by
 refine qe.of qc (fn:=Tryz.f79) (c:=Tryz.f79.body.getD .skip) (dr:=fun n=>qa 0 [] n) Tryz.func79 rfl (by kernel_rfl) (by kernel_rfl) (by kernel_rfl) ?_
 obtain ⟨m,hm⟩:∃ m,m=l.length:=⟨_,rfl⟩
 obtain ⟨r,hr⟩:∃ r,r=jr l:=⟨_,rfl⟩
 rw [<-hr]
 refine SEx.go (X:=XX) qc (fun n=>qa [] [(2,[0,9,10,11]),(9,[0,5,6]),(13,[0,5,6,7,44,45])] n) (fun _=>none) qd 60 ?_
 intro M R L N m0 m1 m2 m3 m4 m5
 cases M
 cbv
 repeat' first | refine m1 _ _ ?_ ?_ | refine m2 _ _ fun h=>?_ | refine m3 _ ?_ | (refine m4 _ _ (Hd.out ?_);generalize hks:(List.cons _ _:List K)=ks) | (refine m5 _ _ ?_;cbv)
 all_goals (clear m1 m2 m3 m4 m5;cases m0;try dsimp only)
 all_goals try simp only [sm] at *
 refine ⟨SEx.same (SEx.ind (α:=Nat) (fun i=>⟨63,[(0,bL (.i l)),(9,bL (.i l)),(10,bI m),(11,bI i)],[]⟩) (fun _=>Q0 r) (fun i=>i<=m/\∀ j,j<i->pI l j=true) (fun i=>m-i) 0 ⟨by omega,fun j h=>by omega⟩ ?_) (by rw [hm];rfl) rfl⟩
 rintro i ⟨hi,hj⟩ ih
 rw [<-hks]
 have hw:0<(i:Int)->IntKind.i64.wrap ((i:Int)-1)=((i-1:Nat):Int):=fun h=>by rw [qr (by omega) (by omega)];omega
 have hbad:i<l.length->pI l i=false->r=[]:=fun h h2=>by rw [hr,jr,qoo h h2];rfl
 have hgo:∀ (h:i<m) (h2:pI l i=true),i+1<=m/\∀ j,j<i+1->pI l j=true:=fun h h2=>⟨h,fun j hj'=>by
  by_cases e:j=i
  . rw [e];exact h2
  . exact hj j (by omega)⟩
 refine SEx.go (X:=XX) qc (fun n=>qa [] [(2,[0,9,10,11]),(9,[0,5,6]),(13,[0,5,6,7,44,45])] n) (fun _=>none) qd 60 ?_
 intro M R L N m0 m1 m2 m3 m4 m5
 cases M
 cbv
 repeat' first | refine m1 _ _ ?_ ?_ | refine m2 _ _ fun h=>?_ | refine m3 _ ?_ | (refine m4 _ _ (Hd.out ?_);first | rw [hks] | generalize hk2:(List.cons _ _:List K)=k2) | (refine m5 _ _ ?_;cbv)
 all_goals (clear m1 m2 m3 m4 m5;cases m0;try dsimp only)
 all_goals try simp only [sm] at *
 all_goals (try rw [hw (by omega)] at *)
 all_goals (try simp only [Int.toNat_natCast] at *)
 all_goals first
  | omega
  | (have hb:=hbad (by omega) (decide_eq_false (by rintro ⟨h1,h2,h3⟩;first | omega | (have:=h3 (by omega);omega)))
     rw [hb];rfl)
  | (have hp:=qmI (l:=l) (i:=i) (by assumption) (by assumption) (fun h=>by first | assumption | (exfalso;omega))
     simp only [qg (show i<9223372036854775807 by omega)]
     exact ⟨(ih (i+1) (hgo (by omega) hp) (by omega)).same rfl rfl⟩)
  | skip
 clear ih hbad hgo hw
 have him:i=m:=by omega
 subst him
 have hm3:i<=3:=yA hj
 have hrr:r=vf i (2 ^ i):=by rw [hr,jr,if_pos (qc3 (by rw [<-hm];exact hj)),<-hm]
 clear hr hj
 refine ⟨SEx.same (SEx.idx (2 ^ i) (fun n=>⟨63,[(0,bL (.i l)),(5,bR 20480 n),(6,bI n)],[(20480,.osl (.ii true none (vf i n)))]⟩) (fun _=>Q0 r) ?_) rfl rfl⟩
 intro n hn ih
 rw [<-hk2]
 obtain ⟨o,ho⟩:∃ o,o=vf i n:=⟨_,rfl⟩
 have hol:o.length=n:=by rw [ho,qag]
 rw [<-ho]
 have hs:IntKind.i64.wrap (1 * 2 ^ min l.length IntKind.i64.bits)=((2 ^ i:Nat):Int):=by rw [<-hm];exact qeI hm3
 have hp:=WW hm3
 obtain ⟨p,hpp⟩:∃ p,p=2 ^ i:=⟨_,rfl⟩
 rw [<-hpp] at hs hp hn ih hrr
 refine SEx.go (X:=XX) qc (fun n=>qa [] [(2,[0,9,10,11]),(9,[0,5,6]),(13,[0,5,6,7,44,45])] n) (fun _=>none) qd 60 ?_
 intro M R L N m0 m1 m2 m3 m4 m5
 cases M
 cbv
 repeat' first | refine m1 _ _ ?_ ?_ | refine m2 _ _ fun h=>?_ | refine m3 _ ?_ | (refine m4 _ _ (Hd.out ?_);first | rw [hks] | rw [hk2] | generalize hk3:(List.cons _ _:List K)=k3) | (refine m5 _ _ ?_;cbv)
 all_goals (clear m1 m2 m3 m4 m5;cases m0;try dsimp only)
 all_goals try simp only [sm] at *
 all_goals (try rw [hs] at *)
 all_goals first
  | omega
  | (have hnp:n=p:=by omega
     subst hnp
     rw [ho,hrr];rfl)
  | skip
 have hm0:=hm
 obtain ⟨m,hmm⟩:∃ m,m=l.length:=⟨_,rfl⟩
 rw [<-hmm] at hm0 ⊢
 refine ⟨SEx.same (SEx.idx m (fun j=>⟨63,[(0,bL (.i l)),(5,bR 20480 n),(6,bI n),(7,bR 28672 j),(44,bI m),(45,bI j)],[(20480,.osl (.ii true none o)),(28672,.osl (.i (WK n j)))]⟩) (fun _=>Q0 r) ?_) rfl rfl⟩
 intro j hj ihj
 rw [<-hk3]
 obtain ⟨w,hw⟩:∃ w,w=WK n j:=⟨_,rfl⟩
 have hwl:w.length=j:=by rw [hw,KR]
 rw [<-hw]
 refine SEx.go (X:=XX) qc (fun n=>qa [] [(2,[0,9,10,11]),(9,[0,5,6]),(13,[0,5,6,7,44,45])] n) (fun _=>none) qd 60 ?_
 intro M R L N m0 m1 m2 m3 m4 m5
 cases M
 cbv
 repeat' first | refine m1 _ _ ?_ ?_ | refine m2 _ _ fun h=>?_ | refine m3 _ ?_ | (refine m4 _ _ (Hd.out ?_);try first | rw [hks] | rw [hk2] | rw [hk3]) | (refine m5 _ _ ?_;cbv)
 all_goals (clear m1 m2 m3 m4 m5;cases m0;(try clear hks;try clear hk2;try clear hk3);try dsimp only)
 all_goals try simp only [sm] at *
 all_goals first
  | omega
  | rfl
  | (have:=zB;simp only [List.length_cons,List.length_nil];omega)
  | (have ihj':=ihj (by omega)
     simp only [qg (show j<9223372036854775807 by omega)]
     rw [qbi,<-hw] at ihj'
     simp only [List.length_append,List.length_cons,List.length_nil,hwl]
     exact ⟨ihj'.same rfl rfl⟩)
  | (have hjm:j=m:=by omega
     have ih':=ih (by omega)
     simp only [qg (show n<9223372036854775807 by omega)]
     rw [qbS,<-ho,hm0,<-hjm,<-hw] at ih'
     simp only [List.length_append,List.length_cons,List.length_nil,hol]
     exact ⟨ih'.same rfl rfl⟩)
theorem qh4 (l:List Int)(h1:l.length<=1048576):qe Tryz.prog 63 [aIs l] (Q0 (jr l)):=by
 refine qe.of qc (fn:=Tryz.f63) (c:=Tryz.f63.body.getD .skip) (dr:=fun n=>qa 0 [] n) Tryz.func63 rfl (by kernel_rfl) (by kernel_rfl) (by kernel_rfl) ?_
 obtain ⟨f0,hf0⟩:∃ f,f=kb:=⟨_,rfl⟩
 have hO:qp Tryz.prog (qJ [(104,Ys f0)]):=by subst hf0;exact qb Qf qd
 obtain ⟨m,hm⟩:∃ m,m=l.length:=⟨_,rfl⟩
 obtain ⟨r,hr⟩:∃ r,r=jr l:=⟨_,rfl⟩
 rw [<-hr]
 refine SEx.go (X:=XX) qc (fun n=>qa [] [(2,[0,9,10,11]),(9,[0,5,6]),(13,[0,5,6,7,44,45])] n) (fun _=>none) hO 60 ?_
 intro M R L N m0 m1 m2 m3 m4 m5
 cases M
 cbv
 repeat' first | refine m1 _ _ ?_ ?_ | refine m2 _ _ fun h=>?_ | refine m3 _ ?_ | (refine m4 _ _ (Hd.out ?_);generalize hks:(List.cons _ _:List K)=ks) | (refine m5 _ _ ?_;cbv)
 all_goals (clear m1 m2 m3 m4 m5;cases m0;try dsimp only)
 all_goals try simp only [sm] at *
 refine ⟨SEx.same (SEx.ind (α:=Nat) (fun i=>⟨64,[(0,bL (.i l)),(9,bL (.i l)),(10,bI m),(11,bI i)],[]⟩) (fun _=>Q0 r) (fun i=>i<=m/\∀ j,j<i->pI l j=true) (fun i=>m-i) 0 ⟨by omega,fun j h=>by omega⟩ ?_) (by rw [hm];rfl) rfl⟩
 rintro i ⟨hi,hj⟩ ih
 rw [<-hks]
 have hw:0<(i:Int)->IntKind.i64.wrap ((i:Int)-1)=((i-1:Nat):Int):=fun h=>by rw [qr (by omega) (by omega)];omega
 have hbad:i<l.length->pI l i=false->r=[]:=fun h h2=>by rw [hr,jr,qoo h h2];rfl
 have hgo:∀ (h:i<m) (h2:pI l i=true),i+1<=m/\∀ j,j<i+1->pI l j=true:=fun h h2=>⟨h,fun j hj'=>by
  by_cases e:j=i
  . rw [e];exact h2
  . exact hj j (by omega)⟩
 have hft:f0 (l.getD i 0) 1 3=true->1<=l.getD i 0/\l.getD i 0<=3:=by subst hf0;intro h;simpa [kb] using h
 have hff:f0 (l.getD i 0) 1 3=false->¬(1<=l.getD i 0/\l.getD i 0<=3):=by subst hf0;intro h h2;simp only [kb,decide_eq_true h2.1,decide_eq_true h2.2] at h;cases h
 refine SEx.go (X:=XX) qc (fun n=>qa [] [(2,[0,9,10,11]),(9,[0,5,6]),(13,[0,5,6,7,44,45])] n) (fun _=>none) hO 60 ?_
 intro M R L N m0 m1 m2 m3 m4 m5
 cases M
 cbv
 repeat' first | refine m1 _ _ ?_ ?_ | refine m2 _ _ fun h=>?_ | refine m3 _ ?_ | (refine m4 _ _ (Hd.out ?_);first | rw [hks] | generalize hk2:(List.cons _ _:List K)=k2) | (refine m5 _ _ ?_;cbv)
 all_goals (clear m1 m2 m3 m4 m5;cases m0;try dsimp only)
 all_goals try simp only [sm] at *
 all_goals (try (have hA:=hft (by assumption);have hA1:=hA.1;have hA2:=hA.2))
 all_goals (try have hB:=hff (by assumption))
 all_goals (try rw [hw (by omega)] at *)
 all_goals (try simp only [Int.toNat_natCast] at *)
 all_goals first
  | omega
  | (have hb:=hbad (by omega) (decide_eq_false (by rintro ⟨h1,h2,h3⟩;first | omega | (have:=h3 (by omega);omega)))
     rw [hb];rfl)
  | (have hp:=qmI (l:=l) (i:=i) (by assumption) (by assumption) (fun h=>by first | assumption | (exfalso;omega))
     simp only [qg (show i<9223372036854775807 by omega)]
     exact ⟨(ih (i+1) (hgo (by omega) hp) (by omega)).same rfl rfl⟩)
  | skip
 clear ih hbad hgo hw hft hff
 have him:i=m:=by omega
 subst him
 have hm3:i<=3:=yA hj
 have hrr:r=vf i (2 ^ i):=by rw [hr,jr,if_pos (qc3 (by rw [<-hm];exact hj)),<-hm]
 clear hr hj
 refine ⟨SEx.same (SEx.idx (2 ^ i) (fun n=>⟨64,[(0,bL (.i l)),(5,bR 20480 n),(6,bI n)],[(20480,.osl (.ii true none (vf i n)))]⟩) (fun _=>Q0 r) ?_) rfl rfl⟩
 intro n hn ih
 rw [<-hk2]
 obtain ⟨o,ho⟩:∃ o,o=vf i n:=⟨_,rfl⟩
 have hol:o.length=n:=by rw [ho,qag]
 rw [<-ho]
 have hs:IntKind.i64.wrap (1 * 2 ^ min l.length IntKind.i64.bits)=((2 ^ i:Nat):Int):=by rw [<-hm];exact qeI hm3
 have hp:=WW hm3
 obtain ⟨p,hpp⟩:∃ p,p=2 ^ i:=⟨_,rfl⟩
 rw [<-hpp] at hs hp hn ih hrr
 have hu:IntKind.u64.wrap (l.length:Int)=(l.length:Int):=Qg (by omega)
 refine SEx.go (X:=XX) qc (fun n=>qa [] [(2,[0,9,10,11]),(9,[0,5,6]),(13,[0,5,6,7,44,45])] n) (fun _=>none) hO 60 ?_
 intro M R L N m0 m1 m2 m3 m4 m5
 cases M
 cbv
 repeat' first | refine m1 _ _ ?_ ?_ | refine m2 _ _ fun h=>?_ | refine m3 _ ?_ | (refine m4 _ _ (Hd.out ?_);first | rw [hks] | rw [hk2] | generalize hk3:(List.cons _ _:List K)=k3) | (refine m5 _ _ ?_;cbv)
 all_goals (clear m1 m2 m3 m4 m5;cases m0;try dsimp only)
 all_goals try simp only [sm] at *
 all_goals (try simp only [hu,Int.toNat_natCast] at *)
 all_goals (try rw [hs] at *)
 all_goals first
  | omega
  | (have hnp:n=p:=by omega
     subst hnp
     rw [ho,hrr];rfl)
  | skip
 have hm0:=hm
 obtain ⟨m,hmm⟩:∃ m,m=l.length:=⟨_,rfl⟩
 rw [<-hmm] at hm0 ⊢
 refine ⟨SEx.same (SEx.idx m (fun j=>⟨64,[(0,bL (.i l)),(5,bR 20480 n),(6,bI n),(7,bR 28672 j),(44,bI m),(45,bI j)],[(20480,.osl (.ii true none o)),(28672,.osl (.i (WK n j)))]⟩) (fun _=>Q0 r) ?_) rfl rfl⟩
 intro j hj ihj
 rw [<-hk3]
 obtain ⟨w,hw⟩:∃ w,w=WK n j:=⟨_,rfl⟩
 have hwl:w.length=j:=by rw [hw,KR]
 rw [<-hw]
 have hv:j<m->IntKind.u64.wrap (j:Int)=(j:Int):=fun h=>Qg (by omega)
 refine SEx.go (X:=XX) qc (fun n=>qa [] [(2,[0,9,10,11]),(9,[0,5,6]),(13,[0,5,6,7,44,45])] n) (fun _=>none) hO 60 ?_
 intro M R L N m0 m1 m2 m3 m4 m5
 cases M
 cbv
 repeat' first | refine m1 _ _ ?_ ?_ | refine m2 _ _ fun h=>?_ | refine m3 _ ?_ | (refine m4 _ _ (Hd.out ?_);try first | rw [hks] | rw [hk2] | rw [hk3]) | (refine m5 _ _ ?_;cbv)
 all_goals (clear m1 m2 m3 m4 m5;cases m0;(try clear hks;try clear hk2;try clear hk3);try dsimp only)
 all_goals try simp only [sm] at *
 all_goals (try rw [hv (by omega)] at *)
 all_goals (try simp only [Int.toNat_natCast] at *)
 all_goals first
  | omega
  | rfl
  | trivial
  | (have:=zB;simp only [List.length_cons,List.length_nil];omega)
  | (have ihj':=ihj (by omega)
     simp only [qg (show j<9223372036854775807 by omega)]
     rw [qbi,<-hw] at ihj'
     simp only [List.length_append,List.length_cons,List.length_nil,hwl]
     exact ⟨ihj'.same rfl rfl⟩)
  | (have hjm:j=m:=by omega
     have ih':=ih (by omega)
     simp only [qg (show n<9223372036854775807 by omega)]
     rw [qbS,<-ho,hm0,<-hjm,<-hw] at ih'
     simp only [List.length_append,List.length_cons,List.length_nil,hol]
     exact ⟨ih'.same rfl rfl⟩)
theorem Ko (l:List Int):(jr l).length<=8/\∀ x∈jr l,x.length<=3:=by
 unfold jr
 split
 . rename_i h
   have h3:l.length<=3:=by
    unfold okP at h
    rw [List.all_eq_true] at h
    exact yA (fun j hj=>h j (List.mem_range.2 hj))
   refine ⟨by rw [qag];exact WW h3,fun x hx=>?_⟩
   simp only [vf,List.mem_map] at hx
   obtain ⟨n,_,rfl⟩:=hx
   rw [KR];exact h3
 . exact ⟨by simp,fun x hx=>by cases hx⟩
def qke (f:List Int->List (List Int)):Wr:=w1 zX (fun l=>Q0 (f l)) (fun l=>[LLe l 1048576])
theorem qer:qy Tryz.prog 63 (qke jr):=zx fun l h=>qh4 l (h _ (.head _)).out
theorem qdK:qy Tryz.prog 79 (qke jr):=zx fun l h=>qgI l (h _ (.head _)).out
end Go.Proofs.YtifnopmkdempdaaGreat.Ai
namespace Go.Proofs.YtifnopmkdempdaaGreat.Ai
open Go
set_option maxRecDepth 100000
variable [qh]
def rUs (l:List Int):TV W:=.v (false,[.osl (.i l)])
end Go.Proofs.YtifnopmkdempdaaGreat.Ai
namespace Go.Proofs.YtifnopmkdempdaaGreat.Ai
open Go
set_option maxRecDepth 100000
variable [qh]
structure InX {α:Type}(c:Int)(l:List α):Prop where out:0<=c/\c<l.length
def vK (n x:Int):Bool:=decide (0<=x/\x<n)
theorem qkZ (n m:Int):qe Tryz.prog 140 [aI n,aI m] (rB (vK n m)):=by
 refine qe.of qc (fn:=Tryz.f140) (c:=Tryz.f140.body.getD .skip) (dr:=fun n=>qa 0 [] n) Tryz.func140 rfl (by kernel_rfl) (by kernel_rfl) (by kernel_rfl) ?_
 refine SEx.go (X:=XX) qc (fun n=>qa [] [] n) (fun _=>none) qd 60 ?_
 intro M R L N m0 m1 m2 m3 m4 m5
 cases M
 cbv
 repeat' first | refine m1 _ _ ?_ ?_ | refine m2 _ _ fun h=>?_ | refine m3 _ ?_ | (refine m4 _ _ (Hd.out ?_);try first | rw [hks] | rw [hk2] | rw [hk3]) | (refine m5 _ _ ?_;cbv)
 all_goals (clear m1 m2 m3 m4 m5;cases m0;(try clear hks;try clear hk2;try clear hk3);try dsimp only)
 all_goals try simp only [sm] at *
 all_goals simp only [jF,vK]
 all_goals (first | (rw [decide_eq_false (by omega)];done) | (symm;apply decide_eq_decide.2;omega) | (rw [Bool.eq_iff_iff];simp;omega))
def qjW (f:Int->Int->Bool):Wr:=w2 dcI dcI (fun x y=>rB (f x y)) (fun _ _=>[])
theorem qgz:qy Tryz.prog 140 (qjW vK):=qE fun x y _=>qkZ x y
end Go.Proofs.YtifnopmkdempdaaGreat.Ai
namespace Go.Proofs.YtifnopmkdempdaaGreat.Ai
open Go
set_option maxRecDepth 100000
variable [qh]
theorem qkM (l:List Tie)(n:Int)(hs:l.length<=maxLen)(hn:0<=n/\n<=9223372036854775807):qe Tryz.prog 31 [yX l,aI n] (rI (szL l n)):=by
 refine qe.of qc (fn:=Tryz.f31) (c:=Tryz.f31.body.getD .skip) (dr:=fun n=>qa 0 [] n) Tryz.func31 rfl (by kernel_rfl) (by kernel_rfl) (by kernel_rfl) ?_
 unfold maxLen at hs
 refine SEx.go (X:=XX) qc (fun n=>qa [] [] n) (fun _=>none) qd 60 ?_
 intro M R L N m0 m1 m2 m3 m4 m5
 cases M
 cbv
 repeat' first | refine m1 _ _ ?_ ?_ | refine m2 _ _ fun h=>?_ | refine m3 _ ?_ | (refine m4 _ _ (Hd.out ?_);try first | rw [hks] | rw [hk2] | rw [hk3]) | (refine m5 _ _ ?_;cbv)
 all_goals (clear m1 m2 m3 m4 m5;cases m0;(try clear hks;try clear hk2;try clear hk3);try dsimp only)
 all_goals try simp only [sm] at *
 all_goals rw [qr (by omega) (by omega)] at *
 all_goals simp only [Km,szL]
 all_goals split<;>omega
def qjp (f:List Tie->Int->Int):Wr:=w2 K8 dcI (fun l n=>rI (f l n)) (fun l n=>[LLe l maxLen,qiB n])
theorem qgv:qy Tryz.prog 31 (qjp szL):=qE fun l n h=>qkM l n (h _ (.head _)).out (h _ (.tail _ (.head _))).out
theorem qmP (q:Tie):qe Tryz.prog 74 [y8 q] (qso q):=by
 refine qe.of qc (fn:=Tryz.f74) (c:=Tryz.f74.body.getD .skip) (dr:=fun n=>qa 0 [] n) Tryz.func74 rfl (by kernel_rfl) (by kernel_rfl) (by kernel_rfl) ?_
 obtain ⟨x1,x2,x3,x4,x5⟩:=q
 refine SEx.go (X:=XX) qc (fun n=>qa [] [] n) (fun _=>none) qd 60 ?_
 intro M R L N m0 m1 m2 m3 m4 m5
 cases M
 cbv
 repeat' first | refine m1 _ _ ?_ ?_ | refine m2 _ _ fun h=>?_ | refine m3 _ ?_ | (refine m4 _ _ (Hd.out ?_);try first | rw [hks] | rw [hk2] | rw [hk3]) | (refine m5 _ _ ?_;cbv)
 all_goals (clear m1 m2 m3 m4 m5;cases m0;(try clear hks;try clear hk2;try clear hk3);try dsimp only)
 all_goals try simp only [sm] at *
 all_goals rfl
def qoT:Wr:=w1 Yc qso (fun _=>[])
theorem qlx:qy Tryz.prog 74 qoT:=zx fun q _=>qmP q
theorem qlJ (l:List Tie)(hs:l.length<=1048576):qe Tryz.prog 37 [yX l] (qnp l):=by
 refine qe.of qc (fn:=Tryz.f37) (c:=Tryz.f37.body.getD .skip) (dr:=fun n=>qa 0 [] n) Tryz.func37 rfl (by kernel_rfl) (by kernel_rfl) (by kernel_rfl) ?_
 have hO:qp Tryz.prog (qJ [(74,qoT)]):=qb qlx qd
 refine SEx.go (X:=XX) qc (fun n=>qa [] [(3,[0,3,4])] n) (fun _=>none) hO 60 ?_
 intro M R L N m0 m1 m2 m3 m4 m5
 cases M
 cbv
 repeat' first | refine m1 _ _ ?_ ?_ | refine m2 _ _ fun h=>?_ | refine m3 _ ?_ | (refine m4 _ _ (Hd.out ?_);generalize hks:(List.cons _ _:List K)=ks) | (refine m5 _ _ ?_;cbv)
 all_goals (clear m1 m2 m3 m4 m5;cases m0;try dsimp only)
 all_goals try simp only [sm] at *
 . have:=zB;omega
 generalize hn:l.length=n at *
 refine ⟨SEx.same (SEx.idx n (fun i:Nat=>⟨23,[(0,bL (.tie l)),(3,bR 12288 n),(4,bI i)],[(12288,.osl (.tie (ZV ⟨0,0,0,0,false⟩ l n i)))]⟩) (fun _=>qnp l) ?_) rfl rfl⟩
 intro i hi ih
 rw [<-hks]
 obtain ⟨fl,hfl⟩:∃ x,x=ZV (⟨0,0,0,0,false⟩:Tie) l n i:=⟨_,rfl⟩
 have hf:=WR (z:=(⟨0,0,0,0,false⟩:Tie)) hn hi
 rw [<-hfl] at hf ⊢
 refine SEx.go (X:=XX) qc (fun n=>qa [] [(3,[0,3,4])] n) (fun _=>none) hO 60 ?_
 intro M R L N m0 m1 m2 m3 m4 m5
 cases M
 cbv
 repeat' first | refine m1 _ _ ?_ ?_ | refine m2 _ _ fun h=>?_ | refine m3 _ ?_ | (refine m4 _ _ (Hd.out ?_);try first | rw [hks] | rw [hk2] | rw [hk3]) | (refine m5 _ _ ?_;cbv)
 all_goals (clear m1 m2 m3 m4 m5;cases m0;(try clear hks;try clear hk2;try clear hk3);try dsimp only)
 all_goals try simp only [sm] at *
 all_goals (try simp only [Zl] at *)
 all_goals (try omega)
 . simp only [qg (show i<9223372036854775807 by omega),W2,qho,hfl]
   have e:=wI (z:=(⟨0,0,0,0,false⟩:Tie)) (d:=Tie.z) hn (show i<n by omega)
   have ih':=ih (by omega)
   rw [<-e] at ih'
   exact ⟨ih'⟩
 . obtain rfl:i=n:=by omega
   rw [hfl,Ws hn];rfl
def qjx:Wr:=w1 K8 qnp (fun l=>[LLe l 1048576])
theorem qhh:qy Tryz.prog 37 qjx:=zx fun l h=>qlJ l (h _ (.head _)).out
theorem qmX (q:Tie):qe Tryz.prog 83 [y8 q,y8 q] (rB true):=by
 refine qe.of qc (fn:=Tryz.f83) (c:=Tryz.f83.body.getD .skip) (dr:=fun n=>qa 0 [] n) Tryz.func83 rfl (by kernel_rfl) (by kernel_rfl) (by kernel_rfl) ?_
 obtain ⟨x1,x2,x3,x4,x5⟩:=q
 refine SEx.go (X:=XX) qc (fun n=>qa [] [] n) (fun _=>none) qd 60 ?_
 intro M R L N m0 m1 m2 m3 m4 m5
 cases M
 cbv
 repeat' first | refine m1 _ _ ?_ ?_ | refine m2 _ _ fun h=>?_ | refine m3 _ ?_ | (refine m4 _ _ (Hd.out ?_);try first | rw [hks] | rw [hk2] | rw [hk3]) | (refine m5 _ _ ?_;cbv)
 all_goals (clear m1 m2 m3 m4 m5;cases m0;(try clear hks;try clear hk2;try clear hk3);try dsimp only)
 all_goals try simp only [sm] at *
 all_goals first
  | exact absurd trivial (by assumption)
  | rfl
  | (exfalso;simp_all;done)
def qoc:Wr:=w2 Yc Yc (fun _ _=>rB true) (fun q r=>[vb q r])
theorem qmr:qy Tryz.prog 83 qoc:=qE fun q r h=>by
 obtain rfl:=(h _ (.head _)).out
 exact qmX q
theorem qlw (l:List Tie)(hs:l.length<=maxLen):qe Tryz.prog 43 [yX l,yX l] (rB true):=by
 refine qe.of qc (fn:=Tryz.f43) (c:=Tryz.f43.body.getD .skip) (dr:=fun n=>qa 0 [(6,8)] n) Tryz.func43 rfl (by kernel_rfl) (by kernel_rfl) (by kernel_rfl) ?_
 unfold maxLen at hs
 have hO:qp Tryz.prog (qJ [(83,qoc)]):=qb qmr qd
 refine SEx.go (X:=XX) qc (fun n=>qa [] [(4,[0,1,5])] n) (fun _=>none) hO 60 ?_
 intro M R L N m0 m1 m2 m3 m4 m5
 cases M
 cbv
 repeat' first | refine m1 _ _ ?_ ?_ | refine m2 _ _ fun h=>?_ | refine m3 _ ?_ | (refine m4 _ _ (Hd.out ?_);generalize hks:(List.cons _ _:List K)=ks) | (refine m5 _ _ ?_;cbv)
 all_goals (clear m1 m2 m3 m4 m5;cases m0;try dsimp only)
 all_goals try simp only [sm] at *
 . exact absurd trivial (by assumption)
 generalize hn:l.length=n at *
 refine ⟨SEx.same (SEx.idx n (fun i:Nat=>⟨27,[(0,bL (.tie l)),(1,bL (.tie l)),(5,bI i)],[]⟩) (fun _=>rB true) ?_) rfl rfl⟩
 intro i hi ih
 rw [<-hks]
 refine SEx.go (X:=XX) qc (fun n=>qa [] [(4,[0,1,5])] n) (fun _=>none) hO 60 ?_
 intro M R L N m0 m1 m2 m3 m4 m5
 cases M
 cbv
 repeat' first | refine m1 _ _ ?_ ?_ | refine m2 _ _ fun h=>?_ | refine m3 _ ?_ | (refine m4 _ _ (Hd.out ?_);try first | rw [hks] | rw [hk2] | rw [hk3]) | (refine m5 _ _ ?_;cbv)
 all_goals (clear m1 m2 m3 m4 m5;cases m0;(try clear hks;try clear hk2;try clear hk3);try dsimp only)
 all_goals try simp only [sm] at *
 all_goals first
  | omega
  | exact absurd trivial (by assumption)
  | rfl
  | exact ⟨rfl⟩
  | contradiction
  | (simp only [qg (show i<9223372036854775807 by omega)];exact ⟨ih (by omega)⟩)
def qjB:Wr:=w2 K8 K8 (fun _ _=>rB true) (fun l m=>[vb l m,LLe l maxLen])
theorem qhk:qy Tryz.prog 43 qjB:=qE fun l m h=>by
 obtain rfl:=(h _ (.head _)).out
 exact qlw l (h _ (.tail _ (.head _))).out
end Go.Proofs.YtifnopmkdempdaaGreat.Ai
namespace Go.Proofs.YtifnopmkdempdaaGreat.Ai
open Go
set_option maxRecDepth 100000
variable [qh]
def zy (q:qi)(n:Int):Int:=if n<q.name.size then -1 else szL q.label (n-q.name.size)
def Yu (g:List Int->Int->Int):Wr:=w2 zX dcI (fun l n=>rI (g l n)) (fun l n=>[LLe l maxLen,qiB n])
theorem Vr:qy Tryz.prog 32 (Yu szL):=qgN
theorem qhI {α:Type}(l:List α){n:Int}(h:0<=n):szL l n<=n:=by unfold szL;split<;>omega
theorem qmw (q:qi)(n:Int)(hs:q.name.size<=maxLen)(hl:q.label.length<=maxLen)(hn:0<=n/\n<=9223372036854775807):qe Tryz.prog 67 [Wa q,aI n] (rI (zy q n)):=by
 refine qe.of qc (fn:=Tryz.f67) (c:=Tryz.f67.body.getD .skip) (dr:=fun n=>qa 0 [] n) Tryz.func67 rfl (by kernel_rfl) (by kernel_rfl) (by kernel_rfl) ?_
 unfold maxLen at hs
 obtain ⟨g,hg⟩:∃ g:List Int->Int->Int,g=szL:=⟨_,rfl⟩
 have hO:qp Tryz.prog (qJ [(32,Yu g)]):=by subst hg;exact qb Vr qd
 obtain ⟨x1,x2,x3⟩:=q
 have hs:x1.size<=2 ^ 63-1:=hs
 have hl:x2.length<=maxLen:=hl
 refine SEx.go (X:=XX) qc (fun n=>qa [] [] n) (fun _=>none) hO 60 ?_
 intro M R L N m0 m1 m2 m3 m4 m5
 cases M
 cbv
 repeat' first | refine m1 _ _ ?_ ?_ | refine m2 _ _ fun h=>?_ | refine m3 _ ?_ | (refine m4 _ _ (Hd.out ?_);try first | rw [hks] | rw [hk2] | rw [hk3]) | (refine m5 _ _ ?_;cbv)
 all_goals (clear m1 m2 m3 m4 m5;cases m0;(try clear hks;try clear hk2;try clear hk3);try dsimp only)
 all_goals try simp only [sm] at *
 all_goals (try rw [qr (by omega) (by omega)] at *)
 all_goals first
  | exact ⟨hl⟩
  | exact ⟨⟨by omega,by omega⟩⟩
  | (simp only [Km,zy];rw [if_pos (by omega)];done)
  | (subst hg;simp only [Km,zy];rw [if_neg (by omega)];done)
  | (subst hg;simp only [Km,zy];rw [if_neg (by omega)];unfold szL at *;split<;>omega)
theorem YQ (q:qi){n:Int}(h:0<=n):zy q n<=n:=by
 unfold zy
 split
 . omega
 . have:=qhI q.label (n:=n-q.name.size) (by omega)
   omega
structure WT (q:qi)(n:Nat):Prop where
 name:q.name.size<=n
 label:q.label.length<=n
theorem qhV {q:qi}{n:Int}(h:0<=zy q n):(q.name.size:Int)<=n/\(q.label.length:Int)<=n:=by
 unfold zy szL at h
 split at h
 . omega
 . split at h<;>omega
def qj1 (f:qi->Int->Int):Wr:=w2 wm dcI (fun q n=>rI (f q n)) (fun q n=>[WT q maxLen,qiB n])
theorem qin:qy Tryz.prog 67 (qj1 zy):=qE fun q n h=>qmw q n (h _ (.head _)).name (h _ (.head _)).label (h _ (.tail _ (.head _))).out
def szF {α:Type}(f:α->Int->Int):List α->Int->Int
 | [],n=>n
 | q::r,n=>if f q n<0 then -1 else szF f r (f q n)
theorem qe6 {α:Type}{f:α->Int->Int}{l:List α}{i:Nat}{m:Int}(z:α)(h:i<l.length):szF f (l.drop i) m=if f (l.getD i z) m<0 then -1 else szF f (l.drop (i+1)) (f (l.getD i z) m):=by
 rw [List.drop_eq_getElem_cons h,zn h]
 rfl
def ko (l:List qi)(n:Int):Int:=if n<l.length then -1 else szF zy l (n-l.length)
theorem qhS (l:List qi)(n:Int)(hs:l.length<=maxLen)(hq:∀ q∈l,WT q maxLen)(hn:0<=n/\n<=9223372036854775807):qe Tryz.prog 30 [WV l,aI n] (rI (ko l n)):=by
 refine qe.of qc (fn:=Tryz.f30) (c:=Tryz.f30.body.getD .skip) (dr:=fun n=>qa 0 [] n) Tryz.func30 rfl (by kernel_rfl) (by kernel_rfl) (by kernel_rfl) ?_
 unfold maxLen at hs
 obtain ⟨g,hg⟩:∃ g,g=zy:=⟨_,rfl⟩
 have hO:qp Tryz.prog (qJ [(67,qj1 g)]):=by subst hg;exact qb qin qd
 refine SEx.go (X:=XX) qc (fun n=>qa [] [(5,[0,1,5])] n) (fun _=>none) hO 60 ?_
 intro M R L N m0 m1 m2 m3 m4 m5
 cases M
 cbv
 repeat' first | refine m1 _ _ ?_ ?_ | refine m2 _ _ fun h=>?_ | refine m3 _ ?_ | (refine m4 _ _ (Hd.out ?_);generalize hks:(List.cons _ _:List K)=ks) | (refine m5 _ _ ?_;cbv)
 all_goals (clear m1 m2 m3 m4 m5;cases m0;try dsimp only)
 all_goals try simp only [sm] at *
 . rw [qr (by omega) (by omega)] at *
   simp only [Km,ko]
   split<;>omega
 rw [qr (by omega) (by omega)] at *
 have h0:0<=n-l.length:=by assumption
 rw [show ko l n=szF zy (l.drop 0) (n-l.length) by unfold ko;rw [if_neg (by omega)];rfl]
 refine ⟨SEx.same (SEx.ind (fun x:Nat×Int=>⟨27,[(0,bL (.node false none l)),(1,.v (false,[.fz (.int .i64 x.2)])),(5,bI x.1)],[]⟩) (fun x=>rI (szF zy (l.drop x.1) x.2)) (fun x=>x.1<=l.length/\0<=x.2/\x.2<=n) (fun x=>l.length-x.1) (0,n-l.length) ⟨by omega,h0,by omega⟩ ?_) rfl rfl⟩
 rintro ⟨i,m⟩ ⟨hi,hm1,hm2⟩ ih
 dsimp only at hi hm1 hm2 ih ⊢
 rw [<-hks]
 refine SEx.go (X:=XX) qc (fun n=>qa [] [(5,[0,1,5])] n) (fun _=>none) hO 60 ?_
 intro M R L N m0 m1 m2 m3 m4 m5
 cases M
 cbv
 repeat' first | refine m1 _ _ ?_ ?_ | refine m2 _ _ fun h=>?_ | refine m3 _ ?_ | (refine m4 _ _ (Hd.out ?_);try first | rw [hks] | rw [hk2] | rw [hk3]) | (refine m5 _ _ ?_;cbv)
 all_goals (clear m1 m2 m3 m4 m5;cases m0;(try clear hks;try clear hk2;try clear hk3);try dsimp only)
 all_goals try simp only [sm] at *
 all_goals first
  | omega
  | exact hq _ (qn (z:=qi.z) (by omega)).out
  | exact ⟨⟨hm1,by omega⟩⟩
  | (subst hg
     have hi':i<l.length:=by omega
     rw [qe6 qi.z hi',if_pos (by assumption)]
     rfl)
  | (subst hg
     have hi':i<l.length:=by omega
     have h2:0<=zy (l.getD i qi.z) m:=by assumption
     have h3:=YQ (l.getD i qi.z) hm1
     simp only [qg (show i<9223372036854775807 by omega)]
     exact ⟨(ih (i+1,zy (l.getD i qi.z) m) ⟨by show i+1<=l.length;omega,h2,by show zy _ m<=n;omega⟩ (by show l.length-(i+1)<_;omega)).same rfl (by rw [qe6 qi.z hi',if_neg (by omega)])⟩)
  | (obtain rfl:i=l.length:=by omega
     rw [List.drop_length]
     rfl)
  | trace_state
theorem qlo (q:qi)(hl:q.label.length<=1048576):qe Tryz.prog 73 [Wa q] (qqJ q):=by
 refine qe.of qc (fn:=Tryz.f73) (c:=Tryz.f73.body.getD .skip) (dr:=fun n=>qa 0 [] n) Tryz.func73 rfl (by kernel_rfl) (by kernel_rfl) (by kernel_rfl) ?_
 have hO:qp Tryz.prog (qJ [(13,VV)]):=qb ww qd
 obtain ⟨x1,x2,x3⟩:=q
 have hl:x2.length<=1048576:=hl
 refine SEx.go (X:=XX) qc (fun n=>qa [] [] n) (fun _=>none) hO 60 ?_
 intro M R L N m0 m1 m2 m3 m4 m5
 cases M
 cbv
 repeat' first | refine m1 _ _ ?_ ?_ | refine m2 _ _ fun h=>?_ | refine m3 _ ?_ | (refine m4 _ _ (Hd.out ?_);try first | rw [hks] | rw [hk2] | rw [hk3]) | (refine m5 _ _ ?_;cbv)
 all_goals (clear m1 m2 m3 m4 m5;cases m0;(try clear hks;try clear hk2;try clear hk3);try dsimp only)
 all_goals try simp only [sm] at *
 all_goals first
  | rfl
  | exact ⟨hl⟩
theorem qlf (q:qi)(hl:q.label.length<=maxLen):qe Tryz.prog 82 [Wa q,Wa q] (rB true):=by
 refine qe.of qc (fn:=Tryz.f82) (c:=Tryz.f82.body.getD .skip) (dr:=fun n=>qa 0 [] n) Tryz.func82 rfl (by kernel_rfl) (by kernel_rfl) (by kernel_rfl) ?_
 have hO:qp Tryz.prog (qJ [(17,V0)]):=qb wy qd
 obtain ⟨x1,x2,x3⟩:=q
 have hl:x2.length<=maxLen:=hl
 refine SEx.go (X:=XX) qc (fun n=>qa [] [] n) (fun _=>none) hO 60 ?_
 intro M R L N m0 m1 m2 m3 m4 m5
 cases M
 cbv
 repeat' first | refine m1 _ _ ?_ ?_ | refine m2 _ _ fun h=>?_ | refine m3 _ ?_ | (refine m4 _ _ (Hd.out ?_);try first | rw [hks] | rw [hk2] | rw [hk3]) | (refine m5 _ _ ?_;cbv)
 all_goals (clear m1 m2 m3 m4 m5;cases m0;(try clear hks;try clear hk2;try clear hk3);try dsimp only)
 all_goals try simp only [sm] at *
 all_goals first
  | exact absurd trivial (by assumption)
  | rfl
  | exact ⟨rfl⟩
  | exact ⟨hl⟩
  | (exfalso;simp_all;done)
structure qqW (q:qi)(n:Nat):Prop where out:q.label.length<=n
def qj0:Wr:=w1 wm qqJ (fun q=>[qqW q 1048576])
theorem qg3:qy Tryz.prog 73 qj0:=zx fun q h=>qlo q (h _ (.head _)).out
def qiU:Wr:=w2 wm wm (fun _ _=>rB true) (fun q r=>[vb q r,qqW q maxLen])
theorem qgn:qy Tryz.prog 82 qiU:=qE fun q r h=>by
 obtain rfl:=(h _ (.head _)).out
 exact qlf q (h _ (.tail _ (.head _))).out
theorem qkH {fl:List qi}{i:Nat}(h:i<fl.length)(s:ByteArray)(lab:List Int)(w:Int) :
 wz qi.z ((fl.set i ⟨s,(fl.getD i qi.z).2,(fl.getD i qi.z).3⟩).set i ⟨((fl.set i ⟨s,(fl.getD i qi.z).2,(fl.getD i qi.z).3⟩).getD i qi.z).1,lab,((fl.set i ⟨s,(fl.getD i qi.z).2,(fl.getD i qi.z).3⟩).getD i qi.z).3⟩) i (fun q=>⟨q.name,q.label,w⟩)=fl.set i ⟨s,lab,w⟩:=by
 simp [wz,List.getD_eq_getElem?_getD,h]
theorem qhL (l:List qi)(hs:l.length<=1048576)(hl:∀ q∈l,q.label.length<=1048576):qe Tryz.prog 36 [WV l] (qhB l):=by
 refine qe.of qc (fn:=Tryz.f36) (c:=Tryz.f36.body.getD .skip) (dr:=fun n=>qa 0 [] n) Tryz.func36 rfl (by kernel_rfl) (by kernel_rfl) (by kernel_rfl) ?_
 have hO:qp Tryz.prog (qJ [(73,qj0)]):=qb qg3 qd
 refine SEx.go (X:=XX) qc (fun n=>qa [] [(3,[0,3,4])] n) (fun _=>none) hO 60 ?_
 intro M R L N m0 m1 m2 m3 m4 m5
 cases M
 cbv
 repeat' first | refine m1 _ _ ?_ ?_ | refine m2 _ _ fun h=>?_ | refine m3 _ ?_ | (refine m4 _ _ (Hd.out ?_);generalize hks:(List.cons _ _:List K)=ks) | (refine m5 _ _ ?_;cbv)
 all_goals (clear m1 m2 m3 m4 m5;cases m0;try dsimp only)
 all_goals try simp only [sm] at *
 . have:=zB;omega
 generalize hn:l.length=n at *
 refine ⟨SEx.same (SEx.idx n (fun i:Nat=>⟨23,[(0,bL (.node false none l)),(3,bR 12288 n),(4,bI i)],[(12288,.osl (.node true none (ZV ⟨⟨#[]⟩,[],0⟩ l n i)))]⟩) (fun _=>qhB l) ?_) rfl rfl⟩
 intro i hi ih
 rw [<-hks]
 obtain ⟨fl,hfl⟩:∃ x,x=ZV (⟨⟨#[]⟩,[],0⟩:qi) l n i:=⟨_,rfl⟩
 have hf:=WR (z:=(⟨⟨#[]⟩,[],0⟩:qi)) hn hi
 rw [<-hfl] at hf ⊢
 refine SEx.go (X:=XX) qc (fun n=>qa [] [(3,[0,3,4])] n) (fun _=>none) hO 60 ?_
 intro M R L N m0 m1 m2 m3 m4 m5
 cases M
 cbv
 repeat' first | refine m1 _ _ ?_ ?_ | refine m2 _ _ fun h=>?_ | refine m3 _ ?_ | (refine m4 _ _ (Hd.out ?_);try first | rw [hks] | rw [hk2] | rw [hk3]) | (refine m5 _ _ ?_;cbv)
 all_goals (clear m1 m2 m3 m4 m5;cases m0;(try clear hks;try clear hk2;try clear hk3);try dsimp only)
 all_goals try simp only [sm] at *
 all_goals (try simp only [List.length_set,Zl])
 all_goals (try omega)
 . exact ⟨hl _ (qn (z:=qi.z) (by omega)).out⟩
 . simp only [qg (show i<9223372036854775807 by omega)]
   have e:=wI (z:=(⟨⟨#[]⟩,[],0⟩:qi)) (d:=qi.z) hn (show i<n by omega)
   have ih':=ih (by omega)
   rw [<-e,<-hfl] at ih'
   refine ⟨ih'.same ?_ rfl⟩
   rw [qkH (by omega)]
   rfl
 . obtain rfl:i=n:=by omega
   rw [hfl,Ws hn];rfl
theorem qgP (l:List qi)(hs:l.length<=maxLen)(hl:∀ q∈l,q.label.length<=maxLen):qe Tryz.prog 42 [WV l,WV l] (rB true):=by
 refine qe.of qc (fn:=Tryz.f42) (c:=Tryz.f42.body.getD .skip) (dr:=fun n=>qa 0 [(6,8)] n) Tryz.func42 rfl (by kernel_rfl) (by kernel_rfl) (by kernel_rfl) ?_
 unfold maxLen at hs
 have hO:qp Tryz.prog (qJ [(82,qiU)]):=qb qgn qd
 refine SEx.go (X:=XX) qc (fun n=>qa [] [(4,[0,1,5])] n) (fun _=>none) hO 60 ?_
 intro M R L N m0 m1 m2 m3 m4 m5
 cases M
 cbv
 repeat' first | refine m1 _ _ ?_ ?_ | refine m2 _ _ fun h=>?_ | refine m3 _ ?_ | (refine m4 _ _ (Hd.out ?_);generalize hks:(List.cons _ _:List K)=ks) | (refine m5 _ _ ?_;cbv)
 all_goals (clear m1 m2 m3 m4 m5;cases m0;try dsimp only)
 all_goals try simp only [sm] at *
 . exact absurd trivial (by assumption)
 generalize hn:l.length=n at *
 refine ⟨SEx.same (SEx.idx n (fun i:Nat=>⟨27,[(0,bL (.node false none l)),(1,bL (.node false none l)),(5,bI i)],[]⟩) (fun _=>rB true) ?_) rfl rfl⟩
 intro i hi ih
 rw [<-hks]
 refine SEx.go (X:=XX) qc (fun n=>qa [] [(4,[0,1,5])] n) (fun _=>none) hO 60 ?_
 intro M R L N m0 m1 m2 m3 m4 m5
 cases M
 cbv
 repeat' first | refine m1 _ _ ?_ ?_ | refine m2 _ _ fun h=>?_ | refine m3 _ ?_ | (refine m4 _ _ (Hd.out ?_);try first | rw [hks] | rw [hk2] | rw [hk3]) | (refine m5 _ _ ?_;cbv)
 all_goals (clear m1 m2 m3 m4 m5;cases m0;(try clear hks;try clear hk2;try clear hk3);try dsimp only)
 all_goals try simp only [sm] at *
 all_goals first
  | omega
  | exact absurd trivial (by assumption)
  | rfl
  | exact ⟨rfl⟩
  | contradiction
  | exact ⟨hl _ (qn (z:=qi.z) (by omega)).out⟩
  | (simp only [qg (show i<9223372036854775807 by omega)];exact ⟨ih (by omega)⟩)
structure Wx (l:List qi)(n:Nat):Prop where out:∀ q∈l,q.label.length<=n
structure qjo (l:List qi)(n:Nat):Prop where out:∀ q∈l,WT q n
def qfd (f:List qi->Int->Int):Wr:=w2 vL dcI (fun l n=>rI (f l n)) (fun l n=>[LLe l maxLen,qjo l maxLen,qiB n])
theorem qfb:qy Tryz.prog 30 (qfd ko):=qE fun l n h=>qhS l n (h _ (.head _)).out (h _ (.tail _ (.head _))).out (h _ (.tail _ (.tail _ (.head _)))).out
def qez:Wr:=w1 vL qhB (fun l=>[LLe l 1048576,Wx l 1048576])
theorem qej:qy Tryz.prog 36 qez:=zx fun l h=>qhL l (h _ (.head _)).out (h _ (.tail _ (.head _))).out
def qfP:Wr:=w2 vL vL (fun _ _=>rB true) (fun l m=>[vb l m,LLe l maxLen,Wx l maxLen])
theorem qe2:qy Tryz.prog 42 qfP:=qE fun l m h=>by
 obtain rfl:=(h _ (.head _)).out
 exact qgP l (h _ (.tail _ (.head _))).out (h _ (.tail _ (.tail _ (.head _)))).out
end Go.Proofs.YtifnopmkdempdaaGreat.Ai
namespace Go.Proofs.YtifnopmkdempdaaGreat.Ai
open Go
set_option maxRecDepth 100000
variable [qh]
def jS (t:ql)(n:Int):Int:=if ko t.nodes n<0 then -1 else if szL t.ties (ko t.nodes n)<0 then -1 else szL t.ties (ko t.nodes n)
def jG (t:qf)(n:Int):Int:=if szL t.times n<0 then -1 else if szL t.vals (szL t.times n)<0 then -1 else szL t.vals (szL t.times n)
theorem qnw:∀ (l:List qi) (n:Int),0<=n->szF zy l n<=n/\(0<=szF zy l n->∀ q∈l,(q.name.size:Int)<=n/\(q.label.length:Int)<=n)
 | [],n,h=>⟨Int.le_refl _,fun _ q hq=>by cases hq⟩
 | q::r,n,h=>by
   have h0:=YQ q h
   unfold szF
   by_cases hn:zy q n<0
   . rw [if_pos hn];exact ⟨by omega,fun h=>by omega⟩
   . rw [if_neg hn]
     have ih:=qnw r (zy q n) (by omega)
     refine ⟨by omega,fun h1 x hx=>?_⟩
     rcases List.mem_cons.1 hx with rfl | hx
     . exact qhV (by omega)
     . have:=ih.2 h1 x hx;omega
theorem Vj {l:List qi}{n:Int}(h:0<=n):ko l n<=n/\(0<=ko l n->(l.length:Int)<=n/\∀ q∈l,(q.name.size:Int)<=n/\(q.label.length:Int)<=n):=by
 unfold ko
 split
 . exact ⟨by omega,fun h=>by omega⟩
 . have:=qnw l (n-l.length) (by omega)
   refine ⟨by omega,fun h1=>⟨by omega,fun q hq=>?_⟩⟩
   have:=this.2 h1 q hq
   omega
theorem qk1 (t:ql)(n:Int)(h1:t.nodes.length<=maxLen)(h2:t.ties.length<=maxLen)(h3:∀ q∈t.nodes,WT q maxLen)(hn:0<=n/\n<=9223372036854775807):qe Tryz.prog 8 [qQ t,aI n] (rI (jS t n)):=by
 refine qe.of qc (fn:=Tryz.f8) (c:=Tryz.f8.body.getD .skip) (dr:=fun n=>qa 0 [] n) Tryz.func8 rfl (by kernel_rfl) (by kernel_rfl) (by kernel_rfl) ?_
 obtain ⟨f,hf⟩:∃ f,f=ko:=⟨_,rfl⟩
 obtain ⟨g,hg⟩:∃ g:List Tie->Int->Int,g=szL:=⟨_,rfl⟩
 have hO:qp Tryz.prog (qJ [(30,qfd f),(31,qjp g)]):=by subst hf hg;exact qb qfb (qb qgv qd)
 obtain ⟨cs,ps,hr⟩:=t
 have h1:cs.length<=maxLen:=h1
 have h2:ps.length<=maxLen:=h2
 have h3:∀ q∈cs,WT q maxLen:=h3
 have h4:f cs n<=n:=by rw [hf];exact (Vj hn.1).1
 refine SEx.go (X:=XX) qc (fun n=>qa [] [] n) (fun _=>none) hO 60 ?_
 intro M R L N m0 m1 m2 m3 m4 m5
 cases M
 cbv
 repeat' first | refine m1 _ _ ?_ ?_ | refine m2 _ _ fun h=>?_ | refine m3 _ ?_ | (refine m4 _ _ (Hd.out ?_);try first | rw [hks] | rw [hk2] | rw [hk3]) | (refine m5 _ _ ?_;cbv)
 all_goals (clear m1 m2 m3 m4 m5;cases m0;(try clear hks;try clear hk2;try clear hk3);try dsimp only)
 all_goals try simp only [sm] at *
 all_goals first
  | exact ⟨h1⟩
  | exact ⟨h2⟩
  | exact ⟨h3⟩
  | exact ⟨hn⟩
  | exact ⟨⟨by omega,by omega⟩⟩
  | (subst hf hg;simp only [Km,jS];rw [if_pos (by assumption)];done)
  | (subst hf hg;simp only [Km,jS];rw [if_neg (by omega),if_pos (by assumption)];done)
  | (subst hf hg;simp only [Km,jS];rw [if_neg (by omega),if_neg (by omega)];done)
  | trace_state
theorem qia (t:qf)(n:Int)(h1:t.times.length<=maxLen)(h2:t.vals.length<=maxLen)(hn:0<=n/\n<=9223372036854775807):qe Tryz.prog 9 [qH t,aI n] (rI (jG t n)):=by
 refine qe.of qc (fn:=Tryz.f9) (c:=Tryz.f9.body.getD .skip) (dr:=fun n=>qa 0 [] n) Tryz.func9 rfl (by kernel_rfl) (by kernel_rfl) (by kernel_rfl) ?_
 obtain ⟨g,hg⟩:∃ g:List Int->Int->Int,g=szL:=⟨_,rfl⟩
 have hO:qp Tryz.prog (qJ [(32,Yu g)]):=by subst hg;exact qb Vr qd
 obtain ⟨nw,cs,ps⟩:=t
 have h1:cs.length<=maxLen:=h1
 have h2:ps.length<=maxLen:=h2
 have h4:g cs n<=n:=by rw [hg];exact qhI _ hn.1
 refine SEx.go (X:=XX) qc (fun n=>qa [] [] n) (fun _=>none) hO 60 ?_
 intro M R L N m0 m1 m2 m3 m4 m5
 cases M
 cbv
 repeat' first | refine m1 _ _ ?_ ?_ | refine m2 _ _ fun h=>?_ | refine m3 _ ?_ | (refine m4 _ _ (Hd.out ?_);try first | rw [hks] | rw [hk2] | rw [hk3]) | (refine m5 _ _ ?_;cbv)
 all_goals (clear m1 m2 m3 m4 m5;cases m0;(try clear hks;try clear hk2;try clear hk3);try dsimp only)
 all_goals try simp only [sm] at *
 all_goals first
  | exact ⟨h1⟩
  | exact ⟨h2⟩
  | exact ⟨hn⟩
  | exact ⟨⟨by omega,by omega⟩⟩
  | (subst hg;simp only [Km,jG];rw [if_pos (by assumption)];done)
  | (subst hg;simp only [Km,jG];rw [if_neg (by omega),if_pos (by assumption)];done)
  | (subst hg;simp only [Km,jG];rw [if_neg (by omega),if_neg (by omega)];done)
  | trace_state
theorem qmf (t:ql)(h1:t.nodes.length<=1048576)(h2:t.ties.length<=1048576)(h3:∀ q∈t.nodes,q.label.length<=1048576):qe Tryz.prog 11 [qQ t] (qqH t):=by
 refine qe.of qc (fn:=Tryz.f11) (c:=Tryz.f11.body.getD .skip) (dr:=fun n=>qa 0 [] n) Tryz.func11 rfl (by kernel_rfl) (by kernel_rfl) (by kernel_rfl) ?_
 have hO:qp Tryz.prog (qJ [(36,qez),(37,qjx)]):=qb qej (qb qhh qd)
 obtain ⟨cs,ps,hr⟩:=t
 have h1:cs.length<=1048576:=h1
 have h2:ps.length<=1048576:=h2
 have h3:∀ q∈cs,q.label.length<=1048576:=h3
 refine SEx.go (X:=XX) qc (fun n=>qa [] [] n) (fun n=>qa none qtm n) hO 8 ?_
 intro M R L N m0 m1 m2 m3 m4 m5
 cases M
 cbv
 repeat' first | refine m1 _ _ ?_ ?_ | refine m2 _ _ fun h=>?_ | refine m3 _ ?_ | (refine m4 _ _ (Hd.out ?_);try first | rw [hks] | rw [hk2] | rw [hk3]) | (refine m5 _ _ ?_;cbv)
 all_goals (clear m1 m2 m3 m4 m5;cases m0;(try clear hks;try clear hk2;try clear hk3);try dsimp only)
 all_goals try simp only [sm] at *
 all_goals first
  | exact ⟨h1⟩
  | exact ⟨h2⟩
  | exact ⟨h3⟩
  | rfl
  | trace_state
theorem qhc (t:qf)(h1:t.times.length<=1048576)(h2:t.vals.length<=1048576):qe Tryz.prog 12 [qH t] (kV t):=by
 refine qe.of qc (fn:=Tryz.f12) (c:=Tryz.f12.body.getD .skip) (dr:=fun n=>qa 0 [] n) Tryz.func12 rfl (by kernel_rfl) (by kernel_rfl) (by kernel_rfl) ?_
 have hO:qp Tryz.prog (qJ [(13,VV)]):=qb ww qd
 obtain ⟨nw,cs,ps⟩:=t
 have h1:cs.length<=1048576:=h1
 have h2:ps.length<=1048576:=h2
 refine SEx.go (X:=XX) qc (fun n=>qa [] [] n) (fun n=>qa none qti n) hO 8 ?_
 intro M R L N m0 m1 m2 m3 m4 m5
 cases M
 cbv
 repeat' first | refine m1 _ _ ?_ ?_ | refine m2 _ _ fun h=>?_ | refine m3 _ ?_ | (refine m4 _ _ (Hd.out ?_);try first | rw [hks] | rw [hk2] | rw [hk3]) | (refine m5 _ _ ?_;cbv)
 all_goals (clear m1 m2 m3 m4 m5;cases m0;(try clear hks;try clear hk2;try clear hk3);try dsimp only)
 all_goals try simp only [sm] at *
 all_goals first
  | exact ⟨h1⟩
  | exact ⟨h2⟩
  | rfl
  | trace_state
theorem qly (t:ql)(h1:t.nodes.length<=maxLen)(h2:t.ties.length<=maxLen)(h3:∀ q∈t.nodes,q.label.length<=maxLen):qe Tryz.prog 15 [qQ t,qQ t] (rB true):=by
 refine qe.of qc (fn:=Tryz.f15) (c:=Tryz.f15.body.getD .skip) (dr:=fun n=>qa 0 [] n) Tryz.func15 rfl (by kernel_rfl) (by kernel_rfl) (by kernel_rfl) ?_
 have hO:qp Tryz.prog (qJ [(42,qfP),(43,qjB)]):=qb qe2 (qb qhk qd)
 obtain ⟨cs,ps,hr⟩:=t
 have h1:cs.length<=maxLen:=h1
 have h2:ps.length<=maxLen:=h2
 have h3:∀ q∈cs,q.label.length<=maxLen:=h3
 refine SEx.go (X:=XX) qc (fun n=>qa [] [] n) (fun _=>none) hO 60 ?_
 intro M R L N m0 m1 m2 m3 m4 m5
 cases M
 cbv
 repeat' first | refine m1 _ _ ?_ ?_ | refine m2 _ _ fun h=>?_ | refine m3 _ ?_ | (refine m4 _ _ (Hd.out ?_);try first | rw [hks] | rw [hk2] | rw [hk3]) | (refine m5 _ _ ?_;cbv)
 all_goals (clear m1 m2 m3 m4 m5;cases m0;(try clear hks;try clear hk2;try clear hk3);try dsimp only)
 all_goals try simp only [sm] at *
 all_goals first
  | exact ⟨h1⟩
  | exact ⟨h2⟩
  | exact ⟨h3⟩
  | exact ⟨rfl⟩
  | rfl
  | contradiction
  | exact absurd trivial (by assumption)
  | trace_state
theorem qic (t:qf)(h1:t.times.length<=maxLen)(h2:t.vals.length<=maxLen):qe Tryz.prog 16 [qH t,qH t] (rB true):=by
 refine qe.of qc (fn:=Tryz.f16) (c:=Tryz.f16.body.getD .skip) (dr:=fun n=>qa 0 [] n) Tryz.func16 rfl (by kernel_rfl) (by kernel_rfl) (by kernel_rfl) ?_
 have hO:qp Tryz.prog (qJ [(17,V0)]):=qb wy qd
 obtain ⟨nw,cs,ps⟩:=t
 have h1:cs.length<=maxLen:=h1
 have h2:ps.length<=maxLen:=h2
 refine SEx.go (X:=XX) qc (fun n=>qa [] [] n) (fun _=>none) hO 60 ?_
 intro M R L N m0 m1 m2 m3 m4 m5
 cases M
 cbv
 repeat' first | refine m1 _ _ ?_ ?_ | refine m2 _ _ fun h=>?_ | refine m3 _ ?_ | (refine m4 _ _ (Hd.out ?_);try first | rw [hks] | rw [hk2] | rw [hk3]) | (refine m5 _ _ ?_;cbv)
 all_goals (clear m1 m2 m3 m4 m5;cases m0;(try clear hks;try clear hk2;try clear hk3);try dsimp only)
 all_goals try simp only [sm] at *
 all_goals first
  | exact ⟨h1⟩
  | exact ⟨h2⟩
  | exact ⟨rfl⟩
  | rfl
  | contradiction
  | exact absurd trivial (by assumption)
  | trace_state
def qiS (f:ql->Int->Int):Wr:=w2 qN dcI (fun t n=>rI (f t n)) (fun t n=>[LLe t.nodes maxLen,LLe t.ties maxLen,qjo t.nodes maxLen,qiB n])
theorem qh0:qy Tryz.prog 8 (qiS jS):=qE fun t n h=>qk1 t n (h _ (.head _)).out (h _ (.tail _ (.head _))).out (h _ (.tail _ (.tail _ (.head _)))).out (h _ (.tail _ (.tail _ (.tail _ (.head _))))).out
def qeV (f:qf->Int->Int):Wr:=w2 qF dcI (fun t n=>rI (f t n)) (fun t n=>[LLe t.times maxLen,LLe t.vals maxLen,qiB n])
theorem qe9:qy Tryz.prog 9 (qeV jG):=qE fun t n h=>qia t n (h _ (.head _)).out (h _ (.tail _ (.head _))).out (h _ (.tail _ (.tail _ (.head _)))).out
def qjG:Wr:=w1 qN qqH (fun t=>[LLe t.nodes 1048576,LLe t.ties 1048576,Wx t.nodes 1048576])
theorem qhJ:qy Tryz.prog 11 qjG:=zx fun t h=>qmf t (h _ (.head _)).out (h _ (.tail _ (.head _))).out (h _ (.tail _ (.tail _ (.head _)))).out
def qdG:Wr:=w1 qF kV (fun t=>[LLe t.times 1048576,LLe t.vals 1048576])
theorem qew:qy Tryz.prog 12 qdG:=zx fun t h=>qhc t (h _ (.head _)).out (h _ (.tail _ (.head _))).out
def qiN:Wr:=w2 qN qN (fun _ _=>rB true) (fun t u=>[vb t u,LLe t.nodes maxLen,LLe t.ties maxLen,Wx t.nodes maxLen])
theorem qiv:qy Tryz.prog 15 qiN:=qE fun t u h=>by
 obtain rfl:=(h _ (.head _)).out
 exact qly t (h _ (.tail _ (.head _))).out (h _ (.tail _ (.tail _ (.head _)))).out (h _ (.tail _ (.tail _ (.tail _ (.head _))))).out
def qfC:Wr:=w2 qF qF (fun _ _=>rB true) (fun t u=>[vb t u,LLe t.times maxLen,LLe t.vals maxLen])
theorem qdU:qy Tryz.prog 16 qfC:=qE fun t u h=>by
 obtain rfl:=(h _ (.head _)).out
 exact qic t (h _ (.tail _ (.head _))).out (h _ (.tail _ (.tail _ (.head _)))).out
theorem qkt {t:ql}{n:Int}(h0:0<=n)(h:0<=jS t n):(t.nodes.length:Int)<=n/\(t.ties.length:Int)<=n/\(∀ q∈t.nodes,(q.name.size:Int)<=n/\(q.label.length:Int)<=n)/\jS t n<=n:=by
 unfold jS at h ⊢
 have h1:=Vj (l:=t.nodes) h0
 split at h
 . omega
 . rename_i ha
   rw [if_neg ha]
   split at h
   . omega
   . rename_i hb
     rw [if_neg hb]
     have h2:=h1.2 (by omega)
     have h3:=qhI t.ties (n:=ko t.nodes n) (by omega)
     refine ⟨h2.1,?_,h2.2,by omega⟩
     unfold szL at hb
     split at hb<;>omega
theorem qie {t:qf}{n:Int}(h0:0<=n)(h:0<=jG t n):(t.times.length:Int)<=n/\(t.vals.length:Int)<=n:=by
 unfold jG at h
 split at h
 . omega
 . rename_i ha
   split at h
   . omega
   . rename_i hb
     unfold szL at ha hb
     constructor
     . split at ha<;>omega
     . split at hb
       . omega
       . split at ha<;>split at hb<;>omega
end Go.Proofs.YtifnopmkdempdaaGreat.Ai
namespace Go.Proofs.YtifnopmkdempdaaGreat.Ai
open Go
set_option maxRecDepth 100000
variable [qh]
def VP (p:Nat->Bool)(n:Nat):Bool:=(List.range n).all p
theorem qje {p:Nat->Bool}{n i:Nat}(hi:i<n)(h:p i=false):VP p n=false:=by
 unfold VP
 rw [List.all_eq_false]
 exact ⟨i,List.mem_range.2 hi,by rw [h];simp⟩
theorem ZH {p:Nat->Bool}{n:Nat}(h:∀ j,j<n->p j=true):VP p n=true:=by
 unfold VP
 rw [List.all_eq_true]
 exact fun j hj=>h j (List.mem_range.1 hj)
theorem K9 {p:Nat->Bool}{n:Nat}(h:VP p n=true):∀ j,j<n->p j=true:=by
 unfold VP at h
 rw [List.all_eq_true] at h
 exact fun j hj=>h j (List.mem_range.2 hj)
structure IIn (n:Int):Prop where out:inI n
def zG (n:Int):Int:=if n<0 then IntKind.i64.wrap (-n) else n
theorem qn3 {n:Int}(h:inI n):IntKind.i64.wrap (-n)=if n=-9223372036854775808 then n else -n:=by
 rw [jf] at h
 split
 . rename_i e;subst e;decide
 . exact qr (by omega) (by omega)
theorem qfS (n:Int):qe Tryz.prog 134 [aI n] (rI (zG n)):=by
 refine qe.of qc (fn:=Tryz.f134) (c:=Tryz.f134.body.getD .skip) (dr:=fun n=>qa 0 [] n) Tryz.func134 rfl (by kernel_rfl) (by kernel_rfl) (by kernel_rfl) ?_
 refine SEx.go (X:=XX) qc (fun n=>qa [] [] n) (fun _=>none) qd 60 ?_
 intro M R L N m0 m1 m2 m3 m4 m5
 cases M
 cbv
 repeat' first | refine m1 _ _ ?_ ?_ | refine m2 _ _ fun h=>?_ | refine m3 _ ?_ | (refine m4 _ _ (Hd.out ?_);try first | rw [hks] | rw [hk2] | rw [hk3]) | (refine m5 _ _ ?_;cbv)
 all_goals (clear m1 m2 m3 m4 m5;cases m0;(try clear hks;try clear hk2;try clear hk3);try dsimp only)
 all_goals try simp only [sm] at *
 . simp only [Km,zG];rw [if_pos (by assumption),Int.zero_sub]
 . simp only [Km,zG];rw [if_neg (by omega)]
theorem qfn (n:Int)(h:inI n):qe Tryz.prog 143 [aI n] (rI (zG n)):=by
 refine qe.of qc (fn:=Tryz.f143) (c:=Tryz.f143.body.getD .skip) (dr:=fun n=>qa 0 [] n) Tryz.func143 rfl (by kernel_rfl) (by kernel_rfl) (by kernel_rfl) ?_
 refine SEx.go (X:=XX) qc (fun n=>qa [] [] n) (fun _=>none) qd 60 ?_
 intro M R L N m0 m1 m2 m3 m4 m5
 cases M
 cbv
 repeat' first | refine m1 _ _ ?_ ?_ | refine m2 _ _ fun h=>?_ | refine m3 _ ?_ | (refine m4 _ _ (Hd.out ?_);try first | rw [hks] | rw [hk2] | rw [hk3]) | (refine m5 _ _ ?_;cbv)
 all_goals (clear m1 m2 m3 m4 m5;cases m0;(try clear hks;try clear hk2;try clear hk3);try dsimp only)
 all_goals try simp only [sm] at *
 all_goals simp only [Km,zG,Int.zero_sub]
 all_goals rw [qn3 h]
 all_goals rw [jf] at h
 all_goals (split<;>split<;>(try split at *)<;>omega)
def VJ (f:Int->Int):Wr:=w1 dcI (fun n=>rI (f n)) (fun n=>[IIn n])
theorem W0:qy Tryz.prog 134 (VJ zG):=zx fun n _=>qfS n
theorem W1:qy Tryz.prog 143 (VJ zG):=zx fun n h=>qfn n (h _ (.head _)).out
def lP (l:List Int)(i:Nat):Bool:=decide (¬l.getD i 0=0/\-3<=l.getD i 0/\l.getD i 0<=3/\(0<i->zG (l.getD (i-1) 0)<zG (l.getD i 0)))
def qW (l:List Int):Bool:=VP (lP l) l.length
theorem qar (l:List Int)(h1:l.length<=maxLen)(hx:∀ n∈l,inI n):qe Tryz.prog 167 [aIs l] (rB (qW l)):=by
 refine qe.of qc (fn:=Tryz.f167) (c:=Tryz.f167.body.getD .skip) (dr:=fun n=>qa 0 [] n) Tryz.func167 rfl (by kernel_rfl) (by kernel_rfl) (by kernel_rfl) ?_
 obtain ⟨m,hm⟩:∃ m,m=l.length:=⟨_,rfl⟩
 obtain ⟨r,hr⟩:∃ r,r=qW l:=⟨_,rfl⟩
 obtain ⟨f,hf⟩:∃ f,f=zG:=⟨_,rfl⟩
 have hO:qp Tryz.prog (qJ [(143,VJ f)]):=by subst hf;exact qb W1 qd
 unfold maxLen at h1
 rw [<-hr]
 refine SEx.go (X:=XX) qc (fun n=>qa [] [(2,[0,5,6,7])] n) (fun _=>none) hO 60 ?_
 intro M R L N m0 m1 m2 m3 m4 m5
 cases M
 cbv
 repeat' first | refine m1 _ _ ?_ ?_ | refine m2 _ _ fun h=>?_ | refine m3 _ ?_ | (refine m4 _ _ (Hd.out ?_);generalize hks:(List.cons _ _:List K)=ks) | (refine m5 _ _ ?_;cbv)
 all_goals (clear m1 m2 m3 m4 m5;cases m0;try dsimp only)
 all_goals try simp only [sm] at *
 refine ⟨SEx.same (SEx.ind (α:=Nat) (fun i=>⟨38,[(0,bL (.i l)),(5,bL (.i l)),(6,bI m),(7,bI i)],[]⟩) (fun _=>rB r) (fun i=>i<=m/\∀ j,j<i->lP l j=true) (fun i=>m-i) 0 ⟨by omega,fun j h=>by omega⟩ ?_) (by rw [hm];rfl) rfl⟩
 rintro i ⟨hi,hj⟩ ih
 rw [<-hks]
 have hw:0<(i:Int)->IntKind.i64.wrap ((i:Int)-1)=((i-1:Nat):Int):=fun h=>by rw [qr (by omega) (by omega)];omega
 have hbad:i<l.length->lP l i=false->r=false:=fun h h2=>by rw [hr,qW,qje h h2]
 have hgo:∀ (h:i<m) (h2:lP l i=true),i+1<=m/\∀ j,j<i+1->lP l j=true:=fun h h2=>⟨h,fun j hj'=>by
  by_cases e:j=i
  . rw [e];exact h2
  . exact hj j (by omega)⟩
 refine SEx.go (X:=XX) qc (fun n=>qa [] [(2,[0,5,6,7])] n) (fun _=>none) hO 60 ?_
 intro M R L N m0 m1 m2 m3 m4 m5
 cases M
 cbv
 repeat' first | refine m1 _ _ ?_ ?_ | refine m2 _ _ fun h=>?_ | refine m3 _ ?_ | (refine m4 _ _ (Hd.out ?_);try first | rw [hks] | rw [hk2] | rw [hk3]) | (refine m5 _ _ ?_;cbv)
 all_goals (clear m1 m2 m3 m4 m5;cases m0;(try clear hks;try clear hk2;try clear hk3);try dsimp only)
 all_goals try simp only [sm] at *
 all_goals (try rw [hw (by omega)] at *)
 all_goals (try simp only [Int.toNat_natCast] at *)
 all_goals (clear hO;subst hf)
 all_goals first
  | omega
  | exact ⟨hx _ (qn (z:=(0:Int)) (by omega)).out⟩
  | (have hb:=hbad (by omega) (decide_eq_false (by rintro ⟨h1,h2,h3,h4⟩;first | contradiction | omega | (have:=h4 (by omega);omega)))
     rw [hb];rfl)
  | (have hp:lP l i=true:=decide_eq_true ⟨by assumption,by assumption,by assumption,fun h=>by first | assumption | (exfalso;omega)⟩
     simp only [qg (show i<9223372036854775807 by omega)]
     exact ⟨(ih (i+1) (hgo (by omega) hp) (by omega)).same rfl rfl⟩)
  | (have hee:i=m:=by omega
     subst hee
     rw [hr,qW,ZH (by rw [<-hm];exact hj)];rfl)
theorem YB (l:List Int)(h1:l.length<=maxLen)(hx:∀ n∈l,inI n):qe Tryz.prog 171 [aIs l] (rB (qW l)):=by
 refine qe.of qc (fn:=Tryz.f171) (c:=Tryz.f171.body.getD .skip) (dr:=fun n=>qa 0 [] n) Tryz.func171 rfl (by kernel_rfl) (by kernel_rfl) (by kernel_rfl) ?_
 obtain ⟨m,hm⟩:∃ m,m=l.length:=⟨_,rfl⟩
 obtain ⟨r,hr⟩:∃ r,r=qW l:=⟨_,rfl⟩
 obtain ⟨f0,hf0⟩:∃ f,f=kb:=⟨_,rfl⟩
 obtain ⟨f,hf⟩:∃ f,f=zG:=⟨_,rfl⟩
 have hO:qp Tryz.prog (qJ [(104,Ys f0),(134,VJ f)]):=by subst hf hf0;exact qb Qf (qb W0 qd)
 unfold maxLen at h1
 rw [<-hr]
 refine SEx.go (X:=XX) qc (fun n=>qa [] [(2,[0,5,6,7])] n) (fun _=>none) hO 60 ?_
 intro M R L N m0 m1 m2 m3 m4 m5
 cases M
 cbv
 repeat' first | refine m1 _ _ ?_ ?_ | refine m2 _ _ fun h=>?_ | refine m3 _ ?_ | (refine m4 _ _ (Hd.out ?_);generalize hks:(List.cons _ _:List K)=ks) | (refine m5 _ _ ?_;cbv)
 all_goals (clear m1 m2 m3 m4 m5;cases m0;try dsimp only)
 all_goals try simp only [sm] at *
 refine ⟨SEx.same (SEx.ind (α:=Nat) (fun i=>⟨35,[(0,bL (.i l)),(5,bL (.i l)),(6,bI m),(7,bI i)],[]⟩) (fun _=>rB r) (fun i=>i<=m/\∀ j,j<i->lP l j=true) (fun i=>m-i) 0 ⟨by omega,fun j h=>by omega⟩ ?_) (by rw [hm];rfl) rfl⟩
 rintro i ⟨hi,hj⟩ ih
 rw [<-hks]
 have hw:0<(i:Int)->IntKind.i64.wrap ((i:Int)-1)=((i-1:Nat):Int):=fun h=>by rw [qr (by omega) (by omega)];omega
 have hbad:i<l.length->lP l i=false->r=false:=fun h h2=>by rw [hr,qW,qje h h2]
 have hgo:∀ (h:i<m) (h2:lP l i=true),i+1<=m/\∀ j,j<i+1->lP l j=true:=fun h h2=>⟨h,fun j hj'=>by
  by_cases e:j=i
  . rw [e];exact h2
  . exact hj j (by omega)⟩
 have hft:f0 (l.getD i 0) (-3) 3=true->-3<=l.getD i 0/\l.getD i 0<=3:=by subst hf0;intro h;simpa [kb] using h
 have hff:f0 (l.getD i 0) (-3) 3=false->¬(-3<=l.getD i 0/\l.getD i 0<=3):=by subst hf0;intro h h2;simp only [kb,decide_eq_true h2.1,decide_eq_true h2.2] at h;cases h
 refine SEx.go (X:=XX) qc (fun n=>qa [] [(2,[0,5,6,7])] n) (fun _=>none) hO 60 ?_
 intro M R L N m0 m1 m2 m3 m4 m5
 cases M
 cbv
 repeat' first | refine m1 _ _ ?_ ?_ | refine m2 _ _ fun h=>?_ | refine m3 _ ?_ | (refine m4 _ _ (Hd.out ?_);try first | rw [hks] | rw [hk2] | rw [hk3]) | (refine m5 _ _ ?_;cbv)
 all_goals (clear m1 m2 m3 m4 m5;cases m0;(try clear hks;try clear hk2;try clear hk3);try dsimp only)
 all_goals try simp only [sm] at *
 all_goals (try (have hA:=hft (by assumption);have hA1:=hA.1;have hA2:=hA.2))
 all_goals (try have hB:=hff (by assumption))
 all_goals (try rw [hw (by omega)] at *)
 all_goals (try simp only [Int.toNat_natCast] at *)
 all_goals (clear hO;subst hf)
 all_goals first
  | omega
  | exact ⟨hx _ (qn (z:=(0:Int)) (by omega)).out⟩
  | (have hb:=hbad (by omega) (decide_eq_false (by rintro ⟨h1,h2,h3,h4⟩;first | contradiction | omega | (have:=h4 (by omega);omega)))
     rw [hb];rfl)
  | (have hp:lP l i=true:=decide_eq_true ⟨by assumption,by assumption,by assumption,fun h=>by first | assumption | (exfalso;omega)⟩
     simp only [qg (show i<9223372036854775807 by omega)]
     exact ⟨(ih (i+1) (hgo (by omega) hp) (by omega)).same rfl rfl⟩)
  | (have hee:i=m:=by omega
     subst hee
     rw [hr,qW,ZH (by rw [<-hm];exact hj)];rfl)
structure Z9 (l:List Int):Prop where
 len:l.length<=maxLen
 all:∀ n∈l,inI n
def Q7 (f:List Int->Bool):Wr:=w1 zX (fun l=>rB (f l)) (fun l=>[Z9 l])
theorem vC:qy Tryz.prog 171 (Q7 qW):=zx fun l h=>YB l (h _ (.head _)).len (h _ (.head _)).all
theorem Z7:qy Tryz.prog 167 (Q7 qW):=zx fun l h=>qar l (h _ (.head _)).len (h _ (.head _)).all
end Go.Proofs.YtifnopmkdempdaaGreat.Ai
namespace Go.Proofs.YtifnopmkdempdaaGreat.Ai
open Go
set_option maxRecDepth 100000
variable [qh]
def ZO (l:List Int)(v:Int):Bool:=decide (0<=zK (fun x=>v == x) l 0)
theorem qoe (l:List Int)(v:Int)(h1:l.length<=maxLen):qe Tryz.prog 54 [aIs l,aI v] (rB (ZO l v)):=by
 refine qe.of qc (fn:=Tryz.f54) (c:=Tryz.f54.body.getD .skip) (dr:=fun n=>qa 0 [] n) Tryz.func54 rfl (by kernel_rfl) (by kernel_rfl) (by kernel_rfl) ?_
 obtain ⟨f,hf⟩:∃ f:List Int->Int->Int,f=fun l v=>zK (fun x=>v == x) l 0:=⟨_,rfl⟩
 have hO:qp Tryz.prog (qJ [(92,qjb f)]):=by subst hf;exact qb qib qd
 refine SEx.go (X:=XX) qc (fun n=>qa [] [] n) (fun _=>none) hO 60 ?_
 intro M R L N m0 m1 m2 m3 m4 m5
 cases M
 cbv
 repeat' first | refine m1 _ _ ?_ ?_ | refine m2 _ _ fun h=>?_ | refine m3 _ ?_ | (refine m4 _ _ (Hd.out ?_);try first | rw [hks] | rw [hk2] | rw [hk3]) | (refine m5 _ _ ?_;cbv)
 all_goals (clear m1 m2 m3 m4 m5;cases m0;(try clear hks;try clear hk2;try clear hk3);try dsimp only)
 all_goals try simp only [sm] at *
 all_goals first
  | exact ⟨h1⟩
  | (subst hf;rfl)
theorem qrN (l:List Int)(v:Int)(h1:l.length<=maxLen):qe Tryz.prog 48 [aIs l,aI v] (rB (ZO l v)):=by
 refine qe.of qc (fn:=Tryz.f48) (c:=Tryz.f48.body.getD .skip) (dr:=fun n=>qa 0 [] n) Tryz.func48 rfl (by kernel_rfl) (by kernel_rfl) (by kernel_rfl) ?_
 unfold maxLen at h1
 obtain ⟨g,hg⟩:∃ g:Nat->Bool,g=fun i=>decide (0<=zK (fun x=>v == x) (l.drop i) i):=⟨_,rfl⟩
 rw [show ZO l v=g 0 by rw [hg];rfl]
 refine SEx.go (X:=XX) qc (fun n=>qa [] [(2,[1,7,8,9])] n) (fun _=>none) qd 60 ?_
 intro M R L N m0 m1 m2 m3 m4 m5
 cases M
 cbv
 repeat' first | refine m1 _ _ ?_ ?_ | refine m2 _ _ fun h=>?_ | refine m3 _ ?_ | (refine m4 _ _ (Hd.out ?_);generalize hks:(List.cons _ _:List K)=ks) | (refine m5 _ _ ?_;cbv)
 all_goals (clear m1 m2 m3 m4 m5;cases m0;try dsimp only)
 all_goals try simp only [sm] at *
 obtain ⟨m,hm⟩:∃ m,m=l.length:=⟨_,rfl⟩
 refine ⟨SEx.same (SEx.idx m (fun i=>⟨17,[(1,bI v),(7,bL (.i l)),(8,bI m),(9,bI i)],[]⟩) (fun i=>rB (g i)) ?_) (by rw [hm];rfl) rfl⟩
 intro i hi ih
 rw [<-hks]
 refine SEx.go (X:=XX) qc (fun n=>qa [] [(2,[1,7,8,9])] n) (fun _=>none) qd 60 ?_
 intro M R L N m0 m1 m2 m3 m4 m5
 cases M
 cbv
 repeat' first | refine m1 _ _ ?_ ?_ | refine m2 _ _ fun h=>?_ | refine m3 _ ?_ | (refine m4 _ _ (Hd.out ?_);try first | rw [hks] | rw [hk2] | rw [hk3]) | (refine m5 _ _ ?_;cbv)
 all_goals (clear m1 m2 m3 m4 m5;cases m0;(try clear hks;try clear hk2;try clear hk3);try dsimp only)
 all_goals try simp only [sm] at *
 all_goals first
  | omega
  | (have hh:l.getD i 0=v:=by assumption
     rw [hg];simp only [jF];rw [jK (z:=(0:Int)) (by omega) (by rw [hh];simp),decide_eq_true (by omega)])
  | (have hh:¬l.getD i 0=v:=by assumption
     simp only [qg (show i<9223372036854775807 by omega)]
     have e:g i=g (i+1):=by rw [hg];simp only;rw [QG (z:=(0:Int)) (by omega) (beq_eq_false_iff_ne.2 (fun e=>hh e.symm))]
     exact ⟨(ih (by omega)).same rfl (by rw [e])⟩)
  | (rw [hg];simp only [jF];rw [jJ (by omega)];rfl)
  | trace_state
def qix (f:List Int->Int->Bool):Wr:=w2 zX dcI (fun l v=>rB (f l v)) (fun l _=>[LLe l maxLen])
theorem YH:qy Tryz.prog 48 (qix ZO):=qE fun l v h=>qrN l v (h _ (.head _)).out
theorem qeN:qy Tryz.prog 54 (qix ZO):=qE fun l v h=>qoe l v (h _ (.head _)).out
def QS (q:qi):Bool:=Qm q.name 0&&qW q.label&&(decide (0<=q.watch)&&decide (q.watch<=3))
theorem qay (q:qi)(hs:q.name.size<=maxLen)(hl:q.label.length<=maxLen)(hx:∀ n∈q.label,inI n):qe Tryz.prog 151 [Wa q] (rB (QS q)):=by
 refine qe.of qc (fn:=Tryz.f151) (c:=Tryz.f151.body.getD .skip) (dr:=fun n=>qa 0 [] n) Tryz.func151 rfl (by kernel_rfl) (by kernel_rfl) (by kernel_rfl) ?_
 obtain ⟨f0,hf0⟩:∃ f,f=kb:=⟨_,rfl⟩
 obtain ⟨f1,hf1⟩:∃ f,f=(Qm · 0):=⟨_,rfl⟩
 obtain ⟨f2,hf2⟩:∃ f,f=qW:=⟨_,rfl⟩
 have hO:qp Tryz.prog (qJ [(170,qck f1),(171,Q7 f2),(104,Ys f0)]):=by subst hf0 hf1 hf2;exact qb qlG (qb vC (qb Qf qd))
 obtain ⟨x1,x2,x3⟩:=q
 refine SEx.go (X:=XX) qc (fun n=>qa [] [] n) (fun _=>none) hO 60 ?_
 intro M R L N m0 m1 m2 m3 m4 m5
 cases M
 cbv
 repeat' first | refine m1 _ _ ?_ ?_ | refine m2 _ _ fun h=>?_ | refine m3 _ ?_ | (refine m4 _ _ (Hd.out ?_);try first | rw [hks] | rw [hk2] | rw [hk3]) | (refine m5 _ _ ?_;cbv)
 all_goals (clear m1 m2 m3 m4 m5;cases m0;(try clear hks;try clear hk2;try clear hk3);try dsimp only)
 all_goals try simp only [sm] at *
 all_goals first
  | exact ⟨hs⟩
  | exact ⟨hl,hx⟩
  | (subst hf0 hf1 hf2;simp only [jF,QS];simp_all [kb];done)
  | trace_state
theorem qa1 (q:qi)(hs:q.name.size<=maxLen)(hl:q.label.length<=maxLen)(hx:∀ n∈q.label,inI n):qe Tryz.prog 139 [Wa q] (rB (QS q)):=by
 refine qe.of qc (fn:=Tryz.f139) (c:=Tryz.f139.body.getD .skip) (dr:=fun n=>qa 0 [] n) Tryz.func139 rfl (by kernel_rfl) (by kernel_rfl) (by kernel_rfl) ?_
 obtain ⟨f1,hf1⟩:∃ f,f=(Qm · 0):=⟨_,rfl⟩
 obtain ⟨f2,hf2⟩:∃ f,f=qW:=⟨_,rfl⟩
 have hO:qp Tryz.prog (qJ [(166,qck f1),(167,Q7 f2)]):=by subst hf1 hf2;exact qb qkn (qb Z7 qd)
 obtain ⟨x1,x2,x3⟩:=q
 refine SEx.go (X:=XX) qc (fun n=>qa [] [] n) (fun _=>none) hO 60 ?_
 intro M R L N m0 m1 m2 m3 m4 m5
 cases M
 cbv
 repeat' first | refine m1 _ _ ?_ ?_ | refine m2 _ _ fun h=>?_ | refine m3 _ ?_ | (refine m4 _ _ (Hd.out ?_);try first | rw [hks] | rw [hk2] | rw [hk3]) | (refine m5 _ _ ?_;cbv)
 all_goals (clear m1 m2 m3 m4 m5;cases m0;(try clear hks;try clear hk2;try clear hk3);try dsimp only)
 all_goals try simp only [sm] at *
 all_goals first
  | exact ⟨hs⟩
  | exact ⟨hl,hx⟩
  | (subst hf1 hf2;simp only [jF,QS];simp_all;done)
  | (subst hf1 hf2;simp only [jF,QS];rw [decide_eq_false (by omega)];simp;done)
  | trace_state
end Go.Proofs.YtifnopmkdempdaaGreat.Ai
namespace Go.Proofs.YtifnopmkdempdaaGreat.Ai
open Go
set_option maxRecDepth 100000
variable [qh]
def wV (x:Int):Bool:=decide (-1<=x)&&decide (x<=1)
def qS (l:List Int):Bool:=qA (fun _ x=>wV x) l 0&&decide (l.length=3)
theorem VU (l:List Int)(h1:l.length<=maxLen):qe Tryz.prog 122 [aIs l] (rB (qS l)):=by
 refine qe.of qc (fn:=Tryz.f122) (c:=Tryz.f122.body.getD .skip) (dr:=fun n=>qa 0 [] n) Tryz.func122 rfl (by kernel_rfl) (by kernel_rfl) (by kernel_rfl) ?_
 unfold maxLen at h1
 obtain ⟨f0,hf0⟩:∃ f,f=kb:=⟨_,rfl⟩
 have hO:qp Tryz.prog (qJ [(104,Ys f0)]):=by subst hf0;exact qb Qf qd
 have hv:∀ x,f0 x (-1) 1=wV x:=by intro x;rw [hf0];rfl
 obtain ⟨c,hc⟩:∃ c,c=decide (l.length=3):=⟨_,rfl⟩
 rw [show qS l=(qA (fun _ x=>wV x) (l.drop 0) 0&&c) by rw [hc];rfl]
 clear hf0
 refine SEx.go (X:=XX) qc (fun n=>qa [] [(2,[0,5,6,7])] n) (fun _=>none) hO 60 ?_
 intro M R L N m0 m1 m2 m3 m4 m5
 cases M
 cbv
 repeat' first | refine m1 _ _ ?_ ?_ | refine m2 _ _ fun h=>?_ | refine m3 _ ?_ | (refine m4 _ _ (Hd.out ?_);generalize hks:(List.cons _ _:List K)=ks) | (refine m5 _ _ ?_;cbv)
 all_goals (clear m1 m2 m3 m4 m5;cases m0;try dsimp only)
 all_goals try simp only [sm] at *
 obtain ⟨m,hm⟩:∃ m,m=l.length:=⟨_,rfl⟩
 refine ⟨SEx.same (SEx.idx m (fun i=>⟨18,[(0,bL (.i l)),(5,bL (.i l)),(6,bI m),(7,bI i)],[]⟩) (fun i=>rB (qA (fun _ x=>wV x) (l.drop i) i&&c)) ?_) (by rw [hm];rfl) rfl⟩
 intro i hi ih
 rw [<-hks]
 refine SEx.go (X:=XX) qc (fun n=>qa [] [(2,[0,5,6,7])] n) (fun _=>none) hO 60 ?_
 intro M R L N m0 m1 m2 m3 m4 m5
 cases M
 cbv
 repeat' first | refine m1 _ _ ?_ ?_ | refine m2 _ _ fun h=>?_ | refine m3 _ ?_ | (refine m4 _ _ (Hd.out ?_);try first | rw [hks] | rw [hk2] | rw [hk3]) | (refine m5 _ _ ?_;cbv)
 all_goals (clear m1 m2 m3 m4 m5;cases m0;(try clear hks;try clear hk2;try clear hk3);try dsimp only)
 all_goals try simp only [sm] at *
 all_goals first
  | omega
  | exact qn (z:=(0:Int)) (by omega)
  | exact ⟨rfl⟩
  | exact ⟨by omega⟩
  | (rw [Vz (p:=fun _ x=>wV x) (l:=l) (i:=i) (0:Int) (by omega) (by rw [<-hv];assumption)];rfl)
  | (simp only [qg (show i<9223372036854775807 by omega)];exact ⟨(ih (by omega)).same rfl (by rw [vH (p:=fun _ x=>wV x) (l:=l) (i:=i) (0:Int) (by omega) (by rw [<-hv];assumption)])⟩)
  | skip
 all_goals first
  | (rw [qP (l:=l) (by omega),hc];simp only [jF,Bool.true_and];apply decide_eq_decide.2;omega)
theorem YI (n:Int):qe Tryz.prog 145 [aI n] (rB (!wV n)):=by
 refine qe.of qc (fn:=Tryz.f145) (c:=Tryz.f145.body.getD .skip) (dr:=fun n=>qa 0 [] n) Tryz.func145 rfl (by kernel_rfl) (by kernel_rfl) (by kernel_rfl) ?_
 refine SEx.go (X:=XX) qc (fun n=>qa [] [] n) (fun _=>none) qd 60 ?_
 intro M R L N m0 m1 m2 m3 m4 m5
 cases M
 cbv
 repeat' first | refine m1 _ _ ?_ ?_ | refine m2 _ _ fun h=>?_ | refine m3 _ ?_ | (refine m4 _ _ (Hd.out ?_);try first | rw [hks] | rw [hk2] | rw [hk3]) | (refine m5 _ _ ?_;cbv)
 all_goals (clear m1 m2 m3 m4 m5;cases m0;(try clear hks;try clear hk2;try clear hk3);try dsimp only)
 all_goals try simp only [sm] at *
 all_goals simp only [jF,wV]
 all_goals first
  | (rw [decide_eq_false (show ¬-1<=n by omega)];rfl)
  | (rw [decide_eq_true (show -1<=n by omega)];rw [Bool.eq_iff_iff];simp;done)
theorem VO (l:List Int)(h1:l.length<=maxLen):qe Tryz.prog 120 [aIs l] (rB (qS l)):=by
 refine qe.of qc (fn:=Tryz.f120) (c:=Tryz.f120.body.getD .skip) (dr:=fun n=>qa 0 [] n) Tryz.func120 rfl (by kernel_rfl) (by kernel_rfl) (by kernel_rfl) ?_
 obtain ⟨f,hf⟩:∃ f:List Int->Bool,f=fun l=>l.any (fun n=>!wV n):=⟨_,rfl⟩
 have hO:qp Tryz.prog (qJ [(117,wCl zX 145 [] (fun l=>rB (f l)) (fun l=>[LLe l maxLen]))]):=by
  subst hf
  exact qb (Yw fun l h=>Kn l _ _ _ (fun q _=>YI q) (h _ (.head _)).out) qd
 have ha:qA (fun _ x=>wV x) l 0=!f l:=by
  rw [hf,show (!List.any l fun n=>!wV n)=l.all wV by rw [List.not_any_eq_all_not];simp]
  generalize 0=k
  induction l generalizing k with
  | nil=>rfl
  | cons x r ih=>simp only [qA,List.all_cons];rw [ih (by simp at h1;omega)]
 rw [show qS l=(!f l&&decide (l.length=3)) by unfold qS;rw [ha]]
 clear ha hf
 refine SEx.go (X:=XX) qc (fun n=>qa [] [] n) (fun _=>none) hO 60 ?_
 intro M R L N m0 m1 m2 m3 m4 m5
 cases M
 cbv
 repeat' first | refine m1 _ _ ?_ ?_ | refine m2 _ _ fun h=>?_ | refine m3 _ ?_ | (refine m4 _ _ (Hd.out ?_);try first | rw [hks] | rw [hk2] | rw [hk3]) | (refine m5 _ _ ?_;cbv)
 all_goals (clear m1 m2 m3 m4 m5;cases m0;(try clear hks;try clear hk2;try clear hk3);try dsimp only)
 all_goals try simp only [sm] at *
 all_goals first
  | exact ⟨rfl⟩
  | exact ⟨h1⟩
  | (simp only [jF];rw [decide_eq_true (by omega),Bool.and_true];done)
  | (simp only [jF];rw [decide_eq_false (by omega),Bool.and_false];done)
def ZT (f:List Int->Bool):Wr:=w1 zX (fun l=>rB (f l)) (fun l=>[LLe l maxLen])
theorem qaJ:qy Tryz.prog 122 (ZT qS):=zx fun l h=>VU l (h _ (.head _)).out
theorem wc:qy Tryz.prog 120 (ZT qS):=zx fun l h=>VO l (h _ (.head _)).out
theorem qc9 (t:ql)(s:ByteArray)(h1:t.nodes.length<=maxLen):qe Tryz.prog 152 [qQ t,aS s] (rI (zK (fun q=>eqS q.name s) t.nodes 0)):=by
 refine qe.of qc (fn:=Tryz.f152) (c:=Tryz.f152.body.getD .skip) (dr:=fun n=>qa 0 [] n) Tryz.func152 rfl (by kernel_rfl) (by kernel_rfl) (by kernel_rfl) ?_
 obtain ⟨cs,ps,hr⟩:=t
 have h1:cs.length<=maxLen:=h1
 unfold maxLen at h1
 show SEx _ _ _ _ _ _ (rI (zK _ cs 0))
 refine SEx.go (X:=XX) qc (fun n=>qa [] [(2,[1,8,9,10])] n) (fun _=>none) qd 60 ?_
 intro M R L N m0 m1 m2 m3 m4 m5
 cases M
 cbv
 repeat' first | refine m1 _ _ ?_ ?_ | refine m2 _ _ fun h=>?_ | refine m3 _ ?_ | (refine m4 _ _ (Hd.out ?_);generalize hks:(List.cons _ _:List K)=ks) | (refine m5 _ _ ?_;cbv)
 all_goals (clear m1 m2 m3 m4 m5;cases m0;try dsimp only)
 all_goals try simp only [sm] at *
 obtain ⟨n,hn⟩:∃ n,n=cs.length:=⟨_,rfl⟩
 refine ⟨SEx.same (SEx.idx n (fun i=>⟨21,[(1,bS s),(8,bL (.node false none cs)),(9,bI n),(10,bI i)],[]⟩) (fun i=>rI (zK (fun q=>eqS q.name s) (cs.drop i) i)) ?_) (by rw [hn];rfl) rfl⟩
 intro i hi ih
 rw [<-hks]
 refine SEx.go (X:=XX) qc (fun n=>qa [] [(2,[1,8,9,10])] n) (fun _=>none) qd 60 ?_
 intro M R L N m0 m1 m2 m3 m4 m5
 cases M
 cbv
 repeat' first | refine m1 _ _ ?_ ?_ | refine m2 _ _ fun h=>?_ | refine m3 _ ?_ | (refine m4 _ _ (Hd.out ?_);try first | rw [hks] | rw [hk2] | rw [hk3]) | (refine m5 _ _ ?_;cbv)
 all_goals (clear m1 m2 m3 m4 m5;cases m0;(try clear hks;try clear hk2;try clear hk3);try dsimp only)
 all_goals try simp only [sm] at *
 all_goals first
  | omega
  | exact ⟨rfl,by cases caps<;>rfl⟩
  | exact ⟨rfl,rfl⟩
  | exact qn (z:=qi.z) (by omega)
  | (rw [jK (p:=fun q=>eqS q.name s) (l:=cs) (i:=i) qi.z (by omega) (by first | assumption | exact beq_iff_eq.2 (by assumption))];rfl)
  | (rw [jJ (by omega)];rfl)
  | (simp only [qg (show i<9223372036854775807 by omega)];exact ⟨(ih (by omega)).same rfl (by rw [QG (p:=fun q=>eqS q.name s) (l:=cs) (i:=i) qi.z (by omega) (by first | assumption | exact beq_eq_false_iff_ne.2 (by assumption) | (simp_all;done))])⟩)
def qsx (k:Nat):Dc (List Int):=⟨fun s=>aF k [.ptr [.sl (.i s)]],fun | (false,[.fn f [.ptr [.sl (.i s)]]])=>(match nq f k with | true=>some s | false=>none) | _=>none,by
 intro x a h
 split at h
 . split at h
   . rename_i hk
     obtain rfl:=Q1.1 hk
     simp only [Option.some.injEq] at h;subst h;rfl
   . cases h
 . cases h⟩
def J5 (a b:List Int):Bool:=qW a&&qW b&&b.all (ZO a)
theorem KL {α:Type}(p:α->Bool):∀ (l:List α) (k:Nat),qA (fun _ x=>p x) l k=l.all p
 | [],_=>rfl
 | a::r,k=>by simp only [qA,List.all_cons,KL p r]
theorem VL (x:Int)(a:List Int)(h1:a.length<=maxLen):qe Tryz.prog 168 [aI x,(false,[.ptr [.sl (.i a)]])] (rB (!ZO a x)):=by
 refine qe.of qc (fn:=Tryz.f168) (c:=Tryz.f168.body.getD .skip) (dr:=fun n=>qa 0 [] n) Tryz.func168 rfl (by kernel_rfl) (by kernel_rfl) (by kernel_rfl) ?_
 obtain ⟨f,hf⟩:∃ f,f=ZO:=⟨_,rfl⟩
 have hO:qp Tryz.prog (qJ [(54,qix f)]):=by subst hf;exact qb qeN qd
 rw [<-hf]
 refine SEx.go (X:=XX) qc (fun n=>qa [] [] n) (fun _=>none) hO 60 ?_
 intro M R L N m0 m1 m2 m3 m4 m5
 cases M
 cbv
 repeat' first | refine m1 _ _ ?_ ?_ | refine m2 _ _ fun h=>?_ | refine m3 _ ?_ | (refine m4 _ _ (Hd.out ?_);try first | rw [hks] | rw [hk2] | rw [hk3]) | (refine m5 _ _ ?_;cbv)
 all_goals (clear m1 m2 m3 m4 m5;cases m0;(try clear hks;try clear hk2;try clear hk3);try dsimp only)
 all_goals try simp only [sm] at *
 all_goals first
  | exact ⟨h1⟩
  | rfl
theorem qau (a b:List Int)(ha:Z9 a)(hb:Z9 b):qe Tryz.prog 144 [aIs a,aIs b] (rB (J5 a b)):=by
 refine qe.of qc (fn:=Tryz.f144) (c:=Tryz.f144.body.getD .skip) (dr:=fun n=>qa 0 [] n) Tryz.func144 rfl (by kernel_rfl) (by kernel_rfl) (by kernel_rfl) ?_
 obtain ⟨f,hf⟩:∃ f,f=qW:=⟨_,rfl⟩
 obtain ⟨g,hg⟩:∃ g:List Int->List Int->Bool,g=fun l a=>l.any (fun x=>!ZO a x):=⟨_,rfl⟩
 have hO:qp Tryz.prog (qJ [(167,Q7 f),(117,w2 zX (qsx 168) (fun l s=>rB (g l s)) (fun l s=>[LLe l maxLen,LLe s maxLen]))]):=by
  subst hf hg
  exact qb Z7 (qb (qE fun l s h=>Kn l _ _ _ (fun q _=>VL q s (h _ (.tail _ (.head _))).out) (h _ (.head _)).out) qd)
 rw [show J5 a b=(f a&&f b&&!g b a) by rw [hf,hg];unfold J5;rw [show (!List.any b fun x=>!ZO a x)=b.all (ZO a) by rw [List.not_any_eq_all_not];simp]]
 clear hf hg
 refine SEx.go (X:=XX) qc (fun n=>qa [] [] n) (fun _=>none) hO 60 ?_
 intro M R L N m0 m1 m2 m3 m4 m5
 cases M
 cbv
 repeat' first | refine m1 _ _ ?_ ?_ | refine m2 _ _ fun h=>?_ | refine m3 _ ?_ | (refine m4 _ _ (Hd.out ?_);try first | rw [hks] | rw [hk2] | rw [hk3]) | (refine m5 _ _ ?_;cbv)
 all_goals (clear m1 m2 m3 m4 m5;cases m0;(try clear hks;try clear hk2;try clear hk3);try dsimp only)
 all_goals try simp only [sm] at *
 all_goals first
  | exact ha
  | exact hb
  | exact ⟨rfl⟩
  | exact ⟨ha.len⟩
  | exact ⟨hb.len⟩
  | (simp only [jF];simp_all;done)
  | trace_state
theorem Yj (a b:List Int)(ha:Z9 a)(hb:Z9 b):qe Tryz.prog 153 [aIs a,aIs b] (rB (J5 a b)):=by
 refine qe.of qc (fn:=Tryz.f153) (c:=Tryz.f153.body.getD .skip) (dr:=fun n=>qa 0 [] n) Tryz.func153 rfl (by kernel_rfl) (by kernel_rfl) (by kernel_rfl) ?_
 obtain ⟨f,hf⟩:∃ f,f=qW:=⟨_,rfl⟩
 obtain ⟨g,hg⟩:∃ f,f=ZO:=⟨_,rfl⟩
 have hO:qp Tryz.prog (qJ [(171,Q7 f),(48,qix g)]):=by subst hf hg;exact qb vC (qb YH qd)
 rw [show J5 a b=(f a&&f b&&qA (fun _ x=>g a x) (b.drop 0) 0) by rw [hf,hg,List.drop_zero,KL];rfl]
 clear hf hg
 have hal:=ha.len
 have hbl:=hb.len
 unfold maxLen at hbl
 refine SEx.go (X:=XX) qc (fun n=>qa [] [(4,[0,15,16,17])] n) (fun _=>none) hO 60 ?_
 intro M R L N m0 m1 m2 m3 m4 m5
 cases M
 cbv
 repeat' first | refine m1 _ _ ?_ ?_ | refine m2 _ _ fun h=>?_ | refine m3 _ ?_ | (refine m4 _ _ (Hd.out ?_);generalize hks:(List.cons _ _:List K)=ks) | (refine m5 _ _ ?_;cbv)
 all_goals (clear m1 m2 m3 m4 m5;cases m0;try dsimp only)
 all_goals try simp only [sm] at *
 all_goals first
  | exact ha
  | exact hb
  | (simp only [jF];simp_all;done)
  | skip
 rw [show f a=true by assumption,show f b=true by assumption,Bool.true_and,Bool.true_and]
 obtain ⟨m,hm⟩:∃ m,m=b.length:=⟨_,rfl⟩
 refine ⟨SEx.same (SEx.idx m (fun i=>⟨26,[(0,bL (.i a)),(15,bL (.i b)),(16,bI m),(17,bI i)],[]⟩) (fun i=>rB (qA (fun _ x=>g a x) (b.drop i) i)) ?_) (by rw [hm];rfl) rfl⟩
 intro i hi ih
 rw [<-hks]
 refine SEx.go (X:=XX) qc (fun n=>qa [] [(4,[0,15,16,17])] n) (fun _=>none) hO 60 ?_
 intro M R L N m0 m1 m2 m3 m4 m5
 cases M
 cbv
 repeat' first | refine m1 _ _ ?_ ?_ | refine m2 _ _ fun h=>?_ | refine m3 _ ?_ | (refine m4 _ _ (Hd.out ?_);try first | rw [hks] | rw [hk2] | rw [hk3]) | (refine m5 _ _ ?_;cbv)
 all_goals (clear m1 m2 m3 m4 m5;cases m0;(try clear hks;try clear hk2;try clear hk3);try dsimp only)
 all_goals try simp only [sm] at *
 all_goals first
  | omega
  | exact ⟨hal⟩
  | (rw [vV (p:=fun _ x=>g a x) (l:=b) (i:=i) (0:Int) (by omega) (by assumption)];rfl)
  | (simp only [qg (show i<9223372036854775807 by omega)];exact ⟨(ih (by omega)).same rfl (by rw [Wb (p:=fun _ x=>g a x) (l:=b) (i:=i) (0:Int) (by omega) (by assumption)])⟩)
  | (rw [List.drop_eq_nil_of_le (by omega)];rfl)
  | trace_state
def vo (f:List Int->List Int->Bool):Wr:=w2 zX zX (fun a b=>rB (f a b)) (fun a b=>[Z9 a,Z9 b])
theorem qcr:qy Tryz.prog 153 (vo J5):=qE fun a b h=>Yj a b (h _ (.head _)) (h _ (.tail _ (.head _)))
theorem qb8:qy Tryz.prog 144 (vo J5):=qE fun a b h=>qau a b (h _ (.head _)) (h _ (.tail _ (.head _)))
end Go.Proofs.YtifnopmkdempdaaGreat.Ai
namespace Go.Proofs.YtifnopmkdempdaaGreat.Ai
open Go
set_option maxRecDepth 100000
variable [qh]
structure qqI (p:Int):Prop where out:0<p
def zH (l:List qi)(p:Int):Int:=zK (fun q=>q.watch == p) l 0
theorem Je (t:ql)(p:Int)(h1:t.nodes.length<=maxLen):qe Tryz.prog 109 [qQ t,aI p] (rI (zH t.nodes p)):=by
 refine qe.of qc (fn:=Tryz.f109) (c:=Tryz.f109.body.getD .skip) (dr:=fun n=>qa 0 [] n) Tryz.func109 rfl (by kernel_rfl) (by kernel_rfl) (by kernel_rfl) ?_
 obtain ⟨cs,ps,hr⟩:=t
 have h1:cs.length<=maxLen:=h1
 unfold maxLen at h1
 show SEx _ _ _ _ _ _ (rI (zK _ cs 0))
 refine SEx.go (X:=XX) qc (fun n=>qa [] [(2,[1,8,9,10])] n) (fun _=>none) qd 60 ?_
 intro M R L N m0 m1 m2 m3 m4 m5
 cases M
 cbv
 repeat' first | refine m1 _ _ ?_ ?_ | refine m2 _ _ fun h=>?_ | refine m3 _ ?_ | (refine m4 _ _ (Hd.out ?_);generalize hks:(List.cons _ _:List K)=ks) | (refine m5 _ _ ?_;cbv)
 all_goals (clear m1 m2 m3 m4 m5;cases m0;try dsimp only)
 all_goals try simp only [sm] at *
 obtain ⟨n,hn⟩:∃ n,n=cs.length:=⟨_,rfl⟩
 refine ⟨SEx.same (SEx.idx n (fun i=>⟨21,[(1,bI p),(8,bL (.node false none cs)),(9,bI n),(10,bI i)],[]⟩) (fun i=>rI (zK (fun q=>q.watch == p) (cs.drop i) i)) ?_) (by rw [hn];rfl) rfl⟩
 intro i hi ih
 rw [<-hks]
 refine SEx.go (X:=XX) qc (fun n=>qa [] [(2,[1,8,9,10])] n) (fun _=>none) qd 60 ?_
 intro M R L N m0 m1 m2 m3 m4 m5
 cases M
 cbv
 repeat' first | refine m1 _ _ ?_ ?_ | refine m2 _ _ fun h=>?_ | refine m3 _ ?_ | (refine m4 _ _ (Hd.out ?_);try first | rw [hks] | rw [hk2] | rw [hk3]) | (refine m5 _ _ ?_;cbv)
 all_goals (clear m1 m2 m3 m4 m5;cases m0;(try clear hks;try clear hk2;try clear hk3);try dsimp only)
 all_goals try simp only [sm] at *
 all_goals first
  | omega
  | exact ⟨rfl,by cases caps<;>rfl⟩
  | exact ⟨rfl,rfl⟩
  | exact qn (z:=qi.z) (by omega)
  | (rw [jK (p:=fun q=>q.watch == p) (l:=cs) (i:=i) qi.z (by omega) (by first | assumption | exact beq_iff_eq.2 (by assumption))];rfl)
  | (rw [jJ (by omega)];rfl)
  | (simp only [qg (show i<9223372036854775807 by omega)];exact ⟨(ih (by omega)).same rfl (by rw [QG (p:=fun q=>q.watch == p) (l:=cs) (i:=i) qi.z (by omega) (by first | assumption | exact beq_eq_false_iff_ne.2 (by assumption) | (simp_all;done))])⟩)
 all_goals trace_state
def qs6 (k:Nat):Dc Int:=⟨fun s=>aF k [.ptr [.int .i64 s]],fun | (false,[.fn f [.ptr [.int .i64 s]]])=>(match nq f k with | true=>some s | false=>none) | _=>none,by
 intro x a h
 split at h
 . split at h
   . rename_i hk
     obtain rfl:=Q1.1 hk
     simp only [Option.some.injEq] at h;subst h;rfl
   . cases h
 . cases h⟩
theorem VK (q:qi)(p:Int)(hp:0<p):qe Tryz.prog 147 [Wa q,(false,[.ptr [.int .i64 p]])] (rB (q.watch == p)):=by
 refine qe.of qc (fn:=Tryz.f147) (c:=Tryz.f147.body.getD .skip) (dr:=fun n=>qa 0 [] n) Tryz.func147 rfl (by kernel_rfl) (by kernel_rfl) (by kernel_rfl) ?_
 obtain ⟨x1,x2,x3⟩:=q
 refine SEx.go (X:=XX) qc (fun n=>qa [] [] n) (fun _=>none) qd 60 ?_
 intro M R L N m0 m1 m2 m3 m4 m5
 cases M
 cbv
 repeat' first | refine m1 _ _ ?_ ?_ | refine m2 _ _ fun h=>?_ | refine m3 _ ?_ | (refine m4 _ _ (Hd.out ?_);try first | rw [hks] | rw [hk2] | rw [hk3]) | (refine m5 _ _ ?_;cbv)
 all_goals (clear m1 m2 m3 m4 m5;cases m0;(try clear hks;try clear hk2;try clear hk3);try dsimp only)
 all_goals try simp only [sm] at *
 all_goals first
  | rfl
  | (exfalso;omega)
  | trace_state
theorem YY (t:ql)(p:Int)(h1:t.nodes.length<=maxLen)(hp:0<p):qe Tryz.prog 121 [qQ t,aI p] (rI (zH t.nodes p)):=by
 refine qe.of qc (fn:=Tryz.f121) (c:=Tryz.f121.body.getD .skip) (dr:=fun n=>qa 0 [] n) Tryz.func121 rfl (by kernel_rfl) (by kernel_rfl) (by kernel_rfl) ?_
 obtain ⟨f,hf⟩:∃ f,f=zH:=⟨_,rfl⟩
 have hO:qp Tryz.prog (qJ [(146,w2 vL (qs6 147) (fun l s=>rI (f l s)) (fun l s=>[LLe l maxLen,qqI s]))]):=by
  subst hf
  exact qb (qE fun l s h=>YC l _ _ _ (fun q _=>VK q s (h _ (.tail _ (.head _))).out) (h _ (.head _)).out) qd
 obtain ⟨cs,ps,hr⟩:=t
 have h1:cs.length<=maxLen:=h1
 refine SEx.go (X:=XX) qc (fun n=>qa [] [] n) (fun _=>none) hO 60 ?_
 intro M R L N m0 m1 m2 m3 m4 m5
 cases M
 cbv
 repeat' first | refine m1 _ _ ?_ ?_ | refine m2 _ _ fun h=>?_ | refine m3 _ ?_ | (refine m4 _ _ (Hd.out ?_);try first | rw [hks] | rw [hk2] | rw [hk3]) | (refine m5 _ _ ?_;cbv)
 all_goals (clear m1 m2 m3 m4 m5;cases m0;(try clear hks;try clear hk2;try clear hk3);try dsimp only)
 all_goals try simp only [sm] at *
 all_goals first
  | exact ⟨h1⟩
  | exact ⟨hp⟩
  | (subst hf;rfl)
  | trace_state
def KU (f:List qi->Int->Int):Wr:=w2 qN dcI (fun t p=>rI (f t.nodes p)) (fun t p=>[LLe t.nodes maxLen,qqI p])
theorem qcV:qy Tryz.prog 109 (KU zH):=qE fun t p h=>Je t p (h _ (.head _)).out
theorem ve:qy Tryz.prog 121 (KU zH):=qE fun t p h=>YY t p (h _ (.head _)).out (h _ (.tail _ (.head _))).out
end Go.Proofs.YtifnopmkdempdaaGreat.Ai
namespace Go.Proofs.YtifnopmkdempdaaGreat.Ai
open Go
set_option maxRecDepth 100000
variable [qh]
def qfM (n:Int):Bool:=decide (-20<=n)&&decide (n<=20)
theorem qlW (n:Int):qe Tryz.prog 141 [aI n] (rB (qfM n)):=by
 refine qe.of qc (fn:=Tryz.f141) (c:=Tryz.f141.body.getD .skip) (dr:=fun n=>qa 0 [] n) Tryz.func141 rfl (by kernel_rfl) (by kernel_rfl) (by kernel_rfl) ?_
 refine SEx.go (X:=XX) qc (fun n=>qa [] [] n) (fun _=>none) qd 60 ?_
 intro M R L N m0 m1 m2 m3 m4 m5
 cases M
 cbv
 repeat' first | refine m1 _ _ ?_ ?_ | refine m2 _ _ fun h=>?_ | refine m3 _ ?_ | (refine m4 _ _ (Hd.out ?_);try first | rw [hks] | rw [hk2] | rw [hk3]) | (refine m5 _ _ ?_;cbv)
 all_goals (clear m1 m2 m3 m4 m5;cases m0;(try clear hks;try clear hk2;try clear hk3);try dsimp only)
 all_goals try simp only [sm] at *
 all_goals simp only [jF,qfM]
 all_goals first
  | (rw [decide_eq_false (show ¬-20<=n by omega)];rfl)
  | (rw [decide_eq_true (show -20<=n by omega),Bool.true_and])
def qqR (f:Int->Bool):Wr:=w1 dcI (fun n=>rB (f n)) (fun _=>[])
theorem qmE:qy Tryz.prog 141 (qqR qfM):=zx fun n _=>qlW n
def jy (a b:List Int):Bool:=decide (a.length=b.length)&&qA (fun i x=>x == b.getD i 0) a 0
theorem qhe (a b:List Int)(h1:a.length<=maxLen)(h2:b.length<=maxLen):qe Tryz.prog 68 [aIs a,aIs b] (rB (jy a b)):=by
 refine qe.of qc (fn:=Tryz.f68) (c:=Tryz.f68.body.getD .skip) (dr:=fun n=>qa 0 [] n) Tryz.func68 rfl (by kernel_rfl) (by kernel_rfl) (by kernel_rfl) ?_
 unfold maxLen at h1 h2
 rw [show jy a b=(decide (a.length=b.length)&&qA (fun i x=>x == b.getD i 0) (a.drop 0) 0) by rw [List.drop_zero];rfl]
 refine SEx.go (X:=XX) qc (fun n=>qa [] [(4,[1,12,13,14])] n) (fun _=>none) qd 60 ?_
 intro M R L N m0 m1 m2 m3 m4 m5
 cases M
 cbv
 repeat' first | refine m1 _ _ ?_ ?_ | refine m2 _ _ fun h=>?_ | refine m3 _ ?_ | (refine m4 _ _ (Hd.out ?_);generalize hks:(List.cons _ _:List K)=ks) | (refine m5 _ _ ?_;cbv)
 all_goals (clear m1 m2 m3 m4 m5;cases m0;try dsimp only)
 all_goals try simp only [sm] at *
 . simp only [jF];rw [decide_eq_false (by omega)];rfl
 have hab:a.length=b.length:=by omega
 rw [decide_eq_true hab,Bool.true_and]
 obtain ⟨m,hm⟩:∃ m,m=a.length:=⟨_,rfl⟩
 refine ⟨SEx.same (SEx.idx m (fun i=>⟨26,[(1,bL (.i b)),(12,bL (.i a)),(13,bI m),(14,bI i)],[]⟩) (fun i=>rB (qA (fun i x=>x == b.getD i 0) (a.drop i) i)) ?_) (by rw [hm];rfl) rfl⟩
 intro i hi ih
 rw [<-hks]
 refine SEx.go (X:=XX) qc (fun n=>qa [] [(4,[1,12,13,14])] n) (fun _=>none) qd 60 ?_
 intro M R L N m0 m1 m2 m3 m4 m5
 cases M
 cbv
 repeat' first | refine m1 _ _ ?_ ?_ | refine m2 _ _ fun h=>?_ | refine m3 _ ?_ | (refine m4 _ _ (Hd.out ?_);try first | rw [hks] | rw [hk2] | rw [hk3]) | (refine m5 _ _ ?_;cbv)
 all_goals (clear m1 m2 m3 m4 m5;cases m0;(try clear hks;try clear hk2;try clear hk3);try dsimp only)
 all_goals try simp only [sm] at *
 all_goals first
  | omega
  | (rw [vV (p:=fun i x=>x == b.getD i 0) (l:=a) (i:=i) (0:Int) (by omega) (beq_eq_false_iff_ne.2 (by assumption))];rfl)
  | (simp only [qg (show i<9223372036854775807 by omega)];exact ⟨(ih (by omega)).same rfl (by rw [Wb (p:=fun i x=>x == b.getD i 0) (l:=a) (i:=i) (0:Int) (by omega) (beq_iff_eq.2 (by assumption))])⟩)
  | (rw [List.drop_eq_nil_of_le (by omega)];rfl)
  | trace_state
theorem qlI (a b:List Int)(h1:a.length<=maxLen)(h2:b.length<=maxLen):qe Tryz.prog 76 [aIs a,aIs b] (rB (jy a b)):=by
 refine qe.of qc (fn:=Tryz.f76) (c:=Tryz.f76.body.getD .skip) (dr:=fun n=>qa 0 [(6,8)] n) Tryz.func76 rfl (by kernel_rfl) (by kernel_rfl) (by kernel_rfl) ?_
 unfold maxLen at h1 h2
 rw [show jy a b=(decide (a.length=b.length)&&qA (fun i x=>x == b.getD i 0) (a.drop 0) 0) by rw [List.drop_zero];rfl]
 refine SEx.go (X:=XX) qc (fun n=>qa [] [(4,[0,1,12,13])] n) (fun _=>none) qd 60 ?_
 intro M R L N m0 m1 m2 m3 m4 m5
 cases M
 cbv
 repeat' first | refine m1 _ _ ?_ ?_ | refine m2 _ _ fun h=>?_ | refine m3 _ ?_ | (refine m4 _ _ (Hd.out ?_);generalize hks:(List.cons _ _:List K)=ks) | (refine m5 _ _ ?_;cbv)
 all_goals (clear m1 m2 m3 m4 m5;cases m0;try dsimp only)
 all_goals try simp only [sm] at *
 . simp only [jF];rw [decide_eq_false (by omega)];rfl
 have hab:a.length=b.length:=by omega
 rw [decide_eq_true hab,Bool.true_and]
 obtain ⟨m,hm⟩:∃ m,m=a.length:=⟨_,rfl⟩
 refine ⟨SEx.same (SEx.idx m (fun i=>⟨26,[(0,bL (.i a)),(1,bL (.i b)),(12,bI m),(13,bI i)],[]⟩) (fun i=>rB (qA (fun i x=>x == b.getD i 0) (a.drop i) i)) ?_) (by rw [hm];rfl) rfl⟩
 intro i hi ih
 rw [<-hks]
 refine SEx.go (X:=XX) qc (fun n=>qa [] [(4,[0,1,12,13])] n) (fun _=>none) qd 60 ?_
 intro M R L N m0 m1 m2 m3 m4 m5
 cases M
 cbv
 repeat' first | refine m1 _ _ ?_ ?_ | refine m2 _ _ fun h=>?_ | refine m3 _ ?_ | (refine m4 _ _ (Hd.out ?_);try first | rw [hks] | rw [hk2] | rw [hk3]) | (refine m5 _ _ ?_;cbv)
 all_goals (clear m1 m2 m3 m4 m5;cases m0;(try clear hks;try clear hk2;try clear hk3);try dsimp only)
 all_goals try simp only [sm] at *
 all_goals first
  | omega
  | (rw [vV (p:=fun i x=>x == b.getD i 0) (l:=a) (i:=i) (0:Int) (by omega) (beq_eq_false_iff_ne.2 (by assumption))];rfl)
  | (simp only [qg (show i<9223372036854775807 by omega)];exact ⟨(ih (by omega)).same rfl (by rw [Wb (p:=fun i x=>x == b.getD i 0) (l:=a) (i:=i) (0:Int) (by omega) (beq_iff_eq.2 (by assumption))])⟩)
  | (rw [List.drop_eq_nil_of_le (by omega)];rfl)
  | trace_state
theorem qa7:∀ (a c:List Int) (b:List Int) (k:Nat),c=b.drop k->a.length=c.length->(qA (fun i x=>x == b.getD i 0) a k=decide (a=c))
 | [],[],_,_,_,_=>rfl
 | [],_::_,_,_,_,h=>by simp at h
 | _::_,[],_,_,_,h=>by simp at h
 | x::r,y::s,b,k,hc,hl=>by
   have hk:k<b.length:=by
    apply Decidable.byContradiction;intro h
    rw [List.drop_eq_nil_of_le (by omega)] at hc;cases hc
   rw [List.drop_eq_getElem_cons hk] at hc
   injection hc with h1 h2
   unfold qA
   rw [qa7 r s b (k+1) h2 (by simpa using hl),List.getD_eq_getElem?_getD,List.getElem?_eq_getElem hk,Option.getD_some,<-h1]
   rw [Bool.eq_iff_iff];simp
theorem KJ (a b:List Int):jy a b=decide (a=b):=by
 unfold jy
 by_cases h:a.length=b.length
 . rw [decide_eq_true h,Bool.true_and,qa7 a b b 0 rfl h]
 . rw [decide_eq_false h,Bool.false_and,decide_eq_false (fun e=>h (by rw [e]))]
def WY (f:List Int->List Int->Bool):Wr:=w2 zX zX (fun a b=>rB (f a b)) (fun a b=>[LLe a maxLen,LLe b maxLen])
theorem qa2:qy Tryz.prog 68 (WY jy):=qE fun a b h=>qhe a b (h _ (.head _)).out (h _ (.tail _ (.head _))).out
theorem qa3:qy Tryz.prog 76 (WY jy):=qE fun a b h=>qlI a b (h _ (.head _)).out (h _ (.tail _ (.head _))).out
structure Y9 (q:qi):Prop where
 name:q.name.size<=maxLen
 len:q.label.length<=maxLen
 all:∀ n∈q.label,inI n
def VY (f:qi->Bool):Wr:=w1 wm (fun q=>rB (f q)) (fun q=>[Y9 q])
theorem qeB:qy Tryz.prog 151 (VY QS):=zx fun q h=>qay q (h _ (.head _)).name (h _ (.head _)).len (h _ (.head _)).all
theorem qdA:qy Tryz.prog 139 (VY QS):=zx fun q h=>qa1 q (h _ (.head _)).name (h _ (.head _)).len (h _ (.head _)).all
end Go.Proofs.YtifnopmkdempdaaGreat.Ai
namespace Go.Proofs.YtifnopmkdempdaaGreat.Ai
open Go
set_option maxRecDepth 100000
variable [qh]
def Jm (l:List Tie)(x:Int):Int:=zK (fun q=>q.free&&q.dst == x) l 0
theorem qf9 (t:ql)(x:Int)(h1:t.ties.length<=maxLen):qe Tryz.prog 107 [qQ t,aI x] (rI (Jm t.ties x)):=by
 refine qe.of qc (fn:=Tryz.f107) (c:=Tryz.f107.body.getD .skip) (dr:=fun n=>qa 0 [] n) Tryz.func107 rfl (by kernel_rfl) (by kernel_rfl) (by kernel_rfl) ?_
 obtain ⟨ns,cs,hr⟩:=t
 have h1:cs.length<=maxLen:=h1
 unfold maxLen at h1
 show SEx _ _ _ _ _ _ (rI (zK _ cs 0))
 refine SEx.go (X:=XX) qc (fun n=>qa [] [(2,[1,8,9,10])] n) (fun _=>none) qd 60 ?_
 intro M R L N m0 m1 m2 m3 m4 m5
 cases M
 cbv
 repeat' first | refine m1 _ _ ?_ ?_ | refine m2 _ _ fun h=>?_ | refine m3 _ ?_ | (refine m4 _ _ (Hd.out ?_);generalize hks:(List.cons _ _:List K)=ks) | (refine m5 _ _ ?_;cbv)
 all_goals (clear m1 m2 m3 m4 m5;cases m0;try dsimp only)
 all_goals try simp only [sm] at *
 obtain ⟨n,hn⟩:∃ n,n=cs.length:=⟨_,rfl⟩
 refine ⟨SEx.same (SEx.idx n (fun i=>⟨25,[(1,bI x),(8,bL (.tie cs)),(9,bI n),(10,bI i)],[]⟩) (fun i=>rI (zK (fun q=>q.free&&q.dst == x) (cs.drop i) i)) ?_) (by rw [hn];rfl) rfl⟩
 intro i hi ih
 rw [<-hks]
 refine SEx.go (X:=XX) qc (fun n=>qa [] [(2,[1,8,9,10])] n) (fun _=>none) qd 60 ?_
 intro M R L N m0 m1 m2 m3 m4 m5
 cases M
 cbv
 repeat' first | refine m1 _ _ ?_ ?_ | refine m2 _ _ fun h=>?_ | refine m3 _ ?_ | (refine m4 _ _ (Hd.out ?_);try first | rw [hks] | rw [hk2] | rw [hk3]) | (refine m5 _ _ ?_;cbv)
 all_goals (clear m1 m2 m3 m4 m5;cases m0;(try clear hks;try clear hk2;try clear hk3);try dsimp only)
 all_goals try simp only [sm] at *
 all_goals first
  | omega
  | (rw [jK (p:=fun q=>q.free&&q.dst == x) (l:=cs) (i:=i) Tie.z (by omega) (by simp_all)];rfl)
  | (rw [jJ (by omega)];rfl)
  | (simp only [qg (show i<9223372036854775807 by omega)];exact ⟨(ih (by omega)).same rfl (by rw [QG (p:=fun q=>q.free&&q.dst == x) (l:=cs) (i:=i) Tie.z (by omega) (by simp_all)])⟩)
def qek (f:List Tie->Int->Int):Wr:=w2 qN dcI (fun t x=>rI (f t.ties x)) (fun t _=>[LLe t.ties maxLen])
theorem qbF:qy Tryz.prog 107 (qek Jm):=qE fun t x h=>qf9 t x (h _ (.head _)).out
end Go.Proofs.YtifnopmkdempdaaGreat.Ai
namespace Go.Proofs.YtifnopmkdempdaaGreat.Ai
open Go
set_option maxRecDepth 100000
variable [qh]
def nd (ns:List qi)(x:Int):qi:=ns.getD x.toNat qi.z
def wH (ns:List qi)(ts:List Tie)(i:Nat)(q:Tie):Bool :=
 decide (0<=q.src/\q.src<=ns.length-1/\0<=q.dst/\q.dst<=ns.length-1/\¬q.src=q.dst/\-20<=q.low/\q.high<=20/\q.low<=q.high)&&(!q.free||(decide (1<=q.low/\¬q.dst=0/\(nd ns q.dst).watch=0)&&jy (nd ns q.src).label (nd ns q.dst).label&&decide (Jm ts q.dst=i)))
theorem qgU (t:ql)(i:Int)(hi:0<=i/\i<t.ties.length)(h1:t.nodes.length<=maxLen)(h2:t.ties.length<=maxLen)(h3:∀ q∈t.nodes,q.label.length<=maxLen):qe Tryz.prog 133 [qQ t,aI i] (rB (wH t.nodes t.ties i.toNat (t.ties.getD i.toNat Tie.z))):=by
 refine qe.of qc (fn:=Tryz.f133) (c:=Tryz.f133.body.getD .skip) (dr:=fun n=>qa 0 [(5,45)] n) Tryz.func133 rfl (by kernel_rfl) (by kernel_rfl) (by kernel_rfl) ?_
 obtain ⟨f0,hf0⟩:∃ f,f=kb:=⟨_,rfl⟩
 obtain ⟨f1,hf1⟩:∃ f,f=jy:=⟨_,rfl⟩
 obtain ⟨f2,hf2⟩:∃ f,f=Jm:=⟨_,rfl⟩
 have hO:qp Tryz.prog (qJ [(104,Ys f0),(68,WY f1),(107,qek f2)]):=by subst hf0 hf1 hf2;exact qb Qf (qb qa2 (qb qbF qd))
 obtain ⟨ns,ts,hr⟩:=t
 have hi:0<=i/\i<ts.length:=hi
 have h1:ns.length<=maxLen:=h1
 have h2:ts.length<=maxLen:=h2
 have h3:∀ q∈ns,q.label.length<=maxLen:=h3
 show SEx _ _ _ _ _ _ (rB (wH ns ts i.toNat (ts.getD i.toNat Tie.z)))
 obtain ⟨n,rfl⟩:∃ n:Nat,i=n:=⟨i.toNat,by omega⟩
 refine SEx.go (X:=XX) qc (fun n=>qa [] [] n) (fun _=>none) hO 60 ?_
 intro M R L N m0 m1 m2 m3 m4 m5
 cases M
 cbv
 repeat' first | refine m1 _ _ ?_ ?_ | refine m2 _ _ fun h=>?_ | refine m3 _ ?_ | (refine m4 _ _ (Hd.out ?_);try first | rw [hks] | rw [hk2] | rw [hk3]) | (refine m5 _ _ ?_;cbv)
 all_goals (clear m1 m2 m3 m4 m5;cases m0;(try clear hks;try clear hk2;try clear hk3);try dsimp only)
 all_goals try simp only [sm] at *
 all_goals (have hQ:=qn (z:=Tie.z) (l:=ts) (i:=n) (by omega);generalize ts.getD n Tie.z=q at *;obtain ⟨x1,x2,x3,x4,x5⟩:=q)
 all_goals (clear hO;subst hf0 hf1 hf2;unfold maxLen at h1 h2;try dsimp only at *)
 all_goals (try simp only [qr (n:=(ns.length:Int)-1) (by omega) (by omega),kb,Bool.and_eq_true,Bool.and_eq_false_iff,decide_eq_true_eq,decide_eq_false_iff_not] at *)
 all_goals first
  | omega
  | exact ⟨h2⟩
  | exact ⟨h3 _ (qn (z:=qi.z) (by omega)).out⟩
  | (simp only [jF];symm;rw [Bool.eq_false_iff];intro h;simp only [wH,Bool.and_eq_true,Bool.or_eq_true,Bool.not_eq_true',decide_eq_true_eq] at h;simp only [nd] at h;first | omega | (simp_all;done) | (simp_all;omega))
  | (simp only [jF];symm;simp only [wH,Bool.and_eq_true,Bool.or_eq_true,Bool.not_eq_true',decide_eq_true_eq];first | (refine ⟨by omega,.inl ?_⟩;assumption) | (refine ⟨by omega,.inr ⟨⟨by omega,?_⟩,?_⟩⟩<;>assumption))
  | (simp only [jF];simp only [wH,nd];rw [Bool.eq_iff_iff];simp only [Bool.and_eq_true,Bool.or_eq_true,Bool.not_eq_true',decide_eq_true_eq,beq_iff_eq];constructor;(· intro h;exact ⟨by omega,.inr ⟨⟨⟨by assumption,by assumption,by assumption⟩,by assumption⟩,h⟩⟩);(· rintro ⟨-,h | h⟩;(· have:=h.symm.trans (by assumption:_=true);cases this);(· exact h.2)))
  | (simp only [jF];rw [Bool.eq_iff_iff];simp only [wH,Bool.and_eq_true,Bool.or_eq_true,Bool.not_eq_true',decide_eq_true_eq,beq_iff_eq];simp only [nd];constructor;(· intro h;exact ⟨by omega,.inr ⟨⟨⟨by assumption,by assumption,by assumption⟩,by assumption⟩,h⟩⟩);(· rintro ⟨-,h | h⟩;(· have:=h.symm.trans (by assumption:_=true);cases this);(· exact h.2)))
def qry {α:Type}(k:Nat)(g:Bool)(d:Dc α)(hg:∀ a,(d.enc a).1=g):Dc α:=⟨fun a=>aF k [.ptr (d.enc a).2],fun | (false,[.fn f [.ptr x]])=>(match nq f k with | true=>d.dec (g,x) | false=>none) | _=>none,by
 intro x a h
 split at h
 . split at h
   . rename_i hk
     obtain rfl:=Q1.1 hk
     have:=d.ok _ _ h
     have e:=congrArg Prod.snd this
     simp only [ke] at e
     simp only [ke,D.erL,D.er,aF,e]
   . cases h
 . cases h⟩
theorem qeX (u t:Tie):qe Tryz.prog 142 [y8 u,(false,[.ptr t.d])] (rB (u.free&&u.dst == t.dst)):=by
 refine qe.of qc (fn:=Tryz.f142) (c:=Tryz.f142.body.getD .skip) (dr:=fun n=>qa 0 [] n) Tryz.func142 rfl (by kernel_rfl) (by kernel_rfl) (by kernel_rfl) ?_
 obtain ⟨x1,x2,x3,x4,x5⟩:=u
 obtain ⟨y1,y2,y3,y4,y5⟩:=t
 refine SEx.go (X:=XX) qc (fun n=>qa [] [] n) (fun _=>none) qd 60 ?_
 intro M R L N m0 m1 m2 m3 m4 m5
 cases M
 cbv
 repeat' first | refine m1 _ _ ?_ ?_ | refine m2 _ _ fun h=>?_ | refine m3 _ ?_ | (refine m4 _ _ (Hd.out ?_);try first | rw [hks] | rw [hk2] | rw [hk3]) | (refine m5 _ _ ?_;cbv)
 all_goals (clear m1 m2 m3 m4 m5;cases m0;(try clear hks;try clear hk2;try clear hk3);try dsimp only)
 all_goals try simp only [sm] at *
 all_goals simp only [jF]
 all_goals (rw [show x5=_ by assumption];rfl)
def qsY (k:Nat):Dc Tie:=qry k true Yc fun _=>rfl
def qdC (ns:List qi)(ts:List Tie)(i:Nat)(q:Tie):Bool :=
 decide (0<=q.src/\q.src<=ns.length-1/\0<=q.dst/\q.dst<=ns.length-1/\¬q.src=q.dst/\-20<=q.low/\q.high<=20/\q.low<=q.high)&&(!q.free||(decide (1<=q.low/\¬q.dst=0/\(nd ns q.dst).watch=0)&&jy (nd ns q.dst).label (nd ns q.src).label&&!((ts.take i).any fun u=>u.free&&u.dst == q.dst)))
theorem qha (t:ql)(h1:t.nodes.length<=maxLen)(h2:t.ties.length<=maxLen)(h3:∀ q∈t.nodes,q.label.length<=maxLen):qe Tryz.prog 116 [qQ t] (rB (qA (qdC t.nodes t.ties) t.ties 0&&decide (t.ties.length<=14))):=by
 refine qe.of qc (fn:=Tryz.f116) (c:=Tryz.f116.body.getD .skip) (dr:=fun n=>qa 0 [(7,33)] n) Tryz.func116 rfl (by kernel_rfl) (by kernel_rfl) (by kernel_rfl) ?_
 obtain ⟨f0,hf0⟩:∃ f,f=vK:=⟨_,rfl⟩
 obtain ⟨f1,hf1⟩:∃ f,f=jy:=⟨_,rfl⟩
 obtain ⟨f2,hf2⟩:∃ f,f=qfM:=⟨_,rfl⟩
 obtain ⟨f3,hf3⟩:∃ f:List Tie->Tie->Bool,f=fun l q=>l.any fun u=>u.free&&u.dst == q.dst:=⟨_,rfl⟩
 have hO:qp Tryz.prog (qJ [(140,qjW f0),(141,qqR f2),(76,WY f1),(125,w2 K8 (qsY 142) (fun l q=>rB (f3 l q)) (fun l q=>[LLe l maxLen]))]):=by
  subst hf0 hf1 hf2 hf3
  exact qb qgz (qb qmE (qb qa3 (qb (qE fun l q h=>Ji l _ _ _ (fun u _=>qeX u q) (h _ (.head _)).out) qd)))
 obtain ⟨ns,ts,hr⟩:=t
 have h1:ns.length<=maxLen:=h1
 have h2:ts.length<=maxLen:=h2
 have h3:∀ q∈ns,q.label.length<=maxLen:=h3
 unfold maxLen at h1 h2
 show SEx _ _ _ _ _ _ (rB (qA (qdC ns ts) ts 0&&decide (ts.length<=14)))
 obtain ⟨c,hc⟩:∃ c,c=decide (ts.length<=14):=⟨_,rfl⟩
 obtain ⟨p,hp⟩:∃ p,p=qdC ns ts:=⟨_,rfl⟩
 rw [<-hc,<-hp]
 refine SEx.go (X:=XX) qc (fun n=>qa [] [(2,[1,6,7,8])] n) (fun _=>none) hO 60 ?_
 intro M R L N m0 m1 m2 m3 m4 m5
 cases M
 cbv
 repeat' first | refine m1 _ _ ?_ ?_ | refine m2 _ _ fun h=>?_ | refine m3 _ ?_ | (refine m4 _ _ (Hd.out ?_);generalize hks:(List.cons _ _:List K)=ks) | (refine m5 _ _ ?_;cbv)
 all_goals (clear m1 m2 m3 m4 m5;cases m0;try dsimp only)
 all_goals try simp only [sm] at *
 obtain ⟨m,hm⟩:∃ m,m=ts.length:=⟨_,rfl⟩
 refine ⟨SEx.same (SEx.idx m (fun i=>⟨105,[(1,bP 4096),(6,bL (.tie ts)),(7,bI m),(8,bI i)],[(4096,.obx [.fz (.sl (.node false none ns)),.fz (.sl (.tie ts)),.fz (.int .i64 hr)])]⟩) (fun i=>rB (qA p (ts.drop i) i&&c)) ?_) (by rw [hm];rfl) rfl⟩
 intro i hi ih
 rw [<-hks]
 have hl:i<m->zb _ _ _:=fun h=>zb.of p ts i c Tie.z (by omega)
 have he:i=m->(qA p (ts.drop i) i&&c)=c:=fun h=>qP (by omega)
 refine SEx.go (X:=XX) qc (fun n=>qa [] [(2,[1,6,7,8])] n) (fun _=>none) hO 60 ?_
 intro M R L N m0 m1 m2 m3 m4 m5
 cases M
 cbv
 repeat' first | refine m1 _ _ ?_ ?_ | refine m2 _ _ fun h=>?_ | refine m3 _ ?_ | (refine m4 _ _ (Hd.out ?_);try first | rw [hks] | rw [hk2] | rw [hk3]) | (refine m5 _ _ ?_;cbv)
 all_goals (clear m1 m2 m3 m4 m5;cases m0;(try clear hks;try clear hk2;try clear hk3);try dsimp only)
 all_goals try simp only [sm] at *
 all_goals (clear hO;subst hf0 hf1 hf2 hf3)
 all_goals (try simp only [qg (show i<9223372036854775807 by omega)])
 all_goals (try refine ⟨(ih (by omega)).same rfl ?_⟩)
 all_goals (clear ih)
 all_goals (generalize ts.getD i Tie.z=q at *;obtain ⟨x1,x2,x3,x4,x5⟩:=q;try dsimp only at *)
 all_goals (try simp only [vK,qfM,Bool.and_eq_true,Bool.and_eq_false_iff,decide_eq_true_eq,decide_eq_false_iff_not] at *)
 all_goals first
  | omega
  | exact ⟨h3 _ (qn (z:=qi.z) (by omega)).out⟩
  | (refine ⟨?_⟩;simp only [List.length_take];omega)
  | (rw [he (by omega),hc];simp only [jF];apply decide_eq_decide.2;omega)
  | (refine (hl (by omega)).stop _ ?_;clear hl he;rw [hp,Bool.eq_false_iff];intro h;simp only [qdC,Bool.and_eq_true,Bool.or_eq_true,Bool.not_eq_true',decide_eq_true_eq] at h;simp only [nd] at h;first | omega | (rcases h with ⟨-,h | h⟩;(· simp_all;done);(· refine absurd h.2 ?_;rw [Bool.not_eq_false];assumption)) | (generalize ns.getD x2.toNat qi.z=r2 at *;generalize ns.getD x1.toNat qi.z=r1 at *;cases r1;cases r2;simp_all;done) | (simp_all;omega))
  | (refine (hl (by omega)).go ?_;clear hl he;rw [hp];simp only [qdC,Bool.and_eq_true,Bool.or_eq_true,Bool.not_eq_true',decide_eq_true_eq];first | (refine ⟨by omega,.inl ?_⟩;assumption) | (refine ⟨by omega,.inr ⟨⟨⟨by omega,by omega,by assumption⟩,?_⟩,?_⟩⟩<;>assumption))
  | trace_state
theorem JU {α:Type}{p:α->Bool}:∀ {l:List α} {i:Nat} (n:Nat) (z:α),i<l.length->p (l.getD i z)=true->(zK p l n=(n+i:Nat)↔(l.take i).any p=false)
 | [],i,n,z,h,_=>absurd h (Nat.not_lt_zero _)
 | a::r,0,n,z,_,hp=>by simp only [List.getD_cons_zero] at hp;simp [zK,hp]
 | a::r,i+1,n,z,h,hp=>by
   simp only [List.getD_cons_succ] at hp
   simp only [List.length_cons] at h
   have ih:=JU (l:=r) (i:=i) (n+1) z (by omega) hp
   have hge:=(qcl p r (n+1)).2
   unfold zK
   simp only [List.take_succ_cons,List.any_cons]
   cases ha:p a with
   | true=>simp;omega
   | false =>
     simp only [Bool.false_or,Bool.false_eq_true,if_false]
     rw [<-ih,show n+1+i=n+(i+1) by omega]
theorem qiy (a b:List Int):jy a b=jy b a:=by
 rw [KJ,KJ,Bool.eq_iff_iff]
 simp only [decide_eq_true_eq]
 exact ⟨fun h=>h.symm,fun h=>h.symm⟩
theorem qqv {ns:List qi}{ts:List Tie}{i:Nat}{q:Tie}(h:ts[i]?=some q):qdC ns ts i q=wH ns ts i q:=by
 have hi:i<ts.length:=by rw [List.getElem?_eq_some_iff] at h;exact h.1
 have hq:ts.getD i Tie.z=q:=by rw [List.getD_eq_getElem?_getD,h];rfl
 unfold qdC wH
 cases hf:q.free with
 | false=>rfl
 | true =>
   have e:decide (Jm ts q.dst=i)=!((ts.take i).any fun u=>u.free&&u.dst == q.dst):=by
    have:=JU (p:=fun u:Tie=>u.free&&u.dst == q.dst) (l:=ts) (i:=i) 0 Tie.z hi (by rw [hq,hf];simp)
    rw [Nat.zero_add] at this
    rw [Bool.eq_iff_iff]
    simp only [decide_eq_true_eq,Bool.not_eq_true']
    exact this
   rw [e,qiy]
theorem qpZ (ns:List qi)(ts:List Tie):qA (qdC ns ts) ts 0=qA (wH ns ts) ts 0:=wP ts 0 fun i q h=>by rw [Nat.zero_add];exact qqv h
def qst (f:List qi->List Tie->Nat->Tie->Bool):Wr:=w2 qN dcI (fun t i=>rB (f t.nodes t.ties i.toNat (t.ties.getD i.toNat Tie.z))) (fun t i=>[InX i t.ties,LLe t.nodes maxLen,LLe t.ties maxLen,Wx t.nodes maxLen])
theorem qqr:qy Tryz.prog 133 (qst wH):=qE fun t i h=>qgU t i (h _ (.head _)).out (h _ (.tail _ (.head _))).out (h _ (.tail _ (.tail _ (.head _)))).out (h _ (.tail _ (.tail _ (.tail _ (.head _))))).out
def qeJ (f:List qi->List Tie->Bool):Wr:=w1 qN (fun t=>rB (f t.nodes t.ties)) (fun t=>[LLe t.nodes maxLen,LLe t.ties maxLen,Wx t.nodes maxLen])
def J4 (ns:List qi)(ts:List Tie):Bool:=qA (wH ns ts) ts 0&&decide (ts.length<=14)
theorem qft:qy Tryz.prog 116 (qeJ J4):=zx fun t h=>by unfold J4;rw [<-qpZ];exact qha t (h _ (.head _)).out (h _ (.tail _ (.head _))).out (h _ (.tail _ (.tail _ (.head _)))).out
end Go.Proofs.YtifnopmkdempdaaGreat.Ai
namespace Go.Proofs.YtifnopmkdempdaaGreat.Ai
open Go
set_option maxRecDepth 100000
variable [qh]
def qlq (x:Int):Int:=IntKind.i64.wrap (-x)
def Vl (cs:List qi)(x:Int):List Int:=(cs.getD x.toNat qi.z).label
def wdB (cs:List qi)(l:List Int)(x:Int):Bool:=decide (0<=zH cs (zG x))&&(!ZO (Vl cs (zH cs (zG x))) x&&(!ZO (Vl cs (zH cs (zG x))) (qlq x)&&J5 l (Vl cs (zH cs (zG x)))))
def WE (f:List qi->Int->Int):Wr:=w2 qN dcI (fun t p=>rI (f t.nodes p)) (fun t p=>[LLe t.nodes maxLen])
theorem vJ:qy Tryz.prog 109 (WE zH):=qE fun t p h=>Je t p (h _ (.head _)).out
def qnB (f:List qi->ByteArray->Int):Wr:=w2 qN dcS (fun t p=>rI (f t.nodes p)) (fun t p=>[LLe t.nodes maxLen])
def qiP (l:List qi)(s:ByteArray):Int:=zK (fun q=>eqS q.name s) l 0
theorem qko:qy Tryz.prog 152 (qnB qiP):=qE fun t p h=>qc9 t p (h _ (.head _)).out
theorem V4 (l:List qi)(p:Int):zH l p<l.length/\(0<=zH l p\/zH l p=-1):=by
 unfold zH
 have:=qcl (fun q:qi=>q.watch == p) l 0
 omega
theorem qde (t:ql)(l:List Int)(x:Int)(h1:t.nodes.length<=maxLen)(h2:∀ q∈t.nodes,Z9 q.label)(hl:Z9 l)(hx:inI x)(hp:0<zG x):qe Tryz.prog 119 [qQ t,aIs l,aI x] (rB (wdB t.nodes l x)):=by
 refine qe.of qc (fn:=Tryz.f119) (c:=Tryz.f119.body.getD .skip) (dr:=fun n=>qa 0 [(1,3)] n) Tryz.func119 rfl (by kernel_rfl) (by kernel_rfl) (by kernel_rfl) ?_
 obtain ⟨f0,hf0⟩:∃ f,f=zG:=⟨_,rfl⟩
 obtain ⟨f1,hf1⟩:∃ f,f=zH:=⟨_,rfl⟩
 obtain ⟨f2,hf2⟩:∃ f,f=ZO:=⟨_,rfl⟩
 obtain ⟨f3,hf3⟩:∃ f,f=J5:=⟨_,rfl⟩
 have hO:qp Tryz.prog (qJ [(143,VJ f0),(121,KU f1),(54,qix f2),(144,vo f3)]):=by
  subst hf0 hf1 hf2 hf3
  exact qb W1 (qb ve (qb qeN (qb qb8 qd)))
 obtain ⟨ns,ts,hr⟩:=t
 have h1:ns.length<=maxLen:=h1
 have h2:∀ q∈ns,Z9 q.label:=h2
 show SEx _ _ _ _ _ _ (rB (wdB ns l x))
 rw [<-hf0] at hp
 have hlt:f1 ns (f0 x)<ns.length:=by rw [hf1];exact (V4 _ _).1
 refine SEx.go (X:=XX) qc (fun n=>qa [] [] n) (fun _=>none) hO 60 ?_
 intro M R L N m0 m1 m2 m3 m4 m5
 cases M
 cbv
 repeat' first | refine m1 _ _ ?_ ?_ | refine m2 _ _ fun h=>?_ | refine m3 _ ?_ | (refine m4 _ _ (Hd.out ?_);try first | rw [hks] | rw [hk2] | rw [hk3]) | (refine m5 _ _ ?_;cbv)
 all_goals (clear m1 m2 m3 m4 m5;cases m0;(try clear hks;try clear hk2;try clear hk3);try dsimp only)
 all_goals try simp only [sm] at *
 all_goals (clear hO;subst hf0 hf1 hf2 hf3)
 all_goals first
  | exact ⟨hx⟩
  | exact ⟨h1⟩
  | exact ⟨hp⟩
  | exact hl
  | omega
  | exact ⟨(h2 _ (qn (z:=qi.z) (by omega)).out).len⟩
  | exact h2 _ (qn (z:=qi.z) (by omega)).out
  | (simp only [jF];unfold wdB Vl qlq;delta qi.label;rw [decide_eq_false (by omega)];rfl)
  | (simp only [jF];unfold wdB Vl qlq;delta qi.label;rw [decide_eq_true (by omega)];simp_all;done)
  | skip
structure qth (x:Int):Prop where out:0<zG x
structure qr9 (cs:List qi):Prop where out:∀ q∈cs,Z9 q.label
theorem qg1 (x:Int)(t:ql)(q:qi)(h1:t.nodes.length<=maxLen)(h2:∀ q∈t.nodes,Z9 q.label)(hl:Z9 q.label)(hx:inI x)(hp:0<zG x):qe Tryz.prog 118 [aI x,(false,[.ptr t.d]),(false,[.ptr q.d])] (rB (!wdB t.nodes q.label x)):=by
 refine qe.of qc (fn:=Tryz.f118) (c:=Tryz.f118.body.getD .skip) (dr:=fun n=>qa 0 [] n) Tryz.func118 rfl (by kernel_rfl) (by kernel_rfl) (by kernel_rfl) ?_
 obtain ⟨f,hf⟩:∃ f,f=wdB:=⟨_,rfl⟩
 have hO:qp Tryz.prog (qJ [(119,w3 qN zX dcI (fun t l x=>rB (f t.nodes l x)) (fun t l x=>[LLe t.nodes maxLen,qr9 t.nodes,Z9 l,IIn x,qth x]))]):=by
  subst hf
  exact qb (jv fun t l x h=>qde t l x (h _ (.head _)).out (h _ (.tail _ (.head _))).out (h _ (.tail _ (.tail _ (.head _)))) (h _ (.tail _ (.tail _ (.tail _ (.head _))))).out (h _ (.tail _ (.tail _ (.tail _ (.tail _ (.head _)))))).out) qd
 obtain ⟨ns,ts,hr⟩:=t
 obtain ⟨x1,x2,x3⟩:=q
 have h1:ns.length<=maxLen:=h1
 have h2:∀ q∈ns,Z9 q.label:=h2
 have hl:Z9 x2:=hl
 refine SEx.go (X:=XX) qc (fun n=>qa [] [] n) (fun _=>none) hO 60 ?_
 intro M R L N m0 m1 m2 m3 m4 m5
 cases M
 cbv
 repeat' first | refine m1 _ _ ?_ ?_ | refine m2 _ _ fun h=>?_ | refine m3 _ ?_ | (refine m4 _ _ (Hd.out ?_);try first | rw [hks] | rw [hk2] | rw [hk3]) | (refine m5 _ _ ?_;cbv)
 all_goals (clear m1 m2 m3 m4 m5;cases m0;(try clear hks;try clear hk2;try clear hk3);try dsimp only)
 all_goals try simp only [sm] at *
 all_goals first
  | exact ⟨h1⟩
  | exact ⟨h2⟩
  | exact hl
  | exact ⟨hx⟩
  | exact ⟨hp⟩
  | (subst hf;rfl)
def ndP (cs:List qi)(i:Nat)(q:qi):Bool:=QS q&&(decide (qiP cs q.name=i)&&(decide (q.watch=0)||decide (zH cs q.watch=i)))
def yC (cs:List qi)(q:qi):Bool:=qA (fun _ x=>wdB cs q.label x) q.label 0
def Qz (cs:List qi):Bool:=decide (1<=(cs.length:Int)/\(cs.length:Int)<=7)&&(decide (((nd cs 0).label.length:Int)<=0)&&decide ((nd cs 0).watch=0))
theorem qbY (t:ql)(h1:t.nodes.length<=maxLen)(h2:∀ q∈t.nodes,Y9 q):qe Tryz.prog 132 [qQ t] (rB (Qz t.nodes&&(qA (ndP t.nodes) t.nodes 0&&qA (fun _ q=>yC t.nodes q) t.nodes 0))):=by
 refine qe.of qc (fn:=Tryz.f132) (c:=Tryz.f132.body.getD .skip) (dr:=fun n=>qa 0 [(15,3),(16,32)] n) Tryz.func132 rfl (by kernel_rfl) (by kernel_rfl) (by kernel_rfl) ?_
 obtain ⟨f0,hf0⟩:∃ f,f=kb:=⟨_,rfl⟩
 obtain ⟨f1,hf1⟩:∃ f,f=QS:=⟨_,rfl⟩
 obtain ⟨f2,hf2⟩:∃ f,f=qiP:=⟨_,rfl⟩
 obtain ⟨f3,hf3⟩:∃ f,f=zH:=⟨_,rfl⟩
 obtain ⟨f4,hf4⟩:∃ f,f=zG:=⟨_,rfl⟩
 obtain ⟨f5,hf5⟩:∃ f,f=ZO:=⟨_,rfl⟩
 obtain ⟨f6,hf6⟩:∃ f,f=J5:=⟨_,rfl⟩
 have hO:qp Tryz.prog (qJ [(104,Ys f0),(151,VY f1),(152,qnB f2),(109,WE f3),(134,VJ f4),(48,qix f5),(153,vo f6)]):=by
  subst hf0 hf1 hf2 hf3 hf4 hf5 hf6
  exact qb Qf (qb qeB (qb qko (qb vJ (qb W0 (qb YH (qb qcr qd))))))
 obtain ⟨cs,ts,hr⟩:=t
 have h1:cs.length<=maxLen:=h1
 have h2:∀ q∈cs,Y9 q:=h2
 unfold maxLen at h1
 show SEx _ _ _ _ _ _ (rB (Qz cs&&(qA (ndP cs) cs 0&&qA (fun _ q=>yC cs q) cs 0)))
 obtain ⟨c,hc⟩:∃ c,c=qA (fun _ q=>yC cs q) cs 0:=⟨_,rfl⟩
 obtain ⟨p,hp⟩:∃ p,p=ndP cs:=⟨_,rfl⟩
 rw [<-hc,<-hp]
 refine SEx.go (X:=XX) qc (fun n=>qa [] [(4,[1,33,34,35]),(10,[1,66,67,68]),(13,[1,6,66,67,68,73,74,75])] n) (fun _=>none) hO 60 ?_
 intro M R L N m0 m1 m2 m3 m4 m5
 cases M
 cbv
 repeat' first | refine m1 _ _ ?_ ?_ | refine m2 _ _ fun h=>?_ | refine m3 _ ?_ | (refine m4 _ _ (Hd.out ?_);generalize hks:(List.cons _ _:List K)=ks) | (refine m5 _ _ ?_;cbv)
 all_goals (clear m1 m2 m3 m4 m5;cases m0;try dsimp only)
 all_goals try simp only [sm] at *
 all_goals (try simp only [hf0,kb,Bool.and_eq_true,Bool.and_eq_false_iff,decide_eq_true_eq,decide_eq_false_iff_not] at *)
 all_goals first
  | omega
  | (refine qM ?_ _;unfold Qz nd;delta qi.label qi.watch;rw [decide_eq_false (by omega)];rfl)
  | (refine qM ?_ _;unfold Qz nd;delta qi.label qi.watch;rw [Bool.and_assoc,decide_eq_true (by omega),Bool.true_and,decide_eq_false (by omega)];rfl)
  | (refine qM ?_ _;unfold Qz nd;delta qi.label qi.watch;rw [decide_eq_true (by omega),decide_eq_true (by omega),decide_eq_false (by assumption)];rfl)
  | skip
 have hh:Qz cs=true:=by
  unfold Qz nd;delta qi.label qi.watch;rw [decide_eq_true (by omega),decide_eq_true (by omega),decide_eq_true (by assumption)];rfl
 rw [hh,Bool.true_and]
 obtain ⟨m,hm⟩:∃ m,m=cs.length:=⟨_,rfl⟩
 refine ⟨SEx.same (SEx.idx m (fun i=>⟨120,[(1,bP 4096),(33,bL (.node false none cs)),(34,bI m),(35,bI i)],[(4096,.obx [.fz (.sl (.node false none cs)),.fz (.sl (.tie ts)),.fz (.int .i64 hr)])]⟩) (fun i=>rB (qA p (cs.drop i) i&&c)) ?_) (by rw [hm];rfl) rfl⟩
 intro i hi ih
 rw [<-hks]
 have hl:i<m->zb _ _ _:=fun h=>zb.of p cs i c qi.z (by omega)
 have he:i=m->(qA p (cs.drop i) i&&c)=c:=fun h=>qP (by omega)
 refine SEx.go (X:=XX) qc (fun n=>qa [] [(4,[1,33,34,35]),(10,[1,66,67,68]),(13,[1,6,66,67,68,73,74,75])] n) (fun _=>none) hO 60 ?_
 intro M R L N m0 m1 m2 m3 m4 m5
 cases M
 cbv
 repeat' first | refine m1 _ _ ?_ ?_ | refine m2 _ _ fun h=>?_ | refine m3 _ ?_ | (refine m4 _ _ (Hd.out ?_);first | rw [hks] | generalize hk2:(List.cons _ _:List K)=k2) | (refine m5 _ _ ?_;cbv)
 all_goals (clear m1 m2 m3 m4 m5;cases m0;try dsimp only)
 all_goals try simp only [sm] at *
 all_goals (try simp only [qg (show i<9223372036854775807 by omega)])
 all_goals first
  | omega
  | exact h2 _ (qn (z:=qi.z) (by omega)).out
  | exact ⟨h1⟩
  | (refine (hl (by omega)).stop _ ?_;subst hf1 hf2 hf3;rw [hp];unfold ndP;delta qi.name qi.watch;simp_all;done)
  | (refine ⟨(ih (by omega)).same rfl ((hl (by omega)).go ?_)⟩;clear ih;subst hf1 hf2 hf3;rw [hp];unfold ndP;delta qi.name qi.watch;simp_all;done)
  | skip
 have him:i=m:=by omega
 rw [he him]
 clear ih hl he
 obtain ⟨pl,hpl⟩:∃ pl:Nat->qi->Bool,pl=fun _ q=>yC cs q:=⟨_,rfl⟩
 rw [<-hpl] at hc
 refine ⟨SEx.same (SEx.idx m (fun i=>⟨120,[(1,bP 4096),(66,bL (.node false none cs)),(67,bI m),(68,bI i)],[(4096,.obx [.fz (.sl (.node false none cs)),.fz (.sl (.tie ts)),.fz (.int .i64 hr)])]⟩) (fun i=>rB (qA pl (cs.drop i) i&&true)) ?_) (by rw [hm];rfl) (by rw [hc,Bool.and_true];rfl)⟩
 intro k hk ih
 rw [<-hk2]
 have hl:k<m->zb _ _ _:=fun h=>zb.of pl cs k true qi.z (by omega)
 have he:k=m->(qA pl (cs.drop k) k&&true)=true:=fun h=>qP (by omega)
 refine SEx.go (X:=XX) qc (fun n=>qa [] [(4,[1,33,34,35]),(10,[1,66,67,68]),(13,[1,6,66,67,68,73,74,75])] n) (fun _=>none) hO 60 ?_
 intro M R L N m0 m1 m2 m3 m4 m5
 cases M
 cbv
 repeat' first | refine m1 _ _ ?_ ?_ | refine m2 _ _ fun h=>?_ | refine m3 _ ?_ | (refine m4 _ _ (Hd.out ?_);first | rw [hks] | rw [hk2] | generalize hk3:(List.cons _ _:List K)=k3) | (refine m5 _ _ ?_;cbv)
 all_goals (clear m1 m2 m3 m4 m5;cases m0;try dsimp only)
 all_goals try simp only [sm] at *
 all_goals first
  | omega
  | (refine qM ?_ _;rw [he (by omega)];done)
  | skip
 have hkm:k<m:=by omega
 obtain ⟨q,hq⟩:∃ q,q=cs.getD k qi.z:=⟨_,rfl⟩
 have hnq:Y9 q:=by rw [hq];exact h2 _ (qn (z:=qi.z) (by omega)).out
 obtain ⟨d,hd⟩:∃ d,d=(qA pl (cs.drop (k+1)) (k+1)&&true):=⟨_,rfl⟩
 have hs:(qA pl (cs.drop k) k&&true)=(qA (fun _ x=>wdB cs q.label x) (q.label.drop 0) 0&&d):=by
  rw [ya qi.z (show k<cs.length by omega),hd,<-hq,hpl,Bool.and_assoc];rfl
 rw [hs]
 rw [<-hd] at ih
 clear hl he hs hd
 obtain ⟨x1,x2,x3⟩:=q
 obtain ⟨w,hw⟩:∃ w,w=x2.length:=⟨_,rfl⟩
 have hlw:=hnq.len
 have hall:=hnq.all
 dsimp only at hlw hall
 unfold maxLen at hlw
 refine ⟨SEx.same (SEx.idx w (fun j=>⟨120,[(1,bP 4096),(6,bP 24576),(66,bL (.node false none cs)),(67,bI m),(68,bI k),(73,bL (.i x2)),(74,bI w),(75,bI j)],[(4096,.obx [.fz (.sl (.node false none cs)),.fz (.sl (.tie ts)),.fz (.int .i64 hr)]),(24576,.obx [.fz (.str x1),.fz (.sl (.i x2)),.fz (.int .i64 x3)])]⟩) (fun j=>rB (qA (fun _ x=>wdB cs x2 x) (x2.drop j) j&&d)) ?_) (by rw [hw,<-hq];rfl) rfl⟩
 intro j hj ihj
 rw [<-hk3]
 have hl:j<w->zb _ _ _:=fun h=>zb.of (fun _ x=>wdB cs x2 x) x2 j d (0:Int) (by omega)
 have he:j=w->(qA (fun _ x=>wdB cs x2 x) (x2.drop j) j&&d)=d:=fun h=>qP (by omega)
 have hlt:∀ x,f3 cs x<cs.length:=fun x=>by rw [hf3];exact (V4 _ _).1
 refine SEx.go (X:=XX) qc (fun n=>qa [] [(4,[1,33,34,35]),(10,[1,66,67,68]),(13,[1,6,66,67,68,73,74,75])] n) (fun _=>none) hO 60 ?_
 intro M R L N m0 m1 m2 m3 m4 m5
 cases M
 cbv
 repeat' first | refine m1 _ _ ?_ ?_ | refine m2 _ _ fun h=>?_ | refine m3 _ ?_ | (refine m4 _ _ (Hd.out ?_);try first | rw [hks] | rw [hk2] | rw [hk3]) | (refine m5 _ _ ?_;cbv)
 all_goals (clear m1 m2 m3 m4 m5;cases m0;(try clear hks;try clear hk2;try clear hk3);try dsimp only)
 all_goals try simp only [sm] at *
 all_goals (try simp only [qg (show j<9223372036854775807 by omega)])
 all_goals (try have h5:=hlt (f4 (x2.getD j 0)))
 all_goals first
  | omega
  | exact ⟨h1⟩
  | exact ⟨hall _ (qn (z:=(0:Int)) (by omega)).out⟩
  | exact ⟨(h2 _ (qn (z:=qi.z) (by omega)).out).len⟩
  | exact ⟨hlw,hall⟩
  | exact ⟨(h2 _ (qn (z:=qi.z) (by omega)).out).len,(h2 _ (qn (z:=qi.z) (by omega)).out).all⟩
  | (have hjw:j=w:=by omega
     rw [he hjw]
     simp only [qg (show k<9223372036854775807 by omega)]
     exact ⟨(ih hkm).same rfl rfl⟩)
  | (refine (hl (by omega)).stop _ ?_;subst hf3 hf4 hf5 hf6;unfold wdB Vl qlq;delta qi.label;rw [decide_eq_false (by omega)];rfl)
  | (refine (hl (by omega)).stop _ ?_;subst hf3 hf4 hf5 hf6;unfold wdB Vl qlq;delta qi.label;rw [decide_eq_true (by omega)];simp_all;done)
  | (refine ⟨(ihj (by omega)).same rfl ((hl (by omega)).go ?_)⟩;clear ih ihj;subst hf3 hf4 hf5 hf6;unfold wdB Vl qlq;delta qi.label;rw [decide_eq_true (by omega)];simp_all;done)
  | skip
def KT (q m:qi):Bool:=eqS m.name q.name||(decide (¬q.watch=0)&&m.watch == q.watch)
def ndI (cs:List qi)(i:Nat)(q:qi):Bool:=QS q&&qA (fun _ m=>!KT q m) (cs.take i) 0
theorem qdJ (t:ql)(h1:t.nodes.length<=maxLen)(h2:∀ q∈t.nodes,Y9 q):qe Tryz.prog 115 [qQ t] (rB (Qz t.nodes&&qA (ndI t.nodes) t.nodes 0)):=by
 refine qe.of qc (fn:=Tryz.f115) (c:=Tryz.f115.body.getD .skip) (dr:=fun n=>qa 0 [] n) Tryz.func115 rfl (by kernel_rfl) (by kernel_rfl) (by kernel_rfl) ?_
 obtain ⟨f1,hf1⟩:∃ f,f=QS:=⟨_,rfl⟩
 have hO:qp Tryz.prog (qJ [(139,VY f1)]):=by
  subst hf1
  exact qb qdA qd
 obtain ⟨cs,ts,hr⟩:=t
 have h1:cs.length<=maxLen:=h1
 have h2:∀ q∈cs,Y9 q:=h2
 unfold maxLen at h1
 show SEx _ _ _ _ _ _ (rB (Qz cs&&qA (ndI cs) cs 0))
 obtain ⟨p,hp⟩:∃ p,p=ndI cs:=⟨_,rfl⟩
 rw [<-hp]
 refine SEx.go (X:=XX) qc (fun n=>qa [] [(4,[1,35,36,37]),(9,[1,4,35,36,37,48,49,50])] n) (fun _=>none) hO 60 ?_
 intro M R L N m0 m1 m2 m3 m4 m5
 cases M
 cbv
 repeat' first | refine m1 _ _ ?_ ?_ | refine m2 _ _ fun h=>?_ | refine m3 _ ?_ | (refine m4 _ _ (Hd.out ?_);generalize hks:(List.cons _ _:List K)=ks) | (refine m5 _ _ ?_;cbv)
 all_goals (clear m1 m2 m3 m4 m5;cases m0;try dsimp only)
 all_goals try simp only [sm] at *
 all_goals first
  | omega
  | (refine qM ?_ _;unfold Qz nd;delta qi.label qi.watch;rw [decide_eq_false (by omega)];rfl)
  | (refine qM ?_ _;unfold Qz nd;delta qi.label qi.watch;rw [Bool.and_assoc,decide_eq_true (by omega),Bool.true_and,decide_eq_false (by omega)];rfl)
  | (refine qM ?_ _;unfold Qz nd;delta qi.label qi.watch;rw [decide_eq_true (by omega),decide_eq_true (by omega),decide_eq_false (by assumption)];rfl)
  | skip
 have hh:Qz cs=true:=by
  unfold Qz nd;delta qi.label qi.watch;rw [decide_eq_true (by omega),decide_eq_true (by omega),decide_eq_true (by assumption)];rfl
 rw [hh,Bool.true_and]
 obtain ⟨m,hm⟩:∃ m,m=cs.length:=⟨_,rfl⟩
 refine ⟨SEx.same (SEx.idx m (fun i=>⟨73,[(1,bP 4096),(35,bL (.node false none cs)),(36,bI m),(37,bI i)],[(4096,.obx [.fz (.sl (.node false none cs)),.fz (.sl (.tie ts)),.fz (.int .i64 hr)])]⟩) (fun i=>rB (qA p (cs.drop i) i&&true)) ?_) (by rw [hm];rfl) (by rw [Bool.and_true];rfl)⟩
 intro i hi ih
 rw [<-hks]
 have hl:i<m->zb _ _ _:=fun h=>zb.of p cs i true qi.z (by omega)
 have he:i=m->(qA p (cs.drop i) i&&true)=true:=fun h=>qP (by omega)
 refine SEx.go (X:=XX) qc (fun n=>qa [] [(4,[1,35,36,37]),(9,[1,4,35,36,37,48,49,50])] n) (fun _=>none) hO 60 ?_
 intro M R L N m0 m1 m2 m3 m4 m5
 cases M
 cbv
 repeat' first | refine m1 _ _ ?_ ?_ | refine m2 _ _ fun h=>?_ | refine m3 _ ?_ | (refine m4 _ _ (Hd.out ?_);first | rw [hks] | generalize hk2:(List.cons _ _:List K)=k2) | (refine m5 _ _ ?_;cbv)
 all_goals (clear m1 m2 m3 m4 m5;cases m0;try dsimp only)
 all_goals try simp only [sm] at *
 all_goals (try simp only [qg (show i<9223372036854775807 by omega)])
 all_goals first
  | omega
  | exact h2 _ (qn (z:=qi.z) (by omega)).out
  | (refine qM ?_ _;rw [he (by omega)];done)
  | (refine (hl (by omega)).stop _ ?_;subst hf1;rw [hp];unfold ndI;simp_all;done)
  | skip
 have him:i<m:=by omega
 have hq1:f1 (cs.getD i qi.z)=true:=by assumption
 obtain ⟨q,hq⟩:∃ q,q=cs.getD i qi.z:=⟨_,rfl⟩
 rw [<-hq] at hq1
 obtain ⟨l,hll⟩:∃ l,l=cs.take i:=⟨_,rfl⟩
 obtain ⟨d,hd⟩:∃ d,d=(qA p (cs.drop (i+1)) (i+1)&&true):=⟨_,rfl⟩
 have hs:(qA p (cs.drop i) i&&true)=(qA (fun _ m=>!KT q m) (l.drop 0) 0&&d):=by
  rw [ya qi.z (show i<cs.length by omega),hd,<-hq,hp,Bool.and_assoc,ndI,<-hf1,hq1,<-hll,Bool.true_and];rfl
 rw [hs]
 rw [<-hd] at ih
 clear hl he hs hd
 obtain ⟨x1,x2,x3⟩:=q
 obtain ⟨w,hw⟩:∃ w,w=l.length:=⟨_,rfl⟩
 have hwl:w<=cs.length:=by rw [hw,hll,List.length_take];omega
 refine ⟨SEx.same (SEx.idx w (fun j=>⟨73,[(1,bP 4096),(4,bP 16384),(35,bL (.node false none cs)),(36,bI m),(37,bI i),(48,bL (.node false none l)),(49,bI w),(50,bI j)],[(4096,.obx [.fz (.sl (.node false none cs)),.fz (.sl (.tie ts)),.fz (.int .i64 hr)]),(16384,.obx [.fz (.str x1),.fz (.sl (.i x2)),.fz (.int .i64 x3)])]⟩) (fun j=>rB (qA (fun _ m=>!KT ⟨x1,x2,x3⟩ m) (l.drop j) j&&d)) ?_) (by rw [hw,<-hq,hll];rfl) rfl⟩
 intro j hj ihj
 rw [<-hk2]
 have hl:j<w->zb _ _ _:=fun h=>zb.of (fun _ m=>!KT ⟨x1,x2,x3⟩ m) l j d qi.z (by omega)
 have he:j=w->(qA (fun _ m=>!KT ⟨x1,x2,x3⟩ m) (l.drop j) j&&d)=d:=fun h=>qP (by omega)
 refine SEx.go (X:=XX) qc (fun n=>qa [] [(4,[1,35,36,37]),(9,[1,4,35,36,37,48,49,50])] n) (fun _=>none) hO 60 ?_
 intro M R L N m0 m1 m2 m3 m4 m5
 cases M
 cbv
 repeat' first | refine m1 _ _ ?_ ?_ | refine m2 _ _ fun h=>?_ | refine m3 _ ?_ | (refine m4 _ _ (Hd.out ?_);try first | rw [hks] | rw [hk2] | rw [hk3]) | (refine m5 _ _ ?_;cbv)
 all_goals (clear m1 m2 m3 m4 m5;cases m0;(try clear hks;try clear hk2;try clear hk3);try dsimp only)
 all_goals try simp only [sm] at *
 all_goals (try simp only [qg (show j<9223372036854775807 by omega)])
 all_goals first
  | omega
  | (refine (hl (by omega)).stop _ ?_;unfold KT eqS;delta qi.name qi.watch;simp_all;done)
  | (refine ⟨(ihj (by omega)).same rfl ((hl (by omega)).go ?_)⟩;clear ih ihj;unfold KT eqS;delta qi.name qi.watch;simp_all;done)
  | (rw [he (by omega)];simp only [qg (show i<9223372036854775807 by omega)];exact ⟨(ih (by omega)).same rfl rfl⟩)
  | skip
theorem qni {α:Type}(p q:α->Bool):∀ l:List α,(l.any fun x=>p x||q x)=(l.any p||l.any q)
 | []=>rfl
 | a::r=>by simp only [List.any_cons,qni p q r];cases p a<;>cases q a<;>cases r.any p<;>cases r.any q<;>rfl
theorem qjY {α:Type}(c:Bool)(q:α->Bool):∀ l:List α,(l.any fun x=>c&&q x)=(c&&l.any q)
 | []=>by simp
 | a::r=>by simp only [List.any_cons,qjY c q r];cases c<;>rfl
theorem qn9 (s:ByteArray):eqS s s=true:=by unfold eqS;simp
theorem qrS {cs:List qi}{i:Nat}{q:qi}(h:cs[i]?=some q):ndI cs i q=ndP cs i q:=by
 have hi:i<cs.length:=by rw [List.getElem?_eq_some_iff] at h;exact h.1
 have hq:cs.getD i qi.z=q:=by rw [List.getD_eq_getElem?_getD,h];rfl
 have e1:decide (qiP cs q.name=i)=!((cs.take i).any fun r=>eqS r.name q.name):=by
  have:=JU (p:=fun r:qi=>eqS r.name q.name) (l:=cs) (i:=i) 0 qi.z hi (by rw [hq];exact qn9 _)
  rw [Nat.zero_add] at this
  rw [Bool.eq_iff_iff]
  simp only [decide_eq_true_eq,Bool.not_eq_true']
  exact this
 have e2:decide (zH cs q.watch=i)=!((cs.take i).any fun r=>r.watch == q.watch):=by
  have:=JU (p:=fun r:qi=>r.watch == q.watch) (l:=cs) (i:=i) 0 qi.z hi (by rw [hq];exact beq_self_eq_true _)
  rw [Nat.zero_add] at this
  rw [Bool.eq_iff_iff]
  simp only [decide_eq_true_eq,Bool.not_eq_true']
  exact this
 have e3:qA (fun _ m=>!KT q m) (cs.take i) 0=!(((cs.take i).any fun r=>eqS r.name q.name)||(decide (¬q.watch=0)&&(cs.take i).any fun r=>r.watch == q.watch)):=by
  rw [KL,<-qjY,<-qni,List.not_any_eq_all_not];rfl
 unfold ndI ndP
 rw [e1,e2,e3,Bool.not_or,Bool.not_and,decide_not,Bool.not_not]
theorem qnc (cs:List qi):qA (ndI cs) cs 0=qA (ndP cs) cs 0:=wP cs 0 fun i q h=>by rw [Nat.zero_add];exact qrS h
structure qqN (cs:List qi):Prop where out:∀ q∈cs,Y9 q
def Qs (cs:List qi):Bool:=Qz cs&&qA (ndP cs) cs 0
def qiV (cs:List qi):Bool:=qA (fun _ q=>yC cs q) cs 0
def JN (f:List qi->Bool):Wr:=w1 qN (fun t=>rB (f t.nodes)) (fun t=>[LLe t.nodes maxLen,qqN t.nodes])
def nlB (cs:List qi):Bool:=Qs cs&&qiV cs
theorem qaD:qy Tryz.prog 132 (JN nlB):=zx fun t h=>by
 unfold nlB Qs qiV
 rw [Bool.and_assoc]
 exact qbY t (h _ (.head _)).out (h _ (.tail _ (.head _))).out
theorem qcW:qy Tryz.prog 115 (JN Qs):=zx fun t h=>by
 unfold Qs
 rw [<-qnc]
 exact qdJ t (h _ (.head _)).out (h _ (.tail _ (.head _))).out
def qfZ (n:Int):Bool:=decide (1<=n)&&decide (n<=10)
def za (t:ql):Bool:=Qs t.nodes&&(qiV t.nodes&&(J4 t.nodes t.ties&&qfZ t.hor))
structure jw (t:ql):Prop where
 len:t.nodes.length<=maxLen
 tlen:t.ties.length<=maxLen
 nodes:∀ q∈t.nodes,Y9 q
theorem qa0 (t:ql)(ht:jw t):qe Tryz.prog 106 [qQ t] (rB (za t)):=by
 refine qe.of qc (fn:=Tryz.f106) (c:=Tryz.f106.body.getD .skip) (dr:=fun n=>qa 0 [] n) Tryz.func106 rfl (by kernel_rfl) (by kernel_rfl) (by kernel_rfl) ?_
 have h1:=ht.len
 have h2:=ht.tlen
 have h3:=ht.nodes
 clear ht
 obtain ⟨f1,hf1⟩:∃ f,f=nlB:=⟨_,rfl⟩
 obtain ⟨f3,hf3⟩:∃ f,f=kb:=⟨_,rfl⟩
 obtain ⟨f4,hf4⟩:∃ f,f=wH:=⟨_,rfl⟩
 have hO:qp Tryz.prog (qJ [(132,JN f1),(104,Ys f3),(133,qst f4)]):=by
  subst hf1 hf3 hf4
  exact qb qaD (qb Qf (qb qqr qd))
 obtain ⟨ns,ts,hr⟩:=t
 have h1:ns.length<=maxLen:=h1
 have h2:ts.length<=maxLen:=h2
 have h3:∀ q∈ns,Y9 q:=h3
 unfold maxLen at h2
 obtain ⟨a,ha⟩:∃ a,a=decide (ts.length<=14):=⟨_,rfl⟩
 obtain ⟨d,hd⟩:∃ a,a=qfZ hr:=⟨_,rfl⟩
 obtain ⟨p,hp⟩:∃ p:Nat->Tie->Bool,p=f4 ns ts:=⟨_,rfl⟩
 have hs:za ⟨ns,ts,hr⟩=(f1 ns&&(qA p ts 0&&(a&&d))):=by
  rw [hf1,hp,hf4,ha,hd];unfold za J4 nlB;rw [Bool.and_assoc,Bool.and_assoc]
 rw [hs]
 have hdd:f3 hr 1 10=d:=by rw [hf3,hd];rfl
 clear hd hs
 refine SEx.go (X:=XX) qc (fun n=>qa [] [(4,[1,21,22])] n) (fun _=>none) hO 60 ?_
 intro M R L N m0 m1 m2 m3 m4 m5
 cases M
 cbv
 repeat' first | refine m1 _ _ ?_ ?_ | refine m2 _ _ fun h=>?_ | refine m3 _ ?_ | (refine m4 _ _ (Hd.out ?_);generalize hks:(List.cons _ _:List K)=ks) | (refine m5 _ _ ?_;cbv)
 all_goals (clear m1 m2 m3 m4 m5;cases m0;try dsimp only)
 all_goals try simp only [sm] at *
 all_goals (try rw [hdd] at *)
 all_goals first
  | exact ⟨h1⟩
  | exact ⟨h3⟩
  | (refine qM ?_ _;simp_all;done)
  | (refine qM ?_ _;rw [ha,decide_eq_false (by omega)];simp;done)
  | skip
 rw [show f1 ns=true by assumption,Bool.true_and,show a=true by rw [ha];exact decide_eq_true (by omega),show d=true by assumption,Bool.true_and]
 obtain ⟨m,hm⟩:∃ m,m=ts.length:=⟨_,rfl⟩
 refine ⟨SEx.same (SEx.idx m (fun i=>⟨30,[(1,bP 4096),(21,bI m),(22,bI i)],[(4096,.obx [.fz (.sl (.node false none ns)),.fz (.sl (.tie ts)),.fz (.int .i64 hr)])]⟩) (fun i=>rB (qA p (ts.drop i) i&&true)) ?_) (by rw [hm];rfl) rfl⟩
 intro i hi ih
 rw [<-hks]
 have hl:i<m->zb _ _ _:=fun h=>zb.of p ts i true Tie.z (by omega)
 have he:i=m->(qA p (ts.drop i) i&&true)=true:=fun h=>qP (by omega)
 refine SEx.go (X:=XX) qc (fun n=>qa [] [(4,[1,21,22])] n) (fun _=>none) hO 60 ?_
 intro M R L N m0 m1 m2 m3 m4 m5
 cases M
 cbv
 repeat' first | refine m1 _ _ ?_ ?_ | refine m2 _ _ fun h=>?_ | refine m3 _ ?_ | (refine m4 _ _ (Hd.out ?_);try first | rw [hks] | rw [hk2] | rw [hk3]) | (refine m5 _ _ ?_;cbv)
 all_goals (clear m1 m2 m3 m4 m5;cases m0;(try clear hks;try clear hk2;try clear hk3);try dsimp only)
 all_goals try simp only [sm] at *
 all_goals (try simp only [qg (show i<9223372036854775807 by omega)])
 all_goals first
  | omega
  | exact ⟨h1⟩
  | exact ⟨h2⟩
  | exact ⟨fun q hq=>(h3 q hq).len⟩
  | exact ⟨⟨by omega,by omega⟩⟩
  | (refine qM ?_ _;rw [he (by omega)];done)
  | (refine (hl (by omega)).stop _ ?_;rw [hp];assumption)
  | (refine ⟨(ih (by omega)).same rfl ((hl (by omega)).go ?_)⟩;rw [hp];assumption)
  | skip
end Go.Proofs.YtifnopmkdempdaaGreat.Ai
namespace Go.Proofs.YtifnopmkdempdaaGreat.Ai
open Go
set_option maxRecDepth 100000
variable [qh]
def qsd {α β:Type}(k:Nat)(g h:Bool)(d:Dc α)(e:Dc β):Dc (α×β):=⟨fun a=>aF k [.ptr (d.enc a.1).2,.ptr (e.enc a.2).2],fun | (false,[.fn f [.ptr x,.ptr y]])=>(match nq f k with | true=>(match d.dec (g,x),e.dec (h,y) with | some a,some b=>some (a,b) | _,_=>none) | false=>none) | _=>none,by
 intro x a hh
 split at hh
 . split at hh
   . rename_i hk
     obtain rfl:=Q1.1 hk
     split at hh
     . rename_i a' b' ha hb
       simp only [Option.some.injEq] at hh
       subst hh
       have e1:=congrArg Prod.snd (d.ok _ _ ha)
       have e2:=congrArg Prod.snd (e.ok _ _ hb)
       simp only [ke] at e1 e2
       simp only [ke,D.erL,D.er,aF,e1,e2]
     . cases hh
   . cases hh
 . cases hh⟩
structure qsr (l:List Int):Prop where out:∀ x∈l,inI x/\0<zG x
theorem WP {x:Int}(h0:¬x=0)(h1:-3<=x)(h2:x<=3):0<zG x:=by
 unfold zG
 split
 . rw [qr (by omega) (by omega)];omega
 . omega
theorem qax {x:Int}(h1:-3<=x)(h2:x<=3):zG x<=3:=by
 unfold zG
 split
 . rw [qr (by omega) (by omega)];omega
 . omega
theorem Z2 {l:List Int}(h:qW l=true){x:Int}(hx:x∈l):¬x=0/\-3<=x/\x<=3:=by
 obtain ⟨i,hi,rfl⟩:=List.mem_iff_getElem.1 hx
 have:=of_decide_eq_true (K9 h i hi)
 rw [zn hi] at this
 exact ⟨this.1,this.2.1,this.2.2.1⟩
theorem WD {l:List Int}(h:qW l=true):∀ x∈l,inI x/\0<zG x:=fun x hx=>by
 have ⟨h1,h2,h3⟩:=Z2 h hx
 exact ⟨by rw [jf];omega,WP h1 h2 h3⟩
theorem QZ {α:Type}{p:Nat->α->Bool}:∀ {l:List α} {n:Nat} {q:α},qA p l n=true->q∈l->∃ i,p i q=true
 | a::r,n,q,h,hq=>by
   unfold qA at h
   rw [Bool.and_eq_true] at h
   rcases List.mem_cons.1 hq with rfl | hq
   . exact ⟨n,h.1⟩
   . exact QZ h.2 hq
theorem Vw {cs:List qi}(h:Qs cs=true){q:qi}(hq:q∈cs):QS q=true:=by
 unfold Qs at h
 rw [Bool.and_eq_true] at h
 obtain ⟨i,hi⟩:=QZ h.2 hq
 unfold ndP at hi
 rw [Bool.and_eq_true] at hi
 exact hi.1
theorem Vc {q:qi}(h:QS q=true):qW q.label=true:=by
 unfold QS at h
 simp only [Bool.and_eq_true] at h
 exact h.1.2
def qtl (l:List Int)(t:ql)(q:qi):Bool:=l.any fun x=>!wdB t.nodes q.label x
theorem qaW (t:ql)(ht:jw t):qe Tryz.prog 85 [qQ t] (rB (za t)):=by
 refine qe.of qc (fn:=Tryz.f85) (c:=Tryz.f85.body.getD .skip) (dr:=fun n=>qa 0 [] n) Tryz.func85 rfl (by kernel_rfl) (by kernel_rfl) (by kernel_rfl) ?_
 have h1:=ht.len
 have h2:=ht.tlen
 have h3:=ht.nodes
 clear ht
 obtain ⟨f1,hf1⟩:∃ f,f=Qs:=⟨_,rfl⟩
 obtain ⟨f2,hf2⟩:∃ f,f=J4:=⟨_,rfl⟩
 obtain ⟨f3,hf3⟩:∃ f,f=qtl:=⟨_,rfl⟩
 have hO:qp Tryz.prog (qJ [(115,JN f1),(116,qeJ f2),(117,w2 zX (qsd 118 true true qN wm) (fun l x=>rB (f3 l x.1 x.2)) (fun l x=>[LLe l maxLen,qsr l,LLe x.1.nodes maxLen,qqN x.1.nodes,Y9 x.2]))]):=by
  subst hf1 hf2 hf3
  exact qb qcW (qb qft (qb (qE fun l x h=>by
   have g1:=(h _ (.head _)).out
   have g2:=(h _ (.tail _ (.head _))).out
   have g3:=(h _ (.tail _ (.tail _ (.head _)))).out
   have g4:=(h _ (.tail _ (.tail _ (.tail _ (.head _))))).out
   have g5:=h _ (.tail _ (.tail _ (.tail _ (.tail _ (.head _)))))
   exact Kn l _ _ _ (fun y hy=>qg1 y x.1 x.2 g3 (fun q hq=>⟨(g4 q hq).len,(g4 q hq).all⟩) ⟨g5.len,g5.all⟩ (g2 y hy).1 (g2 y hy).2) g1) qd))
 obtain ⟨ns,ts,hr⟩:=t
 have h1:ns.length<=maxLen:=h1
 have h2:ts.length<=maxLen:=h2
 have h3:∀ q∈ns,Y9 q:=h3
 have h1':=h1
 unfold maxLen at h1'
 obtain ⟨d,hd⟩:∃ a,a=qfZ hr:=⟨_,rfl⟩
 obtain ⟨p,hp⟩:∃ p:Nat->qi->Bool,p=fun _ q=>yC ns q:=⟨_,rfl⟩
 have hs:za ⟨ns,ts,hr⟩=(f1 ns&&(f2 ns ts&&(d&&qA p ns 0))):=by
  rw [hf1,hp,hf2,hd];unfold za qiV;dsimp only
  generalize qA (fun _ q=>yC ns q) ns 0=a
  generalize J4 ns ts=b
  generalize qfZ hr=c
  generalize Qs ns=e
  revert a b c e;decide
 rw [hs]
 clear hs
 refine SEx.go (X:=XX) qc (fun n=>qa [] [(4,[1,24,25,26])] n) (fun _=>none) hO 60 ?_
 intro M R L N m0 m1 m2 m3 m4 m5
 cases M
 cbv
 repeat' first | refine m1 _ _ ?_ ?_ | refine m2 _ _ fun h=>?_ | refine m3 _ ?_ | (refine m4 _ _ (Hd.out ?_);generalize hks:(List.cons _ _:List K)=ks) | (refine m5 _ _ ?_;cbv)
 all_goals (clear m1 m2 m3 m4 m5;cases m0;try dsimp only)
 all_goals try simp only [sm] at *
 all_goals first
  | exact ⟨h1⟩
  | exact ⟨h2⟩
  | exact ⟨h3⟩
  | exact ⟨fun q hq=>(h3 q hq).len⟩
  | (refine qM ?_ _;rw [show f1 ns=false by assumption];rfl)
  | (refine qM ?_ _;rw [show f2 ns ts=false by assumption];simp;done)
  | (refine qM ?_ _;rw [hd,qfZ,decide_eq_false (by omega)];simp;done)
  | (refine qM ?_ _;rw [hd,qfZ,decide_eq_false (show ¬hr<=10 by omega)];simp;done)
  | skip
 have hn1:Qs ns=true:=by rw [<-hf1];assumption
 rw [show f1 ns=true by assumption,show f2 ns ts=true by assumption,show d=true by rw [hd,qfZ,decide_eq_true (by omega),decide_eq_true (by omega)];rfl,Bool.true_and,Bool.true_and,Bool.true_and]
 obtain ⟨m,hm⟩:∃ m,m=ns.length:=⟨_,rfl⟩
 refine ⟨SEx.same (SEx.idx m (fun i=>⟨35,[(1,bP 4096),(24,bL (.node false none ns)),(25,bI m),(26,bI i)],[(4096,.obx [.fz (.sl (.node false none ns)),.fz (.sl (.tie ts)),.fz (.int .i64 hr)])]⟩) (fun i=>rB (qA p (ns.drop i) i&&true)) ?_) (by rw [hm];rfl) (by rw [Bool.and_true];rfl)⟩
 intro i hi ih
 rw [<-hks]
 have hl:i<m->zb _ _ _:=fun h=>zb.of p ns i true qi.z (by omega)
 have he:i=m->(qA p (ns.drop i) i&&true)=true:=fun h=>qP (by omega)
 have hmem:i<m->Mem (ns.getD i qi.z) ns:=fun h=>qn (by omega)
 have hps:∀ q:qi,f3 q.label ⟨ns,ts,hr⟩ q=!p i q:=fun q=>by
  rw [hf3,hp];show (q.label.any fun x=>!wdB ns q.label x)=!qA (fun _ x=>wdB ns q.label x) q.label 0;rw [KL,List.not_all_eq_any_not]
 refine SEx.go (X:=XX) qc (fun n=>qa [] [(4,[1,24,25,26])] n) (fun _=>none) hO 60 ?_
 intro M R L N m0 m1 m2 m3 m4 m5
 cases M
 cbv
 repeat' first | refine m1 _ _ ?_ ?_ | refine m2 _ _ fun h=>?_ | refine m3 _ ?_ | (refine m4 _ _ (Hd.out ?_);try first | rw [hks] | rw [hk2] | rw [hk3]) | (refine m5 _ _ ?_;cbv)
 all_goals (clear m1 m2 m3 m4 m5;cases m0;(try clear hks;try clear hk2;try clear hk3);try dsimp only)
 all_goals try simp only [sm] at *
 all_goals (try simp only [qg (show i<9223372036854775807 by omega)])
 all_goals first
  | omega
  | exact ⟨h1⟩
  | exact ⟨h3⟩
  | exact ⟨(h3 _ (hmem (by omega)).out).len⟩
  | exact ⟨WD (Vc (Vw hn1 (hmem (by omega)).out))⟩
  | exact h3 _ (hmem (by omega)).out
  | (refine qM ?_ _;rw [he (by omega)];done)
  | (refine (hl (by omega)).stop _ ?_;have hx:=hps (ns.getD i qi.z);simp_all;done)
  | (refine ⟨(ih (by omega)).same rfl ((hl (by omega)).go ?_)⟩;clear ih;have hx:=hps (ns.getD i qi.z);simp_all;done)
  | skip
def vc (f:ql->Bool):Wr:=w1 qN (fun t=>rB (f t)) (fun t=>[jw t])
theorem Vm:qy Tryz.prog 106 (vc za):=zx fun t h=>qa0 t (h _ (.head _))
theorem qfg:qy Tryz.prog 85 (vc za):=zx fun t h=>qaW t (h _ (.head _))
theorem zp {t:ql}(h:za t=true):1<=t.hor/\t.hor<=10:=by
 unfold za qfZ at h
 simp only [Bool.and_eq_true,decide_eq_true_eq] at h
 exact h.2.2.2
theorem qI {t:ql}(h:za t=true):1<=t.nodes.length/\t.nodes.length<=7:=by
 unfold za Qs Qz at h
 simp only [Bool.and_eq_true,decide_eq_true_eq] at h
 omega
theorem zU {t:ql}(h:za t=true):t.ties.length<=14:=by
 unfold za J4 at h
 simp only [Bool.and_eq_true,decide_eq_true_eq] at h
 exact h.2.2.1.2
theorem kM {t:ql}(h:za t=true){q:qi}(hq:q∈t.nodes):qW q.label=true:=by
 unfold za at h
 rw [Bool.and_eq_true] at h
 exact Vc (Vw h.1 hq)
end Go.Proofs.YtifnopmkdempdaaGreat.Ai
namespace Go.Proofs.YtifnopmkdempdaaGreat.Ai
open Go
set_option maxRecDepth 100000
variable [qh]
def jM (times:List Int)(w:Int):Bool:=decide (0<=w)&&decide (¬times.getD w.toNat 0=-1)
def Q9 (now:Int)(i:Nat)(n:Int):Bool:=decide ((i=0->n=0)/\(0<i->-1<=n/\n<=now-1))
def qeb (cs:List qi)(times:List Int)(i:Nat)(v:Int):Bool:=decide (¬v=0) == jM times (zH cs ((i:Int)+1))
def Qd (t:ql)(x:qf):Bool:=decide (0<=x.now/\x.now<=t.hor+1/\x.times.length=t.nodes.length)&&(qS x.vals&&(qA (Q9 x.now) x.times 0&&qA (qeb t.nodes x.times) x.vals 0))
structure Zd (x:qf):Prop where
 now:inI x.now
 tlen:x.times.length<=maxLen
 vlen:x.vals.length<=maxLen
theorem qR {l:List Int}(h:qS l=true):l.length=3:=by
 unfold qS at h
 simp only [Bool.and_eq_true,decide_eq_true_eq] at h
 exact h.2
theorem KS (a b:Int):decide (¬a=b)=!(a == b):=by by_cases h:a=b<;>simp [h]
theorem qhy (t:ql)(x:qf)(ht:za t=true)(hx:Zd x):qe Tryz.prog 86 [qQ t,qH x] (rB (Qd t x)):=by
 refine qe.of qc (fn:=Tryz.f86) (c:=Tryz.f86.body.getD .skip) (dr:=fun n=>qa 0 [] n) Tryz.func86 rfl (by kernel_rfl) (by kernel_rfl) (by kernel_rfl) ?_
 have hh:=zp ht
 have hn:=qI ht
 have h2:=hx.tlen
 have h3:=hx.vlen
 have h4:=hx.now
 clear ht hx
 rw [jf] at h4
 obtain ⟨f1,hf1⟩:∃ f,f=qS:=⟨_,rfl⟩
 obtain ⟨f2,hf2⟩:∃ f,f=zH:=⟨_,rfl⟩
 have hO:qp Tryz.prog (qJ [(120,ZT f1),(121,KU f2)]):=by
  subst hf1 hf2
  exact qb wc (qb ve qd)
 obtain ⟨ns,ts,hr⟩:=t
 obtain ⟨now,times,vals⟩:=x
 dsimp only at hh hn h2 h3 h4
 unfold maxLen at h2 h3
 obtain ⟨p,hp⟩:∃ p,p=Q9 now:=⟨_,rfl⟩
 obtain ⟨q,hq⟩:∃ q,q=qeb ns times:=⟨_,rfl⟩
 obtain ⟨d,hd⟩:∃ d,d=qA q vals 0:=⟨_,rfl⟩
 have hs:Qd ⟨ns,ts,hr⟩ ⟨now,times,vals⟩=(decide (0<=now/\now<=hr+1/\times.length=ns.length)&&(f1 vals&&(qA p times 0&&d))):=by
  rw [hf1,hp,hd,hq];rfl
 rw [hs]
 clear hs
 obtain ⟨r,hrr⟩:∃ r,r=(decide (0<=now/\now<=hr+1/\times.length=ns.length)&&(f1 vals&&(qA p times 0&&d))):=⟨_,rfl⟩
 rw [<-hrr]
 have h1r:IntKind.i64.wrap (hr+1)=hr+1:=qr (by omega) (by omega)
 refine SEx.go (X:=XX) qc (fun n=>qa [] [(4,[2,3,37,38,39]),(10,[2,3,67,68,69])] n) (fun _=>none) hO 60 ?_
 intro M R L N m0 m1 m2 m3 m4 m5
 cases M
 cbv
 repeat' first | refine m1 _ _ ?_ ?_ | refine m2 _ _ fun h=>?_ | refine m3 _ ?_ | (refine m4 _ _ (Hd.out ?_);generalize hks:(List.cons _ _:List K)=ks) | (refine m5 _ _ ?_;cbv)
 all_goals (clear m1 m2 m3 m4 m5;cases m0;try dsimp only)
 all_goals try simp only [sm] at *
 all_goals (try rw [h1r] at *)
 all_goals first
  | omega
  | exact ⟨h3⟩
  | (refine qM ?_ _;rw [hrr,decide_eq_false (by omega)];rfl)
  | (refine qM ?_ _;rw [hrr,show f1 vals=false by assumption];simp;done)
  | skip
 rw [show f1 vals=true by assumption,decide_eq_true (by omega),Bool.true_and,Bool.true_and] at hrr
 rw [hrr]
 clear hrr
 have hv3:vals.length=3:=by apply qR;rw [<-hf1];assumption
 obtain ⟨m,hm⟩:∃ m,m=times.length:=⟨_,rfl⟩
 refine ⟨SEx.same (SEx.idx m (fun i=>⟨92,[(2,bP 8192),(3,bP 12288),(37,bL (.i times)),(38,bI m),(39,bI i)],[(8192,.obx [.fz (.sl (.node false none ns)),.fz (.sl (.tie ts)),.fz (.int .i64 hr)]),(12288,.obx [.fz (.int .i64 now),.fz (.sl (.i times)),.fz (.sl (.i vals))])]⟩) (fun i=>rB (qA p (times.drop i) i&&d)) ?_) (by rw [hm];rfl) rfl⟩
 intro i hi ih
 rw [<-hks]
 have hl:i<m->zb _ _ _:=fun h=>zb.of p times i d (0:Int) (by omega)
 have he:i=m->(qA p (times.drop i) i&&d)=d:=fun h=>qP (by omega)
 have h1n:IntKind.i64.wrap (now-1)=now-1:=qr (by omega) (by omega)
 refine SEx.go (X:=XX) qc (fun n=>qa [] [(4,[2,3,37,38,39]),(10,[2,3,67,68,69])] n) (fun _=>none) hO 60 ?_
 intro M R L N m0 m1 m2 m3 m4 m5
 cases M
 cbv
 repeat' first | refine m1 _ _ ?_ ?_ | refine m2 _ _ fun h=>?_ | refine m3 _ ?_ | (refine m4 _ _ (Hd.out ?_);first | rw [hks] | generalize hk2:(List.cons _ _:List K)=k2) | (refine m5 _ _ ?_;cbv)
 all_goals (clear m1 m2 m3 m4 m5;cases m0;try dsimp only)
 all_goals try simp only [sm] at *
 all_goals (try simp only [qg (show i<9223372036854775807 by omega),h1n] at *)
 all_goals first
  | omega
  | (refine (hl (by omega)).stop _ ?_;rw [hp,Q9];apply decide_eq_false;omega)
  | (refine ⟨(ih (by omega)).same rfl ((hl (by omega)).go ?_)⟩;rw [hp,Q9];apply decide_eq_true;omega)
  | skip
 have him:i=m:=by omega
 rw [he him]
 clear ih hl he
 rw [hd]
 clear hd
 refine ⟨SEx.same (SEx.idx 3 (fun i=>⟨92,[(2,bP 8192),(3,bP 12288),(67,bL (.i vals)),(68,bI 3),(69,bI i)],[(8192,.obx [.fz (.sl (.node false none ns)),.fz (.sl (.tie ts)),.fz (.int .i64 hr)]),(12288,.obx [.fz (.int .i64 now),.fz (.sl (.i times)),.fz (.sl (.i vals))])]⟩) (fun i=>rB (qA q (vals.drop i) i&&true)) ?_) (by rw [hv3];rfl) (by rw [Bool.and_true];rfl)⟩
 intro k hk ih
 rw [<-hk2]
 have hl:k<3->zb _ _ _:=fun h=>zb.of q vals k true (0:Int) (by omega)
 have he:k=3->(qA q (vals.drop k) k&&true)=true:=fun h=>qP (by omega)
 have hlt:∀ x,f2 ns x<ns.length:=fun x=>by rw [hf2];exact (V4 _ _).1
 have hqk:q k (vals.getD k 0)=(decide (¬vals.getD k 0=0) == jM times (f2 ns ((k+1:Nat):Int))):=by
  rw [hq,hf2];rfl
 have h5:=hlt ((k+1:Nat):Int)
 refine SEx.go (X:=XX) qc (fun n=>qa [] [(4,[2,3,37,38,39]),(10,[2,3,67,68,69])] n) (fun _=>none) hO 60 ?_
 intro M R L N m0 m1 m2 m3 m4 m5
 cases M
 cbv
 repeat' first | refine m1 _ _ ?_ ?_ | refine m2 _ _ fun h=>?_ | refine m3 _ ?_ | (refine m4 _ _ (Hd.out ?_);try first | rw [hks] | rw [hk2] | rw [hk3]) | (refine m5 _ _ ?_;cbv)
 all_goals (clear m1 m2 m3 m4 m5;cases m0;(try clear hks;try clear hk2;try clear hk3);try dsimp only)
 all_goals try simp only [sm] at *
 all_goals (try simp only [qg (show k<9223372036854775807 by omega)] at *)
 all_goals first
  | omega
  | exact ⟨by omega⟩
  | (refine qM ?_ _;rw [he (by omega)];done)
  | (refine (hl (by omega)).stop _ ?_;rw [hqk];unfold jM;clear hqk hl he ih;generalize f2 ns ((k+1:Nat):Int)=w at *;rw [decide_eq_true (show 0<=w by assumption)];generalize times.getD w.toNat 0=b at *;generalize vals.getD k 0=a at *;rw [KS,KS];generalize (a == 0)=u at *;generalize (b == -1)=v at *;cases u<;>cases v<;>simp_all;done)
  | (refine (hl (by omega)).stop _ ?_;rw [hqk];unfold jM;clear hqk hl he ih;generalize f2 ns ((k+1:Nat):Int)=w at *;rw [decide_eq_false (show ¬0<=w by omega)];generalize vals.getD k 0=a at *;by_cases ha:a=0<;>simp_all;done)
  | (refine ⟨(ih (by omega)).same rfl ((hl (by omega)).go ?_)⟩;rw [hqk];unfold jM;clear hqk hl he ih;generalize f2 ns ((k+1:Nat):Int)=w at *;rw [decide_eq_true (show 0<=w by assumption)];generalize times.getD w.toNat 0=b at *;generalize vals.getD k 0=a at *;rw [KS,KS];generalize (a == 0)=u at *;generalize (b == -1)=v at *;cases u<;>cases v<;>simp_all;done)
  | (refine ⟨(ih (by omega)).same rfl ((hl (by omega)).go ?_)⟩;rw [hqk];unfold jM;clear hqk hl he ih;generalize f2 ns ((k+1:Nat):Int)=w at *;rw [decide_eq_false (show ¬0<=w by omega)];generalize vals.getD k 0=a at *;by_cases ha:a=0<;>simp_all;done)
  | skip
def qdX (t:ql)(x:qf):Bool:=za t&&Qd t x
theorem Yb (t:ql)(x:qf)(ht:jw t)(hx:Zd x):qe Tryz.prog 93 [qQ t,qH x] (rB (qdX t x)):=by
 refine qe.of qc (fn:=Tryz.f93) (c:=Tryz.f93.body.getD .skip) (dr:=fun n=>qa 0 [(13,17)] n) Tryz.func93 rfl (by kernel_rfl) (by kernel_rfl) (by kernel_rfl) ?_
 have h2:=hx.tlen
 have h3:=hx.vlen
 have h4:=hx.now
 clear hx
 rw [jf] at h4
 obtain ⟨f0,hf0⟩:∃ f,f=kb:=⟨_,rfl⟩
 obtain ⟨f1,hf1⟩:∃ f,f=qS:=⟨_,rfl⟩
 obtain ⟨f2,hf2⟩:∃ f,f=zH:=⟨_,rfl⟩
 obtain ⟨f3,hf3⟩:∃ f,f=za:=⟨_,rfl⟩
 have hO:qp Tryz.prog (qJ [(106,vc f3),(104,Ys f0),(122,ZT f1),(109,WE f2)]):=by
  subst hf0 hf1 hf2 hf3
  exact qb Vm (qb Qf (qb qaJ (qb vJ qd)))
 have hsh:f3 t=true->(1<=t.hor/\t.hor<=10)/\1<=t.nodes.length/\t.nodes.length<=7:=fun h=>by rw [hf3] at h;exact ⟨zp h,qI h⟩
 obtain ⟨ns,ts,hr⟩:=t
 obtain ⟨now,times,vals⟩:=x
 dsimp only at hsh h2 h3 h4
 unfold maxLen at h2 h3
 have h1:ns.length<=maxLen:=ht.len
 obtain ⟨p,hp⟩:∃ p,p=Q9 now:=⟨_,rfl⟩
 obtain ⟨q,hq⟩:∃ q,q=qeb ns times:=⟨_,rfl⟩
 obtain ⟨d,hd⟩:∃ d,d=qA q vals 0:=⟨_,rfl⟩
 obtain ⟨r,hrr⟩:∃ r,r=(f3 ⟨ns,ts,hr⟩&&(decide (0<=now/\now<=hr+1/\times.length=ns.length)&&(f1 vals&&(qA p times 0&&d)))):=⟨_,rfl⟩
 have hs:qdX ⟨ns,ts,hr⟩ ⟨now,times,vals⟩=r:=by
  rw [hrr,hf1,hp,hd,hq,hf3];rfl
 rw [hs]
 clear hs
 have h1r:f3 ⟨ns,ts,hr⟩=true->f0 now 0 (IntKind.i64.wrap (hr+1))=(decide (0<=now)&&decide (now<=hr+1)):=fun h=>by have:=hsh h;rw [qr (by omega) (by omega),hf0];rfl
 have hz:¬times.getD (Int.toNat 0) 0=0->0<times.length->qA p times 0=false:=fun h h5=>by
  rw [show times=times.drop 0 by rfl]
  refine vV (0:Int) h5 ?_
  rw [hp,Q9]
  apply decide_eq_false
  intro h6
  exact h (h6.1 rfl)
 refine SEx.go (X:=XX) qc (fun n=>qa [] [(4,[2,3,44,45,46]),(10,[2,3,7])] n) (fun _=>none) hO 60 ?_
 intro M R L N m0 m1 m2 m3 m4 m5
 cases M
 cbv
 repeat' first | refine m1 _ _ ?_ ?_ | refine m2 _ _ fun h=>?_ | refine m3 _ ?_ | (refine m4 _ _ (Hd.out ?_);generalize hks:(List.cons _ _:List K)=ks) | (refine m5 _ _ ?_;cbv)
 all_goals (clear m1 m2 m3 m4 m5;cases m0;try dsimp only)
 all_goals try simp only [sm] at *
 all_goals (try (have h7:=hsh (by assumption)))
 all_goals (try (rw [h1r (by assumption)] at *))
 all_goals (try simp only [Bool.and_eq_true,Bool.and_eq_false_iff,decide_eq_true_eq,decide_eq_false_iff_not] at *)
 all_goals first
  | omega
  | exact ht
  | exact ⟨by omega⟩
  | (refine qM ?_ _;rw [hrr,show f3 ⟨ns,ts,hr⟩=false by assumption];rfl)
  | (refine qM ?_ _;rw [hrr,decide_eq_false (by omega)];simp;done)
  | (refine qM ?_ _;rw [hrr,hz (by assumption) (by omega)];simp;done)
  | (refine qM ?_ _;rw [hrr,show f1 vals=false by assumption];simp;done)
  | skip
 have h7:=hsh (by assumption)
 rw [show f3 ⟨ns,ts,hr⟩=true by assumption,show f1 vals=true by assumption,decide_eq_true (by omega),Bool.true_and,Bool.true_and,Bool.true_and] at hrr
 rw [hrr]
 clear hrr hz h1r
 have hv3:vals.length=3:=by apply qR;rw [<-hf1];assumption
 obtain ⟨m,hm⟩:∃ m,m=times.length:=⟨_,rfl⟩
 refine ⟨SEx.same (SEx.idx m (fun i=>⟨87,[(2,bP 8192),(3,bP 12288),(44,bL (.i times)),(45,bI m),(46,bI i)],[(8192,.obx [.fz (.sl (.node false none ns)),.fz (.sl (.tie ts)),.fz (.int .i64 hr)]),(12288,.obx [.fz (.int .i64 now),.fz (.sl (.i times)),.fz (.sl (.i vals))])]⟩) (fun i=>rB (qA p (times.drop i) i&&d)) ?_) (by rw [hm];rfl) rfl⟩
 intro i hi ih
 rw [<-hks]
 have hl:i<m->zb _ _ _:=fun h=>zb.of p times i d (0:Int) (by omega)
 have he:i=m->(qA p (times.drop i) i&&d)=d:=fun h=>qP (by omega)
 have h1n:IntKind.i64.wrap (now-1)=now-1:=qr (by omega) (by omega)
 have h0t:i=0->times.getD i 0=0:=fun h=>by subst h;assumption
 have hin:f0 (times.getD i 0) (-1) (IntKind.i64.wrap (now-1))=(decide (-1<=times.getD i 0)&&decide (times.getD i 0<=now-1)):=by rw [h1n,hf0];rfl
 refine SEx.go (X:=XX) qc (fun n=>qa [] [(4,[2,3,44,45,46]),(10,[2,3,7])] n) (fun _=>none) hO 60 ?_
 intro M R L N m0 m1 m2 m3 m4 m5
 cases M
 cbv
 repeat' first | refine m1 _ _ ?_ ?_ | refine m2 _ _ fun h=>?_ | refine m3 _ ?_ | (refine m4 _ _ (Hd.out ?_);first | rw [hks] | generalize hk2:(List.cons _ _:List K)=k2) | (refine m5 _ _ ?_;cbv)
 all_goals (clear m1 m2 m3 m4 m5;cases m0;try dsimp only)
 all_goals try simp only [sm] at *
 all_goals (try simp only [qg (show i<9223372036854775807 by omega)] at *)
 all_goals (try rw [hin] at *)
 all_goals (try simp only [Bool.and_eq_true,Bool.and_eq_false_iff,decide_eq_true_eq,decide_eq_false_iff_not] at *)
 all_goals first
  | omega
  | (refine (hl (by omega)).stop _ ?_;rw [hp,Q9];apply decide_eq_false;omega)
  | (refine ⟨(ih (by omega)).same rfl ((hl (by omega)).go ?_)⟩;rw [hp,Q9];apply decide_eq_true;omega)
  | skip
 have him:i=m:=by omega
 rw [he him]
 clear ih hl he hin h0t h1n
 rw [hd]
 clear hd
 refine ⟨SEx.same (SEx.idx 3 (fun i=>⟨87,[(2,bP 8192),(3,bP 12288),(7,bI (i+1:Nat))],[(8192,.obx [.fz (.sl (.node false none ns)),.fz (.sl (.tie ts)),.fz (.int .i64 hr)]),(12288,.obx [.fz (.int .i64 now),.fz (.sl (.i times)),.fz (.sl (.i vals))])]⟩) (fun i=>rB (qA q (vals.drop i) i&&true)) ?_) rfl (by rw [Bool.and_true];rfl)⟩
 intro k hk ih
 rw [<-hk2]
 have hl:k<3->zb _ _ _:=fun h=>zb.of q vals k true (0:Int) (by omega)
 have he:k=3->(qA q (vals.drop k) k&&true)=true:=fun h=>qP (by omega)
 have hlt:∀ x,f2 ns x<ns.length:=fun x=>by rw [hf2];exact (V4 _ _).1
 have h5:=hlt ((k+1:Nat):Int)
 have hwk:IntKind.i64.wrap (((k+1:Nat):Int)-1)=k:=by rw [qr (by omega) (by omega)];omega
 obtain ⟨kk,hkk⟩:∃ kk:Nat,kk=k+1:=⟨_,rfl⟩
 rw [<-hkk] at hwk h5 ⊢
 have hqk:q k (vals.getD k 0)=(decide (¬vals.getD k 0=0) == jM times (f2 ns kk)):=by
  rw [hq,hf2,hkk];rfl
 refine SEx.go (X:=XX) qc (fun n=>qa [] [(4,[2,3,44,45,46]),(10,[2,3,7])] n) (fun _=>none) hO 60 ?_
 intro M R L N m0 m1 m2 m3 m4 m5
 cases M
 cbv
 repeat' first | refine m1 _ _ ?_ ?_ | refine m2 _ _ fun h=>?_ | refine m3 _ ?_ | (refine m4 _ _ (Hd.out ?_);try first | rw [hks] | rw [hk2] | rw [hk3]) | (refine m5 _ _ ?_;cbv)
 all_goals (clear m1 m2 m3 m4 m5;cases m0;(try clear hks;try clear hk2;try clear hk3);try dsimp only)
 all_goals try simp only [sm] at *
 all_goals (try simp only [hwk,Int.toNat_natCast,qg (show kk<9223372036854775807 by omega)] at *)
 all_goals first
  | omega
  | exact ⟨h1⟩
  | (refine qM ?_ _;rw [he (by omega)];done)
  | (refine (hl (by omega)).stop _ ?_;rw [hqk];unfold jM;clear hqk hl he ih;generalize f2 ns (kk:Int)=w at *;rw [decide_eq_true (show 0<=w by assumption)];generalize times.getD w.toNat 0=b at *;generalize vals.getD k 0=a at *;rw [KS,KS];generalize (a == 0)=u at *;generalize (b == -1)=v at *;cases u<;>cases v<;>simp_all;done)
  | (refine (hl (by omega)).stop _ ?_;rw [hqk];unfold jM;clear hqk hl he ih;generalize f2 ns (kk:Int)=w at *;rw [decide_eq_false (show ¬0<=w by omega)];generalize vals.getD k 0=a at *;by_cases ha:a=0<;>simp_all;done)
  | (subst hkk;refine ⟨(ih (by omega)).same rfl ((hl (by omega)).go ?_)⟩;rw [hqk];unfold jM;clear hqk hl he ih;generalize f2 ns ((k+1:Nat):Int)=w at *;rw [decide_eq_true (show 0<=w by assumption)];generalize times.getD w.toNat 0=b at *;generalize vals.getD k 0=a at *;rw [KS,KS];generalize (a == 0)=u at *;generalize (b == -1)=v at *;cases u<;>cases v<;>simp_all;done)
  | (subst hkk;refine ⟨(ih (by omega)).same rfl ((hl (by omega)).go ?_)⟩;rw [hqk];unfold jM;clear hqk hl he ih;generalize f2 ns ((k+1:Nat):Int)=w at *;rw [decide_eq_false (show ¬0<=w by omega)];generalize vals.getD k 0=a at *;by_cases ha:a=0<;>simp_all;done)
  | skip
structure qsc (t:ql):Prop where out:za t=true
def qdR (f:ql->qf->Bool):Wr:=w2 qN qF (fun t x=>rB (f t x)) (fun t x=>[qsc t,Zd x])
theorem qgb:qy Tryz.prog 86 (qdR Qd):=qE fun t x h=>qhy t x (h _ (.head _)).out (h _ (.tail _ (.head _)))
def qfw (f:ql->qf->Bool):Wr:=w2 qN qF (fun t x=>rB (f t x)) (fun t x=>[jw t,Zd x])
theorem qcE:qy Tryz.prog 93 (qfw qdX):=qE fun t x h=>Yb t x (h _ (.head _)) (h _ (.tail _ (.head _)))
end Go.Proofs.YtifnopmkdempdaaGreat.Ai
namespace Go.Proofs.YtifnopmkdempdaaGreat.Ai
open Go
set_option maxRecDepth 100000
variable [qh]
def Jf (v:List Int)(x:Int):Int:=if x<0 then -(v.getD (zG x-1).toNat 0) else v.getD (zG x-1).toNat 0
def ZP (v:List Int):List Int->Int->Int
 | [],s=>s
 | x::r,s=>ZP v r (min s (Jf v x))
theorem Wo {v l:List Int}{i:Nat}{s:Int}(h:i<l.length):ZP v (l.drop i) s=ZP v (l.drop (i+1)) (min s (Jf v (l.getD i 0))):=by
 rw [List.drop_eq_getElem_cons h,zn h]
 rfl
theorem QY {v:List Int}(h:qS v=true)(i:Nat):-1<=v.getD i 0/\v.getD i 0<=1:=by
 unfold qS at h
 rw [Bool.and_eq_true] at h
 by_cases hi:i<v.length
 . obtain ⟨j,hj⟩:=QZ h.1 (qn (z:=(0:Int)) hi).out
   simpa [wV] using hj
 . rw [List.getD_eq_getElem?_getD,List.getElem?_eq_none (by omega)]
   exact ⟨by decide,by decide⟩
theorem qi1 {v:List Int}(h:qS v=true)(x:Int):-1<=Jf v x/\Jf v x<=1:=by
 unfold Jf
 have:=QY h (zG x-1).toNat
 split<;>omega
theorem qiJ {v:List Int}(h:qS v=true):∀ (l:List Int) (s:Int),-1<=s->s<=1->-1<=ZP v l s/\ZP v l s<=1
 | [],s,h1,h2=>⟨h1,h2⟩
 | x::r,s,h1,h2=>qiJ h r _ (by have:=qi1 h x;omega) (by omega)
structure qs4 (l:List Int):Prop where out:qW l=true
structure qsp (l:List Int):Prop where out:qS l=true
theorem qgj {l:List Int}(h:qW l=true):l.length<=3:=by
 have key:∀ n,n<=l.length->∀ j,j<n->(j:Int)+1<=zG (l.getD j 0):=by
  intro n hn j hj
  induction j with
  | zero =>
    have:=(WD h _ (qn (z:=(0:Int)) (show 0<l.length by omega)).out).2
    omega
  | succ j ih =>
    have h1:=ih (by omega)
    have h2:=(of_decide_eq_true (K9 h (j+1) (by omega))).2.2.2 (by omega)
    rw [Nat.add_sub_cancel] at h2
    omega
 apply Decidable.byContradiction
 intro hn
 have h1:=key l.length (Nat.le_refl _) 3 (by omega)
 have h2:=Z2 h (qn (z:=(0:Int)) (show 3<l.length by omega)).out
 have h3:=qax h2.2.1 h2.2.2
 omega
theorem qmB (a s:Int):(if a<s then a else s)=min s a:=by rw [Int.min_def];split<;>split<;>omega
theorem VN (l v:List Int)(hl:qW l=true)(hv:qS v=true):qe Tryz.prog 108 [aIs l,aIs v] (rI (ZP v l 1)):=by
 refine qe.of qc (fn:=Tryz.f108) (c:=Tryz.f108.body.getD .skip) (dr:=fun n=>qa 0 [] n) Tryz.func108 rfl (by kernel_rfl) (by kernel_rfl) (by kernel_rfl) ?_
 obtain ⟨f,hf⟩:∃ f,f=zG:=⟨_,rfl⟩
 have hO:qp Tryz.prog (qJ [(134,VJ f)]):=by subst hf;exact qb W0 qd
 have h3:=qgj hl
 have hv3:=qR hv
 rw [show ZP v l 1=ZP v (l.drop 0) 1 by rw [List.drop_zero]]
 refine SEx.go (X:=XX) qc (fun n=>qa [] [(3,[1,5,9,10,11])] n) (fun _=>none) hO 60 ?_
 intro M R L N m0 m1 m2 m3 m4 m5
 cases M
 cbv
 repeat' first | refine m1 _ _ ?_ ?_ | refine m2 _ _ fun h=>?_ | refine m3 _ ?_ | (refine m4 _ _ (Hd.out ?_);generalize hks:(List.cons _ _:List K)=ks) | (refine m5 _ _ ?_;cbv)
 all_goals (clear m1 m2 m3 m4 m5;cases m0;try dsimp only)
 all_goals try simp only [sm] at *
 obtain ⟨m,hm⟩:∃ m,m=l.length:=⟨_,rfl⟩
 refine ⟨SEx.same (SEx.idxS m (fun i (s:Int)=>⟨30,[(1,bL (.i v)),(5,bI s),(9,bL (.i l)),(10,bI m),(11,bI i)],[]⟩) (fun i s=>rI (ZP v (l.drop i) s)) (fun _ _=>True) 1 trivial ?_) (by rw [hm];rfl) rfl⟩
 intro i s hi _ ih
 rw [<-hks]
 have hp:i<m->0<f (l.getD i 0)/\f (l.getD i 0)<=3:=fun h=>by
  have h2:=Z2 hl (qn (z:=(0:Int)) (show i<l.length by omega)).out
  rw [hf]
  exact ⟨WP h2.1 h2.2.1 h2.2.2,qax h2.2.1 h2.2.2⟩
 have hw:i<m->IntKind.i64.wrap (f (l.getD i 0)-1)=f (l.getD i 0)-1:=fun h=>by have:=hp h;exact qr (by omega) (by omega)
 refine SEx.go (X:=XX) qc (fun n=>qa [] [(3,[1,5,9,10,11])] n) (fun _=>none) hO 60 ?_
 intro M R L N m0 m1 m2 m3 m4 m5
 cases M
 cbv
 repeat' first | refine m1 _ _ ?_ ?_ | refine m2 _ _ fun h=>?_ | refine m3 _ ?_ | (refine m4 _ _ (Hd.out ?_);try first | rw [hks] | rw [hk2] | rw [hk3]) | (refine m5 _ _ ?_;cbv)
 all_goals (clear m1 m2 m3 m4 m5;cases m0;(try clear hks;try clear hk2;try clear hk3);try dsimp only)
 all_goals try simp only [sm] at *
 all_goals (try (have h7:=hp (by omega)))
 all_goals (try rw [hw (by omega)] at *)
 all_goals (have hvr:=QY hv (f (l.getD i 0)-1).toNat;try rw [qr (n:=0-v.getD (f (l.getD i 0)-1).toNat 0) (by omega) (by omega)])
 all_goals (try simp only [qg (show i<9223372036854775807 by omega),qmB])
 all_goals first
  | omega
  | exact ⟨(WD hl _ (qn (z:=(0:Int)) (by omega)).out).1⟩
  | (refine ⟨(ih _ (by omega) trivial).same rfl ?_⟩;rw [Wo (show i<l.length by omega),Jf,if_pos (by assumption),hf,Int.zero_sub];done)
  | (refine ⟨(ih _ (by omega) trivial).same rfl ?_⟩;rw [Wo (show i<l.length by omega),Jf,if_neg (by omega),hf];done)
  | (rw [List.drop_eq_nil_of_le (by omega)];rfl)
  | skip
theorem qcU (x:Int)(v:List Int)(hx:¬x=0/\-3<=x/\x<=3)(hv:qS v=true):qe Tryz.prog 169 [aI x,aIs v] (rI (Jf v x)):=by
 refine qe.of qc (fn:=Tryz.f169) (c:=Tryz.f169.body.getD .skip) (dr:=fun n=>qa 0 [] n) Tryz.func169 rfl (by kernel_rfl) (by kernel_rfl) (by kernel_rfl) ?_
 obtain ⟨f,hf⟩:∃ f,f=zG:=⟨_,rfl⟩
 have hO:qp Tryz.prog (qJ [(143,VJ f)]):=by subst hf;exact qb W1 qd
 have hv3:=qR hv
 have hp:0<f x/\f x<=3:=by rw [hf];exact ⟨WP hx.1 hx.2.1 hx.2.2,qax hx.2.1 hx.2.2⟩
 have hw:IntKind.i64.wrap (f x-1)=f x-1:=qr (by omega) (by omega)
 refine SEx.go (X:=XX) qc (fun n=>qa [] [] n) (fun _=>none) hO 60 ?_
 intro M R L N m0 m1 m2 m3 m4 m5
 cases M
 cbv
 repeat' first | refine m1 _ _ ?_ ?_ | refine m2 _ _ fun h=>?_ | refine m3 _ ?_ | (refine m4 _ _ (Hd.out ?_);try first | rw [hks] | rw [hk2] | rw [hk3]) | (refine m5 _ _ ?_;cbv)
 all_goals (clear m1 m2 m3 m4 m5;cases m0;(try clear hks;try clear hk2;try clear hk3);try dsimp only)
 all_goals try simp only [sm] at *
 all_goals (try rw [hw] at *)
 all_goals (have hvr:=QY hv (f x-1).toNat;try rw [qr (n:=0-v.getD (f x-1).toNat 0) (by omega) (by omega)])
 all_goals first
  | omega
  | (refine ⟨?_⟩;rw [jf];omega)
  | (simp only [Km];rw [Jf,if_pos (by assumption),hf,Int.zero_sub];done)
  | (simp only [Km];rw [Jf,if_neg (by omega),hf];done)
  | skip
structure qs8 (x:Int):Prop where out:¬x=0/\-3<=x/\x<=3
def qnv (f:List Int->Int->Int):Wr:=w2 dcI zX (fun x v=>rI (f v x)) (fun x v=>[qs8 x,qsp v])
theorem qky:qy Tryz.prog 169 (qnv Jf):=qE fun x v h=>qcU x v (h _ (.head _)).out (h _ (.tail _ (.head _))).out
theorem Kz (l v:List Int)(hl:Z9 l)(hv:v.length<=maxLen):qe Tryz.prog 149 [aIs l,aIs v] (rI (if qW l=true/\qS v=true then ZP v l 1 else -1)):=by
 refine qe.of qc (fn:=Tryz.f149) (c:=Tryz.f149.body.getD .skip) (dr:=fun n=>qa 0 [] n) Tryz.func149 rfl (by kernel_rfl) (by kernel_rfl) (by kernel_rfl) ?_
 obtain ⟨f,hf⟩:∃ f,f=Jf:=⟨_,rfl⟩
 obtain ⟨f1,hf1⟩:∃ f,f=qW:=⟨_,rfl⟩
 obtain ⟨f2,hf2⟩:∃ f,f=qS:=⟨_,rfl⟩
 have hO:qp Tryz.prog (qJ [(167,Q7 f1),(120,ZT f2),(169,qnv f)]):=by subst hf hf1 hf2;exact qb Z7 (qb wc (qb qky qd))
 rw [<-hf1,<-hf2]
 refine SEx.go (X:=XX) qc (fun n=>qa [] [(5,[1,5,16,17,18])] n) (fun _=>none) hO 60 ?_
 intro M R L N m0 m1 m2 m3 m4 m5
 cases M
 cbv
 repeat' first | refine m1 _ _ ?_ ?_ | refine m2 _ _ fun h=>?_ | refine m3 _ ?_ | (refine m4 _ _ (Hd.out ?_);generalize hks:(List.cons _ _:List K)=ks) | (refine m5 _ _ ?_;cbv)
 all_goals (clear m1 m2 m3 m4 m5;cases m0;try dsimp only)
 all_goals try simp only [sm] at *
 all_goals first
  | exact hl
  | exact ⟨hv⟩
  | (simp only [Km];rw [if_neg];rintro ⟨h1,h2⟩;simp_all;done)
  | skip
 rw [if_pos ⟨by assumption,by assumption⟩]
 have hlb:qW l=true:=by rw [<-hf1];assumption
 have hvb:qS v=true:=by rw [<-hf2];assumption
 have h3:=qgj hlb
 obtain ⟨m,hm⟩:∃ m,m=l.length:=⟨_,rfl⟩
 refine ⟨SEx.same (SEx.idxS m (fun i (s:Int)=>⟨29,[(1,bL (.i v)),(5,bI s),(16,bL (.i l)),(17,bI m),(18,bI i)],[]⟩) (fun i s=>rI (ZP v (l.drop i) s)) (fun _ _=>True) 1 trivial ?_) (by rw [hm];rfl) rfl⟩
 intro i s hi _ ih
 rw [<-hks]
 refine SEx.go (X:=XX) qc (fun n=>qa [] [(5,[1,5,16,17,18])] n) (fun _=>none) hO 60 ?_
 intro M R L N m0 m1 m2 m3 m4 m5
 cases M
 cbv
 repeat' first | refine m1 _ _ ?_ ?_ | refine m2 _ _ fun h=>?_ | refine m3 _ ?_ | (refine m4 _ _ (Hd.out ?_);try first | rw [hks] | rw [hk2] | rw [hk3]) | (refine m5 _ _ ?_;cbv)
 all_goals (clear m1 m2 m3 m4 m5;cases m0;(try clear hks;try clear hk2;try clear hk3);try dsimp only)
 all_goals try simp only [sm] at *
 all_goals (try simp only [qg (show i<9223372036854775807 by omega),qmB])
 all_goals first
  | omega
  | exact ⟨Z2 hlb (qn (z:=(0:Int)) (by omega)).out⟩
  | exact ⟨hvb⟩
  | (refine ⟨(ih _ (by omega) trivial).same rfl ?_⟩;rw [Wo (show i<l.length by omega),hf];done)
  | (rw [List.drop_eq_nil_of_le (by omega)];rfl)
  | skip
def nsI (t:ql)(x:qf)(i:Int):Int:=ZP x.vals (nd t.nodes i).label 1
structure StT (t:ql)(x:qf):Prop where
 sh:za t=true
 st:Qd t x=true
theorem StT.vals {t:ql}{x:qf}(h:StT t x):qS x.vals=true:=by
 have:=h.st
 unfold Qd at this
 rw [Bool.and_eq_true,Bool.and_eq_true] at this
 exact this.2.1
theorem StT.now {t:ql}{x:qf}(h:StT t x):0<=x.now/\x.now<=t.hor+1/\x.times.length=t.nodes.length:=by
 have:=h.st
 unfold Qd at this
 rw [Bool.and_eq_true,decide_eq_true_eq] at this
 exact this.1
theorem Wn {α:Type}{p:Nat->α->Bool}:∀ {l:List α} {n i:Nat} (z:α),qA p l n=true->i<l.length->p (n+i) (l.getD i z)=true
 | a::r,n,0,z,h,_=>by
   unfold qA at h
   rw [Bool.and_eq_true] at h
   simpa using h.1
 | a::r,n,i+1,z,h,hi=>by
   unfold qA at h
   rw [Bool.and_eq_true] at h
   have:=Wn z h.2 (show i<r.length by simpa using hi)
   rw [List.getD_cons_succ,show n+(i+1)=n+1+i by omega]
   exact this
theorem StT.time {t:ql}{x:qf}(h:StT t x)(i:Nat):-1<=x.times.getD i 0/\x.times.getD i 0<=10:=by
 have hn:=h.now
 have hh:=zp h.sh
 have:=h.st
 unfold Qd at this
 rw [Bool.and_eq_true,Bool.and_eq_true,Bool.and_eq_true] at this
 by_cases hi:i<x.times.length
 . have h1:=Wn (0:Int) this.2.2.1 hi
   rw [Nat.zero_add,Q9,decide_eq_true_eq] at h1
   by_cases h0:i=0
   . have:=h1.1 h0;omega
   . have:=h1.2 (by omega);omega
 . rw [List.getD_eq_getElem?_getD,List.getElem?_eq_none (by omega)]
   exact ⟨by decide,by decide⟩
structure kd (t:ql)(x:qf):Prop where
 sh:jw t
 st:Zd x
theorem qcQ (t:ql)(x:qf)(i:Int)(hs:kd t x)(h:StT t x)(hi:0<=i/\i<t.nodes.length):qe Tryz.prog 128 [qQ t,qH x,aI i] (rI (nsI t x i)):=by
 refine qe.of qc (fn:=Tryz.f128) (c:=Tryz.f128.body.getD .skip) (dr:=fun n=>qa 0 [(1,8)] n) Tryz.func128 rfl (by kernel_rfl) (by kernel_rfl) (by kernel_rfl) ?_
 have h1:=kM h.sh (qn (z:=qi.z) (show i.toNat<t.nodes.length by omega)).out
 have h2:=h.vals
 have h3:=hs.sh.nodes _ (qn (z:=qi.z) (show i.toNat<t.nodes.length by omega)).out
 have h4:=hs.st.vlen
 unfold nsI nd
 obtain ⟨f,hf⟩:∃ f:List Int->List Int->Int,f=fun l v=>if qW l=true/\qS v=true then ZP v l 1 else -1:=⟨_,rfl⟩
 have hO:qp Tryz.prog (qJ [(149,w2 zX zX (fun l v=>rI (f l v)) (fun l v=>[Z9 l,LLe v maxLen]))]):=by
  subst hf
  exact qb (qE fun l v h=>Kz l v (h _ (.head _)) (h _ (.tail _ (.head _))).out) qd
 have he:f (t.nodes.getD i.toNat qi.z).label x.vals=ZP x.vals (t.nodes.getD i.toNat qi.z).label 1:=by rw [hf];exact if_pos ⟨h1,h2⟩
 rw [<-he]
 clear hs h hf he
 obtain ⟨ns,ts,hr⟩:=t
 obtain ⟨now,times,vals⟩:=x
 dsimp only at hi h1 h2 h3 h4
 refine SEx.go (X:=XX) qc (fun n=>qa [] [] n) (fun _=>none) hO 60 ?_
 intro M R L N m0 m1 m2 m3 m4 m5
 cases M
 cbv
 repeat' first | refine m1 _ _ ?_ ?_ | refine m2 _ _ fun h=>?_ | refine m3 _ ?_ | (refine m4 _ _ (Hd.out ?_);try first | rw [hks] | rw [hk2] | rw [hk3]) | (refine m5 _ _ ?_;cbv)
 all_goals (clear m1 m2 m3 m4 m5;cases m0;(try clear hks;try clear hk2;try clear hk3);try dsimp only)
 all_goals try simp only [sm] at *
 all_goals first
  | omega
  | exact ⟨h3.len,h3.all⟩
  | exact ⟨h4⟩
  | rfl
  | skip
end Go.Proofs.YtifnopmkdempdaaGreat.Ai
namespace Go.Proofs.YtifnopmkdempdaaGreat.Ai
open Go
set_option maxRecDepth 100000
variable [qh]
def qkB (l v:List Int):Int:=ZP v l 1
def QO (f:List Int->List Int->Int):Wr:=w2 zX zX (fun l v=>rI (f l v)) (fun l v=>[qs4 l,qsp v])
theorem jI:qy Tryz.prog 108 (QO qkB):=qE fun l v h=>VN l v (h _ (.head _)).out (h _ (.tail _ (.head _))).out
def wx (f:ql->qf->Int->Int):Wr:=w3 qN qF dcI (fun t x i=>rI (f t x i)) (fun t x i=>[kd t x,StT t x,InX i t.nodes])
theorem J8:qy Tryz.prog 128 (wx nsI):=jv fun t x i h=>qcQ t x i (h _ (.head _)) (h _ (.tail _ (.head _))) (h _ (.tail _ (.tail _ (.head _)))).out
structure Zb (t:ql)(q:Tie):Prop where
 src:0<=q.src/\q.src<t.nodes.length
 dst:0<=q.dst/\q.dst<t.nodes.length
theorem kF {t:ql}(h:za t=true){q:Tie}(hq:q∈t.ties):Zb t q:=by
 have hn:=qI h
 unfold za J4 at h
 simp only [Bool.and_eq_true] at h
 obtain ⟨i,hi⟩:=QZ h.2.2.1.1 hq
 unfold wH at hi
 rw [Bool.and_eq_true,decide_eq_true_eq] at hi
 exact ⟨by omega,by omega⟩
def KY (t:ql)(x:qf)(q:Tie):Bool :=
 if ¬x.times.getD q.src.toNat 0=-1/\¬x.times.getD q.dst.toNat 0=-1 then !(decide (q.low<=x.times.getD q.dst.toNat 0-x.times.getD q.src.toNat 0)&&decide (x.times.getD q.dst.toNat 0-x.times.getD q.src.toNat 0<=q.high))
 else if q.free=true then false
 else if ¬x.times.getD q.src.toNat 0=-1 then decide (nsI t x q.dst=1)&&decide (q.high<x.now-x.times.getD q.src.toNat 0)
 else if ¬x.times.getD q.dst.toNat 0=-1 then decide (nsI t x q.src=1)&&decide (x.times.getD q.dst.toNat 0-x.now<q.low)
 else false
theorem qeS (t:ql)(x:qf)(q:Tie)(h:StT t x)(hq:Zb t q):qe Tryz.prog 123 [qQ t,qH x,y8 q] (rB (KY t x q)):=by
 refine qe.of qc (fn:=Tryz.f123) (c:=Tryz.f123.body.getD .skip) (dr:=fun n=>qa 0 [(8,18),(10,18)] n) Tryz.func123 rfl (by kernel_rfl) (by kernel_rfl) (by kernel_rfl) ?_
 obtain ⟨f0,hf0⟩:∃ f,f=kb:=⟨_,rfl⟩
 obtain ⟨f1,hf1⟩:∃ f,f=qkB:=⟨_,rfl⟩
 have hO:qp Tryz.prog (qJ [(104,Ys f0),(108,QO f1)]):=by
  subst hf0 hf1
  exact qb Qf (qb jI qd)
 have hv:=h.vals
 have hn:=h.now
 have hh:=zp h.sh
 have ht:=h.time
 have hl:∀ n∈t.nodes,qW n.label=true:=fun n hn=>kM h.sh hn
 have h5:=hq.src
 have h6:=hq.dst
 have hr:KY t x q=if ¬x.times.getD q.src.toNat 0=-1/\¬x.times.getD q.dst.toNat 0=-1 then !(f0 (x.times.getD q.dst.toNat 0-x.times.getD q.src.toNat 0) q.low q.high)
  else if q.free=true then false
  else if ¬x.times.getD q.src.toNat 0=-1 then decide (f1 (t.nodes.getD q.dst.toNat qi.z).label x.vals=1)&&decide (q.high<x.now-x.times.getD q.src.toNat 0)
  else if ¬x.times.getD q.dst.toNat 0=-1 then decide (f1 (t.nodes.getD q.src.toNat qi.z).label x.vals=1)&&decide (x.times.getD q.dst.toNat 0-x.now<q.low)
  else false:=by rw [hf0,hf1];rfl
 rw [hr]
 clear h hq hr
 obtain ⟨ns,ts,hr⟩:=t
 obtain ⟨now,times,vals⟩:=x
 obtain ⟨x1,x2,x3,x4,x5⟩:=q
 dsimp only at hv hn hh ht h5 h6 hl ⊢
 have hta:=ht x1.toNat
 have htb:=ht x2.toNat
 have hw1:IntKind.i64.wrap (times.getD x2.toNat 0-times.getD x1.toNat 0)=times.getD x2.toNat 0-times.getD x1.toNat 0:=qr (by omega) (by omega)
 have hw2:IntKind.i64.wrap (now-times.getD x1.toNat 0)=now-times.getD x1.toNat 0:=qr (by omega) (by omega)
 have hw3:IntKind.i64.wrap (times.getD x2.toNat 0-now)=times.getD x2.toNat 0-now:=qr (by omega) (by omega)
 refine SEx.go (X:=XX) qc (fun n=>qa [] [] n) (fun _=>none) hO 60 ?_
 intro M R L N m0 m1 m2 m3 m4 m5
 cases M
 cbv
 repeat' first | refine m1 _ _ ?_ ?_ | refine m2 _ _ fun h=>?_ | refine m3 _ ?_ | (refine m4 _ _ (Hd.out ?_);try first | rw [hks] | rw [hk2] | rw [hk3]) | (refine m5 _ _ ?_;cbv)
 all_goals (clear m1 m2 m3 m4 m5;cases m0;(try clear hks;try clear hk2;try clear hk3);try dsimp only)
 all_goals try simp only [sm] at *
 all_goals (clear hO ht)
 all_goals (try simp only [hw1,hw2,hw3] at *)
 all_goals first
  | omega
  | contradiction
  | exact ⟨hv⟩
  | exact ⟨hl _ (qn (z:=qi.z) (by omega)).out⟩
  | (refine qM ?_ _;delta qi.label at *;clear hl;simp_all;done)
  | skip
theorem qjd {α:Type}{p:Nat->α->Bool}(z:α):∀ (l:List α) (n:Nat),qA p l n=VP (fun i=>p (n+i) (l.getD i z)) l.length
 | [],n=>rfl
 | a::r,n=>by
   unfold qA VP
   rw [List.length_cons,List.range_succ_eq_map,List.all_cons,List.all_map,qjd z r (n+1)]
   show (p n a&&_)=(p n a&&_)
   congr 1
   unfold VP
   congr 1
   funext i
   show p (n+1+i) _=p (n+(i+1)) _
   rw [show n+1+i=n+(i+1) by omega]
   rfl
theorem WO {α:Type}{p:Nat->α->Bool}(z:α)(l:List α):qA p l 0=VP (fun i=>p i (l.getD i z)) l.length:=by
 rw [qjd z l 0];simp only [Nat.zero_add]
def qn2 (t:ql)(x:qf)(i:Nat):Bool:=!(decide (x.times.getD i 0=-1)&&decide (0<=nsI t x i))
def jD (t:ql)(x:qf):Bool:=VP (qn2 t x) t.nodes.length
def z6 (t:ql)(x:qf):Bool:=!(qA (fun _ q=>!KY t x q) t.ties 0&&(decide (x.now<=t.hor)||jD t x))
theorem qfu (t:ql)(x:qf)(hs:jw t)(h:StT t x):qe Tryz.prog 95 [qQ t,qH x] (rB (jD t x)):=by
 refine qe.of qc (fn:=Tryz.f95) (c:=Tryz.f95.body.getD .skip) (dr:=fun n=>qa 0 [] n) Tryz.func95 rfl (by kernel_rfl) (by kernel_rfl) (by kernel_rfl) ?_
 obtain ⟨f1,hf1⟩:∃ f,f=qkB:=⟨_,rfl⟩
 have hO:qp Tryz.prog (qJ [(108,QO f1)]):=by
  subst hf1
  exact qb jI qd
 have hv:=h.vals
 have hn:=h.now
 have h1:=qI h.sh
 have hl:∀ n∈t.nodes,qW n.label=true:=fun n hn=>kM h.sh hn
 obtain ⟨p,hp⟩:∃ p:Nat->qi->Bool,p=fun i q=>!(decide (x.times.getD i 0=-1)&&decide (0<=f1 q.label x.vals)):=⟨_,rfl⟩
 have hr:jD t x=(qA p t.nodes 0&&true):=by
  rw [Bool.and_true,WO qi.z,hp,hf1];rfl
 rw [hr]
 clear h hs hr
 obtain ⟨ns,ts,hr⟩:=t
 obtain ⟨now,times,vals⟩:=x
 dsimp only at hv hn h1 hl hp ⊢
 refine SEx.go (X:=XX) qc (fun n=>qa [] [(2,[3,8,9,10])] n) (fun _=>none) hO 60 ?_
 intro M R L N m0 m1 m2 m3 m4 m5
 cases M
 cbv
 repeat' first | refine m1 _ _ ?_ ?_ | refine m2 _ _ fun h=>?_ | refine m3 _ ?_ | (refine m4 _ _ (Hd.out ?_);generalize hks:(List.cons _ _:List K)=ks) | (refine m5 _ _ ?_;cbv)
 all_goals (clear m1 m2 m3 m4 m5;cases m0;try dsimp only)
 all_goals try simp only [sm] at *
 obtain ⟨m,hm⟩:∃ m,m=ns.length:=⟨_,rfl⟩
 refine ⟨SEx.same (SEx.idx m (fun i=>⟨30,[(3,bP 12288),(8,bL (.node false none ns)),(9,bI m),(10,bI i)],[(12288,.obx [.fz (.int .i64 now),.fz (.sl (.i times)),.fz (.sl (.i vals))])]⟩) (fun i=>rB (qA p (ns.drop i) i&&true)) ?_) (by rw [hm];rfl) rfl⟩
 intro i hi ih
 rw [<-hks]
 have hl2:i<m->zb _ _ _:=fun h=>zb.of p ns i true qi.z (by omega)
 have he:i=m->(qA p (ns.drop i) i&&true)=true:=fun h=>qP (by omega)
 refine SEx.go (X:=XX) qc (fun n=>qa [] [(2,[3,8,9,10])] n) (fun _=>none) hO 60 ?_
 intro M R L N m0 m1 m2 m3 m4 m5
 cases M
 cbv
 repeat' first | refine m1 _ _ ?_ ?_ | refine m2 _ _ fun h=>?_ | refine m3 _ ?_ | (refine m4 _ _ (Hd.out ?_);try first | rw [hks] | rw [hk2] | rw [hk3]) | (refine m5 _ _ ?_;cbv)
 all_goals (clear m1 m2 m3 m4 m5;cases m0;(try clear hks;try clear hk2;try clear hk3);try dsimp only)
 all_goals try simp only [sm] at *
 all_goals (try simp only [qg (show i<9223372036854775807 by omega)] at *)
 all_goals first
  | omega
  | exact ⟨hv⟩
  | exact ⟨hl _ (qn (z:=qi.z) (by omega)).out⟩
  | (refine qM ?_ _;rw [he (by omega)];done)
  | (refine (hl2 (by omega)).stop _ ?_;rw [hp];delta qi.label at *;clear hl2 he ih hl;simp_all;done)
  | (refine ⟨(ih (by omega)).same rfl ((hl2 (by omega)).go ?_)⟩;rw [hp];delta qi.label at *;clear hl2 he ih hl;simp_all;done)
  | skip
theorem qaC (t:ql)(x:qf)(hs:jw t)(h:StT t x):qe Tryz.prog 94 [qQ t,qH x] (rB (z6 t x)):=by
 refine qe.of qc (fn:=Tryz.f94) (c:=Tryz.f94.body.getD .skip) (dr:=fun n=>qa 0 [] n) Tryz.func94 rfl (by kernel_rfl) (by kernel_rfl) (by kernel_rfl) ?_
 obtain ⟨f1,hf1⟩:∃ f,f=qkB:=⟨_,rfl⟩
 obtain ⟨f2,hf2⟩:∃ f,f=KY:=⟨_,rfl⟩
 have hO:qp Tryz.prog (qJ [(108,QO f1),(123,w3 qN qF Yc (fun t x q=>rB (f2 t x q)) (fun t x q=>[StT t x,Zb t q]))]):=by
  subst hf1 hf2
  exact qb jI (qb (jv fun t x q h=>qeS t x q (h _ (.head _)) (h _ (.tail _ (.head _)))) qd)
 have hv:=h.vals
 have hn:=h.now
 have h1:=qI h.sh
 have h2:=zU h.sh
 have hl:∀ n∈t.nodes,qW n.label=true:=fun n hn=>kM h.sh hn
 have ht:∀ q∈t.ties,Zb t q:=fun q hq=>kF h.sh hq
 obtain ⟨p,hp⟩:∃ p:Nat->qi->Bool,p=fun i q=>!(decide (t.hor<x.now)&&(decide (x.times.getD i 0=-1)&&decide (0<=f1 q.label x.vals))):=⟨_,rfl⟩
 obtain ⟨pt,hpt⟩:∃ p:Nat->Tie->Bool,p=fun _ q=>!f2 t x q:=⟨_,rfl⟩
 have e:qA p t.nodes 0=(decide (x.now<=t.hor)||jD t x):=by
  rw [WO qi.z,hp,hf1]
  by_cases hc:t.hor<x.now
  . rw [decide_eq_true hc,decide_eq_false (show ¬x.now<=t.hor by omega),Bool.false_or];rfl
  . rw [decide_eq_false hc,decide_eq_true (show x.now<=t.hor by omega),Bool.true_or]
    exact ZH fun j hj=>rfl
 obtain ⟨d,hd⟩:∃ d,d=qA p t.nodes 0:=⟨_,rfl⟩
 have hr:z6 t x=!(qA pt t.ties 0&&d):=by
  rw [hd,e,hpt,hf2];rfl
 rw [hr]
 clear hs hr e
 obtain ⟨ns,ts,hr⟩:=t
 obtain ⟨now,times,vals⟩:=x
 dsimp only at hv hn h1 h2 hl hp hd ht ⊢
 refine SEx.go (X:=XX) qc (fun n=>qa [] [(2,[2,3,10,11,12]),(8,[2,3,22,23,24])] n) (fun _=>none) hO 60 ?_
 intro M R L N m0 m1 m2 m3 m4 m5
 cases M
 cbv
 repeat' first | refine m1 _ _ ?_ ?_ | refine m2 _ _ fun h=>?_ | refine m3 _ ?_ | (refine m4 _ _ (Hd.out ?_);generalize hks:(List.cons _ _:List K)=ks) | (refine m5 _ _ ?_;cbv)
 all_goals (clear m1 m2 m3 m4 m5;cases m0;try dsimp only)
 all_goals try simp only [sm] at *
 obtain ⟨m,hm⟩:∃ m,m=ts.length:=⟨_,rfl⟩
 refine ⟨SEx.same (SEx.idx m (fun i=>⟨51,[(2,bP 8192),(3,bP 12288),(10,bL (.tie ts)),(11,bI m),(12,bI i)],[(8192,.obx [.fz (.sl (.node false none ns)),.fz (.sl (.tie ts)),.fz (.int .i64 hr)]),(12288,.obx [.fz (.int .i64 now),.fz (.sl (.i times)),.fz (.sl (.i vals))])]⟩) (fun i=>rB (!(qA pt (ts.drop i) i&&d))) ?_) (by rw [hm];rfl) rfl⟩
 intro i hi ih
 rw [<-hks]
 have hl2:i<m->zb _ _ _:=fun h=>zb.of pt ts i d Tie.z (by omega)
 have he:i=m->(qA pt (ts.drop i) i&&d)=d:=fun h=>qP (by omega)
 refine SEx.go (X:=XX) qc (fun n=>qa [] [(2,[2,3,10,11,12]),(8,[2,3,22,23,24])] n) (fun _=>none) hO 60 ?_
 intro M R L N m0 m1 m2 m3 m4 m5
 cases M
 cbv
 repeat' first | refine m1 _ _ ?_ ?_ | refine m2 _ _ fun h=>?_ | refine m3 _ ?_ | (refine m4 _ _ (Hd.out ?_);first | rw [hks] | generalize hk2:(List.cons _ _:List K)=k2) | (refine m5 _ _ ?_;cbv)
 all_goals (clear m1 m2 m3 m4 m5;cases m0;try dsimp only)
 all_goals try simp only [sm] at *
 all_goals (try simp only [qg (show i<9223372036854775807 by omega)] at *)
 all_goals first
  | omega
  | exact h
  | exact ht _ (qn (z:=Tie.z) (by omega)).out
  | (refine (hl2 (by omega)).stopN _ ?_;rw [hpt];clear hl2 he ih hl ht;simp_all;done)
  | (refine ⟨(ih (by omega)).same rfl ((hl2 (by omega)).goN ?_)⟩;rw [hpt];clear hl2 he ih hl ht;simp_all;done)
  | skip
 have him:i=m:=by omega
 rw [he him,hd]
 clear ih hl2 he hd
 obtain ⟨w,hw⟩:∃ w,w=ns.length:=⟨_,rfl⟩
 refine ⟨SEx.same (SEx.idx w (fun i=>⟨51,[(2,bP 8192),(3,bP 12288),(22,bL (.node false none ns)),(23,bI w),(24,bI i)],[(8192,.obx [.fz (.sl (.node false none ns)),.fz (.sl (.tie ts)),.fz (.int .i64 hr)]),(12288,.obx [.fz (.int .i64 now),.fz (.sl (.i times)),.fz (.sl (.i vals))])]⟩) (fun i=>rB (!(qA p (ns.drop i) i&&true))) ?_) (by rw [hw];rfl) (by rw [Bool.and_true];rfl)⟩
 intro k hk ih
 rw [<-hk2]
 have hl2:k<w->zb _ _ _:=fun h=>zb.of p ns k true qi.z (by omega)
 have he:k=w->(qA p (ns.drop k) k&&true)=true:=fun h=>qP (by omega)
 refine SEx.go (X:=XX) qc (fun n=>qa [] [(2,[2,3,10,11,12]),(8,[2,3,22,23,24])] n) (fun _=>none) hO 60 ?_
 intro M R L N m0 m1 m2 m3 m4 m5
 cases M
 cbv
 repeat' first | refine m1 _ _ ?_ ?_ | refine m2 _ _ fun h=>?_ | refine m3 _ ?_ | (refine m4 _ _ (Hd.out ?_);try first | rw [hks] | rw [hk2] | rw [hk3]) | (refine m5 _ _ ?_;cbv)
 all_goals (clear m1 m2 m3 m4 m5;cases m0;(try clear hks;try clear hk2;try clear hk3);try dsimp only)
 all_goals try simp only [sm] at *
 all_goals (try simp only [qg (show k<9223372036854775807 by omega)] at *)
 all_goals first
  | omega
  | exact ⟨hv⟩
  | exact ⟨hl _ (qn (z:=qi.z) (by omega)).out⟩
  | (refine qM ?_ _;rw [he (by omega)];rfl)
  | (refine (hl2 (by omega)).stopN _ ?_;rw [hp];delta qi.label at *;clear hl2 he ih hl ht;simp_all;done)
  | (refine ⟨(ih (by omega)).same rfl ((hl2 (by omega)).goN ?_)⟩;rw [hp];delta qi.label at *;clear hl2 he ih hl ht;simp_all;done)
  | (refine ⟨(ih (by omega)).same rfl ((hl2 (by omega)).goN ?_)⟩;rw [hp];dsimp only;rw [decide_eq_false (show ¬hr<now by omega)];rfl)
  | skip
end Go.Proofs.YtifnopmkdempdaaGreat.Ai
namespace Go.Proofs.YtifnopmkdempdaaGreat.Ai
open Go
set_option maxRecDepth 100000
variable [qh]
theorem y6 (t:ql)(x:qf)(q:Tie)(hs:kd t x)(hst:StT t x)(hq:Zb t q):qe Tryz.prog 127 [qQ t,qH x,y8 q] (rB (KY t x q)):=by
 refine qe.of qc (fn:=Tryz.f127) (c:=Tryz.f127.body.getD .skip) (dr:=fun n=>qa 0 [(1,14)] n) Tryz.func127 rfl (by kernel_rfl) (by kernel_rfl) (by kernel_rfl) ?_
 obtain ⟨f1,hf1⟩:∃ f,f=nsI:=⟨_,rfl⟩
 have hO:qp Tryz.prog (qJ [(128,wx f1)]):=by
  subst hf1
  exact qb J8 qd
 have hn:=hst.now
 have hh:=zp hst.sh
 have ht:=hst.time
 have h5:=hq.src
 have h6:=hq.dst
 have hr:KY t x q=if ¬x.times.getD q.src.toNat 0=-1/\¬x.times.getD q.dst.toNat 0=-1 then !(decide (q.low<=x.times.getD q.dst.toNat 0-x.times.getD q.src.toNat 0)&&decide (x.times.getD q.dst.toNat 0-x.times.getD q.src.toNat 0<=q.high))
  else if q.free=true then false
  else if ¬x.times.getD q.src.toNat 0=-1 then decide (f1 t x q.dst=1)&&decide (q.high<x.now-x.times.getD q.src.toNat 0)
  else if ¬x.times.getD q.dst.toNat 0=-1 then decide (f1 t x q.src=1)&&decide (x.times.getD q.dst.toNat 0-x.now<q.low)
  else false:=by rw [hf1];rfl
 rw [hr]
 clear hq hr
 obtain ⟨ns,ts,hr⟩:=t
 obtain ⟨now,times,vals⟩:=x
 obtain ⟨x1,x2,x3,x4,x5⟩:=q
 dsimp only at hn hh ht h5 h6 ⊢
 have hta:=ht x1.toNat
 have htb:=ht x2.toNat
 have hw1:IntKind.i64.wrap (times.getD x2.toNat 0-times.getD x1.toNat 0)=times.getD x2.toNat 0-times.getD x1.toNat 0:=qr (by omega) (by omega)
 have hw2:IntKind.i64.wrap (now-times.getD x1.toNat 0)=now-times.getD x1.toNat 0:=qr (by omega) (by omega)
 have hw3:IntKind.i64.wrap (times.getD x2.toNat 0-now)=times.getD x2.toNat 0-now:=qr (by omega) (by omega)
 refine SEx.go (X:=XX) qc (fun n=>qa [] [] n) (fun _=>none) hO 60 ?_
 intro M R L N m0 m1 m2 m3 m4 m5
 cases M
 cbv
 repeat' first | refine m1 _ _ ?_ ?_ | refine m2 _ _ fun h=>?_ | refine m3 _ ?_ | (refine m4 _ _ (Hd.out ?_);try first | rw [hks] | rw [hk2] | rw [hk3]) | (refine m5 _ _ ?_;cbv)
 all_goals (clear m1 m2 m3 m4 m5;cases m0;(try clear hks;try clear hk2;try clear hk3);try dsimp only)
 all_goals try simp only [sm] at *
 all_goals (clear hO ht)
 all_goals (try simp only [hw1,hw2,hw3] at *)
 all_goals first
  | omega
  | contradiction
  | exact hs
  | exact hst
  | exact ⟨h5⟩
  | exact ⟨h6⟩
  | (refine qM ?_ _;clear hs hst hw1 hw2 hw3;simp_all;done)
  | (refine qM ?_ _;clear hs hst hw1 hw2 hw3;rw [if_pos ⟨by assumption,by assumption⟩];first | (rw [decide_eq_false (show ¬_ by omega)];rfl) | (rw [decide_eq_true (show x3<=_ by omega),Bool.true_and,Bool.eq_iff_iff];simp;done))
  | skip
def qo4 (f:ql->qf->Tie->Bool):Wr:=w3 qN qF Yc (fun t x q=>rB (f t x q)) (fun t x q=>[kd t x,StT t x,Zb t q])
theorem qln:qy Tryz.prog 127 (qo4 KY):=jv fun t x q h=>y6 t x q (h _ (.head _)) (h _ (.tail _ (.head _))) (h _ (.tail _ (.tail _ (.head _))))
theorem qci (q:Tie)(t:ql)(x:qf)(hs:kd t x)(hst:StT t x)(hq:Zb t q):qe Tryz.prog 126 [y8 q,(false,[.ptr t.d]),(false,[.ptr x.d])] (rB (KY t x q)):=by
 refine qe.of qc (fn:=Tryz.f126) (c:=Tryz.f126.body.getD .skip) (dr:=fun n=>qa 0 [] n) Tryz.func126 rfl (by kernel_rfl) (by kernel_rfl) (by kernel_rfl) ?_
 obtain ⟨f,hf⟩:∃ f,f=KY:=⟨_,rfl⟩
 have hO:qp Tryz.prog (qJ [(127,qo4 f)]):=by subst hf;exact qb qln qd
 rw [<-hf]
 obtain ⟨ns,ts,hr⟩:=t
 obtain ⟨now,times,vals⟩:=x
 obtain ⟨x1,x2,x3,x4,x5⟩:=q
 refine SEx.go (X:=XX) qc (fun n=>qa [] [] n) (fun _=>none) hO 60 ?_
 intro M R L N m0 m1 m2 m3 m4 m5
 cases M
 cbv
 repeat' first | refine m1 _ _ ?_ ?_ | refine m2 _ _ fun h=>?_ | refine m3 _ ?_ | (refine m4 _ _ (Hd.out ?_);try first | rw [hks] | rw [hk2] | rw [hk3]) | (refine m5 _ _ ?_;cbv)
 all_goals (clear m1 m2 m3 m4 m5;cases m0;(try clear hks;try clear hk2;try clear hk3);try dsimp only)
 all_goals try simp only [sm] at *
 all_goals first
  | exact hs
  | exact hst
  | exact hq
  | rfl
  | skip
theorem qhb (t:ql)(x:qf)(hs:kd t x)(hst:StT t x):qe Tryz.prog 100 [qQ t,qH x] (rB (jD t x)):=by
 refine qe.of qc (fn:=Tryz.f100) (c:=Tryz.f100.body.getD .skip) (dr:=fun n=>qa 0 [] n) Tryz.func100 rfl (by kernel_rfl) (by kernel_rfl) (by kernel_rfl) ?_
 obtain ⟨f,hf⟩:∃ f,f=nsI:=⟨_,rfl⟩
 have hO:qp Tryz.prog (qJ [(128,wx f)]):=by subst hf;exact qb J8 qd
 have hn:=hst.now
 have h1:=qI hst.sh
 have hge:∀ i,-1<=f t x i:=fun i=>by rw [hf];unfold nsI;exact (qiJ hst.vals _ 1 (by decide) (by decide)).1
 obtain ⟨p,hp⟩:∃ p:Nat->Int->Bool,p=fun (i:Nat) (n:Int)=>!(decide (n=-1)&&!decide (f t x (i:Int)=-1)):=⟨_,rfl⟩
 have hr:jD t x=(qA p x.times 0&&true):=by
  rw [Bool.and_true,WO (0:Int),hn.2.2,hp]
  unfold jD
  congr 1
  funext i
  unfold qn2
  have:=hge i
  rw [hf] at this
  rw [hf,show decide (0<=nsI t x i)=!decide (nsI t x i=-1) by rw [<-decide_not];exact decide_eq_decide.2 (by omega)]
 rw [hr]
 clear hr hf
 obtain ⟨ns,ts,hr⟩:=t
 obtain ⟨now,times,vals⟩:=x
 dsimp only at hn h1 hp ⊢
 refine SEx.go (X:=XX) qc (fun n=>qa [] [(2,[2,3,8,9,10])] n) (fun _=>none) hO 60 ?_
 intro M R L N m0 m1 m2 m3 m4 m5
 cases M
 cbv
 repeat' first | refine m1 _ _ ?_ ?_ | refine m2 _ _ fun h=>?_ | refine m3 _ ?_ | (refine m4 _ _ (Hd.out ?_);generalize hks:(List.cons _ _:List K)=ks) | (refine m5 _ _ ?_;cbv)
 all_goals (clear m1 m2 m3 m4 m5;cases m0;try dsimp only)
 all_goals try simp only [sm] at *
 obtain ⟨m,hm⟩:∃ m,m=times.length:=⟨_,rfl⟩
 refine ⟨SEx.same (SEx.idx m (fun i=>⟨25,[(2,bP 8192),(3,bP 12288),(8,bL (.i times)),(9,bI m),(10,bI i)],[(8192,.obx [.fz (.sl (.node false none ns)),.fz (.sl (.tie ts)),.fz (.int .i64 hr)]),(12288,.obx [.fz (.int .i64 now),.fz (.sl (.i times)),.fz (.sl (.i vals))])]⟩) (fun i=>rB (qA p (times.drop i) i&&true)) ?_) (by rw [hm];rfl) rfl⟩
 intro i hi ih
 rw [<-hks]
 have hl2:i<m->zb _ _ _:=fun h=>zb.of p times i true (0:Int) (by omega)
 have he:i=m->(qA p (times.drop i) i&&true)=true:=fun h=>qP (by omega)
 refine SEx.go (X:=XX) qc (fun n=>qa [] [(2,[2,3,8,9,10])] n) (fun _=>none) hO 60 ?_
 intro M R L N m0 m1 m2 m3 m4 m5
 cases M
 cbv
 repeat' first | refine m1 _ _ ?_ ?_ | refine m2 _ _ fun h=>?_ | refine m3 _ ?_ | (refine m4 _ _ (Hd.out ?_);try first | rw [hks] | rw [hk2] | rw [hk3]) | (refine m5 _ _ ?_;cbv)
 all_goals (clear m1 m2 m3 m4 m5;cases m0;(try clear hks;try clear hk2;try clear hk3);try dsimp only)
 all_goals try simp only [sm] at *
 all_goals (try simp only [qg (show i<9223372036854775807 by omega)] at *)
 all_goals first
  | omega
  | exact hs
  | exact hst
  | exact ⟨⟨by omega,by omega⟩⟩
  | (refine qM ?_ _;rw [he (by omega)];done)
  | (refine (hl2 (by omega)).stop _ ?_;rw [hp];dsimp only;rw [decide_eq_true (by assumption),decide_eq_false (by assumption)];rfl)
  | (refine ⟨(ih (by omega)).same rfl ((hl2 (by omega)).go ?_)⟩;rw [hp];dsimp only;rw [decide_eq_false (by assumption)];rfl)
  | (refine ⟨(ih (by omega)).same rfl ((hl2 (by omega)).go ?_)⟩;rw [hp];dsimp only;rw [decide_eq_true (by assumption),decide_eq_true (by assumption)];rfl)
  | skip
def jt (f:ql->qf->Bool):Wr:=w2 qN qF (fun t x=>rB (f t x)) (fun t x=>[kd t x,StT t x])
theorem Vg:qy Tryz.prog 100 (jt jD):=qE fun t x h=>qhb t x (h _ (.head _)) (h _ (.tail _ (.head _)))
theorem qoX:qy Tryz.prog 95 (jt jD):=qE fun t x h=>qfu t x (h _ (.head _)).sh (h _ (.tail _ (.head _)))
theorem qf3:qy Tryz.prog 94 (jt z6):=qE fun t x h=>qaC t x (h _ (.head _)).sh (h _ (.tail _ (.head _)))
structure qsn (t:ql)(l:List Tie):Prop where out:∀ q∈l,Zb t q
def qiQ (l:List Tie)(t:ql)(x:qf):Bool:=l.any fun q=>KY t x q
theorem qfA (t:ql)(x:qf)(hs:kd t x)(hst:StT t x):qe Tryz.prog 99 [qQ t,qH x] (rB (z6 t x)):=by
 refine qe.of qc (fn:=Tryz.f99) (c:=Tryz.f99.body.getD .skip) (dr:=fun n=>qa 0 [] n) Tryz.func99 rfl (by kernel_rfl) (by kernel_rfl) (by kernel_rfl) ?_
 obtain ⟨f,hf⟩:∃ f,f=qiQ:=⟨_,rfl⟩
 obtain ⟨g,hg⟩:∃ f,f=jD:=⟨_,rfl⟩
 have hO:qp Tryz.prog (qJ [(100,jt g),(125,w2 K8 (qsd 126 true true qN qF) (fun l x=>rB (f l x.1 x.2)) (fun l x=>[LLe l maxLen,qsn x.1 l,kd x.1 x.2,StT x.1 x.2]))]):=by
  subst hf hg
  exact qb Vg (qb (qE fun l x h=>by
   have g1:=(h _ (.head _)).out
   have g2:=(h _ (.tail _ (.head _))).out
   have g3:=h _ (.tail _ (.tail _ (.head _)))
   have g4:=h _ (.tail _ (.tail _ (.tail _ (.head _))))
   exact Ji l _ _ _ (fun y hy=>qci y x.1 x.2 g3 g4 (g2 y hy)) g1) qd)
 have hr:z6 t x=(f t.ties t x||(decide (t.hor<x.now)&&!g t x)):=by
  rw [hf,hg]
  unfold z6 qiQ
  rw [KL,Bool.not_and,List.not_all_eq_any_not,Bool.not_or]
  simp only [Bool.not_not]
  congr 2
  rw [<-decide_not]
  exact decide_eq_decide.2 (by omega)
 have h1:=hs.sh.tlen
 have h2:∀ q∈t.ties,Zb t q:=fun q hq=>kF hst.sh hq
 rw [hr]
 clear hr hf hg
 obtain ⟨ns,ts,hr⟩:=t
 obtain ⟨now,times,vals⟩:=x
 dsimp only at h1 h2 ⊢
 refine SEx.go (X:=XX) qc (fun n=>qa [] [] n) (fun _=>none) hO 60 ?_
 intro M R L N m0 m1 m2 m3 m4 m5
 cases M
 cbv
 repeat' first | refine m1 _ _ ?_ ?_ | refine m2 _ _ fun h=>?_ | refine m3 _ ?_ | (refine m4 _ _ (Hd.out ?_);try first | rw [hks] | rw [hk2] | rw [hk3]) | (refine m5 _ _ ?_;cbv)
 all_goals (clear m1 m2 m3 m4 m5;cases m0;(try clear hks;try clear hk2;try clear hk3);try dsimp only)
 all_goals try simp only [sm] at *
 all_goals first
  | exact ⟨h1⟩
  | exact ⟨h2⟩
  | exact hs
  | exact hst
  | (refine qM ?_ _;clear hs hst;simp_all;done)
  | (refine qM ?_ _;rw [decide_eq_false (show ¬hr<now by omega)];simp_all;done)
  | skip
theorem qd2:qy Tryz.prog 99 (jt z6):=qE fun t x h=>qfA t x (h _ (.head _)) (h _ (.tail _ (.head _)))
end Go.Proofs.YtifnopmkdempdaaGreat.Ai
namespace Go.Proofs.YtifnopmkdempdaaGreat.Ai
open Go
set_option maxRecDepth 100000
variable [qh]
theorem qcj.le {t:ql}(h:qcj t):jw t:=⟨h.len,h.tlen,fun q hq=>⟨(h.nodes q hq).name,(h.nodes q hq).len,(h.nodes q hq).label⟩⟩
theorem yl.le {x:qf}(h:yl x):Zd x:=⟨h.now,h.len,h.vlen⟩
structure qhD (t:ql)(n:Int):Prop where
 len:t.nodes.length<=1048576
 tlen:t.ties.length<=1048576
 labs:∀ q∈t.nodes,q.label.length<=1048576
 le:n<=1048576
theorem qrl {t:ql}(h:0<=jS t 1048576):qhD t (jS t 1048576):=by
 have:=qkt (n:=1048576) (by decide) h
 exact ⟨by omega,by omega,fun q hq=>by have:=(this.2.2.1 q hq).2;omega,this.2.2.2⟩
structure qjf (x:qf):Prop where
 tlen:x.times.length<=1048576
 vlen:x.vals.length<=1048576
theorem qqq {x:qf}{n:Int}(h0:0<=n)(h1:n<=1048576)(h:0<=jG x n):qjf x:=by
 have:=qie h0 h
 exact ⟨by omega,by omega⟩
end Go.Proofs.YtifnopmkdempdaaGreat.Ai
namespace Go.Proofs.YtifnopmkdempdaaGreat.Ai
open Go
set_option maxRecDepth 100000
variable [qh]
theorem qfT (x:qf)(h1:x.times.length<=1048576)(h2:x.vals.length<=1048576):qe Tryz.prog 98 [qH x] (kV x):=by
 refine qe.of qc (fn:=Tryz.f98) (c:=Tryz.f98.body.getD .skip) (dr:=fun n=>qa 0 [(1,10)] n) Tryz.func98 rfl (by kernel_rfl) (by kernel_rfl) (by kernel_rfl) ?_
 obtain ⟨now,times,vals⟩:=x
 dsimp only at h1 h2
 refine SEx.go (X:=XX) qc (fun n=>qa [] [] n) (fun _=>none) qd 60 ?_
 intro M R L N m0 m1 m2 m3 m4 m5
 cases M
 cbv
 repeat' first | refine m1 _ _ ?_ ?_ | refine m2 _ _ fun h=>?_ | refine m3 _ ?_ | (refine m4 _ _ (Hd.out ?_);try first | rw [hks] | rw [hk2] | rw [hk3]) | (refine m5 _ _ ?_;cbv)
 all_goals (clear m1 m2 m3 m4 m5;cases m0;(try clear hks;try clear hk2;try clear hk3);try dsimp only)
 all_goals try simp only [sm] at *
 all_goals first
  | (have:=zB;omega)
  | rfl
structure Kr (x:qf):Prop where
 tlen:x.times.length<=1048576
 vlen:x.vals.length<=1048576
def ZZ:Wr:=w1 qF kV (fun x=>[Kr x])
theorem QI:qy Tryz.prog 98 ZZ:=zx fun x h=>qfT x (h _ (.head _)).tlen (h _ (.head _)).vlen
def Wu (n:Int):Int:=max (-1000000) (min n 1000000)
theorem qoQ (n:Int):qe Tryz.prog 84 [aI n] (rI (Wu n)):=by
 refine qe.of qc (fn:=Tryz.f84) (c:=Tryz.f84.body.getD .skip) (dr:=fun n=>qa 0 [] n) Tryz.func84 rfl (by kernel_rfl) (by kernel_rfl) (by kernel_rfl) ?_
 refine SEx.go (X:=XX) qc (fun n=>qa [] [] n) (fun _=>none) qd 60 ?_
 intro M R L N m0 m1 m2 m3 m4 m5
 cases M
 cbv
 repeat' first | refine m1 _ _ ?_ ?_ | refine m2 _ _ fun h=>?_ | refine m3 _ ?_ | (refine m4 _ _ (Hd.out ?_);try first | rw [hks] | rw [hk2] | rw [hk3]) | (refine m5 _ _ ?_;cbv)
 all_goals (clear m1 m2 m3 m4 m5;cases m0;(try clear hks;try clear hk2;try clear hk3);try dsimp only)
 all_goals try simp only [sm] at *
 all_goals simp only [Km,Wu]
 all_goals (try rw [Int.max_def,Int.min_def])
 all_goals (repeat' split)
 all_goals omega
def qoD (f:Int->Int):Wr:=w1 dcI (fun n=>rI (f n)) (fun _=>[])
theorem qkr:qy Tryz.prog 84 (qoD Wu):=zx fun n _=>qoQ n
def Qi (t:ql)(x:qf):Bool:=za t&&(decide (0<=x.now)&&(decide (x.now<=t.hor)&&Qd t ⟨x.now+1,x.times,x.vals⟩))
end Go.Proofs.YtifnopmkdempdaaGreat.Ai
