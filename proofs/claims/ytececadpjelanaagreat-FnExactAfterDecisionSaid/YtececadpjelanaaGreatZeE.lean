/- The law's proof, part 5 of 10: what of its author's texts it needs; no condition. -/
import Derived.Test.YtececadpjelanaaGreatZeD
set_option linter.unusedSectionVars false
set_option linter.unusedSimpArgs false
set_option linter.unusedVariables false
namespace Go.Proofs.YtececadpjelanaaGreat.Ai
open Go Go.RowKit Go.ChangeShapes
theorem qji [qh] {P:Program}{g:FuncId}{W:World}{args:Array Value}{xs:List (V1 C)}(h:kM P g xs qn3)(hl:xs.length=args.toList.length)(hk:∀ (k:Nat) (x:V1 C),xs[k]?=some x->∃ u,args.toList[k]?=some u/\qQ (fun _=>@qr qG W (fun _=>none)) x u) :
 Calls P g args W fun e W'=>e=.returned (.bool true)/\Below W.heap.size W W':=by
 refine (h.2 (WS W.heap.size) W args rfl (@Jh.mk (WS W.heap.size) _ (fun b hb=>hb.elim) (Nat.le_refl _)) (by simpa using hl.symm) (fun k x hx=>?_)).mono ?_
 . obtain ⟨u,h1,h2⟩:=hk k x hx
   refine ⟨u,by simpa using h1,qQ.imp (fun j c v hr=>?_) h2⟩
   refine qr.swap hr (fun b _ hb=>⟨rfl,fun h=>h⟩) fun b hb=>?_
   unfold qi.memo
   show (if b<0 then none else none)=(if b<W.heap.size then none else _)
   rw [if_pos hb,if_neg (by omega)]
 . rintro e W' ⟨v,rfl,hres⟩
   obtain ⟨σr,_,_,hrep,_⟩:=@Zu.rep (WS W.heap.size) _ _ _ _ hres
   have hv:@qo (WS W.heap.size) W' σr (qA,[(0,0)]) (.fz (.bool true)) v:=hrep
   have:v=.bool true:=by
    cases hv with
    | fz _ _ _ h=>exact @qr.bool_inv (WS W.heap.size) _ _ _ _ h
   subst this
   have hb:=@Zu.below (WS W.heap.size) _ _ _ _ hres
   refine ⟨rfl,@kg.os (WS W.heap.size) _ _ hb,@kg.tape (WS W.heap.size) _ _ hb,@kg.output (WS W.heap.size) _ _ hb,@kg.size (WS W.heap.size) _ _ hb,fun b hlt=>?_⟩
   rcases @kg.heap (WS W.heap.size) _ _ hb b hlt with h | ⟨g,x,x',h1,_⟩
   . exact h
   . exfalso
     unfold qi.memo at h1
     have h1:(if b<W.heap.size then none else qh.fut)=some g:=h1
     rw [if_pos hlt] at h1
     cases h1
end Go.Proofs.YtececadpjelanaaGreat.Ai
namespace Go.Proofs.YtececadpjelanaaGreat.Ai
open Go
theorem qch (n:Nat):@NatCast.natCast Int instNatCastInt n=(n:Int):=rfl
theorem Cue.eta (q:Cue):(⟨q.name,q.after,q.atEnd,q.low,q.high,q.min,q.max,q.free,q.cond,q.watch,q.device⟩:Cue)=q:=rfl
theorem Tie.eta (q:Tie):(⟨q.src,q.dst,q.low,q.high,q.free⟩:Tie)=q:=rfl
theorem Edge.eta (q:Go.Proofs.YtececadpjelanaaGreat.Ai.Edge):(⟨q.src,q.dst,q.w⟩:Go.Proofs.YtececadpjelanaaGreat.Ai.Edge)=q:=rfl
theorem jT.eta (q:jT):(⟨q.src,q.dst,q.low,q.high⟩:jT)=q:=rfl
theorem qf.eta (q:qf):(⟨q.name,q.label,q.watch⟩:qf)=q:=rfl
def inI (n:Int):Prop:=IntKind.min .i64<=n/\n<=IntKind.max .i64
theorem jC (n:Int):inI n↔-9223372036854775808<=n/\n<=9223372036854775807:=Iff.rfl
theorem Ws {α:Type}{e:Sh}{f:α->List C}{P:α->Prop}(he:∀ y,Wt e y->∃ a,y=f a/\P a):∀ {ys:List (List C)},(∀ y,y∈ys->Wt e y)->∃ l:List α,ys=l.map f/\∀ a∈l,P a
 | [],_=>⟨[],rfl,fun _ h=>by cases h⟩
 | y::ys,h=>by
   obtain ⟨a,h1,h2⟩:=he y (h y List.mem_cons_self)
   obtain ⟨l,h3,h4⟩:=Ws he (ys:=ys) (fun z hz=>h z (List.mem_cons_of_mem _ hz))
   exact ⟨a::l,by rw [h1,h3];rfl,fun b hb=>(List.mem_cons.1 hb).elim (fun e=>e▸h2) (h4 b)⟩
theorem Wx {y:List C}(h:Wt (.sl (.int .i64)) y):∃ l:List Int,y=[(D.sl (.i l)).er]/\l.length<=maxLen/\∀ n∈l,inI n:=by
 obtain ⟨ys,rfl,h1,h2⟩:=h
 obtain ⟨l,rfl,h3⟩:=Ws (f:=fun n:Int=>[C.int .i64 n]) (P:=inI) (fun y hy=>by obtain ⟨n,h1,h2⟩:=hy;exact ⟨n,h1,h2⟩) h2
 exact ⟨l,rfl,by simpa using h1,h3⟩
structure qkd (l:List Int):Prop where
 len:l.length<=maxLen
 all:∀ n∈l,inI n
theorem qj3 {y:List C}(h:Wt (.sl (.int .i64)) y):∃ l:List Int,y=D.erL [.sl (.i l)]/\qkd l:=by
 obtain ⟨l,h1,h2,h3⟩:=Wx h
 exact ⟨l,h1,h2,h3⟩
def qlg:Sh:=.st [.str,.sl (.int .i64),.int .i64]
def qmL:Sh:=.st [.int .i64,.int .i64,.int .i64,.int .i64,.bool]
def qfl:Sh:=.st [.sl qlg,.sl qmL,.int .i64]
def qa7:Sh:=.st [.int .i64,.sl (.int .i64),.sl (.int .i64)]
structure qj8 (q:qf):Prop where
 name:q.name.size<=maxLen
 len:q.label.length<=maxLen
 label:∀ n∈q.label,inI n
 watch:inI q.watch
structure qmO (q:Tie):Prop where
 src:inI q.src
 dst:inI q.dst
 low:inI q.low
 high:inI q.high
structure Y3 (t:qx):Prop where
 len:t.nodes.length<=maxLen
 tlen:t.ties.length<=maxLen
 nodes:∀ q∈t.nodes,qj8 q
 ties:∀ q∈t.ties,qmO q
 hor:inI t.hor
structure Ww (t:qn):Prop where
 now:inI t.now
 len:t.times.length<=maxLen
 vlen:t.vals.length<=maxLen
 times:∀ n∈t.times,inI n
 vals:∀ n∈t.vals,inI n
theorem qmf {y:List C}(h:Wt qlg y):∃ q:qf,y=D.erL q.d/\qj8 q:=by
 obtain ⟨_,_,rfl,⟨x1,rfl,h1⟩,h⟩:=h
 obtain ⟨_,_,rfl,h2,h⟩:=h
 obtain ⟨_,_,rfl,⟨x3,rfl,h3⟩,h⟩:=h
 obtain rfl:=h
 obtain ⟨l,rfl,h4,h5⟩:=Wx h2
 exact ⟨⟨x1,l,x3⟩,rfl,h1,h4,h5,h3⟩
theorem qnA {y:List C}(h:Wt qmL y):∃ q:Tie,y=D.erL q.d/\qmO q:=by
 obtain ⟨_,_,rfl,⟨x1,rfl,h1⟩,h⟩:=h
 obtain ⟨_,_,rfl,⟨x2,rfl,h2⟩,h⟩:=h
 obtain ⟨_,_,rfl,⟨x3,rfl,h3⟩,h⟩:=h
 obtain ⟨_,_,rfl,⟨x4,rfl,h4⟩,h⟩:=h
 obtain ⟨_,_,rfl,⟨x5,rfl⟩,h⟩:=h
 obtain rfl:=h
 exact ⟨⟨x1,x2,x3,x4,x5⟩,rfl,h1,h2,h3,h4⟩
theorem qlt {y:List C}(h:Wt qfl y):∃ t:qx,y=D.erL t.d/\Y3 t:=by
 obtain ⟨_,_,rfl,⟨ys,rfl,h1,h2⟩,h⟩:=h
 obtain ⟨_,_,rfl,⟨zs,rfl,h3,h4⟩,h⟩:=h
 obtain ⟨_,_,rfl,⟨x3,rfl,h5⟩,h⟩:=h
 obtain rfl:=h
 obtain ⟨l,rfl,h6⟩:=Ws (fun y hy=>qmf hy) h2
 obtain ⟨ts,rfl,h7⟩:=Ws (fun y hy=>qnA hy) h4
 exact ⟨⟨l,ts,x3⟩,rfl,by simpa using h1,by simpa using h3,h6,h7,h5⟩
theorem qkR {y:List C}(h:Wt qa7 y):∃ t:qn,y=D.erL t.d/\Ww t:=by
 obtain ⟨_,_,rfl,⟨x1,rfl,h1⟩,h⟩:=h
 obtain ⟨_,_,rfl,h2,h⟩:=h
 obtain ⟨_,_,rfl,h3,h⟩:=h
 obtain rfl:=h
 obtain ⟨l,rfl,h4,h5⟩:=Wx h2
 obtain ⟨m,rfl,h6,h7⟩:=Wx h3
 exact ⟨⟨x1,l,m⟩,rfl,h1,h4,h6,h5,h7⟩
theorem qfx {ys:List (V1 C)}(h:yl [] ys):ys=[]:=h
theorem ZW {s:Sh}{r:List Sh}{ys:List (V1 C)}(h:yl (s::r) ys):∃ y zs,ys=(s.isSt,y)::zs/\Wt s y/\yl r zs:=h
end Go.Proofs.YtececadpjelanaaGreat.Ai
