/- The law's proof, part 5 of 12: what of its author's texts it needs; no condition. -/
import Derived.Test.YtifnopmkdempdaaGreatZcD
set_option linter.unusedSectionVars false
set_option linter.unusedSimpArgs false
set_option linter.unusedVariables false
namespace Go.Proofs.YtifnopmkdempdaaGreat.Ai
open Go Go.RowKit Go.ChangeShapes
theorem qmY [qh] {P:Program}{g:FuncId}{W:World}{args:Array Value}{xs:List (V1 C)}(h:zI P g xs qsI)(hl:xs.length=args.toList.length)(hk:∀ (k:Nat) (x:V1 C),xs[k]?=some x->∃ u,args.toList[k]?=some u/\qU (fun _=>@qt qO W (fun _=>none)) x u) :
 Calls P g args W fun e W'=>e=.returned (.bool true)/\Below W.heap.size W W':=by
 refine (h.2 (qaw W.heap.size) W args rfl (@KE.mk (qaw W.heap.size) _ (fun b hb=>hb.elim) (Nat.le_refl _)) (by simpa using hl.symm) (fun k x hx=>?_)).mono ?_
 . obtain ⟨u,h1,h2⟩:=hk k x hx
   refine ⟨u,by simpa using h1,qU.imp (fun j c v hr=>?_) h2⟩
   refine qt.swap hr (fun b _ hb=>⟨rfl,fun h=>h⟩) fun b hb=>?_
   unfold qk.memo
   show (if b<0 then none else none)=(if b<W.heap.size then none else _)
   rw [if_pos hb,if_neg (by omega)]
 . rintro e W' ⟨v,rfl,hres⟩
   obtain ⟨σr,_,_,hrep,_⟩:=@jH.rep (qaw W.heap.size) _ _ _ _ hres
   have hv:@qq (qaw W.heap.size) W' σr (qC,[(0,0)]) (.fz (.bool true)) v:=hrep
   have:v=.bool true:=by
    cases hv with
    | fz _ _ _ h=>exact @qt.bool_inv (qaw W.heap.size) _ _ _ _ h
   subst this
   have hb:=@jH.below (qaw W.heap.size) _ _ _ _ hres
   refine ⟨rfl,@zN.os (qaw W.heap.size) _ _ hb,@zN.tape (qaw W.heap.size) _ _ hb,@zN.output (qaw W.heap.size) _ _ hb,@zN.size (qaw W.heap.size) _ _ hb,fun b hlt=>?_⟩
   rcases @zN.heap (qaw W.heap.size) _ _ hb b hlt with h | ⟨g,x,x',h1,_⟩
   . exact h
   . exfalso
     unfold qk.memo at h1
     have h1:(if b<W.heap.size then none else qh.fut)=some g:=h1
     rw [if_pos hlt] at h1
     cases h1
end Go.Proofs.YtifnopmkdempdaaGreat.Ai
namespace Go.Proofs.YtifnopmkdempdaaGreat.Ai
open Go
theorem qd3 (n:Nat):@NatCast.natCast Int instNatCastInt n=(n:Int):=rfl
theorem Cue.eta (q:Cue):(⟨q.name,q.after,q.atEnd,q.low,q.high,q.min,q.max,q.free,q.cond,q.watch,q.device⟩:Cue)=q:=rfl
theorem Tie.eta (q:Tie):(⟨q.src,q.dst,q.low,q.high,q.free⟩:Tie)=q:=rfl
theorem Edge.eta (q:Go.Proofs.YtifnopmkdempdaaGreat.Ai.Edge):(⟨q.src,q.dst,q.w⟩:Go.Proofs.YtifnopmkdempdaaGreat.Ai.Edge)=q:=rfl
theorem Qu.eta (q:Qu):(⟨q.src,q.dst,q.low,q.high⟩:Qu)=q:=rfl
theorem qi.eta (q:qi):(⟨q.name,q.label,q.watch⟩:qi)=q:=rfl
def inI (n:Int):Prop:=IntKind.min .i64<=n/\n<=IntKind.max .i64
theorem jf (n:Int):inI n↔-9223372036854775808<=n/\n<=9223372036854775807:=Iff.rfl
theorem ym {α:Type}{e:Sh}{f:α->List C}{P:α->Prop}(he:∀ y,Wt e y->∃ a,y=f a/\P a):∀ {ys:List (List C)},(∀ y,y∈ys->Wt e y)->∃ l:List α,ys=l.map f/\∀ a∈l,P a
 | [],_=>⟨[],rfl,fun _ h=>by cases h⟩
 | y::ys,h=>by
   obtain ⟨a,h1,h2⟩:=he y (h y List.mem_cons_self)
   obtain ⟨l,h3,h4⟩:=ym he (ys:=ys) (fun z hz=>h z (List.mem_cons_of_mem _ hz))
   exact ⟨a::l,by rw [h1,h3];rfl,fun b hb=>(List.mem_cons.1 hb).elim (fun e=>e▸h2) (h4 b)⟩
theorem V5 {y:List C}(h:Wt (.sl (.int .i64)) y):∃ l:List Int,y=[(D.sl (.i l)).er]/\l.length<=maxLen/\∀ n∈l,inI n:=by
 obtain ⟨ys,rfl,h1,h2⟩:=h
 obtain ⟨l,rfl,h3⟩:=ym (f:=fun n:Int=>[C.int .i64 n]) (P:=inI) (fun y hy=>by obtain ⟨n,h1,h2⟩:=hy;exact ⟨n,h1,h2⟩) h2
 exact ⟨l,rfl,by simpa using h1,h3⟩
structure qm5 (l:List Int):Prop where
 len:l.length<=maxLen
 all:∀ n∈l,inI n
theorem qm8 {y:List C}(h:Wt (.sl (.int .i64)) y):∃ l:List Int,y=D.erL [.sl (.i l)]/\qm5 l:=by
 obtain ⟨l,h1,h2,h3⟩:=V5 h
 exact ⟨l,h1,h2,h3⟩
def qnf:Sh:=.st [.str,.sl (.int .i64),.int .i64]
def qqQ:Sh:=.st [.int .i64,.int .i64,.int .i64,.int .i64,.bool]
def qgO:Sh:=.st [.sl qnf,.sl qqQ,.int .i64]
def qbZ:Sh:=.st [.int .i64,.sl (.int .i64),.sl (.int .i64)]
structure qn5 (q:qi):Prop where
 name:q.name.size<=maxLen
 len:q.label.length<=maxLen
 label:∀ n∈q.label,inI n
 watch:inI q.watch
structure qqK (q:Tie):Prop where
 src:inI q.src
 dst:inI q.dst
 low:inI q.low
 high:inI q.high
structure qcj (t:ql):Prop where
 len:t.nodes.length<=maxLen
 tlen:t.ties.length<=maxLen
 nodes:∀ q∈t.nodes,qn5 q
 ties:∀ q∈t.ties,qqK q
 hor:inI t.hor
structure yl (t:qf):Prop where
 now:inI t.now
 len:t.times.length<=maxLen
 vlen:t.vals.length<=maxLen
 times:∀ n∈t.times,inI n
 vals:∀ n∈t.vals,inI n
theorem qpS {y:List C}(h:Wt qnf y):∃ q:qi,y=D.erL q.d/\qn5 q:=by
 obtain ⟨_,_,rfl,⟨x1,rfl,h1⟩,h⟩:=h
 obtain ⟨_,_,rfl,h2,h⟩:=h
 obtain ⟨_,_,rfl,⟨x3,rfl,h3⟩,h⟩:=h
 obtain rfl:=h
 obtain ⟨l,rfl,h4,h5⟩:=V5 h2
 exact ⟨⟨x1,l,x3⟩,rfl,h1,h4,h5,h3⟩
theorem qrn {y:List C}(h:Wt qqQ y):∃ q:Tie,y=D.erL q.d/\qqK q:=by
 obtain ⟨_,_,rfl,⟨x1,rfl,h1⟩,h⟩:=h
 obtain ⟨_,_,rfl,⟨x2,rfl,h2⟩,h⟩:=h
 obtain ⟨_,_,rfl,⟨x3,rfl,h3⟩,h⟩:=h
 obtain ⟨_,_,rfl,⟨x4,rfl,h4⟩,h⟩:=h
 obtain ⟨_,_,rfl,⟨x5,rfl⟩,h⟩:=h
 obtain rfl:=h
 exact ⟨⟨x1,x2,x3,x4,x5⟩,rfl,h1,h2,h3,h4⟩
theorem qpH {y:List C}(h:Wt qgO y):∃ t:ql,y=D.erL t.d/\qcj t:=by
 obtain ⟨_,_,rfl,⟨ys,rfl,h1,h2⟩,h⟩:=h
 obtain ⟨_,_,rfl,⟨zs,rfl,h3,h4⟩,h⟩:=h
 obtain ⟨_,_,rfl,⟨x3,rfl,h5⟩,h⟩:=h
 obtain rfl:=h
 obtain ⟨l,rfl,h6⟩:=ym (fun y hy=>qpS hy) h2
 obtain ⟨ts,rfl,h7⟩:=ym (fun y hy=>qrn hy) h4
 exact ⟨⟨l,ts,x3⟩,rfl,by simpa using h1,by simpa using h3,h6,h7,h5⟩
theorem qnD {y:List C}(h:Wt qbZ y):∃ t:qf,y=D.erL t.d/\yl t:=by
 obtain ⟨_,_,rfl,⟨x1,rfl,h1⟩,h⟩:=h
 obtain ⟨_,_,rfl,h2,h⟩:=h
 obtain ⟨_,_,rfl,h3,h⟩:=h
 obtain rfl:=h
 obtain ⟨l,rfl,h4,h5⟩:=V5 h2
 obtain ⟨m,rfl,h6,h7⟩:=V5 h3
 exact ⟨⟨x1,l,m⟩,rfl,h1,h4,h6,h5,h7⟩
theorem qhs {ys:List (V1 C)}(h:y7 [] ys):ys=[]:=h
theorem KG {s:Sh}{r:List Sh}{ys:List (V1 C)}(h:y7 (s::r) ys):∃ y zs,ys=(s.isSt,y)::zs/\Wt s y/\y7 r zs:=h
end Go.Proofs.YtifnopmkdempdaaGreat.Ai
