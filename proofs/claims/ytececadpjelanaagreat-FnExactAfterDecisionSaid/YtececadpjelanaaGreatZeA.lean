/- The law's proof, part 1 of 10: what of its author's texts it needs; no condition. -/
import Derived.LoopN
import Derived.Orders
import Derived.Tactics
import Derived.Below
import Derived.IntWalk
import Derived.Laws.Cells
import Derived.Laws.AppendOwn
import Derived.Laws.IdiomCopy
import Derived.Laws.Concat
import Derived.Laws.BytesArg
import Derived.Laws.Cover3
import Derived.Laws.Slices
import Derived.ChangeKeysEq
import Derived.Laws.Strings
import Derived.Laws.BytesString
import Derived.Laws.MakeOwn
set_option linter.unusedSectionVars false
set_option linter.unusedSimpArgs false
set_option linter.unusedVariables false
namespace Go.Proofs.YtececadpjelanaaGreat.Ai
open Go
abbrev Zz:=ByteArray->Bool
inductive C where
 | un
 | int (k:IntKind) (n:Int)
 | bool (b:Bool)
 | str (s:ByteArray)
 | nilsl
 | sl (xs:List (List C))
 | ptr (cs:List C)
 | fn (f:FuncId) (caps:List C)
 | mp (g:Zz)
 deriving Inhabited
inductive O where
 | un
 | fz (c:C)
 | osl (xs:List (List O))
 | obx (cs:List O)
 deriving Inhabited
abbrev qg:=Nat×List (Nat×Nat)
inductive A where
 | un
 | ud
 | fz (c:C)
 | rf (p:qg) (off len:Nat)
 | pp (p:qg) (i j:Nat)
 | clo (f:FuncId) (caps:List A)
 deriving Inhabited
abbrev V1 (α:Type):=Bool×List α
inductive TV (α:Type) where
 | v (x:V1 α)
 | tup (xs:List (V1 α))
structure Own where
 p:qg
 n:Nat
 cap:Nat
 sz:Nat
abbrev Gh:=Nat->Option Own
class qh where
 fut:Option Zz
class qi where
 J:Nat->Prop
 ph:Nat->Value
 lo:Nat
 mg:Nat->Option Zz
 fut:Option Zz
def qi.memo [qi] (b:Nat):Option Zz:=if b<qi.lo then qi.mg b else qi.fut
@[reducible] def qG:qi:=⟨fun _=>False,fun _=>.bool false,0,fun _=>none,none⟩
@[reducible] def kc [qi]:qi:=⟨fun _=>False,fun _=>.bool false,qi.lo,qi.mg,qi.fut⟩
def kW (g:Zz):Obj->Prop
 | .map es _=>∀ e∈es.toList,∃ k,e.key=.string k/\e.val=.bool (g k)
 | _=>False
def Qm [qi] (b:Nat)(o o':Option Obj):Prop:=o'=o\/∃ g x x',qi.memo b=some g/\o=some x/\o'=some x'/\kW g x/\kW g x'
def jE [qi] (σ:Gh)(b:Nat):Prop:=σ b=none/\¬qi.J b
variable [qi]
inductive qr (w:World)(σ:Gh):C->Value->Prop
 | un (v:Value) (h:v.oneCell'=true):qr w σ .un v
 | int (k:IntKind) (n:Int):qr w σ (.int k n) (.int k n)
 | bool (b:Bool):qr w σ (.bool b) (.bool b)
 | str (s:ByteArray):qr w σ (.str s) (.string s)
 | nilsl:qr w σ .nilsl (.slice none 0 0)
 | sl (xs:List (List C)) (sz:Nat) (a:Option Addr) (cap:Nat) (us:Nat->Nat->Value) (hc:xs.length<=cap) (hs:∀ y∈xs,y.length=sz)
  (ha:xs≠[]->∃ ad,a=some ad/\ad.spot=none/\ad.block<w.heap.size/\jE σ ad.block)
  (hm:∀ ad,a=some ad->∀ i j y c,xs[i]?=some y->y[j]?=some c->w.cell? (ad.add (i * sz+j))=some (us i j))
  (hr:∀ i j y c,xs[i]?=some y->y[j]?=some c->qr w σ c (us i j)):qr w σ (.sl xs) (.slice a xs.length cap)
 | ptr (cs:List C) (ad:Addr) (us:Nat->Value) (hp:ad.spot=none) (hlt:ad.block<w.heap.size) (hb:jE σ ad.block)
  (hm:∀ j c,cs[j]?=some c->w.cell? (ad.add j)=some (us j))
  (hr:∀ j c,cs[j]?=some c->qr w σ c (us j)):qr w σ (.ptr cs) (.pointer (some ad))
 | fn (f:FuncId) (caps:List C) (vs:Array Value) (us:Nat->Value) (hl:vs.size=caps.length) (hm:∀ j c,caps[j]?=some c->vs[j]?=some (us j))
  (hr:∀ j c,caps[j]?=some c->qr w σ c (us j)):qr w σ (.fn f caps) (.func (.func f) #[] vs)
 | mp (g:Zz) (b:Nat) (o:Obj) (hg:qi.memo b=some g) (hh:w.heap[b]?=some o) (ho:kW g o) (hn:jE σ b):qr w σ (.mp g) (.map (some b))
inductive qo (w:World)(σ:Gh):qg->O->Value->Prop
 | un (p:qg) (v:Value) (h:v.oneCell'=true):qo w σ p .un v
 | fz (p:qg) (c:C) (v:Value) (h:qr w σ c v):qo w σ p (.fz c) v
 | oslz (p:qg) (a:Option Addr):qo w σ p (.osl []) (.slice a 0 0)
 | osl (p:qg) (xs:List (List O)) (e:TypeId) (sz g cap:Nat) (cur:Array Value) (us:Nat->Nat->Value)
  (hh:w.heap[g]?=some (.cells cur e (0,0))) (hc:0<xs.length/\xs.length<=cap) (hcm:cap<=maxLen) (hl:cur.size=cap * sz) (hs:∀ y∈xs,y.length=sz)
  (hg:σ g=some ⟨p,xs.length,cap,sz⟩)
  (hm:∀ i j y o,xs[i]?=some y->y[j]?=some o->cur[i * sz+j]?=some (us i j))
  (hr:∀ i j y o,xs[i]?=some y->y[j]?=some o->qo w σ (p.1,p.2++[(i,j)]) o (us i j)):qo w σ p (.osl xs) (.slice (some ⟨g,0,none⟩) xs.length cap)
 | obx (p:qg) (cs:List O) (g:Nat) (e:TypeId) (cells:Array Value) (us:Nat->Value) (n cap sz:Nat)
  (hh:w.heap[g]?=some (.cells cells e (0,0))) (hl:cells.size=cs.length) (hg:σ g=some ⟨p,n,cap,sz⟩)
  (hm:∀ j o,cs[j]?=some o->cells[j]?=some (us j))
  (hr:∀ j o,cs[j]?=some o->qo w σ (p.1,p.2++[(0,j)]) o (us j)):qo w σ p (.obx cs) (.pointer (some ⟨g,0,none⟩))
inductive qj (w:World)(σ:Gh):A->Value->Prop
 | un (v:Value):qj w σ .un v
 | ud:qj w σ .ud (.tuple #[])
 | fz (c:C) (v:Value) (h:qr w σ c v):qj w σ (.fz c) v
 | rf (p:qg) (off len g n cap sz:Nat) (hg:σ g=some ⟨p,n,cap,sz⟩) (hl:off+len<=n) (hn:n<=cap):qj w σ (.rf p off len) (.slice (some ⟨g,off * sz,none⟩) len (cap-off))
 | rz (p:qg) (off:Nat) (a:Option Addr):qj w σ (.rf p off 0) (.slice a 0 0)
 | pp (p:qg) (i j g n cap sz:Nat) (hg:σ g=some ⟨p,n,cap,sz⟩):qj w σ (.pp p i j) (.pointer (some ⟨g,i * sz+j,none⟩))
 | clo (f:FuncId) (caps:List A) (vs:Array Value) (us:Nat->Value) (hl:vs.size=caps.length) (hm:∀ j c,caps[j]?=some c->vs[j]?=some (us j))
  (hr:∀ j c,caps[j]?=some c->qj w σ c (us j)):qj w σ (.clo f caps) (.func (.func f) #[] vs)
def qQ {α:Type}(R:Nat->α->Value->Prop):V1 α->Value->Prop
 | (false,[a]),v=>R 0 a v
 | (true,as),v=>∃ cs:Array Value,v=.agg cs/\cs.size=as.length/\∀ j a,as[j]?=some a->∃ u,cs[j]?=some u/\R j a u
 | _,_=>False
def qN {α:Type}(R:Nat->Nat->α->Value->Prop):TV α->Value->Prop
 | .v x,v=>qQ (R 0) x v
 | .tup xs,v=>∃ vs:Array Value,v=.tuple vs/\vs.size=xs.length/\∀ k x,xs[k]?=some x->∃ u,vs[k]?=some u/\qQ (R k) x u
structure kD (w:World)(σ:Gh)(w':World)(σ':Gh):Prop where
 none_:∀ b,b<w.heap.size->σ b=none->σ' b=none
 heap_:∀ b,b<w.heap.size->σ b=none->Qm b w.heap[b]? w'.heap[b]?
theorem Qm.trans {b:Nat}{o o' o'':Option Obj}(h:Qm b o o')(k:Qm b o' o''):Qm b o o'':=by
 rcases h with h | ⟨g,x,x',h1,h2,h3,h4,h5⟩
 . subst h;exact k
 . rcases k with k | ⟨g',y,y',k1,k2,k3,k4,k5⟩
   . subst k;exact .inr ⟨g,x,x',h1,h2,h3,h4,h5⟩
   . rw [h1] at k1
     injection k1 with k1
     subst k1
     exact .inr ⟨g,x,y',h1,h2,k3,h4,k5⟩
theorem Qm.cells {b:Nat}{c:Array Value}{e:TypeId}{f:Nat×Nat}{o':Option Obj}(h:Qm b (some (.cells c e f)) o'):o'=some (.cells c e f):=by
 rcases h with h | ⟨g,x,x',_,h2,_,h4,_⟩
 . exact h
 . injection h2 with h2
   subst h2
   exact h4.elim
theorem Qm.good {b:Nat}{o o':Option Obj}{g:Zz}{x:Obj}(h:Qm b o o')(hg:qi.memo b=some g)(ho:o=some x)(hx:kW g x):∃ x',o'=some x'/\kW g x':=by
 rcases h with h | ⟨g',y,x',h1,h2,h3,h4,h5⟩
 . exact ⟨x,by rw [h,ho],hx⟩
 . rw [hg] at h1
   injection h1 with h1
   subst h1
   exact ⟨x',h3,h5⟩
theorem qeb {w:World}{a:Addr}{u:Value}(h:w.cell? a=some u):a.block<w.heap.size:=World.block_lt_of_cell? w a h
theorem kQ (a:Addr)(n:Nat):(a.add n).block=a.block:=by unfold Addr.add;split<;>rfl
theorem Yi {w w':World}{a:Addr}{u:Value}(h:w.cell? a=some u)(hb:Qm a.block w.heap[a.block]? w'.heap[a.block]?):w'.cell? a=some u:=by
 have hb:w'.heap[a.block]?=w.heap[a.block]?:=by
  cases hh:w.heap[a.block]? with
  | none=>simp [World.cell?,hh] at h
  | some o=>cases o with
    | cells c e f=>rw [hh] at hb;exact hb.cells
    | _=>simp [World.cell?,hh] at h
 rw [World.cell?_of_block hb];exact h
theorem ji {w:World}{g:Nat}{o:Obj}(hh:w.heap[g]?=some o):g<w.heap.size:=by
 rcases Nat.lt_or_ge g w.heap.size with h | h
 . exact h
 . simp [Array.getElem?_eq_none h] at hh
theorem qr.move {w w':World}{σ σ':Gh}(hsz:w.heap.size<=w'.heap.size)(hst:kD w σ w' σ'){c:C}{v:Value}(h:qr w σ c v):qr w' σ' c v:=by
 induction h with
 | un v h=>exact .un v h
 | int k n=>exact .int k n
 | bool b=>exact .bool b
 | str s=>exact .str s
 | nilsl=>exact .nilsl
 | sl xs sz a cap us hc hs ha hm hr ih =>
   refine .sl xs sz a cap us hc hs (fun hne=>?_) ?_ ih
   . obtain ⟨ad,rfl,hsp,hlt,hσ⟩:=ha hne
     exact ⟨ad,rfl,hsp,Nat.lt_of_lt_of_le hlt hsz,hst.none_ _ hlt hσ.1,hσ.2⟩
   . intro ad e i j y c hi hj
     have hne:xs≠[]:=by intro e;subst e;simp at hi
     obtain ⟨ad',rfl,hsp,hlt,hσ⟩:=ha hne
     injection e with e
     subst e
     exact Yi (hm _ rfl i j y c hi hj) (by rw [kQ];exact hst.heap_ _ hlt hσ.1)
 | ptr cs ad us hp hlt hb hm hr ih =>
   exact .ptr cs ad us hp (Nat.lt_of_lt_of_le hlt hsz) ⟨hst.none_ _ hlt hb.1,hb.2⟩ (fun j c hj=>Yi (hm j c hj) (by rw [kQ];exact hst.heap_ _ hlt hb.1)) ih
 | fn f caps vs us hl hm hr ih=>exact .fn f caps vs us hl hm ih
 | mp g b o hg hh ho hn =>
   have hlt:b<w.heap.size:=by
    rcases Nat.lt_or_ge b w.heap.size with h | h
    . exact h
    . simp [Array.getElem?_eq_none h] at hh
   obtain ⟨o',h1,h2⟩:=(hst.heap_ b hlt hn.1).good hg hh ho
   exact .mp g b o' hg h1 h2 ⟨hst.none_ b hlt hn.1,hn.2⟩
theorem qo.moveS {w w':World}{σ σ':Gh}(hsz:w.heap.size<=w'.heap.size)(hst:kD w σ w' σ'){p:qg}{o:O}{v:Value}(h:qo w σ p o v) :
 ∀ p':qg,(∀ g s n cap sz,σ g=some ⟨(p.1,p.2++s),n,cap,sz⟩->g<w.heap.size->Qm g w.heap[g]? w'.heap[g]?/\σ' g=some ⟨(p'.1,p'.2++s),n,cap,sz⟩)->qo w' σ' p' o v:=by
 induction h with
 | un p v h=>exact fun p' _=>.un p' v h
 | fz p c v h=>exact fun p' _=>.fz p' c v (h.move hsz hst)
 | oslz p a=>exact fun p' _=>.oslz p' a
 | osl p xs e sz g cap cur us hh hc hcm hl hs hg hm hr ih =>
   intro p' hp
   have h0:=hp g [] _ _ _ (by simpa using hg) (ji hh)
   refine .osl p' xs e sz g cap cur us ((hh▸h0.1).cells) hc hcm hl hs (by simpa using h0.2) hm ?_
   intro i j y o hi hj
   refine ih i j y o hi hj (p'.1,p'.2++[(i,j)]) ?_
   intro g s n cap sz hσ hlt
   have:=hp g ((i,j)::s) n cap sz (by simpa using hσ) hlt
   simpa using this
 | obx p cs g e cells us n cap sz hh hl hg hm hr ih =>
   intro p' hp
   have h0:=hp g [] n cap sz (by simpa using hg) (ji hh)
   refine .obx p' cs g e cells us n cap sz ((hh▸h0.1).cells) hl (by simpa using h0.2) hm ?_
   intro j o hj
   refine ih j o hj (p'.1,p'.2++[(0,j)]) ?_
   intro g s n cap sz hσ hlt
   have:=hp g ((0,j)::s) n cap sz (by simpa using hσ) hlt
   simpa using this
theorem qo.move {w w':World}{σ σ':Gh}(hsz:w.heap.size<=w'.heap.size)(hst:kD w σ w' σ'){p:qg}{o:O}{v:Value}(h:qo w σ p o v)
 (p':qg) (hp:∀ g s n cap sz,σ g=some ⟨(p.1,p.2++s),n,cap,sz⟩->g<w.heap.size->w'.heap[g]?=w.heap[g]?/\σ' g=some ⟨(p'.1,p'.2++s),n,cap,sz⟩):qo w' σ' p' o v :=
 h.moveS hsz hst p' fun g s n cap sz hg hlt=>⟨.inl (hp g s n cap sz hg hlt).1,(hp g s n cap sz hg hlt).2⟩
theorem qr.one {w:World}{σ:Gh}{c:C}{v:Value}(h:qr w σ c v):v.oneCell'=true:=by
 cases h with
 | un _ h=>exact h
 | _=>rfl
theorem qo.one {w:World}{σ:Gh}{p:qg}{o:O}{v:Value}(h:qo w σ p o v):v.oneCell'=true:=by
 cases h with
 | un _ _ h=>exact h
 | fz _ _ _ h=>exact h.one
 | _=>rfl
structure qF (w:World)(σ:Gh)(w':World)(σ':Gh):Prop where
 st:kD w σ w' σ'
 size:w.heap.size<=w'.heap.size
 os:w'.os=w.os
 tape:w'.tape=w.tape
 output:w'.output=w.output
theorem qF.refl (w:World)(σ:Gh):qF w σ w σ:=⟨⟨fun _ _ h=>h,fun _ _ _=>.inl rfl⟩,Nat.le_refl _,rfl,rfl,rfl⟩
theorem qF.trans {w w' w'':World}{σ σ' σ'':Gh}(h:qF w σ w' σ')(k:qF w' σ' w'' σ''):qF w σ w'' σ'' :=
 ⟨⟨fun b hb h0=>k.st.none_ b (Nat.lt_of_lt_of_le hb h.size) (h.st.none_ b hb h0),fun b hb h0=>(h.st.heap_ b hb h0).trans (k.st.heap_ b (Nat.lt_of_lt_of_le hb h.size) (h.st.none_ b hb h0))⟩,
   Nat.le_trans h.size k.size,k.os.trans h.os,k.tape.trans h.tape,k.output.trans h.output⟩
end Go.Proofs.YtececadpjelanaaGreat.Ai
namespace Go.Proofs.YtececadpjelanaaGreat.Ai
open Go
structure Ops where
 iAdd:IntKind->Int->Int->Int
 iSub:IntKind->Int->Int->Int
 iMul:IntKind->Int->Int->Int
 iQuo:IntKind->Int->Int->Option Int
 iRem:Int->Int->Option Int
 iAnd:IntKind->Int->Int->Int
 iOr:IntKind->Int->Int->Int
 iXor:IntKind->Int->Int->Int
 iShl:IntKind->Int->Int->Option Int
 iShr:IntKind->Int->Int->Option Int
 iWrap:IntKind->Int->Int
 iMax:Int->Int->Int
 iMin:Int->Int->Int
 bEq:Int->Int->Bool
 bLt:Int->Int->Bool
 bLe:Int->Int->Bool
 bNot:Bool->Bool
 bEqB:Bool->Bool->Bool
 sEq:ByteArray->ByteArray->Bool
 sCat:ByteArray->ByteArray->Option ByteArray
 sLen:ByteArray->Nat
 sCut:ByteArray->Nat->Nat->ByteArray
 sAt:ByteArray->Int->Option Int
 sOf:List (List C)->Option ByteArray
 nI:Nat->Int
 nAdd:Nat->Nat->Nat
 nSub:Nat->Nat->Nat
 nEq:Nat->Nat->Bool
 nLe:Nat->Nat->Bool
 ix:Int->Nat->Option Nat
 lh:Option Int->Option Int->Nat->Option (Nat×Nat)
 cLen:List (List C)->Nat
 cGet:List (List C)->Nat->Option (List C)
 cCut:List (List C)->Nat->Nat->List (List C)
 cSz:Nat->List (List C)->Bool
 oLen:List (List O)->Nat
 oGet:List (List O)->Nat->Option (List O)
 oCut:List (List O)->Nat->Nat->List (List O)
 oCat:List (List O)->List (List O)->List (List O)
 oSet:List (List O)->Nat->List O->List (List O)
 oFrz:List (List O)->List (List C)
 oOf:List (List C)->List (List O)
 oRep:Int->List O->Option (List (List O))
 oSz:Nat->List (List O)->Bool
 oFlat:List (List O)->Bool
 oClean:List (List O)->Bool
def qi5:Bool->Bool
 | true=>false
 | false=>true
@[simp] theorem qon (b:Bool):qi5 b=!b:=by cases b<;>rfl
def nq (a b:Nat):Bool:=@BEq.beq Nat ⟨Nat.beq⟩ a b
def nle (a b:Nat):Bool:=decide (a<=b)
def nlt (a b:Nat):Bool:=nle (a+1) b
theorem qog (a b:Nat):nq a b=Nat.beq a b:=rfl
@[simp] theorem Qr {a b:Nat}:nq a b=true↔a=b:=by rw [qog];exact Nat.beq_eq▸Iff.rfl
@[simp] theorem jh (a:Nat):nq a a=true:=Qr.2 rfl
theorem qv {a b:Nat}(h:nle a b=true):a<=b:=of_decide_eq_true h
theorem wG {a b:Nat}(h:a<=b):nle a b=true:=decide_eq_true h
@[simp] theorem j8 {a b:Nat}:nlt a b=true↔a<b:=⟨fun h=>qv h,fun h=>wG h⟩
def qa {α:Type}(d:α):List (Nat×α)->Nat->α
 | [],_=>d
 | (k,v)::r,t=>bif nq k t then v else qa d r t
def has {α:Type}:List (Nat×α)->Nat->Bool
 | [],_=>false
 | (k,_)::r,t=>bif nq k t then true else has r t
def del {α:Type}:List (Nat×α)->Nat->List (Nat×α)
 | [],_=>[]
 | (k,v)::r,t=>bif nq k t then del r t else (k,v)::del r t
def nth {α:Type}:List α->Nat->Option α
 | [],_=>none
 | a::_,0=>some a
 | _::r,n+1=>nth r n
def cnt {α:Type}:List α->Nat
 | []=>0
 | _::r=>cnt r+1
inductive TK where
 | int (k:IntKind)
 | bool
 | str
 | sl (e:Nat)
 | st (fs:List (Nat×Nat×Bool))
 | mp (k e:Nat)
 | oth
structure Ty where
 kind:TK
 agg:Bool
 size:Nat
 bytes:Nat
 zero:List C
def jU:Value->C
 | .int k n=>.int k n
 | .bool b=>.bool b
 | .string s=>.str s
 | .slice none 0 0=>.nilsl
 | _=>.un
def Kh:Option TypeDesc->Bool
 | some (.struct _) | some (.array _ _)=>true
 | _=>false
def je (P:Program):TypeDesc->TK
 | .int k=>.int k
 | .bool=>.bool
 | .string=>.str
 | .slice e=>.sl e
 | .map k e=>.mp k e
 | .struct fs=>if fs.toList.all (fun f=>(P.underlying f.type).isSome) then .st (fs.toList.map fun f=>(f.offset,P.cellsOf f.type,Kh (P.underlying f.type))) else .oth
 | _=>.oth
def kx (P:Program)(t:TypeId):Option Ty :=
 match P.info? t,P.underlying t with
 | some i,some u=>match i.zero with
   | some z=>some { kind:=je P u,agg:=Kh (some u),size:=i.size,bytes:=i.bytes,zero:=z.cells.toList.map jU }
   | none=>none
 | _,_=>none
def pre (M:Ops):List (Nat×Nat)->List (Nat×Nat)->Option (List (Nat×Nat))
 | [],s=>some s
 | _::_,[]=>none
 | (a,b)::p,(c,d)::s=>match M.nEq a c&&M.nEq b d with | true=>pre M p s | false=>none
def qV (M:Ops)(p x:qg):Option qg:=match nq x.1 p.1 with
 | true=>(match pre M p.2 x.2 with | some _=>none | none=>some x)
 | false=>some x
def jf (M:Ops)(p q x:qg):Option qg:=match nq x.1 p.1 with
 | true=>(match pre M p.2 x.2 with | some s=>some (q.1,q.2++s) | none=>some x)
 | false=>some x
mutual
def A.tr (τ:qg->Option qg):A->A
 | .un=>.un
 | .ud=>.ud
 | .fz c=>.fz c
 | .rf p off len=>match τ p with | some q=>.rf q off len | none=>.un
 | .pp p i j=>match τ p with | some q=>.pp q i j | none=>.un
 | .clo f caps=>.clo f (A.trL τ caps)
def A.trL (τ:qg->Option qg):List A->List A
 | []=>[]
 | a::r=>a.tr τ::A.trL τ r
end
def trV (τ:qg->Option qg)(x:V1 A):V1 A:=(x.1,A.trL τ x.2)
def qiW (τ:qg->Option qg):List (V1 A)->List (V1 A)
 | []=>[]
 | x::r=>trV τ x::qiW τ r
def TV.tr (τ:qg->Option qg):TV A->TV A
 | .v x=>.v (trV τ x)
 | .tup xs=>.tup (qiW τ xs)
def QS (τ:qg->Option qg):List (Nat×TV A)->List (Nat×TV A)
 | []=>[]
 | (t,x)::r=>(t,x.tr τ)::QS τ r
def O.at (M:Ops):O->List (Nat×Nat)->O
 | o,[]=>o
 | .osl xs,(i,j)::s=>match M.oGet xs i with
   | some y=>match nth y j with
     | some o=>O.at M o s
     | none=>.un
   | none=>.un
 | .obx cs,(i,j)::s=>match i with
   | 0=>(match nth cs j with | some o=>O.at M o s | none=>.un)
   | _+1=>.un
 | _,_::_=>.un
def Vy {α:Type}:List α->Nat->α->List α
 | [],_,_=>[]
 | _::r,0,x=>x::r
 | a::r,n+1,x=>a::Vy r n x
def O.set (M:Ops):O->List (Nat×Nat)->O->O
 | _,[],n=>n
 | .osl xs,(i,j)::s,n=>match M.oGet xs i with
   | some y=>match nth y j with
     | some o=>.osl (M.oSet xs i (Vy y j (O.set M o s n)))
     | none=>.osl xs
   | none=>.osl xs
 | .obx cs,(i,j)::s,n=>match i with
   | 0=>(match nth cs j with | some o=>.obx (Vy cs j (O.set M o s n)) | none=>.obx cs)
   | _+1=>.obx cs
 | o,_::_,_=>o
mutual
def O.frz:O->C
 | .un=>.un
 | .fz c=>c
 | .osl xs=>.sl (O.frzLL xs)
 | .obx cs=>.ptr (O.frzL cs)
def O.frzL:List O->List C
 | []=>[]
 | o::r=>o.frz::O.frzL r
def O.frzLL:List (List O)->List (List C)
 | []=>[]
 | y::r=>O.frzL y::O.frzLL r
end
theorem O.frzL_eq (l:List O):O.frzL l=l.map O.frz:=by induction l with | nil=>rfl | cons a r ih=>simp [O.frzL,ih]
theorem O.frzLL_eq (l:List (List O)):O.frzLL l=l.map (·.map O.frz):=by induction l with | nil=>rfl | cons a r ih=>simp [O.frzLL,ih,O.frzL_eq]
def C.flat:C->Bool
 | .sl []=>true
 | .sl _ | .ptr _ | .un | .mp _=>false
 | .fn _ caps=>caps.isEmpty
 | _=>true
mutual
def O.clean:O->Bool
 | .un=>false
 | .fz c=>c.flat
 | .osl xs=>O.cleanLL xs
 | .obx cs=>O.cleanL cs
def O.cleanL:List O->Bool
 | []=>true
 | o::r=>o.clean&&O.cleanL r
def O.cleanLL:List (List O)->Bool
 | []=>true
 | y::r=>O.cleanL y&&O.cleanLL r
end
theorem O.cleanL_eq (l:List O):O.cleanL l=l.all O.clean:=by induction l with | nil=>rfl | cons a r ih=>simp [O.cleanL,ih]
theorem O.cleanLL_eq (l:List (List O)):O.cleanLL l=l.all (·.all O.clean):=by induction l with | nil=>rfl | cons a r ih=>simp [O.cleanLL,ih,O.cleanL_eq]
mutual
def O.cleanM (M:Ops):O->Bool
 | .un=>false
 | .fz c=>c.flat
 | .osl xs=>M.oClean xs
 | .obx cs=>O.cleanML M cs
def O.cleanML (M:Ops):List O->Bool
 | []=>true
 | o::r=>match o.cleanM M with | true=>O.cleanML M r | false=>false
end
def O.isFz:O->Bool
 | .fz _=>true
 | _=>false
structure Fr where
 n:Nat
 tm:List (Nat×TV A)
 tb:List (Nat×O)
def unT:TV A:=.v (false,[.un])
def rid (d k j:Nat):Nat:=d * 4096+k * 64+j
def Fr.at (M:Ops)(F:Fr)(p:qg):O:=(qa .un F.tb p.1).at M p.2
def Fr.setAt (M:Ops)(F:Fr)(p:qg)(o:O):Fr:={ F with tb:=(p.1,(qa .un F.tb p.1).set M p.2 o)::del F.tb p.1 }
def Fr.tr (F:Fr)(τ:qg->Option qg):Fr:={ F with tm:=QS τ F.tm }
def Fr.less (M:Ops)(F:Fr)(p:qg):Fr:=match p.2 with
 | []=>{ F with tb:=del F.tb p.1 }
 | _::_=>F.setAt M p .un
def Fr.drop (M:Ops)(F:Fr)(p:qg):Fr:=(F.less M p).tr (qV M p)
def Fr.lift (M:Ops)(F:Fr)(p q:qg):Fr:=(F.less M p).tr (jf M p q)
def Fr.clear (M:Ops)(F:Fr)(id:Nat):Fr:=match has F.tb id with
 | true=>F.drop M (id,[])
 | false=>F
def Fr.put (F:Fr)(d:Nat)(x:TV A):Fr:={ F with tm:=(d,x)::F.tm }
def Fr.root (F:Fr)(id:Nat)(o:O):Fr:={ F with tb:=(id,o)::F.tb }
def jR:Value->A
 | .int k n=>.fz (.int k n)
 | .bool b=>.fz (.bool b)
 | .string s=>.fz (.str s)
 | .slice none 0 0=>.fz .nilsl
 | _=>.un
def jP:Value->TV A
 | .agg cs=>.v (true,cs.toList.map jR)
 | .tuple _=>unT
 | v=>.v (false,[jR v])
def PH:Nat:=4294967296
def ev (F:Fr):Operand->TV A
 | .tmp t=>(match nlt t PH with | true=>qa unT F.tm t | false=>unT)
 | .const v=>jP v
 | .func f=>.v (false,[.fz (.fn f [])])
 | .global _=>unT
def one:TV A->A
 | .v (false,[a])=>a
 | _=>.un
def ev1 (F:Fr)(x:Operand):A:=one (ev F x)
def Yy (M:Ops)(op:BinOp)(k:IntKind)(a b:Int):Option C :=
 match op with
 | .add=>some (.int k (M.iAdd k a b))
 | .sub=>some (.int k (M.iSub k a b))
 | .mul=>some (.int k (M.iMul k a b))
 | .quo=>match M.iQuo k a b with | some x=>some (.int k x) | none=>none
 | .rem=>match M.iRem a b with | some x=>some (.int k x) | none=>none
 | .and=>some (.int k (M.iAnd k a b))
 | .or=>some (.int k (M.iOr k a b))
 | .xor=>some (.int k (M.iXor k a b))
 | .eql=>some (.bool (M.bEq a b))
 | .neq=>some (.bool (qi5 (M.bEq a b)))
 | .lss=>some (.bool (M.bLt a b))
 | .leq=>some (.bool (M.bLe a b))
 | .gtr=>some (.bool (M.bLt b a))
 | .geq=>some (.bool (M.bLe b a))
 | _=>none
def qbu (M:Ops)(op:BinOp)(a b:ByteArray):Option C :=
 match op with
 | .add=>match M.sCat a b with | some s=>some (.str s) | none=>none
 | .eql=>some (.bool (M.sEq a b))
 | .neq=>some (.bool (qi5 (M.sEq a b)))
 | _=>none
def Jb:IntKind->IntKind->Bool
 | .i8,.i8 | .i16,.i16 | .i32,.i32 | .i64,.i64 | .u8,.u8 | .u16,.u16 | .u32,.u32 | .u64,.u64=>true
 | _,_=>false
def qas (M:Ops)(op:BinOp)(x y:C):Option C :=
 match x,y with
 | .int k a,.int k' b=>match op with
   | .shl=>match M.iShl k a b with | some x=>some (.int k x) | none=>none
   | .shr=>match M.iShr k a b with | some x=>some (.int k x) | none=>none
   | op=>match Jb k k' with | true=>Yy M op k a b | false=>none
 | .str a,.str b=>qbu M op a b
 | _,_=>none
def isNil?:A->Option Bool
 | .fz .nilsl=>some true
 | .fz (.sl (_::_))=>some false
 | .rf _ _ (_+1)=>some false
 | _=>none
def eqT (M:Ops)(k:TK)(x y:A):Option Bool :=
 match k with
 | .bool=>match x,y with
   | .fz (.bool a),.fz (.bool b)=>some (M.bEqB a b)
   | _,_=>none
 | .sl _=>match y with
   | .fz .nilsl=>isNil? x
   | _=>none
 | _=>none
def qct (M:Ops)(k:TK)(op:BinOp)(x y:A):Option C :=
 match x,y with
 | .fz (.int i a),.fz (.int j b)=>qas M op (.int i a) (.int j b)
 | .fz (.str a),.fz (.str b)=>qas M op (.str a) (.str b)
 | x,y=>match op with
   | .eql=>match eqT M k x y with | some b=>some (.bool b) | none=>none
   | .neq=>match eqT M k x y with | some b=>some (.bool (qi5 b)) | none=>none
   | _=>none
def unC (M:Ops)(op:UnOp):A->Option C
 | .fz (.int k n)=>match op with
   | .neg=>some (.int k (M.iSub k 0 n))
   | _=>none
 | .fz (.bool b)=>match op with
   | .not=>some (.bool (qi5 b))
   | _=>none
 | _=>none
def qfu (M:Ops)(q:qg):O->A
 | .un=>.un
 | .fz c=>.fz c
 | .osl xs=>.rf q 0 (M.oLen xs)
 | .obx _=>.pp q 0 0
def VU (M:Ops)(r:Nat)(s:List (Nat×Nat))(i:Nat):Nat->List O->List A
 | _,[]=>[]
 | j,o::rest=>qfu M (r,s++[(i,j)]) o::VU M r s i (j+1) rest
def cut {α:Type}:List α->Nat->Nat->Option (List α)
 | _,0,0=>some []
 | [],_,_=>none
 | _::r,j+1,n=>cut r j n
 | a::r,0,n+1=>match cut r 0 n with | some l=>some (a::l) | none=>none
def fzL:List C->List A
 | []=>[]
 | c::r=>.fz c::fzL r
def zA:C->A
 | .un=>.un
 | c=>.fz c
def fzU:List C->List A
 | []=>[]
 | c::r=>zA c::fzU r
theorem qjy (l:List C):fzU l=l.map zA:=by induction l with | nil=>rfl | cons a r ih=>simp [fzU,ih]
def Q6:List C->Bool
 | []=>true
 | .un::_=>false
 | _::r=>Q6 r
def jX {α:Type}:List α->Nat->List α
 | l,0=>l
 | [],_+1=>[]
 | _::r,n+1=>jX r n
def zQ (M:Ops)(F:Fr)(n:Nat):A->Option (List A)
 | .pp p i j=>match F.at M p with
   | .osl xs=>match M.oGet xs i with
     | some y=>match cut y j n with | some l=>some (VU M p.1 p.2 i j l) | none=>none
     | none=>none
   | .obx cs=>match i with
     | 0=>match cut cs j n with | some l=>some (VU M p.1 p.2 0 j l) | none=>none
     | _+1=>none
   | _=>none
 | .fz (.ptr cs)=>match cut cs 0 n with | some l=>some (fzL l) | none=>none
 | _=>none
def mkV (agg:Bool)(as:List A):Option (TV A) :=
 match agg with
 | true=>some (.v (true,as))
 | false=>match as with
   | [a]=>some (.v (false,[a]))
   | _=>none
def QJ (M:Ops)(F:Fr):A->Option (List (List C))
 | .fz .nilsl=>some []
 | .fz (.sl xs)=>some xs
 | .rf p off len=>match F.at M p with
   | .osl xs=>match M.nLe (M.nAdd off len) (M.oLen xs) with | true=>some (M.oFrz (M.oCut xs off len)) | false=>none
   | _=>none
 | _=>none
mutual
def ZM (M:Ops)(F:Fr):A->C
 | .un | .ud=>.un
 | .fz c=>c
 | .rf p off len=>match F.at M p with
   | .osl xs=>match M.nLe (M.nAdd off len) (M.oLen xs) with | true=>.sl (M.oFrz (M.oCut xs off len)) | false=>.un
   | _=>.un
 | .pp p i j=>match F.at M p with
   | .osl xs=>match M.oGet xs i with
     | some y=>.ptr (O.frzL (jX y j))
     | none=>.un
   | .obx cs=>match i with
     | 0=>.ptr (O.frzL (jX cs j))
     | _+1=>.un
   | _=>.un
 | .clo f caps=>.fn f (Qi M F caps)
def Qi (M:Ops)(F:Fr):List A->List C
 | []=>[]
 | a::r=>ZM M F a::Qi M F r
end
mutual
def A.ok:A->Bool
 | .un | .ud | .fz .un=>false
 | .clo _ caps=>okL caps
 | _=>true
def okL:List A->Bool
 | []=>true
 | a::r=>match a.ok with | true=>okL r | false=>false
end
def qcI (M:Ops)(F:Fr):TV A->Option (V1 C)
 | .v (g,as)=>match okL as with
   | true=>some (g,Qi M F as)
   | false=>none
 | .tup _=>none
end Go.Proofs.YtececadpjelanaaGreat.Ai
namespace Go.Proofs.YtececadpjelanaaGreat.Ai
open Go
inductive QR where
 | val (x:TV A)
 | mt
def TV.cells:TV A->Option (List A)
 | .v (_,as)=>some as
 | .tup _=>none
def bnd:Option A->Option (Option Int)
 | none=>some none
 | some (.fz (.int _ n))=>some (some n)
 | some _=>none
def W2 (M:Ops)(x:A)(lo hi mx:Option A):Option QR :=
 match bnd lo,bnd hi,mx with
 | some lo,some hi,none=>match x with
   | .fz (.str s)=>match M.lh lo hi (M.sLen s) with | some (l,h)=>some (.val (.v (false,[.fz (.str (M.sCut s l h))]))) | none=>none
   | _=>none
 | _,_,_=>none
def QK (M:Ops)(F:Fr)(size:Nat)(x:A)(lo hi mx:Option A):Option QR :=
 match bnd lo,bnd hi with
 | some lo,some hi=>match mx with
   | none=>match x with
     | .fz (.sl xs)=>match M.lh lo hi (M.cLen xs),M.cSz size xs with
       | some (l,h),true=>some (.val (.v (false,[.fz (.sl (M.cCut xs l (M.nSub h l)))])))
       | _,_=>none
     | .fz .nilsl=>match M.lh lo hi 0 with | some _=>some (.val (.v (false,[.fz .nilsl]))) | none=>none
     | .rf p off len=>match F.at M p with
       | .osl xs=>match M.lh lo hi len,M.oSz size xs&&M.nLe (M.nAdd off len) (M.oLen xs) with
         | some (l,h),true=>some (.val (.v (false,[.rf p (M.nAdd off l) (M.nSub h l)])))
         | _,_=>none
       | _=>none
     | _=>none
   | some (.fz (.int _ 0))=>match lo,hi with
     | none,some 0=>match x with
       | .fz (.sl _)=>some .mt
       | .fz .nilsl=>some .mt
       | .rf _ _ _=>some .mt
       | _=>none
     | _,_=>none
   | some _=>none
 | _,_=>none
def jQ (M:Ops)(F:Fr)(n:Nat):A->Bool
 | .pp p i _=>match F.at M p with
   | .osl xs=>match M.oGet xs i with | some y=>nq (cnt y) n | none=>false
   | _=>false
 | .fz (.ptr y)=>nq (cnt y) n
 | _=>false
def Zl (M:Ops)(x i:A):Option A :=
 match i with
 | .fz (.int _ n)=>match x with
   | .rf p off len=>match M.ix n len with | some m=>some (.pp p (M.nAdd off m) 0) | none=>none
   | .fz (.sl xs)=>match M.ix n (M.cLen xs) with
     | some m=>match M.cGet xs m with | some y=>some (.fz (.ptr y)) | none=>none
     | none=>none
   | _=>none
 | _=>none
def qet (M:Ops)(x i:A):Option A :=
 match x,i with
 | .fz (.str s),.fz (.int _ n)=>match M.sAt s n with | some b=>some (.fz (.int .u8 b)) | none=>none
 | _,_=>none
def yw (off:Nat):A->Option A
 | .pp p i j=>some (.pp p i (j+off))
 | .fz (.ptr cs)=>some (.fz (.ptr (jX cs off)))
 | _=>none
def qlz (M:Ops):A->Option Int
 | .fz (.sl xs)=>some (M.nI (M.cLen xs))
 | .fz .nilsl=>some 0
 | .rf _ _ len=>some (M.nI len)
 | _=>none
def mxA (f:Int->Int->Int)(x y:Option C):Option C :=
 match x,y with
 | some (.int k a),some (.int k' b)=>match Jb k k' with | true=>some (.int k (f a b)) | false=>none
 | _,_=>none
def C?:A->Option C
 | .fz c=>some c
 | _=>none
def Ka (f:Option C->Option C->Option C):Option C->List (Option C)->Option C
 | x,[]=>x
 | x,y::r=>Ka f (f x y) r
def evC (F:Fr):List Operand->List (Option C)
 | []=>[]
 | x::r=>C? (ev1 F x)::evC F r
def qc8 (F:Fr)(f:Int->Int->Int)(args:List Operand):Option QR :=
 match evC F args with
 | x::r=>match Ka (mxA f) x r with | some c=>some (.val (.v (false,[.fz c]))) | none=>none
 | []=>none
def putCells:List A->Nat->List A->Option (List A)
 | as,0,[]=>some as
 | [],_,_=>none
 | a::r,off+1,cs=>match putCells r off cs with | some l=>some (a::l) | none=>none
 | _::r,0,c::cs=>match putCells r 0 cs with | some l=>some (c::l) | none=>none
def QU (F:Fr)(fs:List (Nat×Nat×Bool)):List A->List (Nat×Operand)->Option (List A)
 | as,[]=>some as
 | as,(i,x)::r=>match nth fs i with
   | some (off,size,_)=>match ev F x with
     | .v (_,cs)=>match okL cs&&nq (cnt cs) size with
       | true=>(match putCells as off cs with | some as'=>QU F fs as' r | none=>none)
       | false=>none
     | .tup _=>none
   | none=>none
def qiq:Option A->Option QR
 | some a=>some (.val (.v (false,[a])))
 | none=>none
def qaq (F:Fr):List Operand->List A
 | []=>[]
 | x::r=>ev1 F x::qaq F r
def jJ (F:Fr):Option Operand->Option A
 | none=>none
 | some x=>some (ev1 F x)
def qop (M:Ops)(T:Nat->Option Ty)(F:Fr):Op->Option QR
 | .move x=>some (.val (ev F x))
 | .pick c a b=>match ev1 F c with
   | .fz (.bool b')=>some (.val (match b' with | true=>ev F a | false=>ev F b))
   | _=>none
 | .binOp op t x y _=>match T t with
   | some ty=>match qct M ty.kind op (ev1 F x) (ev1 F y) with | some c=>some (.val (.v (false,[.fz c]))) | none=>none
   | none=>none
 | .unOp op _ x=>match unC M op (ev1 F x) with | some c=>some (.val (.v (false,[.fz c]))) | none=>none
 | .load t x=>match T t with
   | some ty=>match zQ M F ty.size (ev1 F x) with
     | some as=>(match mkV ty.agg as with | some v=>some (.val v) | none=>none)
     | none=>none
   | none=>none
 | .fieldAddr t x f=>match T t with
   | some ⟨.st fs,_,_,_,_⟩=>match nth fs f with
     | some (_,0,_)=>none
     | some (off,_+1,_)=>qiq (yw off (ev1 F x))
     | none=>none
   | _=>none
 | .field t x f=>match T t with
   | some ⟨.st fs,_,_,_,_⟩=>match nth fs f,ev F x with
     | some (off,size,agg),.v (true,as)=>match cut as off size with
       | some l=>(match mkV agg l with | some v=>some (.val v) | none=>none)
       | none=>none
     | _,_=>none
   | _=>none
 | .indexAddr t x i=>match T t with
   | some ⟨.sl e,_,_,_,_⟩=>match T e with
     | some ty=>match Zl M (ev1 F x) (ev1 F i) with
       | some a=>match jQ M F ty.size a with
         | true=>some (.val (.v (false,[a])))
         | false=>none
       | none=>none
     | none=>none
   | _=>none
 | .index t x i=>match T t with
   | some ⟨.str,_,_,_,_⟩=>qiq (qet M (ev1 F x) (ev1 F i))
   | _=>none
 | .slice t x lo hi mx=>match T t with
   | some ⟨.str,_,_,_,_⟩=>W2 M (ev1 F x) (jJ F lo) (jJ F hi) (jJ F mx)
   | some ⟨.sl e,_,_,_,_⟩=>match T e with
     | some ty=>QK M F ty.size (ev1 F x) (jJ F lo) (jJ F hi) (jJ F mx)
     | none=>none
   | _=>none
 | .convert s t x=>match T s,T t with
   | some ⟨ks,_,_,_,_⟩,some ⟨.int k,_,_,_,_⟩=>match ev1 F x with
     | .fz (.int _ n)=>match ks with
       | .int _=>some (.val (.v (false,[.fz (.int k (M.iWrap k n))])))
       | _=>none
     | _=>none
   | some ⟨.str,_,_,_,_⟩,some ⟨.str,_,_,_,_⟩=>match ev1 F x with
     | .fz (.str s)=>some (.val (.v (false,[.fz (.str s)])))
     | _=>none
   | some ⟨.sl e,_,_,_,_⟩,some ⟨.str,_,_,_,_⟩=>match T e,QJ M F (ev1 F x) with
     | some ⟨.int .u8,_,_,_,_⟩,some xs=>match M.sOf xs with | some s=>some (.val (.v (false,[.fz (.str s)]))) | none=>none
     | _,_=>none
   | _,_=>none
 | .extract x i=>match ev F x with
   | .tup xs=>match nth xs i with
     | some y=>some (.val (.v y))
     | none=>none
   | _=>none
 | .makeFunc (.func f) ⟨[]⟩ ⟨caps⟩=>some (.val (.v (false,[.clo f (qaq F caps)])))
 | .build t ⟨parts⟩=>match T t with
   | some ⟨.st fs,_,_,_,z⟩=>match QU F fs (fzU z) parts with | some as=>some (.val (.v (true,as))) | none=>none
   | _=>none
 | .call ⟨.builtin .len,⟨[x]⟩,⟨[t]⟩⟩=>match T t with
  | some ⟨.str,_,_,_,_⟩=>match ev1 F x with | .fz (.str s)=>some (.val (.v (false,[.fz (.int .i64 (M.nI (M.sLen s)))]))) | _=>none
  | some ⟨.sl _,_,_,_,_⟩=>match qlz M (ev1 F x) with | some n=>some (.val (.v (false,[.fz (.int .i64 n)]))) | none=>none
  | _=>none
 | .call ⟨.builtin .cap,⟨[x]⟩,⟨[t]⟩⟩=>match T t,ev1 F x with
  | some ⟨.sl _,_,_,_,_⟩,.fz .nilsl=>some (.val (.v (false,[.fz (.int .i64 0)])))
  | _,_=>none
 | .call ⟨.builtin .max,⟨args⟩,_⟩=>qc8 F M.iMax args
 | .call ⟨.builtin .min,⟨args⟩,_⟩=>qc8 F M.iMin args
 | _=>none
def Fr.putQ (M:Ops)(F:Fr)(d:Nat):QR->Fr
 | .val x=>F.put d x
 | .mt=>((F.clear M (rid d 0 0)).root (rid d 0 0) (.osl [])).put d (.v (false,[.rf (rid d 0 0,[]) 0 0]))
def ZF (M:Ops)(kn:Bool)(F:Fr)(a:A)(q:qg):Option (O×Option qg) :=
 match a with
 | .fz .nilsl=>match kn with | true=>some (.fz .nilsl,none) | false=>some (.osl [],none)
 | .fz .un=>none
 | .fz c=>some (.fz c,none)
 | .rf p off len=>match F.at M p with
   | .osl xs=>match M.nEq off 0&&M.nEq len (M.oLen xs)&&!nq p.1 q.1 with
     | true=>some (.osl xs,some p)
     | false=>none
   | _=>none
 | .pp p i j=>match F.at M p with
   | .obx cs=>match i,j,nq p.1 q.1 with
     | 0,0,false=>some (.obx cs,some p)
     | _,_,_=>none
   | _=>none
 | _=>none
def jl (M:Ops)(kn:Bool)(q:Nat->qg):Nat->Fr->(A->A)->List A->Option (List O×Fr)
 | _,F,_,[]=>some ([],F)
 | j,F,f,a::rest=>match ZF M kn F (f a) (q j) with
   | some (o,none)=>match jl M kn q (j+1) F f rest with
     | some (os,F2)=>some (o::os,F2)
     | none=>none
   | some (o,some p)=>match jl M kn q (j+1) (F.lift M p (q j)) (fun x=>(f x).tr (jf M p (q j))) rest with
     | some (os,F2)=>some (o::os,F2)
     | none=>none
   | none=>none
def idA (a:A):A:=a
def qAt (r:Nat)(s:List (Nat×Nat))(i j:Nat):qg:=(r,s++[(i,j)])
def rfV (r len:Nat):TV A:=.v (false,[.rf (r,[]) 0 len])
def ppV (r:Nat):TV A:=.v (false,[.pp (r,[]) 0 0])
def qjC (M:Ops)(kn:Bool)(F:Fr)(d:Nat)(x:Operand):Option Fr :=
 match (ev F x).cells with
 | some as=>match jl M kn (qAt (rid d 0 0) [] 0) 0 F idA as with
   | some (os,F2)=>some ((F2.root (rid d 0 0) (.obx os)).put d (ppV (rid d 0 0)))
   | none=>none
 | none=>none
def QT (M:Ops)(kn:Bool)(r size:Nat):Nat->Fr->List (Nat×Operand)->Option (List (List O)×Fr)
 | _,F,[]=>some ([],F)
 | i,F,(i',x)::rest=>match nq i' i,ev F x with
   | true,.v (_,as)=>match nq (cnt as) size with
     | true=>(match jl M kn (qAt r [] i) 0 F idA as with
       | some (os,F1)=>match QT M kn r size (i+1) F1 rest with
         | some (ys,F2)=>some (os::ys,F2)
         | none=>none
       | none=>none)
     | false=>none
   | _,_=>none
def QG (M:Ops)(r:Nat)(s:List (Nat×Nat))(i:Nat):Nat->Nat->Fr->Fr
 | _,0,F=>F
 | j,n+1,F=>QG M r s i (j+1) n (match (F.at M (qAt r s i j)).isFz with | true=>F | false=>F.drop M (qAt r s i j))
def qb7 (M:Ops)(r:Nat)(s:List (Nat×Nat))(i:Nat):Nat->Fr->List O->Fr
 | _,F,[]=>F
 | j,F,o::os=>qb7 M r s i (j+1) (F.setAt M (qAt r s i j) o) os
def WX (M:Ops)(kn:Bool)(F:Fr)(size:Nat)(a x:Operand):Option Fr :=
 match ev1 F a with
 | .pp p i j=>match ev (QG M p.1 p.2 i j size F) x with
   | .v (_,as)=>match nq (cnt as) size&&nlt 0 size with
     | true=>(match jl M kn (qAt p.1 p.2 i) j (QG M p.1 p.2 i j size F) idA as with
       | some (os,F2)=>match zQ M F2 size (.pp p i j) with
         | some _=>some (qb7 M p.1 p.2 i j F2 os)
         | none=>none
       | none=>none)
     | false=>none
   | .tup _=>none
 | _=>none
def KR (M:Ops)(F:Fr):A->Option (List (List O)×Fr)
 | .fz .nilsl=>some ([],F)
 | .rf p off len=>match F.at M p with
   | .osl xs=>match M.nEq off 0&&M.nEq len (M.oLen xs) with | true=>some (xs,F.drop M p) | false=>none
   | _=>none
 | _=>none
def ZI (M:Ops)(F:Fr):A->Option (List (List O)×Option qg)
 | .fz .nilsl=>some ([],none)
 | .fz (.sl zs)=>some (M.oOf zs,none)
 | .rf p off len=>match F.at M p with
   | .osl ys=>match M.nLe (M.nAdd off len) (M.oLen ys) with
     | true=>(match M.oFlat ys with
       | true=>(match M.nEq off 0&&M.nEq len (M.oLen ys) with
         | true=>some (ys,none)
         | false=>some (M.oCut ys off len,none))
       | false=>match M.nEq off 0&&M.nEq len (M.oLen ys),p.2 with
         | true,[]=>some (ys,some p)
         | _,_=>none)
     | false=>none
   | _=>none
 | _=>none
def lim:Nat:=34359738368
def YQ (M:Ops)(F:Fr):Option qg->Fr
 | none=>F
 | some p=>F.drop M p
def ZB (M:Ops)(ty:Ty)(d:Nat)(x y:Operand)(F:Fr):Option Fr :=
 match KR M F (ev1 F x) with
 | some (xs,F1)=>match ZI M F1 (ev1 F1 y) with
   | some (ys,m) =>
     match M.nLe (M.nAdd (M.oLen xs) (M.oLen ys)) lim&&nle ty.bytes 4096&&nlt 0 ty.size&&nq (cnt ty.zero) ty.size&&M.oSz ty.size ys&&M.oSz ty.size xs with
     | true=>some (((YQ M F1 m).root (rid d 0 0) (.osl (M.oCat xs ys))).put d (rfV (rid d 0 0) (M.oLen (M.oCat xs ys))))
     | false=>none
   | none=>none
 | none=>none
def j9 (M:Ops)(F:Fr)(d:Nat)(x:TV A):Option Fr :=
 match x with
 | .v (false,[.rf (id,[]) off len]) =>
   match nq id (rid d 0 0),F.at M (id,[]) with
   | true,.osl xs=>match M.nEq off 0&&M.nEq len (M.oLen xs) with
     | true=>some (F.put d x)
     | false=>none
   | false,.osl xs=>match M.nEq off 0&&M.nEq len (M.oLen xs) with
     | true=>some ((((F.clear M (rid d 0 0)).lift M (id,[]) (rid d 0 0,[])).root (rid d 0 0) (.osl xs)).put d (rfV (rid d 0 0) len))
     | false=>some (F.put d x)
   | _,_=>some (F.put d x)
 | x=>some (F.put d x)
def qeW (M:Ops)(kn:Bool)(F:Fr)(d:Nat)(x:TV A):Option Fr :=
 match x with
 | .v (false,[.fz .nilsl])=>match kn with | true=>some (F.put d (.v (false,[.fz .nilsl]))) | false=>some (F.putQ M d .mt)
 | y=>j9 M F d y
def zN (kn:Bool):List C->List O
 | []=>[]
 | .nilsl::r=>(match kn with | true=>.fz .nilsl | false=>.osl [])::zN kn r
 | c::r=>.fz c::zN kn r
def qfS (M:Ops)(F:Fr)(d:Nat):Option QR->Option Fr
 | some q=>some (F.putQ M d q)
 | none=>none
def wop (M:Ops)(T:Nat->Option Ty)(kn:Bool)(F:Fr)(d:Nat):Op->Option Fr
 | .assign x=>qeW M kn F d (ev F x)
 | .box _ x=>qjC M kn (F.clear M (rid d 0 0)) d x
 | .alloc e=>match T e with
   | some ty=>match Q6 ty.zero with
     | true=>some (((F.clear M (rid d 0 0)).root (rid d 0 0) (.obx (zN kn ty.zero))).put d (ppV (rid d 0 0)))
     | false=>none
   | none=>none
 | .buildSlice t len ⟨parts⟩=>match T t with
   | some ⟨.sl e,_,_,_,_⟩=>match T e with
     | some ty=>match nq (cnt parts) len&&nle len 4096&&nlt 0 ty.size&&nle ty.size 4096 with
       | true=>(match QT M kn (rid d 0 0) ty.size 0 (F.clear M (rid d 0 0)) parts with
         | some (ys,F2)=>some ((F2.root (rid d 0 0) (.osl ys)).put d (rfV (rid d 0 0) len))
         | none=>none)
       | false=>none
     | none=>none
   | _=>none
 | .makeSlice t l c=>match T t with
   | some ⟨.sl e,_,_,_,_⟩=>match T e,ev1 F l,ev1 F c with
     | some ty,.fz (.int _ n),.fz (.int _ m)=>match M.bEq n m&&nle ty.bytes 4096&&nlt 0 ty.size&&nq (cnt ty.zero) ty.size&&Q6 ty.zero with
       | true=>(match M.oRep n (zN kn ty.zero) with
         | some ys=>some (((F.clear M (rid d 0 0)).root (rid d 0 0) (.osl ys)).put d (rfV (rid d 0 0) (M.oLen ys)))
         | none=>none)
       | false=>none
     | _,_,_=>none
   | _=>none
 | .call ⟨.builtin .append,⟨[x,y]⟩,⟨[t,t']⟩⟩=>match nq t t',T t with
   | true,some ⟨.sl e,_,_,_,_⟩=>match T e with
     | some ty=>ZB M ty d x y (F.drop M (rid d 0 0,[]))
     | none=>none
   | _,_=>none
 | o=>qfS M F d (qop M T F o)
def callee (M:Ops)(F:Fr)(f:Operand):Option (FuncId×List C) :=
 match ev1 F f with
 | .fz (.fn g caps)=>some (g,caps)
 | .clo g caps=>match okL caps with
   | true=>some (g,Qi M F caps)
   | false=>none
 | _=>none
mutual
def A.isFz:A->Bool
 | .fz _=>true
 | .clo _ caps=>ZG caps
 | _=>false
def ZG:List A->Bool
 | []=>true
 | a::r=>match a.isFz with | true=>ZG r | false=>false
end
def TV.isFz:TV A->Bool
 | .v (_,as)=>ZG as
 | .tup _=>false
def KK (F:Fr):List Operand->Bool
 | []=>true
 | x::r=>match (ev F x).isFz with | true=>KK F r | false=>false
def Z4 (M:Ops)(F:Fr):List Operand->Option (List (V1 C))
 | []=>some []
 | x::r=>match qcI M F (ev F x),Z4 M F r with
   | some y,some ys=>some (y::ys)
   | _,_=>none
def QE:List C->List (V1 C)
 | []=>[]
 | c::r=>(false,[c])::QE r
def qfc:Nat:=4294967294
def nzC:C->Option C
 | .fn f [c]=>(match nq f qfc with | true=>some c | false=>none)
 | _=>none
def nzO:O->Option C
 | .fz c=>nzC c
 | _=>none
def QD:List O->Bool
 | []=>true
 | o::r=>match nzO o with | none=>QD r | some _=>false
def qiO (M:Ops)(q:qg)(o:O):A:=match nzO o with
 | some c=>.fz c
 | none=>qfu M q o
def qeh (M:Ops)(o:O):Bool:=match nzO o with
 | some _=>true
 | none=>o.cleanM M
def QC (M:Ops):List O->Bool
 | []=>true
 | o::r=>match qeh M o with | true=>QC M r | false=>false
def Wa (M:Ops)(d k:Nat):Nat->List O->List A
 | _,[]=>[]
 | j,o::r=>qiO M (rid d k j,[]) o::Wa M d k (j+1) r
def Zc (d k:Nat):Nat->List O->List (Nat×O)
 | _,[]=>[]
 | j,o::r=>match o.isFz with
   | true=>Zc d k (j+1) r
   | false=>(rid d k j,o)::Zc d k (j+1) r
def KV (M:Ops)(d:Nat):Nat->List (V1 O)->List (V1 A)
 | _,[]=>[]
 | k,x::r=>(x.1,Wa M d k 0 x.2)::KV M d (k+1) r
def Zs (d:Nat):Nat->List (V1 O)->List (Nat×O)
 | _,[]=>[]
 | k,x::r=>Zc d k 0 x.2++Zs d (k+1) r
def yT (M:Ops)(d:Nat):TV O->TV A
 | .v (g,os)=>.v (g,Wa M d 0 0 os)
 | .tup xs=>.tup (KV M d 0 xs)
def zH (d:Nat):TV O->List (Nat×O)
 | .v (_,os)=>Zc d 0 0 os
 | .tup xs=>Zs d 0 xs
def Fr.clears (M:Ops)(F:Fr):List (Nat×O)->Fr
 | []=>F
 | (id,_)::r=>(F.clear M id).clears M r
def Fr.adds (F:Fr):List (Nat×O)->Fr
 | []=>F
 | (id,o)::r=>(F.root id o).adds r
def y9:List (V1 O)->Bool
 | []=>true
 | x::r=>match nle (cnt x.2) 64 with | true=>y9 r | false=>false
def TV.fits:TV O->Bool
 | .v (_,os)=>nle (cnt os) 64
 | .tup xs=>nle (cnt xs) 64&&y9 xs
def KA (M:Ops):List (V1 O)->Bool
 | []=>true
 | x::r=>match QC M x.2 with | true=>KA M r | false=>false
def TV.cleanM (M:Ops):TV O->Bool
 | .v x=>QC M x.2
 | .tup xs=>KA M xs
def Fr.import (M:Ops)(F:Fr)(d:Nat)(r:TV O):Option Fr:=match r.fits with
 | true=>some (((F.clears M (zH d r)).adds (zH d r)).put d (yT M d r))
 | false=>none
abbrev Ora:=FuncId->List (V1 C)->Option (TV O)
def qk6 (ora:Ora)(g:FuncId)(as:List (V1 C)):Option (TV O):=ora g as
def VI (M:Ops)(ora:Ora)(F:Fr)(d:Nat)(f:Operand)(args:List Operand):Option Fr :=
 match callee M F f,Z4 M F args with
 | some (g,caps),some as=>match qk6 ora g (as++QE caps) with
   | some r=>match KK F (f::args) with
     | true=>F.import M d r
     | false=>match r.cleanM M with
       | true=>F.import M d r
       | false=>none
   | none=>none
 | _,_=>none
def zt (n d:Nat):Bool:=match nlt d n with | true=>nlt d PH | false=>false
theorem ZP {n d:Nat}(h:zt n d=true):d<n/\d<PH:=by
 unfold zt at h
 split at h
 . rename_i h1;exact ⟨j8.1 h1,j8.1 h⟩
 . cases h
def opS (M:Ops)(T:Nat->Option Ty)(kn:Bool)(ora:Ora)(F:Fr)(o:Oper):Option Fr :=
 match o.dst with
 | none=>match o.op with
   | .store t a x=>match T t with
     | some ty=>WX M kn F ty.size a x
     | none=>none
   | _=>none
 | some d=>match zt F.n d with
   | true=>(match o.op with
     | .call ⟨.value f,⟨args⟩,_⟩=>VI M ora F d f args
     | op=>wop M T kn F d op)
   | false=>none
inductive K where
 | c (x:Code)
 | r (all:Array Oper) (l:List Oper)
 | bl (id:Nat)
 | lp (b:Code)
def wy:Code->Nat
 | .region id _ _=>id
 | .seq a _=>wy a
 | .block _ b=>wy b
 | .loop b=>wy b
 | .cond _ a _=>wy a
 | _=>0
def KX (id:Nat):List K->Option (List K)
 | []=>none
 | .bl id'::ks=>match nq id' id with | true=>some ks | false=>KX id ks
 | _::ks=>KX id ks
mutual
def A.ids:A->List Nat
 | .rf p _ _=>[p.1]
 | .pp p _ _=>[p.1]
 | .clo _ caps=>A.idsL caps
 | _=>[]
def A.idsL:List A->List Nat
 | []=>[]
 | a::r=>a.ids++A.idsL r
end
def qhe:List (V1 A)->List Nat
 | []=>[]
 | x::r=>A.idsL x.2++qhe r
def TV.ids:TV A->List Nat
 | .v x=>A.idsL x.2
 | .tup xs=>qhe xs
def jL (F:Fr):List Nat->List (Nat×TV A)
 | []=>[]
 | t::r=>(t,qa unT F.tm t)::jL F r
def vO:List (Nat×TV A)->List Nat
 | []=>[]
 | (_,x)::r=>x.ids++vO r
def Ki (F:Fr):List Nat->List (Nat×O)->List (Nat×O)
 | [],acc=>acc
 | id::r,acc=>Ki F r (match has acc id with | true=>acc | false=>acc++[(id,qa .un F.tb id)])
def Fr.keep (F:Fr)(l:List Nat):Fr:={ F with tm:=jL F l,tb:=Ki F (vO (jL F l)) [] }
def Kg:List Oper->Nat->Option Oper
 | [],_=>none
 | o::_,0=>some o
 | _::r,n+1=>Kg r n
def QI (F:Fr)(all:Array Oper)(g:Nat):A :=
 match all with
 | ⟨l⟩=>match Kg l g with
   | some ⟨some t,_,_,_,_,_⟩=>(match nlt t PH with | true=>one (qa unT F.tm t) | false=>.un)
   | _=>.un
def ZY (F:Fr)(o:Oper):Fr :=
 match o.dst with
 | some d=>(match nlt d PH with | true=>F.put d (.v (false,[.ud])) | false=>F)
 | none=>F
def Qy:Nat->List (V1 C)->List (Nat×TV A)
 | _,[]=>[]
 | i,x::r=>(i,.v (x.1,fzL x.2))::Qy (i+1) r
def enter (n:Nat)(args:List (V1 C)):Fr:={ n:=n,tm:=Qy 0 args,tb:=[] }
def qA:Nat:=40960000
def qms (M:Ops)(kn:Bool)(k:Nat)(F:Fr):TV A->Option (V1 O×Fr)
 | .v (g,as)=>match nle (cnt as) 64 with
   | true=>(match jl M kn (qAt qA [] k) 0 F idA as with
     | some (os,F')=>(match QD os with | true=>some ((g,os),F') | false=>none)
     | none=>none)
   | false=>none
 | .tup _=>none
def ww (M:Ops)(F:Fr):A->Option C
 | .rf p off len=>(match F.at M p with
   | .osl xs=>(match M.nLe (M.nAdd off len) (M.oLen xs),M.oClean xs with
     | true,true=>some (.sl (M.oFrz (M.oCut xs off len)))
     | _,_=>none)
   | _=>none)
 | _=>none
def qfL (M:Ops)(F:Fr):A->Option O
 | .fz c=>(match nzC c with | none=>some (.fz c) | some _=>none)
 | a=>(match ww M F a with | some c=>some (.fz (.fn qfc [c])) | none=>none)
def yk (M:Ops)(F:Fr):List A->Option (List O)
 | []=>some []
 | a::r=>match qfL M F a with
   | some o=>(match yk M F r with | some os=>some (o::os) | none=>none)
   | none=>none
def qba (M:Ops)(T:Nat->Option Ty)(F:Fr):ResultVar->Option (TV A)
 | .tmp t=>(match nlt t PH with | true=>some (qa unT F.tm t) | false=>none)
 | .cell a t=>match nlt a PH,T t with
   | true,some ty=>match zQ M F ty.size (one (qa unT F.tm a)) with
     | some as=>mkV ty.agg as
     | none=>none
   | _,_=>none
def JW (M:Ops)(T:Nat->Option Ty)(kn:Bool):Nat->Fr->List ResultVar->Option (List (V1 O))
 | _,_,[]=>some []
 | k,F,rv::r=>match qba M T F rv with
   | some v=>match qms M kn k F v with
     | some (x,F')=>match JW M T kn (k+1) F' r with
       | some xs=>some (x::xs)
       | none=>none
     | none=>none
   | none=>none
def J8 (M:Ops)(T:Nat->Option Ty)(F:Fr):List ResultVar->Option (List (V1 O))
 | []=>some []
 | rv::r=>match qba M T F rv with
   | some (.v (g,as))=>(match yk M F as with
     | some os=>(match J8 M T F r with | some xs=>some ((g,os)::xs) | none=>none)
     | none=>none)
   | _=>none
def qf8:List (V1 O)->TV O
 | [x]=>.v x
 | xs=>.tup xs
def Qb (M:Ops)(T:Nat->Option Ty)(kn:Bool)(F:Fr)(rs:Array ResultVar):Option (TV O) :=
 match rs with
 | ⟨rs⟩=>match nle (cnt rs) 64 with
   | true=>(match JW M T kn 0 (F.drop M (qA,[])) rs with
     | some [x]=>some (.v x)
     | some xs=>some (.tup xs)
     | none=>none)
   | false=>none
end Go.Proofs.YtececadpjelanaaGreat.Ai
namespace Go.Proofs.YtececadpjelanaaGreat.Ai
open Go
def QQ:List (List C)->Option (List UInt8)
 | []=>some []
 | [.int .u8 n]::r=>match QQ r with | some l=>some (UInt8.ofNat n.toNat::l) | none=>none
 | _=>none
def qnY:C->Bool
 | .un=>false
 | _=>true
def Q8 (lo hi:Option Int)(len:Nat):Option (Nat×Nat) :=
 match lo,hi with
 | none,none=>some (0,len)
 | some l,none=>if 0<=l/\l<=len then some (l.toNat,len) else none
 | none,some h=>if 0<=h/\h<=len then some (0,h.toNat) else none
 | some l,some h=>if 0<=l/\l<=h/\h<=len then some (l.toNat,h.toNat) else none
def std:Ops where
 iAdd k a b:=k.wrap (a+b)
 iSub k a b:=k.wrap (a-b)
 iMul k a b:=k.wrap (a * b)
 iQuo k a b:=if b=0 then none else some (k.wrap (a.tdiv b))
 iRem a b:=if b=0 then none else some (a.tmod b)
 iAnd k a b:=k.wrap (BitVec.ofInt k.bits a &&& BitVec.ofInt k.bits b).toNat
 iOr k a b:=k.wrap (BitVec.ofInt k.bits a ||| BitVec.ofInt k.bits b).toNat
 iXor k a b:=k.wrap (BitVec.ofInt k.bits a ^^^ BitVec.ofInt k.bits b).toNat
 iShl k a b:=if b<0 then none else some (k.wrap (a * 2 ^ min b.toNat k.bits))
 iShr k a b:=if b<0 then none else some (a.fdiv (2 ^ min b.toNat k.bits))
 iWrap k a:=k.wrap a
 iMax a b:=if b > a then b else a
 iMin a b:=if b<a then b else a
 bEq a b:=a == b
 bLt a b:=decide (a<b)
 bLe a b:=decide (a<=b)
 bNot b:=!b
 bEqB a b:=a == b
 sEq a b:=a.toList == b.toList
 sCat a b:=if a.size+b.size<=9223372036854775807 then some (a++b) else none
 sLen s:=s.size
 sCut s l h:=s.extract l h
 sAt s n:=if 0<=n then (s[n.toNat]?).map (fun b=>(b.toNat:Int)) else none
 sOf xs:=(QQ xs).map fun l=>⟨l.toArray⟩
 nI n:=n
 nAdd a b:=a+b
 nSub a b:=a-b
 nEq a b:=a == b
 nLe a b:=decide (a<=b)
 ix n len:=if 0<=n/\n<len then some n.toNat else none
 lh:=Q8
 cLen l:=l.length
 cGet l i:=l[i]?
 cCut l off len:=(l.drop off).take len
 cSz n l:=l.all fun y=>y.length == n
 oLen l:=l.length
 oGet l i:=l[i]?
 oCut l off len:=(l.drop off).take len
 oCat l r:=l++r
 oSet l i y:=l.set i y
 oFrz l:=O.frzLL l
 oOf l:=l.map (·.map .fz)
 oRep n y:=if 0<=n/\n<=lim then some (List.replicate n.toNat y) else none
 oSz n l:=l.all fun y=>y.length == n
 oFlat l:=l.all (·.all O.isFz)
 oClean l:=O.cleanLL l
theorem qq {α:Type}(l:List α)(n:Nat):nth l n=l[n]?:=by
 induction l generalizing n with
 | nil=>simp [nth]
 | cons a r ih=>cases n<;>simp [nth,ih]
theorem kf {α:Type}(l:List α):cnt l=l.length:=by induction l with | nil=>rfl | cons a r ih=>simp [cnt,ih]
theorem Vs (l:List C):fzL l=l.map .fz:=by induction l with | nil=>rfl | cons a r ih=>simp [fzL,ih]
theorem kV {α:Type}(l:List α)(n:Nat):jX l n=l.drop n:=by
 induction l generalizing n with
 | nil=>cases n<;>simp [jX]
 | cons a r ih=>cases n<;>simp [jX,ih]
theorem q9 {α:Type}(l:List α)(n:Nat)(x:α):Vy l n x=l.set n x:=by
 induction l generalizing n with
 | nil=>simp [Vy]
 | cons a r ih=>cases n<;>simp [Vy,ih]
theorem w6 {α:Type}(l:List α)(j n:Nat)(r:List α)(h:cut l j n=some r):j+n<=l.length/\r=(l.drop j).take n:=by
 induction l generalizing j n r with
 | nil =>
   cases j<;>cases n<;>simp [cut] at h
   subst h;simp
 | cons a l ih =>
   cases j with
   | zero =>
     cases n with
     | zero=>simp [cut] at h;subst h;simp
     | succ n =>
       simp only [cut] at h
       cases h1:cut l 0 n with
       | none=>simp [h1] at h
       | some l' =>
         simp [h1] at h
         subst h
         obtain ⟨h2,rfl⟩:=ih 0 n l' h1
         simp at h2 ⊢
         omega
   | succ j =>
     simp only [cut] at h
     obtain ⟨h2,rfl⟩:=ih j n r h
     simp
     omega
theorem Qu (M:Ops)(F:Fr)(l:List A):Qi M F l=l.map (ZM M F):=by induction l with | nil=>rfl | cons a r ih=>simp [Qi,ih]
theorem ju (τ:qg->Option qg)(l:List A):A.trL τ l=l.map (A.tr τ):=by induction l with | nil=>rfl | cons a r ih=>simp [A.trL,ih]
theorem qah (l:List A):okL l=l.all A.ok:=by
 induction l with
 | nil=>rfl
 | cons a r ih=>simp only [okL,List.all_cons];cases h:a.ok<;>simp [ih]
structure Jh [qi] (w:World):Prop where
 lt:∀ b,qi.J b->b<w.heap.size
 lo:qi.lo<=w.heap.size
theorem Jh.grow [qi] {w w':World}(h:Jh w)(hs:w.heap.size<=w'.heap.size):Jh w':=⟨fun b hb=>Nat.lt_of_lt_of_le (h.lt b hb) hs,Nat.le_trans h.lo hs⟩
structure FR [qi] (F:Fr)(σ:Gh)(w:World)(vt:Nat->Value):Prop where
 inj:∀ g g' x y,σ g=some x->σ g'=some y->x.p=y.p->g=g'
 lt:∀ g x,σ g=some x->g<w.heap.size
 old:Jh w
 tb:∀ id,∃ v,qo w σ (id,[]) (qa .un F.tb id) v
 tm:∀ t,qN (fun _ _=>qj w σ) (qa unT F.tm t) (vt t)
def qC [qi] (a:Act)(t:Nat):Value:=if t<PH then a.tmps.getD t undef else qi.ph (t-PH)
theorem Zx [qi] {a:Act}{t:Nat}(h:t<PH):qC a t=a.tmps.getD t undef:=if_pos h
section
variable [qi] {P:Program} {F:Fr} {σ:Gh} {w:World} {a:Act}
theorem qj.fz_inv {c:C}{v:Value}(h:qj w σ (.fz c) v):qr w σ c v:=by cases h;assumption
theorem qr.int_inv {k:IntKind}{n:Int}{v:Value}(h:qr w σ (.int k n) v):v=.int k n:=by cases h;rfl
theorem qr.bool_inv {b:Bool}{v:Value}(h:qr w σ (.bool b) v):v=.bool b:=by cases h;rfl
theorem qr.str_inv {s:ByteArray}{v:Value}(h:qr w σ (.str s) v):v=.string s:=by cases h;rfl
theorem qr.nil_inv {v:Value}(h:qr w σ .nilsl v):v=.slice none 0 0:=by cases h;rfl
theorem qaw (v:Value):qN (fun _ _=>qj w σ) unT v:=qj.un v
theorem JR (v:Value):qj w σ (jR v) v:=by
 unfold jR
 split
 . exact .fz _ _ (.int _ _)
 . exact .fz _ _ (.bool _)
 . exact .fz _ _ (.str _)
 . exact .fz _ _ .nilsl
 . exact .un _
theorem Y6 (v:Value):qN (fun _ _=>qj w σ) (jP v) v:=by
 unfold jP
 split
 . rename_i cs
   refine ⟨cs,rfl,by simp,fun j a hj=>?_⟩
   rw [List.getElem?_map] at hj
   cases h:cs.toList[j]? with
   | none=>rw [h] at hj;simp at hj
   | some u =>
     rw [h] at hj
     simp at hj
     subst hj
     exact ⟨u,by simpa using h,JR u⟩
 . exact qaw _
 . exact JR _
theorem zx (h:FR F σ w (qC a))(x:Operand):qN (fun _ _=>qj w σ) (ev F x) (a.eval x):=by
 cases x with
 | tmp t =>
   show qN _ (match nlt t PH with | true=>qa unT F.tm t | false=>unT) _
   split
   . rename_i ht
     have:=h.tm t
     rw [Zx (j8.1 ht)] at this
     exact this
   . exact qaw _
 | const v=>exact Y6 v
 | func f=>exact qj.fz _ _ (qr.fn f [] #[] (fun _=>undef) rfl (fun j c hj=>by simp at hj) (fun j c hj=>by simp at hj))
 | global g=>exact qaw _
theorem wS {x:TV A}{v:Value}(h:qN (fun _ _=>qj w σ) x v):qj w σ (one x) v:=by
 unfold one
 split
 . exact h
 . exact .un _
theorem qt (h:FR F σ w (qC a))(x:Operand):qj w σ (ev1 F x) (a.eval x):=wS (zx h x)
theorem qcp {op:BinOp}{k:IntKind}{x y:Int}{c:C}(h:Yy std op k x y=some c)(hs:op≠.shl/\op≠.shr)(t:TypeId) :
 ∃ v,(binOp op t (.int k x) (.int k y)).run P w=.ok v w/\qr w σ c v:=by
 cases op<;>simp [Yy,std] at h hs
 case add=>subst h;exact ⟨_,by simp [binOp,Op.intArith],.int _ _⟩
 case sub=>subst h;exact ⟨_,by simp [binOp,Op.intArith],.int _ _⟩
 case mul=>subst h;exact ⟨_,by simp [binOp,Op.intArith],.int _ _⟩
 case quo =>
  split at h
  . rename_i z hz
    split at hz
    . cases hz
    . rename_i hy
      simp at h hz
      subst h hz
      exact ⟨_,by simp [binOp,Op.intDiv,hy],.int _ _⟩
  . cases h
 case rem =>
  split at h
  . rename_i z hz
    split at hz
    . cases hz
    . rename_i hy
      simp at h hz
      subst h hz
      exact ⟨_,by simp [binOp,Op.intDiv,hy],.int _ _⟩
  . cases h
 case and=>subst h;exact ⟨_,by simp [binOp,Op.intBits],.int _ _⟩
 case or=>subst h;exact ⟨_,by simp [binOp,Op.intBits],.int _ _⟩
 case xor=>subst h;exact ⟨_,by simp [binOp,Op.intBits],.int _ _⟩
 case eql=>subst h;exact ⟨_,by simp [binOp,Op.intCmp],.bool _⟩
 case neq=>subst h;exact ⟨_,by simp [binOp,Op.intCmp];rfl,.bool _⟩
 case lss=>subst h;exact ⟨_,by simp [binOp,Op.intCmp],.bool _⟩
 case leq=>subst h;exact ⟨_,by simp [binOp,Op.intCmp],.bool _⟩
 case gtr=>subst h;exact ⟨_,by simp [binOp,Op.intCmp],.bool _⟩
 case geq=>subst h;exact ⟨_,by simp [binOp,Op.intCmp],.bool _⟩
theorem yY {k k':IntKind}(h:Jb k k'=true):k=k':=by cases k<;>cases k'<;>simp_all [Jb]
theorem V6 {op:BinOp}{x y c:C}(h:qas std op x y=some c)(t:TypeId){v v':Value}(hx:qr w σ x v)(hy:qr w σ y v') :
 ∃ u,(binOp op t v v').run P w=.ok u w/\qr w σ c u:=by
 cases x<;>cases y<;>simp only [qas] at h<;>try cases h
 case int.int k a k' b =>
  cases hx;cases hy
  split at h
  . simp only [std] at h
    split at h
    . rename_i z hz
      split at hz
      . cases hz
      . rename_i hb
        simp at h hz
        subst h hz
        exact ⟨_,by simp [binOp,Op.shift,hb],.int _ _⟩
    . cases h
  . simp only [std] at h
    split at h
    . rename_i z hz
      split at hz
      . cases hz
      . rename_i hb
        simp at h hz
        subst h hz
        exact ⟨_,by simp [binOp,Op.shift,hb],.int _ _⟩
    . cases h
  . rename_i h1 h2
    split at h
    . rename_i hk
      obtain rfl:=yY hk
      exact qcp h ⟨h1,h2⟩ t
    . cases h
 case str.str s s' =>
  cases hx;cases hy
  cases op<;>simp [qbu,std] at h
  case add =>
   split at h
   . rename_i z hz
     split at hz
     . rename_i hb
       simp at h hz
       subst h hz
       exact ⟨_,by simpa [binOp] using run_string_add_sum (P:=P) w s s' hb,.str _⟩
     . cases hz
   . cases h
  case eql=>subst h;exact ⟨_,by simp [binOp,Op.stringOp],.bool _⟩
  case neq=>subst h;exact ⟨_,by simp [binOp,Op.stringOp],.bool _⟩
def ka (P:Program)(T:Nat->Option Ty):Prop:=∀ t y,T t=some y->kx P t=some y
theorem qz {t:TypeId}{y:Ty}(h:kx P t=some y):∃ i u z,P.info? t=some i/\P.underlying t=some u/\i.zero=some z ∧
 y={ kind:=je P u,agg:=Kh (some u),size:=i.size,bytes:=i.bytes,zero:=z.cells.toList.map jU }:=by
 unfold kx at h
 split at h
 . rename_i i u hi hu
   split at h
   . rename_i z hz
     simp at h
     exact ⟨i,u,z,hi,hu,hz,h.symm⟩
   . cases h
 . cases h
theorem qhO {u:TypeDesc}(h:je P u=.bool):u=.bool:=by cases u<;>simp only [je] at h<;>first | rfl | cases h | (split at h<;>cases h)
theorem qf9 {u:TypeDesc}{k e:Nat}(h:je P u=.mp k e):u=.map k e:=by cases u<;>simp only [je] at h<;>first | (injection h with h1 h2;subst h1 h2;rfl) | cases h | (split at h<;>cases h)
theorem jI {u:TypeDesc}(h:je P u=.str):u=.string:=by cases u<;>simp only [je] at h<;>first | rfl | cases h | (split at h<;>cases h)
theorem ja {u:TypeDesc}{e:Nat}(h:je P u=.sl e):u=.slice e:=by cases u<;>simp only [je] at h<;>first | (injection h with h;subst h;rfl) | cases h | (split at h<;>cases h)
theorem qdx {u:TypeDesc}{k:IntKind}(h:je P u=.int k):u=.int k:=by cases u<;>simp only [je] at h<;>first | (injection h with h;subst h;rfl) | cases h | (split at h<;>cases h)
theorem qbe {u:TypeDesc}{fs:List (Nat×Nat×Bool)}(h:je P u=.st fs):∃ gs:Array Field,u=.struct gs/\fs=gs.toList.map (fun f=>(f.offset,P.cellsOf f.type,Kh (P.underlying f.type))) ∧
 ∀ f∈gs.toList,∃ ud inf,P.underlying f.type=some ud/\P.info? f.type=some inf:=by
 cases u<;>simp only [je] at h<;>try cases h
 rename_i gs
 split at h
 . rename_i ha
   injection h with h
   refine ⟨gs,rfl,h.symm,fun f hf=>?_⟩
   have:=List.all_eq_true.1 ha f hf
   obtain ⟨ud,hud⟩:=Option.isSome_iff_exists.1 this
   cases hi:P.info? f.type with
   | none=>simp [Program.underlying,hi] at hud
   | some inf=>exact ⟨ud,inf,hud,rfl⟩
 . cases h
theorem vf (d:Nat)(t:TypeId)(x y:Bool)(h:P.underlying t=some .bool):(Op.equalIn (d+1) t (.bool x) (.bool y)).run P w=.ok (x == y) w:=by
 simp [Op.equalIn,run_underlying h]
theorem Ya {k:TK}{x y:A}{b:Bool}(h:eqT std k x y=some b){t:TypeId}{ty:Ty}(ht:kx P t=some ty)(hk:ty.kind=k){v v':Value}(hx:qj w σ x v)(hy:qj w σ y v') :
 (Op.equal t v v').run P w=.ok b w/\(binOp .eql t v v').run P w=.ok (.bool b) w/\(binOp .neq t v v').run P w=.ok (.bool !b) w:=by
 obtain ⟨i,u,z,hi,hu,hz,rfl⟩:=qz ht
 dsimp only at hk
 unfold eqT at h
 split at h
 . obtain rfl:=qhO hk
   split at h
   . rename_i p q
     simp [std] at h
     subst h
     obtain rfl:=hx.fz_inv.bool_inv
     obtain rfl:=hy.fz_inv.bool_inv
     have e:(Op.equal t (.bool p) (.bool q)).run P w=.ok (p == q) w:=vf 9999 t p q hu
     exact ⟨e,by simp [binOp,e],by simp [binOp,e]⟩
   . cases h
 . obtain rfl:=ja hk
   split at h
   . obtain rfl:=hy.fz_inv.nil_inv
     unfold isNil? at h
     split at h
     . obtain rfl:=hx.fz_inv.nil_inv
       simp at h
       subst h
       have e:=run_equal_slice_nil (P:=P) w t _ none 0 0 hu
       exact ⟨e,by simp [binOp,e],by simp [binOp,e]⟩
     . rename_i x xs
       simp at h
       subst h
       cases hx.fz_inv with
       | sl _ sz a cap us hc hs ha hm hr =>
         obtain ⟨ad,rfl,_⟩:=ha (by simp)
         have e:(Op.equal t (.slice (some ad) (x::xs).length cap) (.slice none 0 0)).run P w=.ok false w:=run_equal_slice_nil (P:=P) w t _ (some ad) (x::xs).length cap hu
         exact ⟨e,by simp only [binOp,Sem.run_bind,e];simp,by simp only [binOp,Sem.run_bind,e];simp⟩
     . simp at h
       subst h
       cases hx with
       | rf p off len g n cap sz hg hl hn =>
         rename_i off' len
         have e:(Op.equal t (.slice (some ⟨g,off' * sz,none⟩) (len+1) (cap-off')) (.slice none 0 0)).run P w=.ok false w:=run_equal_slice_nil (P:=P) w t _ (some ⟨g,off' * sz,none⟩) _ (cap-off') hu
         exact ⟨e,by simp only [binOp,Sem.run_bind,e];simp,by simp only [binOp,Sem.run_bind,e];simp⟩
     . cases h
   . cases h
 . cases h
end
end Go.Proofs.YtececadpjelanaaGreat.Ai
namespace Go.Proofs.YtececadpjelanaaGreat.Ai
open Go
section
variable [qi] {P:Program} {F:Fr} {σ:Gh} {w:World} {a:Act}
def qae:Value->Bool
 | .agg _ | .nilIface=>false
 | _=>true
theorem jH (op:BinOp)(t:TypeId)(x y:Operand){u v:Value}(h:qae u=true):(eqGuard op t x y u v).run P w=.ok () w:=by
 cases u<;>first
  | (simp [qae] at h;done)
  | (cases v<;>cases op<;>rfl)
theorem qr.plain {c:C}{v:Value}(h:qr w σ c v)(hc:qnY c=true):qae v=true:=by cases h<;>first | rfl | simp [qnY] at hc
theorem qef {T:Nat->Option Ty}(hT:ka P T){op:BinOp}{x y:A}{c:C}{t:TypeId}{ty:Ty}(ht:T t=some ty)(h:qct std ty.kind op x y=some c)(ox oy:Operand){v v':Value}
 (hx:qj w σ x v) (hy:qj w σ y v'):∃ u,(do eqGuard op t ox oy v v';binOp op t v v':Sem Value).run P w=.ok u w/\qr w σ c u:=by
 unfold qct at h
 split at h
 . obtain rfl:=hx.fz_inv.int_inv
   obtain rfl:=hy.fz_inv.int_inv
   obtain ⟨u,h1,h2⟩:=V6 (P:=P) (w:=w) (σ:=σ) h t (.int _ _) (.int _ _)
   exact ⟨u,by simp [jH op t ox oy (u:=.int _ _) rfl,h1],h2⟩
 . obtain rfl:=hx.fz_inv.str_inv
   obtain rfl:=hy.fz_inv.str_inv
   obtain ⟨u,h1,h2⟩:=V6 (P:=P) (w:=w) (σ:=σ) h t (.str _) (.str _)
   exact ⟨u,by simp [jH op t ox oy (u:=.string _) rfl,h1],h2⟩
 . have pl:∀ b,eqT std ty.kind x y=some b->qae v=true:=by
    intro b hb
    unfold eqT at hb
    split at hb
    . split at hb
      . exact hx.fz_inv.plain rfl
      . cases hb
    . split at hb
      . unfold isNil? at hb
        split at hb
        . exact hx.fz_inv.plain rfl
        . exact hx.fz_inv.plain rfl
        . cases hx;rfl
        . cases hb
      . cases hb
    . cases hb
   split at h
   . split at h
     . rename_i b hb
       simp at h
       subst h
       obtain ⟨_,h2,_⟩:=Ya (P:=P) hb (hT _ _ ht) rfl hx hy
       exact ⟨_,by simp [jH .eql t ox oy (pl b hb),h2],.bool _⟩
     . cases h
   . split at h
     . rename_i b hb
       simp at h
       subst h
       obtain ⟨_,_,h2⟩:=Ya (P:=P) hb (hT _ _ ht) rfl hx hy
       exact ⟨.bool !b,by simp [jH .neq t ox oy (pl b hb),h2],.bool _⟩
     . cases h
   . cases h
theorem qhn {op:UnOp}{x:A}{c:C}(h:unC std op x=some c){v:Value}(hx:qj w σ x v):∃ u,(Op.unary op v).run P w=.ok u w/\qr w σ c u:=by
 unfold unC at h
 split at h
 . obtain rfl:=hx.fz_inv.int_inv
   split at h
   . simp [std] at h
     subst h
     exact ⟨_,by simp [Op.unary,Op.intArith];rfl,by simpa using qr.int _ _⟩
   . cases h
 . obtain rfl:=hx.fz_inv.bool_inv
   split at h
   . simp [std] at h
     subst h
     exact ⟨_,by simp [Op.unary],.bool _⟩
   . cases h
 . cases h
theorem Zq {q:qg}{o:O}{u:Value}(h:qo w σ q o u):qj w σ (qfu std q o) u:=by
 cases h with
 | un _ _ _=>exact .un _
 | fz _ c _ h=>exact .fz _ _ h
 | oslz _ a=>exact .rz _ _ _
 | osl _ xs e sz g cap cur us hh hc hcm hl hs hg hm hr =>
   have:=qj.rf (w:=w) (σ:=σ) q 0 xs.length g xs.length cap sz hg (by omega) hc.2
   simpa [qfu,std] using this
 | obx _ cs g e cells us n cap sz hh hl hg hm hr =>
   have:=qj.pp (w:=w) (σ:=σ) q 0 0 g n cap sz hg
   simpa [qfu] using this
theorem qjf {p:qg}{o:O}{v:Value}(h:qo w σ p o v):∀ s:List (Nat×Nat),∃ u,qo w σ (p.1,p.2++s) (o.at std s) u:=by
 induction h with
 | un p v hv=>intro s;cases s with
   | nil=>exact ⟨v,by simpa [O.at] using qo.un p v hv⟩
   | cons x s=>exact ⟨.bool false,by simpa [O.at] using qo.un _ _ rfl⟩
 | fz p c v h=>intro s;cases s with
   | nil=>exact ⟨v,by simpa [O.at] using qo.fz p c v h⟩
   | cons x s=>exact ⟨.bool false,by simpa [O.at] using qo.un _ _ rfl⟩
 | oslz p a=>intro s;cases s with
   | nil=>exact ⟨_,by simpa [O.at] using qo.oslz p a⟩
   | cons x s=>exact ⟨.bool false,by obtain ⟨i,j⟩:=x;simpa [O.at,std] using qo.un _ _ rfl⟩
 | osl p xs e sz g cap cur us hh hc hcm hl hs hg hm hr ih=>intro s;cases s with
   | nil=>exact ⟨_,by simpa [O.at] using qo.osl p xs e sz g cap cur us hh hc hcm hl hs hg hm hr⟩
   | cons x s =>
     obtain ⟨i,j⟩:=x
     simp only [O.at,std,qq]
     cases hi:xs[i]? with
     | none=>exact ⟨.bool false,qo.un _ _ rfl⟩
     | some y =>
       cases hj:y[j]? with
       | none=>simp only [hj];exact ⟨.bool false,qo.un _ _ rfl⟩
       | some o =>
         obtain ⟨u,hu⟩:=ih i j y o hi hj s
         exact ⟨u,by simpa [hj,std] using hu⟩
 | obx p cs g e cells us n cap sz hh hl hg hm hr ih=>intro s;cases s with
   | nil=>exact ⟨_,by simpa [O.at] using qo.obx p cs g e cells us n cap sz hh hl hg hm hr⟩
   | cons x s =>
     obtain ⟨i,j⟩:=x
     simp only [O.at,qq]
     cases i with
     | succ i=>exact ⟨.bool false,qo.un _ _ rfl⟩
     | zero =>
       cases hj:cs[j]? with
       | none=>exact ⟨.bool false,by simpa [hj] using qo.un _ _ rfl⟩
       | some o =>
         obtain ⟨u,hu⟩:=ih j o hj s
         exact ⟨u,by simpa [hj] using hu⟩
theorem zf {vt:Nat->Value}(h:FR F σ w vt)(p:qg):∃ v,qo w σ p (F.at std p) v:=by
 obtain ⟨v,hv⟩:=h.tb p.1
 obtain ⟨u,hu⟩:=qjf hv p.2
 exact ⟨u,by simpa [Fr.at] using hu⟩
theorem qcH (M:Ops)(r:Nat)(s:List (Nat×Nat))(i:Nat)(l:List O):∀ j k:Nat,(VU M r s i j l)[k]?=(l[k]?).map fun o=>qfu M (r,s++[(i,j+k)]) o:=by
 induction l with
 | nil=>intro j k;simp [VU]
 | cons o l ih =>
   intro j k
   cases k with
   | zero=>simp [VU]
   | succ k=>simp [VU,ih,Nat.add_comm,Nat.add_left_comm]
theorem vl (M:Ops)(r:Nat)(s:List (Nat×Nat))(i j:Nat)(l:List O):(VU M r s i j l).length=l.length:=by
 induction l generalizing j with
 | nil=>rfl
 | cons o l ih=>simp [VU,ih]
theorem qU (b o n:Nat):(⟨b,o,none⟩:Addr).add n=⟨b,o+n,none⟩:=by
 unfold Addr.add
 split
 . simp_all
 . rfl
theorem KC {ad:Addr}(h:ad.spot=none)(n m:Nat):(ad.add n).add m=ad.add (n+m):=by
 obtain ⟨b,o,s⟩:=ad
 simp at h
 subst h
 rw [qU,qU,qU,Nat.add_assoc]
theorem yc {ad:Addr}(h:ad.spot=none)(n:Nat):(ad.add n).spot=none:=by unfold Addr.add;split<;>simp_all
def Cells (w:World)(σ:Gh)(ad:Addr)(as:List A):Prop:=ad.spot=none/\∀ k x,as[k]?=some x->∃ u,w.cell? (ad.add k)=some u/\qj w σ x u
theorem QH {vt:Nat->Value}(h:FR F σ w vt){n:Nat}{x:A}{as:List A}(hc:zQ std F n x=some as){v:Value}(hx:qj w σ x v) :
 as.length=n/\∃ ad,v=.pointer (some ad)/\Cells w σ ad as:=by
 unfold zQ at hc
 split at hc
 . rename_i p i j
   obtain ⟨u,hu⟩:=zf h p
   cases hx with
   | pp _ _ _ g m cap sz hg =>
     split at hc
     . rename_i xs hxs
       rw [hxs] at hu
       split at hc
       . rename_i y hy
         simp only [std] at hy
         split at hc
         . rename_i l hl
           obtain ⟨hlen,rfl⟩:=w6 _ _ _ _ hl
           simp only [Option.some.injEq] at hc
           subst hc
           refine ⟨by rw [vl];simp;omega,_,rfl,rfl,?_⟩
           intro k x hk
           rw [qcH] at hk
           cases hu with
           | oslz=>simp at hy
           | osl _ _ e sz' g' cap' cur us hh hc' hcm hl' hs hg' hm hr =>
             obtain rfl:=h.inj _ _ _ _ hg hg' rfl
             rw [hg] at hg'
             simp only [Option.some.injEq,Own.mk.injEq] at hg'
             obtain ⟨_,rfl,rfl,rfl⟩:=hg'
             have hk':((y.drop j).take n)[k]?=((y.drop j).take n)[k]?:=rfl
             cases ho:((y.drop j).take n)[k]? with
             | none=>rw [ho] at hk;simp at hk
             | some o =>
               rw [ho] at hk
               simp at hk
               subst hk
               have hyo:y[j+k]?=some o:=by
                rw [List.getElem?_take] at ho
                split at ho
                . simpa using ho
                . cases ho
               refine ⟨us i (j+k),?_,Zq (hr i (j+k) y o hy hyo)⟩
               rw [qU,Nat.add_assoc]
               simp only [World.cell?,hh]
               simpa using hm i (j+k) y o hy hyo
         . cases hc
       . cases hc
     . rename_i cs hcs
       rw [hcs] at hu
       split at hc
       . split at hc
         . rename_i l hl
           obtain ⟨hlen,rfl⟩:=w6 _ _ _ _ hl
           simp only [Option.some.injEq] at hc
           subst hc
           refine ⟨by rw [vl];simp;omega,_,rfl,rfl,?_⟩
           intro k x hk
           rw [qcH] at hk
           cases hu with
           | obx _ _ g' e cells us n' cap' sz' hh hl' hg' hm hr =>
             obtain rfl:=h.inj _ _ _ _ hg hg' rfl
             cases ho:((cs.drop j).take n)[k]? with
             | none=>rw [ho] at hk;simp at hk
             | some o =>
               rw [ho] at hk
               simp at hk
               subst hk
               have hyo:cs[j+k]?=some o:=by
                rw [List.getElem?_take] at ho
                split at ho
                . simpa using ho
                . cases ho
               refine ⟨us (j+k),?_,Zq (hr (j+k) o hyo)⟩
               rw [qU]
               simp only [World.cell?,hh]
               simpa using hm (j+k) o hyo
         . cases hc
       . cases hc
     . cases hc
 . rename_i cs
   cases hx.fz_inv with
   | ptr _ ad us hp hlt hb hm hr =>
     split at hc
     . rename_i l hl
       obtain ⟨hlen,rfl⟩:=w6 _ _ _ _ hl
       simp only [Option.some.injEq,Vs] at hc
       subst hc
       refine ⟨by simp;omega,ad,rfl,hp,?_⟩
       intro k x hk
       rw [List.getElem?_map] at hk
       cases ho:((cs.drop 0).take n)[k]? with
       | none=>rw [ho] at hk;simp at hk
       | some c =>
         rw [ho] at hk
         simp at hk
         subst hk
         have hyo:cs[k]?=some c:=by
          rw [List.getElem?_take] at ho
          split at ho
          . simpa using ho
          . cases ho
         exact ⟨us k,hm k c hyo,.fz _ _ (hr k c hyo)⟩
     . cases hc
 . cases hc
end
end Go.Proofs.YtececadpjelanaaGreat.Ai
namespace Go.Proofs.YtececadpjelanaaGreat.Ai
open Go
section
variable [qi] {P:Program} {T:Nat->Option Ty} {F:Fr} {σ:Gh} {w:World} {a:Act}
theorem qeQ {ad:Addr}{as:List A}(h:Cells w σ ad as):∃ vs:List Value,vs.length=as.length/\(∀ (k:Nat) (v:Value),vs[k]?=some v->w.cell? (ad.add k)=some v) ∧
 ∀ (k:Nat) (x:A),as[k]?=some x->∃ u,vs[k]?=some u/\qj w σ x u:=by
 classical
 obtain ⟨_,h⟩:=h
 refine ⟨(List.range as.length).map fun k=>(w.cell? (ad.add k)).getD undef,by simp,?_,?_⟩
 . intro k v hk
   rw [List.getElem?_map] at hk
   by_cases hlt:k<as.length
   . rw [List.getElem?_range hlt] at hk
     simp at hk
     obtain ⟨u,hu,_⟩:=h k _ (List.getElem?_eq_getElem hlt)
     rw [hu] at hk ⊢
     simpa using hk
   . rw [List.getElem?_eq_none (by simpa using hlt)] at hk
     simp at hk
 . intro k x hk
   have hlt:k<as.length:=(List.getElem?_eq_some_iff.1 hk).1
   obtain ⟨u,hu,hr⟩:=h k x hk
   refine ⟨u,?_,hr⟩
   rw [List.getElem?_map,List.getElem?_range hlt]
   simp [hu]
theorem Yq {agg:Bool}{as:List A}{tv:TV A}(h:mkV agg as=some tv){vs:List Value}(hl:vs.length=as.length)(hr:∀ (k:Nat) (x:A),as[k]?=some x->∃ u,vs[k]?=some u/\qj w σ x u) :
 qN (fun _ _=>qj w σ) tv (if agg then .agg vs.toArray else vs.getD 0 undef)/\(agg=false->∃ x v,as=[x]/\vs=[v]):=by
 unfold mkV at h
 split at h
 . simp at h
   subst h
   refine ⟨⟨vs.toArray,rfl,by simpa using hl,fun j x hj=>?_⟩,by simp⟩
   obtain ⟨u,hu,hx⟩:=hr j x hj
   exact ⟨u,by simpa using hu,hx⟩
 . split at h
   . simp at h
     subst h
     rename_i x
     obtain ⟨u,hu,hx⟩:=hr 0 x rfl
     refine ⟨?_,fun _=>?_⟩
     . simp only [Bool.false_eq_true,if_false,List.getD_eq_getElem?_getD,hu]
       exact hx
     . match vs,hl with
       | [v],_=>exact ⟨x,v,rfl,rfl⟩
   . cases h
theorem Vr {t:TypeId}{u:TypeDesc}(h:P.underlying t=some u):(isAgg t).run P w=.ok (Kh (some u)) w:=by
 cases u<;>simp [isAgg,run_underlying h,Kh]
theorem V5 {t:TypeId}{ty:Ty}(ht:kx P t=some ty){ad:Addr}{as:List A}(hc:Cells w σ ad as)(hl:as.length=ty.size){tv:TV A}(hm:mkV ty.agg as=some tv) :
 ∃ v,(loadVar t ad).run P w=.ok v w/\qN (fun _ _=>qj w σ) tv v:=by
 obtain ⟨i,u,z,hi,hu,hz,rfl⟩:=qz ht
 obtain ⟨vs,h1,h2,h3⟩:=qeQ hc
 obtain ⟨h4,h5⟩:=Yq hm h1 h3
 dsimp only at hl hm h4 h5
 have hsz:P.cellsOf t=vs.length:=by rw [h1,hl];simp [Program.cellsOf,hi]
 refine ⟨_,?_,h4⟩
 unfold loadVar
 simp only [Sem.run_bind,Vr hu,Result.andThen_ok]
 cases hg:Kh (some u) with
 | true =>
   simp only [if_true,Sem.run_bind,run_sizeOf w hi,Result.andThen_ok,hsz,run_loadCells_list w ad vs h2,Sem.run_pure]
 | false =>
   obtain ⟨x,v,rfl,rfl⟩:=h5 hg
   have:=h2 0 v rfl
   simp [Addr.add] at this
   simp [run_load,this]
def qhq (w:World)(σ:Gh):QR->Value->Prop
 | .val tv,v=>qN (fun _ _=>qj w σ) tv v
 | .mt,v=>∃ b,v=.slice b 0 0
theorem qaz {off:Nat}{x x':A}(h:yw off x=some x'){v:Value}(hx:qj w σ x v):∃ ad,v=.pointer (some ad)/\qj w σ x' (.pointer (some (ad.add off))):=by
 unfold yw at h
 split at h
 . simp at h
   subst h
   cases hx with
   | pp _ _ _ g n cap sz hg=>exact ⟨_,rfl,by rw [qU];simpa [Nat.add_assoc] using qj.pp _ _ (_+off) g n cap sz hg⟩
 . simp at h
   subst h
   rename_i cs
   cases hx.fz_inv with
   | ptr _ ad us hp hlt hb hm hr =>
     refine ⟨ad,rfl,.fz _ _ ?_⟩
     rw [kV]
     refine .ptr _ _ (fun j=>us (off+j)) (yc hp _) (by rwa [kQ]) (by rwa [kQ]) ?_ ?_
     . intro j c hj
       rw [List.getElem?_drop] at hj
       rw [KC hp]
       exact hm _ c hj
     . intro j c hj
       rw [List.getElem?_drop] at hj
       exact hr _ c hj
 . cases h
theorem qc2 {vt:Nat->Value}(hF:FR F σ w vt){x i x':A}{size:Nat}(h:Zl std x i=some x')(hok:jQ std F size x'=true){vx vi:Value}(hx:qj w σ x vx)(hi:qj w σ i vi) :
 ∃ k n len cap ad,vi=.int k n/\vx=.slice (some ad) len cap/\0<=n/\n<len/\qj w σ x' (.pointer (some (ad.add (n.toNat * size)))):=by
 unfold Zl at h
 split at h
 . rename_i k n
   obtain rfl:=hi.fz_inv.int_inv
   split at h
   . rename_i p off len
     simp only [std] at h
     split at h
     . rename_i m hm
       split at hm
       . rename_i hb
         simp at h hm
         subst h hm
         cases hx with
         | rz=>simp at hb;omega
         | rf _ _ _ g n' cap sz hg hl hn =>
           refine ⟨_,_,_,_,_,rfl,rfl,hb.1,hb.2,?_⟩
           simp only [jQ] at hok
           obtain ⟨u,hu⟩:=zf hF p
           split at hok
           . rename_i xs hxs
             rw [hxs] at hu
             split at hok
             . rename_i y hy
               simp only [std] at hy
               have hsz:sz=size:=by
                cases hu with
                | oslz=>simp at hy
                | osl _ _ e sz' g' cap' cur us hh hc' hcm hl' hs hg' hm hr =>
                  obtain rfl:=hF.inj _ _ _ _ hg hg' rfl
                  rw [hg] at hg'
                  simp only [Option.some.injEq,Own.mk.injEq] at hg'
                  obtain ⟨_,rfl,rfl,rfl⟩:=hg'
                  rw [<-hs y (List.mem_of_getElem? hy)]
                  simpa [kf] using hok
               subst hsz
               rw [qU]
               simpa [Nat.add_mul] using qj.pp p (off+n.toNat) 0 g n' cap sz hg
             . cases hok
           . cases hok
       . cases hm
     . cases h
   . rename_i xs
     simp only [std] at h
     split at h
     . rename_i m hm
       split at hm
       . rename_i hb
         simp at hm
         subst hm
         split at h
         . rename_i y hy
           simp at h
           subst h
           cases hx.fz_inv with
           | sl _ sz a cap us hc hs ha hm hr =>
             obtain ⟨ad,rfl,hsp,hlt,hσ⟩:=ha (by intro e;subst e;simp at hy)
             refine ⟨_,_,_,_,_,rfl,rfl,hb.1,hb.2,.fz _ _ ?_⟩
             have hsz:sz=size:=by
              rw [<-hs y (List.mem_of_getElem? hy)]
              simpa [jQ,kf] using hok
             subst hsz
             refine .ptr _ _ (fun j=>us n.toNat j) (yc hsp _) (by rwa [kQ]) (by rwa [kQ]) ?_ ?_
             . intro j c hj
               rw [KC hsp]
               exact hm ad rfl _ _ y c hy hj
             . intro j c hj
               exact hr _ _ y c hy hj
         . cases h
       . cases hm
     . cases h
   . cases h
 . cases h
theorem Kx {lo:Option Operand}{b:Option Int}(hF:FR F σ w (qC a))(h:bnd (jJ F lo)=some b) :
 match b with | none=>lo=none | some n=>∃ x k,lo=some x/\a.eval x=.int k n:=by
 cases lo with
 | none=>simp [jJ,bnd] at h;subst h;rfl
 | some x =>
   simp only [jJ] at h
   unfold bnd at h
   split at h
   . rename_i he;cases he
   . rename_i k n he
     simp at h
     subst h
     simp at he
     have:=qt hF x
     rw [he] at this
     exact ⟨x,k,rfl,this.fz_inv.int_inv⟩
   . cases h
theorem kY {lo hi:Option Operand}{bl bh:Option Int}{len cap l h:Nat}(hF:FR F σ w (qC a))(hl:bnd (jJ F lo)=some bl)(hh:bnd (jJ F hi)=some bh)(hc:len<=cap)
 (hb:Q8 bl bh len=some (l,h)) (sl:Bool):(Instr.sliceBounds sl len cap (lo.map a.eval) (hi.map a.eval) none).run P w=.ok (l,h,cap) w/\l<=h/\h<=len:=by
 have h1:=Kx hF hl
 have h2:=Kx hF hh
 cases bl with
 | none =>
   dsimp only at h1
   subst h1
   cases bh with
   | none =>
     dsimp only at h2
     subst h2
     simp [Q8] at hb
     obtain ⟨rfl,rfl⟩:=hb
     exact ⟨by simp [Instr.sliceBounds],by omega,by omega⟩
   | some n =>
     obtain ⟨x,k,rfl,hx⟩:=h2
     simp only [Q8] at hb
     split at hb
     . rename_i hn
       simp at hb
       obtain ⟨rfl,rfl⟩:=hb
       refine ⟨?_,by omega,by omega⟩
       simp [Instr.sliceBounds,hx,run_sliceBound (P:=P) w k n cap _ hn.1 (by omega)]
     . cases hb
 | some m =>
   obtain ⟨y,k',rfl,hy⟩:=h1
   cases bh with
   | none =>
     dsimp only at h2
     subst h2
     simp only [Q8] at hb
     split at hb
     . rename_i hn
       simp at hb
       obtain ⟨rfl,rfl⟩:=hb
       refine ⟨?_,by omega,by omega⟩
       simp [Instr.sliceBounds,hy,run_sliceBound (P:=P) w k' m len _ hn.1 (by omega)]
     . cases hb
   | some n =>
     obtain ⟨x,k,rfl,hx⟩:=h2
     simp only [Q8] at hb
     split at hb
     . rename_i hn
       simp at hb
       obtain ⟨rfl,rfl⟩:=hb
       refine ⟨?_,by omega,by omega⟩
       simp [Instr.sliceBounds,hx,hy,run_sliceBound (P:=P) w k n cap _ (by omega) (by omega),run_sliceBound (P:=P) w k' m n.toNat _ hn.1 (by omega)]
     . cases hb
end
end Go.Proofs.YtececadpjelanaaGreat.Ai
namespace Go.Proofs.YtececadpjelanaaGreat.Ai
open Go
section
variable [qi] {P:Program} {T:Nat->Option Ty} {F:Fr} {σ:Gh} {w:World} {a:Act}
theorem qr.slice_inv {xs:List (List C)}{v:Value}(h:qr w σ (.sl xs) v):∃ (sz:Nat) (b:Option Addr) (cap:Nat) (us:Nat->Nat->Value),v=.slice b xs.length cap/\xs.length<=cap/\(∀ y∈xs,y.length=sz) ∧
 (xs≠[]->∃ ad,b=some ad/\ad.spot=none/\ad.block<w.heap.size/\jE σ ad.block) ∧
 (∀ ad,b=some ad->∀ (i j:Nat) (y:List C) (c:C),xs[i]?=some y->y[j]?=some c->w.cell? (ad.add (i * sz+j))=some (us i j)) ∧
 (∀ (i j:Nat) (y:List C) (c:C),xs[i]?=some y->y[j]?=some c->qr w σ c (us i j)):=by
 cases h with
 | sl _ sz b cap us hc hs ha hm hr=>exact ⟨sz,b,cap,us,rfl,hc,hs,ha,hm,hr⟩
theorem kG {α:Type}{l:List α}{j n k:Nat}{x:α}(h:((l.drop j).take n)[k]?=some x):l[j+k]?=some x/\k<n:=by
 rw [List.getElem?_take] at h
 split at h
 . exact ⟨by simpa using h,by assumption⟩
 . cases h
theorem qaU {xs:List (List C)}{b:Option Addr}{cap l h size:Nat}(hx:qr w σ (.sl xs) (.slice b xs.length cap))(hl:l<=h)(hh:h<=xs.length)(hz:∀ y∈xs,y.length=size) :
 qr w σ (.sl ((xs.drop l).take (h-l))) (sliced b l h cap size):=by
 obtain ⟨sz,b',cap',us,e,hc,hs,ha,hm,hr⟩:=hx.slice_inv
 injection e with e1 _ e2
 subst e1 e2
 have hlen:((xs.drop l).take (h-l)).length=h-l:=by simp;omega
 unfold sliced
 suffices H:qr w σ (.sl ((xs.drop l).take (h-l))) (.slice (if cap=l then b else b.map (·.add (l * size))) ((xs.drop l).take (h-l)).length (cap-l)) by
  rw [hlen] at H;exact H
 refine .sl _ size _ (cap-l) (fun i j=>us (l+i) j) (by rw [hlen];omega) (fun y hy=>hz y (List.mem_of_mem_drop (List.mem_of_mem_take hy))) ?_ ?_ ?_
 . intro hne
   have hlt:l<h:=by
    rcases Nat.lt_or_ge l h with h' | h'
    . exact h'
    . exact absurd (List.eq_nil_of_length_eq_zero (by rw [hlen];omega)) hne
   obtain ⟨ad,rfl,hsp,hb,hσ⟩:=ha (by intro e;subst e;simp at hh;omega)
   rw [if_neg (by omega)]
   exact ⟨ad.add (l * size),rfl,yc hsp _,by rwa [kQ],by rwa [kQ]⟩
 . intro ad' e i j y c hi hj
   obtain ⟨hi',hlt⟩:=kG hi
   have hne:xs≠[]:=by intro e;subst e;simp at hi'
   obtain ⟨ad,rfl,hsp,hb,hσ⟩:=ha hne
   rw [if_neg (by omega)] at e
   simp at e
   subst e
   have hsz:sz=size:=by rw [<-hs y (List.mem_of_getElem? hi'),hz y (List.mem_of_getElem? hi')]
   subst hsz
   rw [KC hsp]
   have:=hm ad rfl (l+i) j y c hi' hj
   rwa [Nat.add_mul,Nat.add_assoc] at this
 . intro i j y c hi hj
   obtain ⟨hi',_⟩:=kG hi
   exact hr _ j y c hi' hj
theorem Y4 {α:Type}{l:List (List α)}{n:Nat}(h:(l.all fun y=>y.length == n)=true):∀ y∈l,y.length=n:=by
 intro y hy
 simpa using List.all_eq_true.1 h y hy
theorem vz (hT:ka P T)(hF:FR F σ w (qC a)){t:TypeId}{ty:Ty}(ht:T t=some ty){x:Operand}{lo hi mx:Option Operand}{q:QR}
 (hq:(match ty.kind with
   | .str=>W2 std (ev1 F x) (jJ F lo) (jJ F hi) (jJ F mx)
   | .sl e=>match T e with
     | some ty=>QK std F ty.size (ev1 F x) (jJ F lo) (jJ F hi) (jJ F mx)
     | none=>none
   | _=>none)=some q):∃ v,(Instr.sliceAt t (a.eval x) (lo.map a.eval) (hi.map a.eval) (mx.map a.eval)).run P w=.ok v w/\qhq w σ q v:=by
 obtain ⟨i,u,z,hi',hu,hz,rfl⟩:=qz (hT _ _ ht)
 have hx:=qt hF x
 dsimp only at hq
 split at hq
 . rename_i hk
   obtain rfl:=jI hk
   unfold W2 at hq
   split at hq
   . rename_i bl bh hbl hbh hmx
     have hm:mx=none:=by cases mx with | none=>rfl | some m=>simp [jJ] at hmx
     subst hm
     split at hq
     . rename_i s hs
       rw [hs] at hx
       have e:=hx.fz_inv.str_inv
       split at hq
       . rename_i l h hlh
         simp only [std] at hlh
         simp at hq
         subst hq
         obtain ⟨h1,h2,h3⟩:=kY (P:=P) hF hbl hbh (Nat.le_refl s.size) hlh false
         refine ⟨.string (s.extract l h),?_,.fz _ _ (.str _)⟩
         rw [run_sliceAt_string w t _ _ _ _ hu,e]
         simp [Instr.slice,run_underlying hu,h1]
       . cases hq
     . cases hq
   . cases hq
 . rename_i e hk
   obtain rfl:=ja hk
   have hel:P.elem t=e:=by simp [Program.elem,hu]
   have hu':P.underlying t=some (.slice (P.elem t)):=by rw [hel];exact hu
   split at hq
   . rename_i ty' ht'
     obtain ⟨i',u',z',hi'',hu'',hz',rfl⟩:=qz (hT _ _ ht')
     dsimp only at hq
     have hso:(sizeOf (P.elem t)).run P w=.ok i'.size w:=by rw [hel,run_sizeOf w hi''];simp [Program.cellsOf,hi'']
     unfold QK at hq
     split at hq
     . rename_i bl bh hbl hbh
       rw [run_sliceAt_slice w t _ _ _ _ hu']
       split at hq
       . rename_i hmx
         have hm:mx=none:=by cases mx with | none=>rfl | some m=>simp [jJ] at hmx
         subst hm
         split at hq
         . rename_i xs hs
           rw [hs] at hx
           obtain ⟨sz,b,cap,us,ev,hc,hss,ha,hm,hr⟩:=hx.fz_inv.slice_inv
           split at hq
           . rename_i l h hlh hsz
             simp only [std] at hlh hsz
             simp at hq
             subst hq
             obtain ⟨h1,h2,h3⟩:=kY (P:=P) hF hbl hbh hc hlh true
             rw [ev] at hx ⊢
             exact ⟨_,by rw [run_slice_any w t _ _ _ hu'];simp only [Option.map_none,h1,Result.andThen,hso],.fz _ _ (qaU hx.fz_inv h2 h3 (Y4 hsz))⟩
           . cases hq
         . rename_i hs
           rw [hs] at hx
           obtain ev:=hx.fz_inv.nil_inv
           split at hq
           . rename_i lh hlh
             obtain ⟨l,h⟩:=lh
             simp only [std] at hlh
             simp at hq
             subst hq
             obtain ⟨h1,h2,h3⟩:=kY (P:=P) hF hbl hbh (Nat.le_refl 0) hlh true
             obtain rfl:h=0:=by omega
             obtain rfl:l=0:=by omega
             rw [ev]
             exact ⟨_,by rw [run_slice_any w t _ _ _ hu'];simp only [Option.map_none,h1,Result.andThen,hso];rfl,.fz _ _ (by simpa [sliced] using qr.nilsl)⟩
           . cases hq
         . rename_i p off len hs
           rw [hs] at hx
           obtain ⟨uu,huu⟩:=zf hF p
           split at hq
           . rename_i xs hxs
             rw [hxs] at huu
             split at hq
             . rename_i l h hlh hsz
               simp only [std,Bool.and_eq_true,decide_eq_true_eq] at hlh hsz
               simp at hq
               subst hq
               obtain ⟨hsz,hin⟩:=hsz
               have hsz:=Y4 hsz
               generalize a.eval x=vx at hx ⊢
               cases hx with
               | rz _ _ b =>
                 obtain ⟨h1,h2,h3⟩:=kY (P:=P) hF hbl hbh (Nat.le_refl 0) hlh true
                 obtain rfl:h=0:=by omega
                 obtain rfl:l=0:=by omega
                 exact ⟨_,by rw [run_slice_any w t _ _ _ hu'];simp only [Option.map_none,h1,Result.andThen,hso];rfl,by
                  show qj w σ (.rf p (off+0) (0-0)) _
                  simpa [sliced] using qj.rz p _ b⟩
               | rf _ _ _ g n cap sz hg hl hn =>
                 obtain ⟨h1,h2,h3⟩:=kY (P:=P) (cap:=cap-off) hF hbl hbh (by omega) hlh true
                 refine ⟨_,by rw [run_slice_any w t _ _ _ hu'];simp only [Option.map_none,h1,Result.andThen,hso];rfl,?_⟩
                 show qj w σ (.rf p (off+l) (h-l)) _
                 unfold sliced
                 by_cases he:cap-off=l
                 . rw [if_pos he]
                   have:h-l=0:=by omega
                   rw [he,this,Nat.sub_self]
                   exact .rz _ _ _
                 . rw [if_neg he]
                   simp only [Option.map_some,qU]
                   have:=qj.rf (w:=w) (σ:=σ) p (off+l) (h-l) g n cap sz hg (by omega) hn
                   by_cases hl0:l=0
                   . subst hl0;simpa using this
                   . have hss:sz=i'.size:=by
                      cases huu with
                      | oslz=>simp only [List.length_nil] at hin;omega
                      | osl _ _ e sz' g' cap' cur us hh hc' hcm hl' hs' hg' hm hr =>
                        obtain rfl:=hF.inj _ _ _ _ hg hg' rfl
                        rw [hg] at hg'
                        simp only [Option.some.injEq,Own.mk.injEq] at hg'
                        obtain ⟨_,rfl,rfl,rfl⟩:=hg'
                        have:0<xs.length:=by omega
                        obtain ⟨y,ys,rfl⟩:=List.exists_cons_of_length_pos this
                        rw [<-hs' y (by simp),hsz y (by simp)]
                     subst hss
                     rwa [Nat.add_mul,<-Nat.sub_sub] at this
             . cases hq
           . cases hq
         . cases hq
       . rename_i k' hmx
         split at hq
         . have hlo:lo=none:=Kx hF hbl
           have hb0:=Kx hF hbh
           obtain ⟨xh,kh,rfl,hxh⟩:=hb0
           cases mx with
           | none=>simp [jJ] at hmx
           | some xm =>
             simp [jJ] at hmx
             have hxm:=qt hF xm
             rw [hmx] at hxm
             have hxm:=hxm.fz_inv.int_inv
             subst hlo
             have fin:∀ b len cap,a.eval x=.slice b len cap->∃ v,(Instr.slice t (a.eval x) (Option.map a.eval none) (Option.map a.eval (some xh)) (Option.map a.eval (some xm))).run P w=.ok v w/\qhq w σ .mt v:=by
              intro b len cap ev
              rw [ev]
              refine ⟨.slice b 0 0,?_,b,rfl⟩
              rw [run_slice_any w t _ _ _ hu']
              simp [hxh,hxm,Instr.sliceBounds,run_sliceBound (P:=P) w _ 0 cap _ (Int.le_refl 0) (by omega),run_sliceBound (P:=P) w _ 0 0 _ (Int.le_refl 0) (by omega),Result.andThen,hso,sliced]
             split at hq
             . rename_i xs hs
               simp at hq
               subst hq
               rw [hs] at hx
               obtain ⟨sz,b,cap,us,ev,_⟩:=hx.fz_inv.slice_inv
               exact fin _ _ _ ev
             . rename_i hs
               simp at hq
               subst hq
               rw [hs] at hx
               exact fin _ _ _ hx.fz_inv.nil_inv
             . rename_i p off len hs
               simp at hq
               subst hq
               rw [hs] at hx
               generalize a.eval x=vx at hx fin
               cases hx with
               | rz _ _ b=>exact fin _ _ _ rfl
               | rf _ _ _ g n cap sz hg hl hn=>exact fin _ _ _ rfl
             . cases hq
         . cases hq
       . cases hq
     . cases hq
   . cases hq
 . cases hq
end
theorem qoq [qi] {w:World}{xs:List (List C)}{b:Option Addr}{cap l h size:Nat}(hx:@qr kc w (fun _=>none) (.sl xs) (.slice b xs.length cap))(hl:l<=h)(hh:h<=xs.length)(hz:∀ y∈xs,y.length=size) :
 @qr kc w (fun _=>none) (.sl ((xs.drop l).take (h-l))) (sliced b l h cap size):=by
 letI:qi:=kc
 exact qaU hx hl hh hz
theorem qfI [qi] {w:World}{xs:List (List C)}{v:Value}(h:@qr kc w (fun _=>none) (.sl xs) v):∃ (sz:Nat) (b:Option Addr) (cap:Nat) (us:Nat->Nat->Value),v=.slice b xs.length cap/\xs.length<=cap/\(∀ y∈xs,y.length=sz) ∧
 (xs≠[]->∃ ad,b=some ad/\ad.spot=none/\ad.block<w.heap.size/\@jE kc (fun _=>none) ad.block) ∧
 (∀ ad,b=some ad->∀ (i j:Nat) (y:List C) (c:C),xs[i]?=some y->y[j]?=some c->w.cell? (ad.add (i * sz+j))=some (us i j)) ∧
 (∀ (i j:Nat) (y:List C) (c:C),xs[i]?=some y->y[j]?=some c->@qr kc w (fun _=>none) c (us i j)):=by
 letI:qi:=kc
 exact h.slice_inv
end Go.Proofs.YtececadpjelanaaGreat.Ai
namespace Go.Proofs.YtececadpjelanaaGreat.Ai
open Go
section
variable [qi] {P:Program} {T:Nat->Option Ty} {F:Fr} {σ:Gh} {w:World} {a:Act}
theorem YG {x:A}{v:Value}(h:qj w σ x v):qhq w σ (.val (.v (false,[x]))) v:=h
theorem qcv {xs:List (List C)}{l:List UInt8}(h:QQ xs=some l):∃ ns:List Int,xs=ns.map (fun n=>[C.int .u8 n])/\l=ns.map (fun n=>UInt8.ofNat n.toNat):=by
 induction xs generalizing l with
 | nil=>simp [QQ] at h;subst h;exact ⟨[],rfl,rfl⟩
 | cons x r ih =>
   unfold QQ at h
   split at h
   . cases ‹_::_=[]›
   . rename_i n r' heq
     injection heq with h1 h2
     subst h1 h2
     cases hb:QQ r with
     | none=>rw [hb] at h;simp at h
     | some l' =>
       rw [hb] at h
       simp at h
       subst h
       obtain ⟨ns,rfl,rfl⟩:=ih hb
       exact ⟨n::ns,rfl,rfl⟩
   . cases h
theorem qhN (ns:List Int)(s:ByteArray):ns.foldl (fun r n=>r.push (UInt8.ofNat n.toNat)) s=⟨s.data++(ns.map fun n=>UInt8.ofNat n.toNat).toArray⟩:=by
 induction ns generalizing s with
 | nil=>simp
 | cons n ns ih =>
   simp only [List.foldl_cons,ih]
   congr 1
   simp [ByteArray.push]
theorem qjx {f:Int->Int->Int}{g:Value->Value->Sem Value}(hg:∀ k x y,(g (.int k x) (.int k y)).run P w=.ok (.int k (f x y)) w)(hF:FR F σ w (qC a)) :
 ∀ (l:List Operand) (x c:C) (v:Value),qr w σ x v->Ka (mxA f) (some x) (evC F l)=some c->∃ u,((l.map a.eval).foldlM g v).run P w=.ok u w/\qr w σ c u:=by
 intro l
 induction l with
 | nil=>intro x c v hx h;simp [evC,Ka] at h;subst h;exact ⟨v,rfl,hx⟩
 | cons o l ih =>
   intro x c v hx h
   simp only [evC,Ka] at h
   cases ho:mxA f (some x) (C? (ev1 F o)) with
   | none =>
     rw [ho] at h
     exfalso
     generalize evC F l=l' at h
     induction l' with
     | nil=>simp [Ka] at h
     | cons y l' ih'=>simp only [Ka,mxA] at h;exact ih' h
   | some d =>
     rw [ho] at h
     unfold mxA at ho
     split at ho
     . rename_i k p k' q h1 h2
       split at ho
       . rename_i hk
         obtain rfl:=yY hk
         simp at ho h1
         subst ho h1
         obtain rfl:=hx.int_inv
         have hq:=qt hF o
         unfold C? at h2
         split at h2
         . rename_i c' hc'
           simp at h2
           subst h2
           rw [hc'] at hq
           have hq:=hq.fz_inv.int_inv
           obtain ⟨u,hu,hr⟩:=ih (.int k (f p q)) c (.int k (f p q)) (.int _ _) h
           refine ⟨u,?_,hr⟩
           simp only [List.map_cons,List.foldlM_cons,Sem.run_bind,hq,hg,Result.andThen]
           exact hu
         . cases h2
       . cases ho
     . cases ho
theorem W9 {f:Int->Int->Int}{g:Value->Value->Sem Value}(hg:∀ k x y,(g (.int k x) (.int k y)).run P w=.ok (.int k (f x y)) w)(hF:FR F σ w (qC a)){l:List Operand}{q:QR}(h:qc8 F f l=some q) :
 ∃ x r v,l.map a.eval=x::r/\(r.foldlM g x).run P w=.ok v w/\qhq w σ q v:=by
 unfold qc8 at h
 cases l with
 | nil=>simp [evC] at h
 | cons o l =>
   simp only [evC] at h
   split at h
   . rename_i c hc
     simp at h
     subst h
     unfold C? at hc
     split at hc
     . rename_i c' hc'
       have hx:=qt hF o
       rw [hc'] at hx
       obtain ⟨u,hu,hr⟩:=qjx hg hF l c' c _ hx.fz_inv hc
       exact ⟨a.eval o,l.map a.eval,u,rfl,hu,.fz _ _ hr⟩
     . exfalso
       generalize evC F l=l' at hc
       induction l' with
       | nil=>simp [Ka] at hc
       | cons y l' ih'=>simp only [Ka,mxA] at hc;exact ih' hc
   . cases h
def qaL (w:World)(σ:Gh)(as:List A)(cs:Array Value):Prop:=cs.size=as.length/\∀ (j:Nat) (x:A),as[j]?=some x->∃ u,cs[j]?=some u/\qj w σ x u
theorem qaM:∀ {as:List A} {off:Nat} {cs as':List A},putCells as off cs=some as'->off+cs.length<=as.length/\as'.length=as.length/\∀ j:Nat,as'[j]?=if off<=j/\j<off+cs.length then cs[j-off]? else as[j]?:=by
 intro as
 induction as with
 | nil =>
   intro off cs as' h
   cases off<;>cases cs<;>simp [putCells] at h
   subst h;simp
 | cons x as ih =>
   intro off cs as' h
   cases off with
   | zero =>
     cases cs with
     | nil=>simp [putCells] at h;subst h;simp
     | cons c cs =>
       simp only [putCells] at h
       cases h1:putCells as 0 cs with
       | none=>rw [h1] at h;simp at h
       | some l =>
         rw [h1] at h
         simp at h
         subst h
         obtain ⟨h2,h3,h4⟩:=ih h1
         refine ⟨by simp at h2 ⊢;omega,by simp [h3],fun j=>?_⟩
         cases j with
         | zero=>simp
         | succ j =>
           simp only [List.getElem?_cons_succ,h4]
           by_cases hj:j<cs.length
           . rw [if_pos (by omega),if_pos (by simp;omega)];simp
           . rw [if_neg (by omega),if_neg (by simp;omega)]
   | succ off =>
     simp only [putCells] at h
     cases h1:putCells as off cs with
     | none=>rw [h1] at h;simp at h
     | some l =>
       rw [h1] at h
       simp at h
       subst h
       obtain ⟨h2,h3,h4⟩:=ih h1
       refine ⟨by simp;omega,by simp [h3],fun j=>?_⟩
       cases j with
       | zero=>simp
       | succ j =>
         simp only [List.getElem?_cons_succ,h4]
         by_cases hj:off<=j/\j<off+cs.length
         . rw [if_pos hj,if_pos (by omega)];congr 1;omega
         . rw [if_neg hj,if_neg (by omega)]
theorem A.ok_one {x:A}{v:Value}(h:qj w σ x v)(hk:x.ok=true):v.oneCell'=true:=by
 cases h with
 | un=>simp [A.ok] at hk
 | ud=>simp [A.ok] at hk
 | fz c _ h=>exact h.one
 | _=>rfl
theorem vU {x:V1 A}{v:Value}(h:qQ (fun _=>qj w σ) x v)(hk:okL x.2=true):qaL w σ x.2 v.cells:=by
 obtain ⟨g,as⟩:=x
 cases g with
 | true =>
   obtain ⟨cs,rfl,h1,h2⟩:=h
   exact ⟨h1,h2⟩
 | false =>
   match as,h with
   | [x],h =>
     have h1:v.oneCell'=true:=A.ok_one h (by simp [qah] at hk;exact hk)
     have:v.cells=#[v]:=by cases v<;>first | rfl | simp [Value.oneCell'] at h1
     rw [this]
     refine ⟨rfl,fun j y hj=>?_⟩
     cases j with
     | zero=>simp at hj;subst hj;exact ⟨v,rfl,h⟩
     | succ j=>simp at hj
theorem YF (l:List (Value×Nat))(off:Nat)(cs:Array Value):(l.foldl (fun cs (x:Value×Nat)=>cs.setIfInBounds (off+x.2) x.1) cs).size=cs.size:=by
 induction l generalizing cs with
 | nil=>rfl
 | cons x l ih=>simp [ih]
theorem qcy (off:Nat):∀ (vs:List Value) (k:Nat) (cs:Array Value),off+k+vs.length<=cs.size->∀ j:Nat,
 ((vs.zipIdx k).foldl (fun cs (x:Value×Nat)=>cs.setIfInBounds (off+x.2) x.1) cs)[j]?=if off+k<=j/\j<off+k+vs.length then vs[j-(off+k)]? else cs[j]?:=by
 intro vs
 induction vs with
 | nil=>intro k cs _ j;simp;intro h1 h2;omega
 | cons v vs ih =>
   intro k cs hb j
   simp only [List.zipIdx_cons,List.foldl_cons]
   rw [ih (k+1) _ (by simp at hb ⊢;omega) j]
   simp only [List.length_cons] at hb ⊢
   by_cases h1:off+(k+1)<=j/\j<off+(k+1)+vs.length
   . rw [if_pos h1,if_pos (by omega)]
     have:j-(off+k)=(j-(off+(k+1)))+1:=by omega
     rw [this,List.getElem?_cons_succ]
   . rw [if_neg h1]
     by_cases h2:j=off+k
     . subst h2
       rw [if_pos (by omega),Nat.sub_self]
       simp [Array.getElem?_setIfInBounds_self]
       omega
     . rw [if_neg (by omega),Array.getElem?_setIfInBounds_ne (by omega)]
theorem qdo (hF:FR F σ w (qC a))(fs:List (Nat×Nat×Bool)):∀ (parts:List (Nat×Operand)) (as as':List A) (cs:Array Value),qaL w σ as cs->QU F fs as parts=some as' →
 ∀ places:Nat->Option (Nat×Nat),(∀ i x,nth fs i=some x->places i=some (x.1,x.2.1))->∃ cs',Instr.fill places cs (parts.map fun x=>(x.1,a.eval x.2))=some cs'/\qaL w σ as' cs':=by
 intro parts
 induction parts with
 | nil=>intro as as' cs h hb places hp;simp [QU] at hb;subst hb;exact ⟨cs,rfl,h⟩
 | cons part parts ih =>
   intro as as' cs h hb places hp
   obtain ⟨i,x⟩:=part
   simp only [QU] at hb
   split at hb
   . rename_i off size agg hn
     have hx:=zx hF x
     split at hb
     . rename_i g xs hev
       rw [hev] at hx
       split at hb
       . rename_i hok
         simp only [Bool.and_eq_true] at hok
         obtain ⟨hok,hsz⟩:=hok
         have hsz:xs.length=size:=by simpa [kf] using hsz
         split at hb
         . rename_i as1 hput
           obtain ⟨h1,h2,h3⟩:=qaM hput
           have hc:=vU (x:=(g,xs)) hx hok
           obtain ⟨hc1,hc2⟩:=hc
           dsimp only at hc1 hc2
           simp only [List.map_cons,Instr.fill,hp i _ hn]
           have hne:¬((a.eval x).cells.size≠size\/off+(a.eval x).cells.size > cs.size):=by
            have e1:=h.1
            rw [hc1]
            omega
           rw [if_neg (by simpa using hne)]
           refine ih as1 as' _ ?_ hb places hp
           have e:∀ j:Nat,((a.eval x).cells.zipIdx.foldl (fun cs (x:Value×Nat)=>cs.setIfInBounds (off+x.2) x.1) cs)[j]?=if off<=j/\j<off+xs.length then (a.eval x).cells[j-off]? else cs[j]?:=by
            intro j
            have:=qcy off (a.eval x).cells.toList 0 cs (by have e1:=h.1;simp only [Array.length_toList,Nat.add_zero,hc1];omega) j
            simp [hc1] at this
            rw [<-Array.foldl_toList,Array.toList_zipIdx]
            simpa using this
           refine ⟨?_,fun j y hj=>?_⟩
           . rw [h2,<-h.1,<-Array.foldl_toList,YF]
           . rw [h3] at hj
             rw [e]
             split at hj
             . rename_i hh
               rw [if_pos hh]
               exact hc2 _ _ hj
             . rename_i hh
               rw [if_neg hh]
               exact h.2 _ _ hj
         . cases hb
       . cases hb
     . cases hb
   . cases hb
theorem qhh {l:List C}(h:Q6 l=true):∀ c∈l,c≠.un:=by
 induction l with
 | nil=>simp
 | cons x l ih =>
   intro c hc
   cases x<;>simp [Q6] at h<;>(rcases List.mem_cons.1 hc with rfl | hc;· simp)<;>exact ih h c hc
theorem Ke (v:Value):qj w σ (.fz (jU v)) v\/jU v=.un:=by
 unfold jU
 split
 . exact .inl (.fz _ _ (.int _ _))
 . exact .inl (.fz _ _ (.bool _))
 . exact .inl (.fz _ _ (.str _))
 . exact .inl (.fz _ _ .nilsl)
 . exact .inr rfl
theorem VF {x:Option A}{q:QR}(h:qiq x=some q):∃ y,x=some y/\q=.val (.v (false,[y])):=by
 cases x with
 | none=>simp [qiq] at h
 | some y=>simp [qiq] at h;exact ⟨y,rfl,h.symm⟩
theorem zO {s:Sem Value}{v:Value}(h:s.run P w=.ok v w):(do pure (.value (← s)):Sem Next).run P w=.ok (.value v) w:=by
 simp only [Sem.run_bind,h,Result.andThen,Sem.run_pure]
abbrev zz (w:World) (c:C) (v:Value):Prop:=@qr kc w (fun _=>none) c v
theorem zz.un {w:World}(v:Value)(h:v.oneCell'=true):zz w .un v:=@qr.un kc w _ v h
theorem zz.int {w:World}(k:IntKind)(n:Int):zz w (.int k n) (.int k n):=@qr.int kc w _ k n
theorem zz.bool {w:World}(b:Bool):zz w (.bool b) (.bool b):=@qr.bool kc w _ b
theorem zz.str {w:World}(s:ByteArray):zz w (.str s) (.string s):=@qr.str kc w _ s
theorem zz.nilsl {w:World}:zz w .nilsl (.slice none 0 0):=@qr.nilsl kc w _
theorem zz.sl {w:World}(xs:List (List C))(sz:Nat)(a:Option Addr)(cap:Nat)(us:Nat->Nat->Value)(hc:xs.length<=cap)(hs:∀ y∈xs,y.length=sz)
 (ha:xs≠[]->∃ ad,a=some ad/\ad.spot=none/\ad.block<w.heap.size/\@jE kc (fun _=>none) ad.block)
 (hm:∀ ad,a=some ad->∀ i j y c,xs[i]?=some y->y[j]?=some c->w.cell? (ad.add (i * sz+j))=some (us i j))
 (hr:∀ i j y c,xs[i]?=some y->y[j]?=some c->zz w c (us i j)):zz w (.sl xs) (.slice a xs.length cap):=@qr.sl kc w _ xs sz a cap us hc hs ha hm hr
theorem zz.ptr {w:World}(cs:List C)(ad:Addr)(us:Nat->Value)(hp:ad.spot=none)(hlt:ad.block<w.heap.size)(hb:@jE kc (fun _=>none) ad.block)
 (hm:∀ j c,cs[j]?=some c->w.cell? (ad.add j)=some (us j)) (hr:∀ j c,cs[j]?=some c->zz w c (us j)):zz w (.ptr cs) (.pointer (some ad)):=@qr.ptr kc w _ cs ad us hp hlt hb hm hr
theorem zz.fn {w:World}(f:FuncId)(caps:List C)(vs:Array Value)(us:Nat->Value)(hl:vs.size=caps.length)(hm:∀ j c,caps[j]?=some c->vs[j]?=some (us j))
 (hr:∀ j c,caps[j]?=some c->zz w c (us j)):zz w (.fn f caps) (.func (.func f) #[] vs):=@qr.fn kc w _ f caps vs us hl hm hr
theorem js (b:Nat):@jE kc (fun _=>none) b:=⟨rfl,fun h=>h⟩
theorem zz.mp {w:World}(g:Zz)(b:Nat)(o:Obj)(hg:qi.memo b=some g)(hh:w.heap[b]?=some o)(ho:kW g o):zz w (.mp g) (.map (some b)):=@qr.mp kc w _ g b o hg hh ho ⟨rfl,fun h=>h⟩
theorem qr.free {c:C}{v:Value}(h:qr w σ c v):zz w c v:=by
 induction h with
 | un v h=>exact .un v h
 | int k n=>exact .int k n
 | bool b=>exact .bool b
 | str s=>exact .str s
 | nilsl=>exact .nilsl
 | sl xs sz a cap us hc hs ha hm hr ih =>
   refine .sl xs sz a cap us hc hs (fun hne=>?_) hm ih
   obtain ⟨ad,h1,h2,h3,_⟩:=ha hne
   exact ⟨ad,h1,h2,h3,js _⟩
 | ptr cs ad us hp hlt hb hm hr ih=>exact .ptr cs ad us hp hlt (js _) hm ih
 | fn f caps vs us hl hm hr ih=>exact .fn f caps vs us hl hm ih
 | mp g b o hg hh ho hn=>exact .mp g b o hg hh ho
theorem wx {p:qg}{o:O}{v:Value}(h:qo w σ p o v):zz w o.frz v:=by
 induction h with
 | un p v hv=>exact .un v hv
 | fz p c v h=>exact h.free
 | oslz p b=>exact .sl [] 0 b 0 (fun _ _=>undef) (Nat.le_refl _) (by simp) (by simp) (by simp) (by simp)
 | osl p xs e sz g cap cur us hh hc hcm hl hs hg hm hr ih =>
   have hlen:(O.frzLL xs).length=xs.length:=by simp [O.frzLL_eq]
   show zz w (.sl (O.frzLL xs)) _
   rw [<-hlen]
   have hget:∀ (i j:Nat) (y:List C) (c:C),(O.frzLL xs)[i]?=some y->y[j]?=some c->∃ y' o,xs[i]?=some y'/\y'[j]?=some o/\c=o.frz:=by
    intro i j y c hi hj
    rw [O.frzLL_eq,List.getElem?_map] at hi
    cases hx:xs[i]? with
    | none=>rw [hx] at hi;simp at hi
    | some y' =>
      rw [hx] at hi
      simp at hi
      subst hi
      rw [List.getElem?_map] at hj
      cases ho:y'[j]? with
      | none=>rw [ho] at hj;simp at hj
      | some o=>rw [ho] at hj;simp at hj;exact ⟨y',o,rfl,ho,hj.symm⟩
   refine .sl _ sz _ cap us (by omega) ?_ (fun _=>⟨_,rfl,rfl,ji hh,js _⟩) ?_ ?_
   . intro y hy
     rw [O.frzLL_eq] at hy
     obtain ⟨y',hy',rfl⟩:=List.mem_map.1 hy
     simpa using hs y' hy'
   . intro ad e i j y c hi hj
     injection e with e
     subst e
     obtain ⟨y',o,h1,h2,rfl⟩:=hget i j y c hi hj
     rw [qU]
     simp only [World.cell?,hh]
     simpa using hm i j y' o h1 h2
   . intro i j y c hi hj
     obtain ⟨y',o,h1,h2,rfl⟩:=hget i j y c hi hj
     exact ih i j y' o h1 h2
 | obx p cs g e cells us n cap sz hh hl hg hm hr ih =>
   show zz w (.ptr (O.frzL cs)) _
   have hget:∀ (j:Nat) (c:C),(O.frzL cs)[j]?=some c->∃ o,cs[j]?=some o/\c=o.frz:=by
    intro j c hj
    rw [O.frzL_eq,List.getElem?_map] at hj
    cases ho:cs[j]? with
    | none=>rw [ho] at hj;simp at hj
    | some o=>rw [ho] at hj;simp at hj;exact ⟨o,rfl,hj.symm⟩
   refine .ptr _ _ us rfl (ji hh) (js _) ?_ ?_
   . intro j c hj
     obtain ⟨o,h1,rfl⟩:=hget j c hj
     rw [qU]
     simp only [World.cell?,hh]
     simpa using hm j o h1
   . intro j c hj
     obtain ⟨o,h1,rfl⟩:=hget j c hj
     exact ih j o h1
theorem YD (xs:List (List O))(off len:Nat):O.frzLL ((xs.drop off).take len)=((O.frzLL xs).drop off).take len:=by simp [O.frzLL_eq,List.map_take,List.map_drop]
theorem qdW {vt:Nat->Value}(hF:FR F σ w vt){p:qg}{off len:Nat}{xs:List (List O)}(hp:F.at std p=.osl xs)(hl:off+len<=xs.length){v:Value}(hx:qj w σ (.rf p off len) v) :
 zz w (.sl (O.frzLL ((xs.drop off).take len))) v:=by
 obtain ⟨u,hu⟩:=zf hF p
 rw [hp] at hu
 have hlen:(O.frzLL ((xs.drop off).take len)).length=len:=by simp [O.frzLL_eq];omega
 cases hx with
 | rz _ _ b =>
   have:O.frzLL ((xs.drop off).take 0)=[]:=by simp [O.frzLL]
   rw [this]
   exact .sl [] 0 b 0 (fun _ _=>undef) (Nat.le_refl _) (by simp) (by simp) (by simp) (by simp)
 | rf _ _ _ g n cap sz hg hl' hn =>
   have hfz:=wx hu
   cases hu with
   | oslz =>
     simp at hl
     obtain ⟨rfl,rfl⟩:=hl
     have:O.frzLL (([]:List (List O)).drop 0 |>.take 0)=[]:=by simp [O.frzLL]
     rw [this]
     exact .sl [] 0 _ _ (fun _ _=>undef) (Nat.zero_le _) (by simp) (by simp) (by simp) (by simp)
   | osl _ _ e sz' g' cap' cur us hh hc' hcm hl2 hs' hg' hm hr =>
     obtain rfl:=hF.inj _ _ _ _ hg hg' rfl
     rw [hg] at hg'
     simp only [Option.some.injEq,Own.mk.injEq] at hg'
     obtain ⟨_,rfl,rfl,rfl⟩:=hg'
     have hz:∀ y∈O.frzLL xs,y.length=sz:=by
      intro y hy
      rw [O.frzLL_eq] at hy
      obtain ⟨y',hy',rfl⟩:=List.mem_map.1 hy
      simpa using hs' y' hy'
     have hL:(O.frzLL xs).length=xs.length:=by simp [O.frzLL_eq]
     have hfz':zz w (.sl (O.frzLL xs)) (.slice (some ⟨g,0,none⟩) (O.frzLL xs).length cap):=by rw [hL];exact hfz
     have:=qoq (l:=off) (h:=off+len) hfz' (by omega) (by rw [hL];omega) hz
     rw [show off+len-off=len by omega] at this
     rw [YD]
     unfold sliced at this
     by_cases he:cap=off
     . have h0:len=0:=by omega
       subst h0
       rw [show (List.take 0 (List.drop off (O.frzLL xs)))=[] by simp]
       exact .sl [] 0 _ _ (fun _ _=>undef) (Nat.zero_le _) (by simp) (by simp) (by simp) (by simp)
     . rw [if_neg he] at this
       simpa [qU] using this
theorem zz.elems {xs:List (List C)}{v:Value}(h:zz w (.sl xs) v) :
 ∃ (_:Unit) (b:Option Addr) (cap:Nat),v=.slice b xs.length cap/\∀ (i j:Nat) (y:List C) (c:C),xs[i]?=some y->y[j]?=some c →
  ∃ ad,b=some ad/\∃ sz,y.length=sz/\∃ u,w.cell? (ad.add (i * sz+j))=some u/\zz w c u:=by
 obtain ⟨sz,b,cap,us,rfl,hc,hs,ha,hm,hr⟩:=qfI h
 refine ⟨(),b,cap,rfl,fun i j y c hi hj=>?_⟩
 obtain ⟨ad,rfl,_⟩:=ha (by intro e;subst e;simp at hi)
 exact ⟨ad,rfl,sz,hs y (List.mem_of_getElem? hi),_,hm ad rfl i j y c hi hj,hr i j y c hi hj⟩
theorem qdC {vt:Nat->Value}(hF:FR F σ w vt){x:A}{xs:List (List C)}(h:QJ std F x=some xs){v:Value}(hx:qj w σ x v) :
 ∃ (_:Unit) (b:Option Addr) (cap:Nat),v=.slice b xs.length cap/\∀ (i j:Nat) (y:List C) (c:C),xs[i]?=some y->y[j]?=some c →
  ∃ ad,b=some ad/\∃ sz,y.length=sz/\∃ u,w.cell? (ad.add (i * sz+j))=some u/\zz w c u:=by
 unfold QJ at h
 split at h
 . simp at h
   subst h
   obtain rfl:=hx.fz_inv.nil_inv
   exact ⟨(),none,0,rfl,fun i j y c hi=>by simp at hi⟩
 . simp at h
   subst h
   exact zz.elems hx.fz_inv.free
 . split at h
   . rename_i ys hys
     split at h
     . rename_i hle
       simp at h
       subst h
       exact zz.elems (qdW hF hys (by simpa [std] using hle) hx)
     . cases h
   . cases h
 . cases h
theorem K5 {vt:Nat->Value}(hF:FR F σ w vt){x:A}{v:Value}(hx:qj w σ x v)(hk:x.ok=true):zz w (ZM std F x) v:=by
 induction hx with
 | un v=>simp [A.ok] at hk
 | ud=>simp [A.ok] at hk
 | fz c v h=>exact h.free
 | rf p off len g n cap sz hg hl hn =>
   have hx:=qj.rf (w:=w) p off len g n cap sz hg hl hn
   simp only [ZM]
   split
   . rename_i xs hxs
     split
     . rename_i hle
       exact qdW hF hxs (by simpa [std] using hle) hx
     . exact .un _ rfl
   . exact .un _ rfl
 | rz p off b =>
   have hx:=qj.rz (w:=w) (σ:=σ) p off b
   simp only [ZM]
   split
   . rename_i xs hxs
     split
     . rename_i hle
       exact qdW hF hxs (by simpa [std] using hle) hx
     . exact .un _ rfl
   . exact .un _ rfl
 | pp p i j g n cap sz hg =>
   obtain ⟨u,hu⟩:=zf hF p
   simp only [ZM]
   split
   . rename_i xs hxs
     rw [hxs] at hu
     split
     . rename_i y hy
       simp only [std] at hy
       cases hu with
       | oslz=>simp at hy
       | osl _ _ e sz' g' cap' cur us hh hc' hcm hl2 hs' hg' hm hr =>
         obtain rfl:=hF.inj _ _ _ _ hg hg' rfl
         rw [hg] at hg'
         simp only [Option.some.injEq,Own.mk.injEq] at hg'
         obtain ⟨_,rfl,rfl,rfl⟩:=hg'
         have hget:∀ (k:Nat) (c:C),(O.frzL (jX y j))[k]?=some c->∃ o,y[j+k]?=some o/\c=o.frz:=by
          intro k c hk
          rw [O.frzL_eq,List.getElem?_map,kV,List.getElem?_drop] at hk
          cases ho:y[j+k]? with
          | none=>rw [ho] at hk;simp at hk
          | some o=>rw [ho] at hk;simp at hk;exact ⟨o,rfl,hk.symm⟩
         refine .ptr _ _ (fun k=>us i (j+k)) rfl (ji hh) (js _) ?_ ?_
         . intro k c hk
           obtain ⟨o,h1,rfl⟩:=hget k c hk
           rw [qU,Nat.add_assoc]
           simp only [World.cell?,hh]
           simpa using hm i (j+k) y o hy h1
         . intro k c hk
           obtain ⟨o,h1,rfl⟩:=hget k c hk
           exact wx (hr i (j+k) y o hy h1)
     . exact .un _ rfl
   . rename_i cs hcs
     rw [hcs] at hu
     split
     . cases hu with
       | obx _ _ g' e cells us n' cap' sz' hh hl' hg' hm hr =>
         obtain rfl:=hF.inj _ _ _ _ hg hg' rfl
         have hget:∀ (k:Nat) (c:C),(O.frzL (jX cs j))[k]?=some c->∃ o,cs[j+k]?=some o/\c=o.frz:=by
          intro k c hk
          rw [O.frzL_eq,List.getElem?_map,kV,List.getElem?_drop] at hk
          cases ho:cs[j+k]? with
          | none=>rw [ho] at hk;simp at hk
          | some o=>rw [ho] at hk;simp at hk;exact ⟨o,rfl,hk.symm⟩
         refine .ptr _ _ (fun k=>us (j+k)) rfl (ji hh) (js _) ?_ ?_
         . intro k c hk
           obtain ⟨o,h1,rfl⟩:=hget k c hk
           rw [qU]
           simp only [World.cell?,hh]
           simpa using hm (j+k) o h1
         . intro k c hk
           obtain ⟨o,h1,rfl⟩:=hget k c hk
           exact wx (hr (j+k) o h1)
     . exact .un _ rfl
   . exact .un _ rfl
 | clo f caps vs us hl hm hr ih =>
   simp only [A.ok,qah,List.all_eq_true] at hk
   simp only [ZM,Qu]
   refine .fn f _ vs us (by simpa using hl) ?_ ?_
   . intro j c hj
     rw [List.getElem?_map] at hj
     cases h:caps[j]? with
     | none=>rw [h] at hj;simp at hj
     | some x=>exact hm j x h
   . intro j c hj
     rw [List.getElem?_map] at hj
     cases h:caps[j]? with
     | none=>rw [h] at hj;simp at hj
     | some x =>
       rw [h] at hj
       simp at hj
       subst hj
       exact ih j x h (hk x (List.mem_of_getElem? h))
theorem qd5 {x:A}{n:Int}{v:Value}(hx:qj w σ x v)(h:qlz std x=some n):∃ b len cap,v=.slice b len cap/\(len:Int)=n:=by
 unfold qlz at h
 split at h
 . obtain ⟨sz,b,cap,us,rfl,_⟩:=hx.fz_inv.slice_inv
   simp [std] at h
   exact ⟨_,_,_,rfl,h⟩
 . obtain rfl:=hx.fz_inv.nil_inv
   simp at h
   exact ⟨_,_,_,rfl,by simp [<-h]⟩
 . simp [std] at h
   cases hx with
   | rz=>exact ⟨_,_,_,rfl,h⟩
   | rf=>exact ⟨_,_,_,rfl,h⟩
 . cases h
theorem qiQ (hT:ka P T)(hF:FR F σ w (qC a)){o:Oper}{q:QR}(hq:qop std T F o.op=some q) :
 ∃ v,(execOp a.eval o).run P w=.ok (.value v) w/\qhq w σ q v:=by
 obtain ⟨dst,op,type,pos,after,guard⟩:=o
 dsimp only at hq
 unfold qop at hq
 split at hq
 ·
  simp at hq;subst hq
  exact ⟨_,by simp [execOp],zx hF _⟩
 ·
  rename_i c x y
  split at hq
  . rename_i b hb
    simp at hq;subst hq
    have hc:=qt hF c
    rw [hb] at hc
    have hc:=hc.fz_inv.bool_inv
    refine ⟨if b then a.eval x else a.eval y,by simp [execOp,hc,asBool],?_⟩
    cases b
    . exact zx hF y
    . exact zx hF x
  . cases hq
 ·
  rename_i op t x y t'
  split at hq
  . rename_i ty ht
    split at hq
    . rename_i c hc
      simp at hq;subst hq
      obtain ⟨u,hu,hr⟩:=qef hT ht hc x y (qt hF x) (qt hF y)
      exact ⟨u,by simp only [execOp];exact zO hu,.fz _ _ hr⟩
    . cases hq
  . cases hq
 ·
  rename_i op t x
  split at hq
  . rename_i c hc
    simp at hq;subst hq
    obtain ⟨u,hu,hr⟩:=qhn (P:=P) hc (qt hF x)
    exact ⟨u,by simp only [execOp];exact zO hu,.fz _ _ hr⟩
  . cases hq
 ·
  rename_i t x
  split at hq
  . rename_i ty ht
    split at hq
    . rename_i as hc
      split at hq
      . rename_i tv hm
        simp at hq;subst hq
        obtain ⟨hl,ad,hv,hcs⟩:=QH hF hc (qt hF x)
        obtain ⟨u,hu,hr⟩:=V5 (hT _ _ ht) hcs hl hm
        refine ⟨u,?_,hr⟩
        simp only [execOp]
        refine zO ?_
        simp [Instr.loadAt,hv,Instr.sureAddr,hu]
      . cases hq
    . cases hq
  . cases hq
 ·
  rename_i t x f
  split at hq
  . rename_i fs g1 g2 g3 g4 ht
    obtain ⟨i,u,z,hi,hu,hz',e⟩:=qz (hT _ _ ht)
    injection e with e1 _ _ _ _
    obtain ⟨gs,rfl,rfl,hfl⟩:=qbe e1.symm
    split at hq
    . cases hq
    . rename_i off n agg hn
      obtain ⟨y,hy,rfl⟩:=VF hq
      obtain ⟨ad,hv,hr⟩:=qaz hy (qt hF x)
      rw [qq,List.getElem?_map] at hn
      cases hg:gs.toList[f]? with
      | none=>rw [hg] at hn;simp at hn
      | some fd =>
        rw [hg] at hn
        simp at hn
        obtain ⟨rfl,h2,rfl⟩:=hn
        have hg':gs[f]?=some fd:=by simpa using hg
        obtain ⟨_,inf,_,hinf⟩:=hfl fd (List.mem_of_getElem? hg)
        refine ⟨_,?_,YG hr⟩
        simp only [execOp]
        refine zO ?_
        simp [Instr.fieldAt,run_underlying hu,hg',hv,Instr.sureAddr,fieldPlace,run_sizeOf w hinf,h2]
    . cases hq
  . cases hq
 ·
  rename_i t x f
  split at hq
  . rename_i fs g1 g2 g3 g4 ht
    obtain ⟨i,u,z,hi,hu,hz',e⟩:=qz (hT _ _ ht)
    injection e with e1 _ _ _ _
    obtain ⟨gs,rfl,rfl,hfl⟩:=qbe e1.symm
    split at hq
    . rename_i off size agg as hn hev
      split at hq
      . rename_i l hl
        split at hq
        . rename_i tv hm
          simp at hq;subst hq
          obtain ⟨hlen,rfl⟩:=w6 _ _ _ _ hl
          have hx:=zx hF x
          rw [hev] at hx
          obtain ⟨cs,hv,h1,h2⟩:=hx
          rw [qq,List.getElem?_map] at hn
          cases hg:gs.toList[f]? with
          | none=>rw [hg] at hn;simp at hn
          | some fd =>
            rw [hg] at hn
            simp at hn
            obtain ⟨rfl,rfl,rfl⟩:=hn
            have hg':gs[f]?=some fd:=by simpa using hg
            obtain ⟨ud,inf,hud,hinf⟩:=hfl fd (List.mem_of_getElem? hg)
            . rw [hud] at hm
              have hvs:((cs.toList.drop fd.offset).take (P.cellsOf fd.type)).length=((as.drop fd.offset).take (P.cellsOf fd.type)).length:=by simp [h1]
              obtain ⟨hr,h3⟩:=Yq (w:=w) (σ:=σ) hm hvs (fun k x hk=>by
               obtain ⟨hk1,hk2⟩:=kG hk
               obtain ⟨u,hu1,hu2⟩:=h2 _ _ hk1
               refine ⟨u,?_,hu2⟩
               rw [List.getElem?_take,if_pos hk2,List.getElem?_drop]
               simpa using hu1)
              refine ⟨_,?_,hr⟩
              simp only [execOp]
              refine zO ?_
              have hagg:=Vr (w:=w) hud
              cases hb:Kh (some ud) with
              | true =>
                simp only [Instr.field,run_underlying hu,Sem.run_bind,Result.andThen,hg',hv,asAgg,Sem.run_pure,part,hagg,hb,if_true,run_sizeOf w hinf]
                congr 2
                apply Array.ext'
                simp [Array.toList_extract,List.extract_eq_take_drop]
              | false =>
                obtain ⟨x1,v1,h4,h5⟩:=h3 hb
                have h6:cs[fd.offset]?=some v1:=by
                 have:=congrArg (fun l=>l[0]?) h5
                 simp only [List.getElem?_take,List.getElem?_drop] at this
                 split at this
                 . simpa using this
                 . simp at this
                simp only [Instr.field,run_underlying hu,Sem.run_bind,Result.andThen,hg',hv,asAgg,Sem.run_pure,part,hagg,hb,h6]
                simp [h5]
        . cases hq
      . cases hq
    . cases hq
  . cases hq
 ·
  rename_i t x i
  split at hq
  . rename_i e g1 g2 g3 g4 ht
    obtain ⟨inf,u,z,hi,hu,hz',ee⟩:=qz (hT _ _ ht)
    injection ee with e1 _ _ _ _
    obtain rfl:=ja e1.symm
    split at hq
    . rename_i ty ht'
      split at hq
      . rename_i y hy
        split at hq
        . rename_i hok
          simp at hq;subst hq
          obtain ⟨inf',u',z',hi',hu',_,rfl⟩:=qz (hT _ _ ht')
          obtain ⟨k,n,len,cap,ad,h1,h2,h3,h4,h5⟩:=qc2 hF hy hok (qt hF x) (qt hF i)
          refine ⟨_,?_,YG h5⟩
          simp only [execOp]
          refine zO ?_
          have hel:P.elem t=e:=by simp [Program.elem,hu]
          rw [h1,h2,run_indexAt_slice (P:=P) w t ad len cap k n (by rw [hel];exact hu),if_pos ⟨h3,h4⟩,hel,run_sizeOf w hi']
          simp [Result.andThen,Program.cellsOf,hi']
        . cases hq
      . cases hq
    . cases hq
  . cases hq
 ·
  rename_i t x i
  split at hq
  . rename_i g1 g2 g3 g4 ht
    obtain ⟨inf,u,z,hi,hu,hz',ee⟩:=qz (hT _ _ ht)
    injection ee with e1 _ _ _ _
    obtain rfl:=jI e1.symm
    obtain ⟨y,hy,rfl⟩:=VF hq
    unfold qet at hy
    split at hy
    . rename_i s k n hs hn
      have hx:=qt hF x
      have hi':=qt hF i
      rw [hs] at hx
      rw [hn] at hi'
      have hx:=hx.fz_inv.str_inv
      have hi':=hi'.fz_inv.int_inv
      simp only [std] at hy
      split at hy
      . rename_i b hb
        simp at hy;subst hy
        split at hb
        . rename_i h0
          cases hg:s[n.toNat]? with
          | none=>rw [hg] at hb;simp at hb
          | some byte =>
            rw [hg] at hb
            simp at hb
            subst hb
            refine ⟨.int .u8 byte.toNat,?_,.fz _ _ (.int _ _)⟩
            simp only [execOp]
            refine zO ?_
            simp [Instr.index,hx,hi',asIntOf,run_underlying hu,h0,hg]
        . cases hb
      . cases hy
    . cases hy
  . cases hq
 ·
  rename_i t x lo hi mx
  split at hq
  . rename_i g1 g2 g3 g4 ht
    obtain ⟨v,hv,hr⟩:=vz (x:=x) (lo:=lo) (hi:=hi) (mx:=mx) (q:=q) hT hF ht (by dsimp only;exact hq)
    exact ⟨v,by simp only [execOp];exact zO hv,hr⟩
  . rename_i e g1 g2 g3 g4 ht
    obtain ⟨v,hv,hr⟩:=vz (x:=x) (lo:=lo) (hi:=hi) (mx:=mx) (q:=q) hT hF ht (by dsimp only;exact hq)
    exact ⟨v,by simp only [execOp];exact zO hv,hr⟩
  . cases hq
 ·
  rename_i s t x
  split at hq
  . rename_i ks g1 g2 g3 g4 k g5 g6 g7 g8 hs ht
    obtain ⟨_,us,_,_,hus,_,es⟩:=qz (hT _ _ hs)
    obtain ⟨_,ut,_,_,hut,_,et⟩:=qz (hT _ _ ht)
    injection et with et1 _ _ _ _
    obtain rfl:=qdx et1.symm
    split at hq
    . rename_i k' n hn
      split at hq
      . simp at hq;subst hq
        have hx:=qt hF x
        rw [hn] at hx
        have hx:=hx.fz_inv.int_inv
        refine ⟨.int k (k.wrap n),?_,.fz _ _ (.int _ _)⟩
        simp only [execOp]
        refine zO ?_
        simp [convert,run_underlying hus,run_underlying hut,hx,Conv.intToInt]
      . cases hq
    . cases hq
  . rename_i g1 g2 g3 g4 g5 g6 g7 g8 hs ht
    obtain ⟨_,us,_,_,hus,_,es⟩:=qz (hT _ _ hs)
    obtain ⟨_,ut,_,_,hut,_,et⟩:=qz (hT _ _ ht)
    injection et with et1 _ _ _ _
    injection es with es1 _ _ _ _
    obtain rfl:=jI et1.symm
    obtain rfl:=jI es1.symm
    split at hq
    . rename_i str hn
      simp at hq;subst hq
      have hx:=qt hF x
      rw [hn] at hx
      have hx:=hx.fz_inv.str_inv
      refine ⟨.string str,?_,.fz _ _ (.str _)⟩
      simp only [execOp]
      refine zO ?_
      simp [convert,run_underlying hus,run_underlying hut,hx]
    . cases hq
  . rename_i e g1 g2 g3 g4 g5 g6 g7 g8 hs ht
    obtain ⟨_,us,_,_,hus,_,es⟩:=qz (hT _ _ hs)
    obtain ⟨_,ut,_,_,hut,_,et⟩:=qz (hT _ _ ht)
    injection et with et1 _ _ _ _
    injection es with es1 _ _ _ _
    obtain rfl:=jI et1.symm
    obtain rfl:=ja es1.symm
    split at hq
    . rename_i g1 g2 g3 g4 xs he hxs
      obtain ⟨_,ue,_,_,hue,_,ee⟩:=qz (hT _ _ he)
      injection ee with ee1 _ _ _ _
      obtain rfl:=qdx ee1.symm
      split at hq
      . rename_i str hstr
        simp at hq;subst hq
        simp only [std] at hstr
        cases hb:QQ xs with
        | none=>rw [hb] at hstr;simp at hstr
        | some l =>
          rw [hb] at hstr
          simp at hstr
          subst hstr
          obtain ⟨ns,rfl,rfl⟩:=qcv hb
          refine ⟨_,?_,.fz _ _ (.str _)⟩
          simp only [execOp]
          refine zO ?_
          obtain ⟨vx,b,cap,hev,hcell⟩:=qdC hF hxs (qt hF x)
          rw [hev]
          cases b with
          | none =>
            have:ns=[]:=by
             cases ns with
             | nil=>rfl
             | cons n ns=>obtain ⟨ad,h,_⟩:=hcell 0 0 [C.int .u8 n] (.int .u8 n) (by simp) (by simp);cases h
            subst this
            simp [convert,run_underlying hus,run_underlying hut,run_underlying hue,Conv.bytesToString]
            rfl
          | some ad =>
            have hload:(loadCells ad (ns.map fun n=>[C.int .u8 n]).length).run P w=.ok (ns.map (Value.int .u8)).toArray w:=by
             have:=run_loadCells_list (P:=P) w ad (ns.map (Value.int .u8)) (fun j v hj=>by
              rw [List.getElem?_map] at hj
              cases hn:ns[j]? with
              | none=>rw [hn] at hj;simp at hj
              | some n =>
                rw [hn] at hj
                simp at hj
                subst hj
                obtain ⟨ad',h,sz,hs1,hc1⟩:=hcell j 0 [C.int .u8 n] (.int .u8 n) (by simp [hn]) (by simp)
                injection h with h
                subst h
                obtain ⟨u,hc2,hc3⟩:=hc1
                have:sz=1:=by simpa using hs1.symm
                subst this
                have:=@qr.int_inv kc _ _ _ _ _ hc3
                subst this
                simpa using hc2)
             simpa using this
            have hbs:=run_bytesToString (P:=P) w ad _ cap ns hload
            simp only [convert,run_underlying hus,run_underlying hut,run_underlying hue,Sem.run_bind,Result.andThen,hbs]
            rw [qhN]
            simp [ByteArray.empty,ByteArray.emptyWithCapacity]
            rfl
      . cases hq
    . cases hq
  . cases hq
 ·
  rename_i x i
  split at hq
  . rename_i xs hxs
    split at hq
    . rename_i y hy
      simp at hq;subst hq
      have hx:=zx hF x
      rw [hxs] at hx
      obtain ⟨vs,hv,h1,h2⟩:=hx
      rw [qq] at hy
      obtain ⟨u,hu,hr⟩:=h2 _ _ hy
      exact ⟨u,by simp only [execOp];exact zO (by simp [Instr.extract,hv,hu]),hr⟩
    . cases hq
  . cases hq
 ·
  rename_i f caps
  simp at hq;subst hq
  have hl:∀ l:List Operand,qaq F l=l.map (ev1 F):=by intro l;induction l with | nil=>rfl | cons x r ih=>simp [qaq,ih]
  refine ⟨.func (.func f) #[] (caps.map a.eval).toArray,?_,?_⟩
  . simp only [execOp]
    refine zO ?_
    simp [Instr.makeFunc]
  . refine qj.clo f _ _ (fun j=>((caps.map a.eval)[j]?).getD undef) (by simp [hl]) ?_ ?_
    . intro j c hj
      rw [hl,List.getElem?_map] at hj
      cases h:caps[j]? with
      | none=>rw [h] at hj;simp at hj
      | some x=>simp [h]
    . intro j c hj
      rw [hl,List.getElem?_map] at hj
      cases h:caps[j]? with
      | none=>rw [h] at hj;simp at hj
      | some x =>
        rw [h] at hj
        simp at hj
        subst hj
        simpa [h] using qt hF x
 ·
  rename_i t parts
  split at hq
  . rename_i fs g1 g2 g3 z ht
    obtain ⟨inf,u,zv,hi,hu,hz',e⟩:=qz (hT _ _ ht)
    injection e with e1 _ _ _ e5
    obtain ⟨gs,rfl,rfl,hfl⟩:=qbe e1.symm
    split at hq
    . rename_i as hb
      simp at hq;subst hq
      have h0:qaL w σ (fzU z) zv.cells:=by
       subst e5
       refine ⟨by simp [qjy],fun j x hj=>?_⟩
       rw [qjy,List.getElem?_map,List.getElem?_map] at hj
       cases hc:zv.cells.toList[j]? with
       | none=>rw [hc] at hj;simp at hj
       | some v =>
         rw [hc] at hj
         simp at hj
         subst hj
         refine ⟨v,by simpa using hc,?_⟩
         rcases Ke (w:=w) (σ:=σ) v with h | h
         . cases hz:jU v<;>rw [hz] at h<;>first | exact qj.un _ | exact h
         . rw [h];exact qj.un _
      have hsz:∀ f∈gs.toList,∃ inf,P.info? f.type=some inf:=fun f hf=>let ⟨_,inf,_,h⟩:=hfl f hf;⟨inf,h⟩
      . have hplaces:(gs.mapM fun f=>do pure (f.offset,<-sizeOf f.type):Sem (Array (Nat×Nat))).run P w=.ok (gs.map fun f=>(f.offset,P.cellsOf f.type)) w:=by
         have:∀ l:List Field,(∀ f∈l,∃ inf,P.info? f.type=some inf)->(l.mapM fun f=>do pure (f.offset,<-sizeOf f.type):Sem (List (Nat×Nat))).run P w=.ok (l.map fun f=>(f.offset,P.cellsOf f.type)) w:=by
          intro l
          induction l with
          | nil=>intro _;rfl
          | cons f l ih =>
            intro h
            obtain ⟨inf,hf⟩:=h f (by simp)
            simp only [List.mapM_cons,Sem.run_bind,run_sizeOf w hf,Result.andThen,Sem.run_pure,ih fun g hg=>h g (List.mem_cons_of_mem _ hg),List.map_cons]
         have h1:=this gs.toList hsz
         rw [Array.mapM_eq_mapM_toList]
         simp only [Sem.run_map,h1]
         simp [Result.andThen]
         apply Array.ext'
         simp
        obtain ⟨cs',h1,h2⟩:=qdo hF _ parts _ _ _ h0 hb (fun i=>(gs.map fun f=>(f.offset,P.cellsOf f.type))[i]?) (by
         intro i x hx
         rw [qq,List.getElem?_map] at hx
         cases hg:gs.toList[i]? with
         | none=>rw [hg] at hx;simp at hx
         | some fd =>
           rw [hg] at hx
           simp at hx
           subst hx
           have hg':gs[i]?=some fd:=by simpa using hg
           obtain ⟨inf,hinf⟩:=hsz fd (List.mem_of_getElem? hg)
           simp [hg'])
        refine ⟨.agg cs',?_,cs',rfl,h2.1,h2.2⟩
        simp only [execOp]
        refine zO ?_
        have hz2:(zeroValue t).run P w=.ok zv w:=by simp [zeroValue,run_typeInfo w hi,hz']
        simp only [Instr.build,Sem.run_bind,hz2,Result.andThen,run_underlying hu,hplaces]
        have:(List.map (fun x=>(x.1,a.eval x.2)) parts)=((⟨parts⟩:Array (Nat×Operand)).map fun x=>(x.1,a.eval x.2)).toList:=by simp
        rw [this] at h1
        simp only [h1]
        simp
    . cases hq
  . cases hq
 ·
  rename_i x t
  split at hq
  . rename_i g1 g2 g3 g4 ht
    obtain ⟨inf,u,z,hi,hu,hz',ee⟩:=qz (hT _ _ ht)
    injection ee with e1 _ _ _ _
    obtain rfl:=jI e1.symm
    split at hq
    . rename_i s hs
      simp at hq;subst hq
      have hx:=qt hF x
      rw [hs] at hx
      have hx:=hx.fz_inv.str_inv
      refine ⟨.int .i64 s.size,?_,.fz _ _ (.int _ _)⟩
      simp only [execOp,resolve,Sem.run_bind,Sem.run_pure,Result.andThen,invoke,builtin,List.map_toArray,List.map_cons,List.map_nil,hx]
      simp [Builtin.len_,run_underlying hu,goInt]
    . cases hq
  . rename_i e g1 g2 g3 g4 ht
    obtain ⟨inf,u,z,hi,hu,hz',ee⟩:=qz (hT _ _ ht)
    injection ee with e1 _ _ _ _
    obtain rfl:=ja e1.symm
    split at hq
    . rename_i n hn
      simp at hq;subst hq
      obtain ⟨b,len,cap,hv,hl⟩:=qd5 (qt hF x) hn
      refine ⟨.int .i64 n,?_,.fz _ _ (.int _ _)⟩
      simp only [execOp,resolve,Sem.run_bind,Sem.run_pure,Result.andThen,invoke,builtin,List.map_toArray,List.map_cons,List.map_nil,hv]
      simp [Builtin.len_,run_underlying hu,goInt,hl]
    . cases hq
  . cases hq
 ·
  rename_i x t
  split at hq
  . rename_i e g1 g2 g3 g4 ht hn
    obtain ⟨inf,u,z,hi,hu,hz',ee⟩:=qz (hT _ _ ht)
    injection ee with e1 _ _ _ _
    obtain rfl:=ja e1.symm
    simp at hq;subst hq
    have hx:=qt hF x
    rw [hn] at hx
    have hx:=hx.fz_inv.nil_inv
    refine ⟨.int .i64 0,?_,.fz _ _ (.int _ _)⟩
    simp only [execOp,resolve,Sem.run_bind,Sem.run_pure,Result.andThen,invoke,builtin,List.map_toArray,List.map_cons,List.map_nil,hx]
    simp [Builtin.cap_,run_underlying hu,goInt]
  . cases hq
 ·
  rename_i args ats
  obtain ⟨x,r,v,h1,h2,h3⟩:=W9 (P:=P) (w:=w) (f:=std.iMax) (g:=Builtin.max2) (fun k x y=>by simp [Builtin.max2,std]) hF hq
  refine ⟨v,?_,h3⟩
  simp only [execOp,resolve,Sem.run_bind,Sem.run_pure,Result.andThen,invoke,builtin,List.map_toArray,h1]
  simp [Builtin.max_,h2]
 ·
  rename_i args ats
  obtain ⟨x,r,v,h1,h2,h3⟩:=W9 (P:=P) (w:=w) (f:=std.iMin) (g:=Builtin.min2) (fun k x y=>by simp [Builtin.min2,std]) hF hq
  refine ⟨v,?_,h3⟩
  simp only [execOp,resolve,Sem.run_bind,Sem.run_pure,Result.andThen,invoke,builtin,List.map_toArray,h1]
  simp [Builtin.min_,h2]
 . cases hq
end
end Go.Proofs.YtececadpjelanaaGreat.Ai
namespace Go.Proofs.YtececadpjelanaaGreat.Ai
open Go
theorem Zw {a b:Nat}(h:¬a=b):nq a b=false:=by
 cases hb:nq a b with
 | false=>rfl
 | true=>exact absurd (Nat.eq_of_beq_eq_true hb) h
def Und (p x:qg):Prop:=x.1=p.1/\∃ s,x.2=p.2++s
theorem Jy {p s r:List (Nat×Nat)}(h:pre std p s=some r):s=p++r:=by
 induction p generalizing s with
 | nil=>simp [pre] at h;exact h
 | cons x p ih =>
   obtain ⟨a,b⟩:=x
   cases s with
   | nil=>simp [pre] at h
   | cons y s =>
     obtain ⟨c,d⟩:=y
     simp only [pre,std] at h
     split at h
     . rename_i he
       simp at he
       obtain ⟨rfl,rfl⟩:=he
       rw [ih h];rfl
     . cases h
theorem jt (p r:List (Nat×Nat)):pre std p (p++r)=some r:=by
 induction p with
 | nil=>simp [pre]
 | cons x p ih=>obtain ⟨a,b⟩:=x;simp [pre,std];simpa [std] using ih
theorem qcL {p s:List (Nat×Nat)}(h:¬∃ r,s=p++r):pre std p s=none:=by
 cases hp:pre std p s with
 | none=>rfl
 | some r=>exact absurd ⟨r,Jy hp⟩ h
theorem kq {p x:qg}(h:Und p x):qV std p x=none:=by
 obtain ⟨h1,s,h2⟩:=h
 simp [qV,h1,h2,jt]
theorem zi {p x:qg}(h:¬Und p x):qV std p x=some x:=by
 unfold qV
 split
 . rename_i he
   have he:x.1=p.1:=by simpa [] using he
   rw [qcL (fun ⟨r,hr⟩=>h ⟨he,r,hr⟩)]
 . rfl
theorem Ys {p q:qg}(s:List (Nat×Nat)):jf std p q (p.1,p.2++s)=some (q.1,q.2++s):=by simp [jf,jt]
theorem Q7 {p q x:qg}(h:¬Und p x):jf std p q x=some x:=by
 unfold jf
 split
 . rename_i he
   have he:x.1=p.1:=by simpa [] using he
   rw [qcL (fun ⟨r,hr⟩=>h ⟨he,r,hr⟩)]
 . rfl
theorem qnJ {p x:qg}(h:Und p x):∃ s,x=(p.1,p.2++s):=by
 obtain ⟨h1,s,h2⟩:=h
 exact ⟨s,by rw [<-h1,<-h2]⟩
def Gh.tr (σ:Gh)(τ:qg->Option qg):Gh:=fun g=>match σ g with
 | some x=>match τ x.p with
   | some q=>some { x with p:=q }
   | none=>none
 | none=>none
theorem zp {σ:Gh}{τ:qg->Option qg}{g:Nat}{x:Own}{q:qg}(h:σ g=some x)(hq:τ x.p=some q):σ.tr τ g=some { x with p:=q }:=by simp [Gh.tr,h,hq]
theorem J4 {σ:Gh}{τ:qg->Option qg}{g:Nat}(h:σ g=none):σ.tr τ g=none:=by simp [Gh.tr,h]
theorem kH {σ:Gh}{τ:qg->Option qg}{g:Nat}{y:Own}(h:σ.tr τ g=some y):∃ x,σ g=some x/\τ x.p=some y.p/\y={ x with p:=y.p }:=by
 unfold Gh.tr at h
 split at h
 . rename_i x hx
   split at h
   . rename_i q hq
     simp at h
     subst h
     exact ⟨x,hx,hq,rfl⟩
   . cases h
 . cases h
section
variable [qi] {w:World} {σ:Gh} {τ:qg->Option qg} {F:Fr} {vt:Nat->Value}
theorem jg:kD w σ w (σ.tr τ):=⟨fun _ _ h=>J4 h,fun _ _ _=>.inl rfl⟩
theorem jD:qF w σ w (σ.tr τ):=⟨jg,Nat.le_refl _,rfl,rfl,rfl⟩
theorem qr.tr {c:C}{v:Value}(h:qr w σ c v):qr w (σ.tr τ) c v:=h.move (Nat.le_refl _) jg
theorem qj.tr {x:A}{v:Value}(h:qj w σ x v):qj w (σ.tr τ) (x.tr τ) v:=by
 induction h with
 | un v=>exact .un v
 | ud=>exact .ud
 | fz c v h=>exact .fz c v h.tr
 | rf p off len g n cap sz hg hl hn =>
   simp only [A.tr]
   cases hq:τ p with
   | none=>exact .un _
   | some q=>exact .rf q off len g n cap sz (zp hg hq) hl hn
 | rz p off b =>
   simp only [A.tr]
   cases hq:τ p with
   | none=>exact .un _
   | some q=>exact .rz q off b
 | pp p i j g n cap sz hg =>
   simp only [A.tr]
   cases hq:τ p with
   | none=>exact .un _
   | some q=>exact .pp q i j g n cap sz (zp hg hq)
 | clo f caps vs us hl hm hr ih =>
   simp only [A.tr,ju]
   refine .clo f _ vs us (by simpa using hl) ?_ ?_
   . intro j c hj
     rw [List.getElem?_map] at hj
     cases h:caps[j]? with
     | none=>rw [h] at hj;simp at hj
     | some x=>exact hm j x h
   . intro j c hj
     rw [List.getElem?_map] at hj
     cases h:caps[j]? with
     | none=>rw [h] at hj;simp at hj
     | some x=>rw [h] at hj;simp at hj;subst hj;exact ih j x h
theorem qQ.map {α β:Type}{R:Nat->α->Value->Prop}{S:Nat->β->Value->Prop}{f:α->β}(hf:∀ j a v,R j a v->S j (f a) v){x:V1 α}{v:Value}(h:qQ R x v):qQ S (x.1,x.2.map f) v:=by
 obtain ⟨g,as⟩:=x
 cases g with
 | false=>match as,h with
   | [a],h=>exact hf _ _ _ h
 | true =>
   obtain ⟨cs,rfl,h1,h2⟩:=h
   refine ⟨cs,rfl,by simpa using h1,fun j b hj=>?_⟩
   rw [List.getElem?_map] at hj
   cases ha:as[j]? with
   | none=>rw [ha] at hj;simp at hj
   | some a =>
     rw [ha] at hj
     simp at hj
     subst hj
     obtain ⟨u,hu,hr⟩:=h2 j a ha
     exact ⟨u,hu,hf _ _ _ hr⟩
theorem jc (xs:List (V1 A)):qiW τ xs=xs.map (trV τ):=by induction xs with | nil=>rfl | cons x r ih=>simp [qiW,ih]
theorem qN.tr {x:TV A}{v:Value}(h:qN (fun _ _=>qj w σ) x v):qN (fun _ _=>qj w (σ.tr τ)) (x.tr τ) v:=by
 cases x with
 | v x =>
   have:=qQ.map (S:=fun _=>qj w (σ.tr τ)) (f:=A.tr τ) (fun _ _ _=>qj.tr) h
   simp only [TV.tr,trV,ju]
   exact this
 | tup xs =>
   obtain ⟨vs,rfl,h1,h2⟩:=h
   refine ⟨vs,rfl,by simpa [jc] using h1,fun k x hk=>?_⟩
   rw [jc,List.getElem?_map] at hk
   cases hx:xs[k]? with
   | none=>rw [hx] at hk;simp at hk
   | some y =>
     rw [hx] at hk
     simp at hk
     subst hk
     obtain ⟨u,hu,hr⟩:=h2 k y hx
     refine ⟨u,hu,?_⟩
     have:=qQ.map (S:=fun _=>qj w (σ.tr τ)) (f:=A.tr τ) (fun _ _ _=>qj.tr) hr
     simpa [trV,ju] using this
theorem zY (tm:List (Nat×TV A))(t:Nat):qa unT (QS τ tm) t=(qa unT tm t).tr τ:=by
 induction tm with
 | nil=>rfl
 | cons x r ih =>
   obtain ⟨k,y⟩:=x
   simp only [QS,qa]
   cases nq k t<;>simp [ih]
theorem qM {α:Type}(d:α)(l:List (Nat×α))(k t:Nat):qa d (del l k) t=if k=t then d else qa d l t:=by
 induction l with
 | nil=>simp [qa,del]
 | cons x r ih =>
   obtain ⟨k',v⟩:=x
   simp only [del]
   by_cases h:k'=k
   . subst h
     simp only [jh,cond_true,ih,qa]
     by_cases h2:k'=t
     . simp [h2]
     . have:nq k' t=false:=Zw h2
       simp [this,h2]
   . have h1:nq k' k=false:=Zw h
     simp only [h1,cond_false,qa,ih]
     by_cases h2:k'=t
     . subst h2
       simp
       intro h3;exact absurd h3.symm h
     . have:nq k' t=false:=Zw h2
       simp [this]
theorem qp {α:Type}(d:α)(k:Nat)(v:α)(l:List (Nat×α))(t:Nat):qa d ((k,v)::l) t=if k=t then v else qa d l t:=by
 simp only [qa]
 by_cases h:k=t
 . subst h;simp
 . have:nq k t=false:=Zw h
   simp [this,h]
theorem qm5 {p:qg}{o:O}{v:Value}(h:qo w σ p o v):∀ s:List (Nat×Nat),(∀ x,¬Und (p.1,p.2++s) x->τ x=some x)->qo w (σ.tr τ) p (o.set std s .un) v:=by
 have apart:∀ {p':qg} {o':O} {v':Value} {P:qg},qo w σ p' o' v'->(∀ x,¬Und P x->τ x=some x)->(∀ t,¬Und P (p'.1,p'.2++t))->qo w (σ.tr τ) p' o' v':=by
  intro p' o' v' P h hτ hn
  refine h.move (Nat.le_refl _) jg p' ?_
  intro g s n cap sz hg _
  exact ⟨rfl,zp hg (hτ _ (hn s))⟩
 induction h with
 | un p v hv =>
   intro s hτ
   cases s with
   | nil=>exact .un _ _ hv
   | cons x s=>exact .un _ _ hv
 | fz p c v h =>
   intro s hτ
   cases s with
   | nil=>exact .un _ _ h.one
   | cons x s=>exact .fz _ _ _ h.tr
 | oslz p a =>
   intro s hτ
   cases s with
   | nil=>exact .un _ _ rfl
   | cons x s=>obtain ⟨i,j⟩:=x;simpa [O.set,std] using qo.oslz (w:=w) (σ:=σ.tr τ) p a
 | osl p xs e sz g cap cur us hh hc hcm hl hs hg hm hr ih =>
   intro s hτ
   cases s with
   | nil=>exact .un _ _ rfl
   | cons x s =>
     obtain ⟨i,j⟩:=x
     have hself:¬Und (p.1,p.2++(i,j)::s) p:=by
      rintro ⟨_,r,hr⟩
      have:=congrArg List.length hr
      simp at this
     have hpne:∀ (i' j':Nat),¬(i'=i/\j'=j)->∀ t,¬Und (p.1,p.2++(i,j)::s) (p.1,p.2++[(i',j')]++t):=by
      rintro i' j' hne t ⟨_,r,hr⟩
      simp at hr
      exact hne ⟨hr.1.1,hr.1.2⟩
     have keep:∀ i' j' y o,xs[i']?=some y->y[j']?=some o->¬(i'=i/\j'=j)->qo w (σ.tr τ) (p.1,p.2++[(i',j')]) o (us i' j'):=fun i' j' y o hi hj hne =>
      apart (hr i' j' y o hi hj) hτ (hpne i' j' hne)
     simp only [O.set,std,qq,q9]
     cases hi:xs[i]? with
     | none =>
       exact .osl p xs e sz g cap cur us hh hc hcm hl hs (zp hg (hτ _ hself)) hm (fun i' j' y o h1 h2=>keep i' j' y o h1 h2 (by rintro ⟨rfl,_⟩;rw [hi] at h1;cases h1))
     | some y =>
       cases hj:y[j]? with
       | none =>
         simp only [hj]
         refine .osl p xs e sz g cap cur us hh hc hcm hl hs (zp hg (hτ _ hself)) hm (fun i' j' y' o h1 h2=>keep i' j' y' o h1 h2 ?_)
         rintro ⟨rfl,rfl⟩
         rw [hi] at h1
         injection h1 with h1
         subst h1
         rw [hj] at h2
         cases h2
       | some o =>
         simp only [hj]
         have hnew:=ih i j y o hi hj s (by simpa using hτ)
         have hlen:(xs.set i (y.set j (O.set std o s .un))).length=xs.length:=by simp
         have hilt:i<xs.length:=(List.getElem?_eq_some_iff.1 hi).1
         have hjlt:j<y.length:=(List.getElem?_eq_some_iff.1 hj).1
         have hget:∀ i' j' y' o',(xs.set i (y.set j (O.set std o s .un)))[i']?=some y'->y'[j']?=some o' →
          (i'=i/\j'=j/\o'=O.set std o s .un)\/(¬(i'=i/\j'=j)/\∃ y'',xs[i']?=some y''/\y''[j']?=some o'):=by
          intro i' j' y' o' h1 h2
          by_cases hii:i'=i
          . subst hii
            rw [List.getElem?_set_self hilt] at h1
            injection h1 with h1
            subst h1
            by_cases hjj:j'=j
            . subst hjj
              rw [List.getElem?_set_self hjlt] at h2
              injection h2 with h2
              exact .inl ⟨rfl,rfl,h2.symm⟩
            . rw [List.getElem?_set_ne (Ne.symm hjj)] at h2
              exact .inr ⟨by simp [hjj],y,hi,h2⟩
          . rw [List.getElem?_set_ne (Ne.symm hii)] at h1
            exact .inr ⟨by simp [hii],y',h1,h2⟩
         have:=qo.osl (w:=w) (σ:=σ.tr τ) p (xs.set i (y.set j (O.set std o s .un))) e sz g cap cur us hh (by omega) hcm hl ?_ (by rw [hlen];exact zp hg (hτ _ hself)) ?_ ?_
         . rw [hlen] at this;exact this
         . intro y' hy'
           rcases List.mem_or_eq_of_mem_set hy' with h | rfl
           . exact hs y' h
           . simpa using hs y (List.mem_of_getElem? hi)
         . intro i' j' y' o' h1 h2
           rcases hget i' j' y' o' h1 h2 with ⟨rfl,rfl,_⟩ | ⟨_,y'',h3,h4⟩
           . exact hm _ _ y o hi hj
           . exact hm _ _ y'' o' h3 h4
         . intro i' j' y' o' h1 h2
           rcases hget i' j' y' o' h1 h2 with ⟨rfl,rfl,rfl⟩ | ⟨hne,y'',h3,h4⟩
           . exact hnew
           . exact keep i' j' y'' o' h3 h4 hne
 | obx p cs g e cells us n cap sz hh hl hg hm hr ih =>
   intro s hτ
   cases s with
   | nil=>exact .un _ _ rfl
   | cons x s =>
     obtain ⟨i,j⟩:=x
     have hself:¬Und (p.1,p.2++(i,j)::s) p:=by
      rintro ⟨_,r,hr⟩
      have:=congrArg List.length hr
      simp at this
     have keep:∀ j' o,cs[j']?=some o->¬(0=i/\j'=j)->qo w (σ.tr τ) (p.1,p.2++[(0,j')]) o (us j'):=fun j' o hj hne =>
      apart (hr j' o hj) hτ (by
       rintro t ⟨_,r,hr⟩
       simp at hr
       exact hne ⟨hr.1.1,hr.1.2⟩)
     simp only [O.set,qq,q9]
     cases i with
     | succ i=>exact .obx p cs g e cells us n cap sz hh hl (zp hg (hτ _ hself)) hm (fun j' o h=>keep j' o h (by simp))
     | zero =>
       cases hj:cs[j]? with
       | none=>exact .obx p cs g e cells us n cap sz hh hl (zp hg (hτ _ hself)) hm (fun j' o h=>keep j' o h (by rintro ⟨_,rfl⟩;rw [hj] at h;cases h))
       | some o =>
         have hnew:=ih j o hj s (by simpa using hτ)
         have hjlt:j<cs.length:=(List.getElem?_eq_some_iff.1 hj).1
         refine .obx p _ g e cells us n cap sz hh (by simpa using hl) (zp hg (hτ _ hself)) ?_ ?_
         . intro j' o' h
           by_cases hjj:j'=j
           . subst hjj;exact hm _ o hj
           . rw [List.getElem?_set_ne (Ne.symm hjj)] at h;exact hm _ _ h
         . intro j' o' h
           by_cases hjj:j'=j
           . subst hjj
             rw [List.getElem?_set_self hjlt] at h
             injection h with h
             subst h
             exact hnew
           . rw [List.getElem?_set_ne (Ne.symm hjj)] at h
             exact keep j' o' h (by simp [hjj])
def ke (σ:Gh)(q:qg):Prop:=∀ g x,σ g=some x->¬Und q x.p
def Fit:O->Nat->Prop
 | .osl xs,n=>xs.length=n/\0<n
 | .obx _,_=>True
 | _,_=>False
def Dom (F:Fr)(σ:Gh)(pend:List (qg×O)):Prop:=∀ g x,σ g=some x->Fit (F.at std x.p) x.n\/∃ q o s,(q,o)∈pend/\x.p=(q.1,q.2++s)/\Fit (o.at std s) x.n
theorem qkg (z:O):∀ (s:List (Nat×Nat)) (o:O) (t:List (Nat×Nat)) (n:Nat),(¬∃ r,t=s++r)->Fit (o.at std t) n->Fit ((o.set std s z).at std t) n:=by
 intro s
 induction s with
 | nil=>intro o t n h;exact absurd ⟨t,rfl⟩ h
 | cons x s ih =>
   obtain ⟨i,j⟩:=x
   intro o t n h hf
   cases o with
   | un=>simpa [O.set] using hf
   | fz c=>simpa [O.set] using hf
   | osl xs =>
     cases t with
     | nil =>
       simp only [O.at,Fit] at hf
       simp only [O.set,std,qq,q9]
       cases hi:xs[i]? with
       | none=>simpa [O.at,Fit] using hf
       | some y=>cases hj:y[j]?<;>simpa [O.at,Fit,hj] using hf
     | cons x' t =>
       obtain ⟨i',j'⟩:=x'
       simp only [O.set,std,qq,q9]
       cases hi:xs[i]? with
       | none=>exact hf
       | some y =>
         cases hj:y[j]? with
         | none=>simp only [hj];exact hf
         | some o =>
           simp only [hj]
           have hilt:i<xs.length:=(List.getElem?_eq_some_iff.1 hi).1
           have hjlt:j<y.length:=(List.getElem?_eq_some_iff.1 hj).1
           simp only [O.at,std,qq] at hf ⊢
           by_cases hii:i'=i
           . subst hii
             rw [List.getElem?_set_self hilt]
             rw [hi] at hf
             dsimp only at hf ⊢
             by_cases hjj:j'=j
             . subst hjj
               rw [List.getElem?_set_self hjlt]
               rw [hj] at hf
               exact ih o t n (fun ⟨r,hr⟩=>h ⟨r,by rw [hr];rfl⟩) hf
             . rw [List.getElem?_set_ne (Ne.symm hjj)]
               exact hf
           . rw [List.getElem?_set_ne (Ne.symm hii)]
             exact hf
   | obx cs =>
     cases t with
     | nil =>
       simp only [O.set,qq,q9]
       cases i with
       | succ i=>simp [O.at,Fit]
       | zero=>cases hj:cs[j]?<;>simp [O.at,Fit]
     | cons x' t =>
       obtain ⟨i',j'⟩:=x'
       simp only [O.set,qq,q9]
       cases i with
       | succ i=>exact hf
       | zero =>
         cases hj:cs[j]? with
         | none=>exact hf
         | some o =>
           have hjlt:j<cs.length:=(List.getElem?_eq_some_iff.1 hj).1
           cases i' with
           | succ i'=>simp [O.at,Fit] at hf
           | zero =>
             simp only [O.at,qq] at hf ⊢
             by_cases hjj:j'=j
             . subst hjj
               rw [List.getElem?_set_self hjlt]
               rw [hj] at hf
               exact ih o t n (fun ⟨r,hr⟩=>h ⟨r,by rw [hr];rfl⟩) hf
             . rw [List.getElem?_set_ne (Ne.symm hjj)]
               exact hf
theorem qiv:∀ (s:List (Nat×Nat)) (o:O) (t:List (Nat×Nat)) (n:Nat),(¬∃ r,t=s++r)->Fit (o.at std t) n->Fit ((o.set std s .un).at std t) n:=qkg .un
theorem Vt {F:Fr}{p x:qg}{n:Nat}(h:¬Und p x)(hf:Fit (F.at std x) n):Fit ((F.less std p).at std x) n:=by
 obtain ⟨r,s⟩:=p
 obtain ⟨r',t⟩:=x
 cases s with
 | nil =>
   show Fit ((qa .un (del F.tb r) r').at std t) n
   rw [qM,if_neg (fun e=>h ⟨e.symm,t,rfl⟩)]
   exact hf
 | cons y s =>
   show Fit ((qa .un ((r,(qa .un F.tb r).set std (y::s) .un)::del F.tb r) r').at std t) n
   rw [qp,qM]
   by_cases e:r=r'
   . subst e
     rw [if_pos rfl]
     exact qiv _ _ _ _ (fun ⟨u,hu⟩=>h ⟨rfl,u,hu⟩) hf
   . rw [if_neg e,if_neg e];exact hf
theorem Kr (F:Fr)(p:qg):(F.less std p).tm=F.tm:=by unfold Fr.less;split<;>rfl
theorem qol (h:FR F σ w vt)(t:Nat):qN (fun _ _=>qj w (σ.tr τ)) (qa unT (QS τ F.tm) t) (vt t):=by
 rw [zY];exact qN.tr (h.tm t)
theorem FR.less (h:FR F σ w vt)(p:qg)(hτ:∀ x,¬Und p x->τ x=some x)
 (hin:∀ g g' x y q,σ g=some x->σ g'=some y->τ x.p=some q->τ y.p=some q->x.p=y.p):FR ((F.less std p).tr τ) (σ.tr τ) w vt:=by
 refine ⟨?_,?_,h.old,?_,fun t=>?_⟩
 . intro g g' x y hx hy he
   obtain ⟨x',h1,h2,h3⟩:=kH hx
   obtain ⟨y',h4,h5,h6⟩:=kH hy
   exact h.inj g g' x' y' h1 h4 (hin g g' x' y' _ h1 h4 h2 (by rw [he];exact h5))
 . intro g x hx
   obtain ⟨x',h1,_⟩:=kH hx
   exact h.lt g x' h1
 . intro id
   have hroot:∀ id,id≠p.1->∃ v,qo w (σ.tr τ) (id,[]) (qa .un F.tb id) v:=by
    intro id hid
    obtain ⟨v,hv⟩:=h.tb id
    refine ⟨v,hv.move (Nat.le_refl _) jg _ ?_⟩
    intro g s n cap sz hg _
    refine ⟨rfl,zp hg (hτ _ ?_)⟩
    rintro ⟨h1,_⟩
    exact hid h1
   obtain ⟨r,s⟩:=p
   cases s with
   | nil =>
     show ∃ v,qo w (σ.tr τ) (id,[]) (qa .un (del F.tb r) id) v
     rw [qM]
     by_cases hid:r=id
     . rw [if_pos hid];exact ⟨.bool false,.un _ _ rfl⟩
     . rw [if_neg hid];exact hroot id (fun e=>hid e.symm)
   | cons x s =>
     show ∃ v,qo w (σ.tr τ) (id,[]) (qa .un ((r,(qa .un F.tb r).set std (x::s) .un)::del F.tb r) id) v
     rw [qp,qM]
     by_cases hid:r=id
     . subst hid
       rw [if_pos rfl]
       obtain ⟨v,hv⟩:=h.tb r
       exact ⟨v,qm5 hv (x::s) (by simpa using hτ)⟩
     . rw [if_neg hid,if_neg hid];exact hroot id (fun e=>hid e.symm)
 . show qN _ (qa unT (QS τ (F.less std p).tm) t) (vt t)
   rw [Kr]
   exact qol (F:=F) h t
theorem FR.drop (h:FR F σ w vt)(p:qg):FR (F.drop std p) (σ.tr (qV std p)) w vt:=by
 refine h.less p (fun x=>zi) ?_
 intro g g' x y q hx hy h1 h2
 have e:∀ x,qV std p x=some q->x=q:=by
  intro x hx
  by_cases hu:Und p x
  . rw [kq hu] at hx;cases hx
  . rw [zi hu] at hx;injection hx
 rw [e _ h1,e _ h2]
theorem Qe (p:qg):ke (σ.tr (qV std p)) p:=by
 intro g x hx hu
 obtain ⟨x',h1,h2,h3⟩:=kH hx
 by_cases h:Und p x'.p
 . rw [kq h] at h2;cases h2
 . rw [zi h] at h2
   injection h2 with h2
   rw [h2] at h
   exact h hu
theorem ke.drop {q:qg}(h:ke σ q)(p:qg):ke (σ.tr (qV std p)) q:=by
 intro g x hx hu
 obtain ⟨x',h1,h2,h3⟩:=kH hx
 by_cases hp:Und p x'.p
 . rw [kq hp] at h2;cases h2
 . rw [zi hp] at h2
   injection h2 with h2
   exact h g x' h1 (by rw [h2];exact hu)
theorem jw {l:List (Nat×O)}{t:Nat}(h:has l t=false):qa .un l t=.un:=by
 induction l with
 | nil=>rfl
 | cons x r ih =>
   obtain ⟨k,v⟩:=x
   simp only [has] at h
   simp only [qa]
   cases hb:nq k t with
   | true=>rw [hb] at h;simp at h
   | false=>rw [hb] at h;exact ih (by simpa using h)
theorem kv (s:List (Nat×Nat)):O.at std .un s=.un:=by cases s<;>rfl
theorem Dom.drop {pend:List (qg×O)}(h:Dom F σ pend)(p:qg):Dom (F.drop std p) (σ.tr (qV std p)) pend:=by
 intro g x hx
 obtain ⟨x',h1,h2,h3⟩:=kH hx
 have hn:x.n=x'.n:=by rw [h3]
 by_cases hp:Und p x'.p
 . rw [kq hp] at h2;cases h2
 . rw [zi hp] at h2
   injection h2 with h2
   rcases h g x' h1 with h4 | h4
   . left;rw [<-h2,hn];exact Vt hp h4
   . right;rw [<-h2,hn];exact h4
theorem FR.clear (h:FR F σ w vt)(hd:Dom F σ [])(id:Nat):∃ σ',FR (F.clear std id) σ' w vt/\Dom (F.clear std id) σ' []/\ke σ' (id,[])/\qF w σ w σ':=by
 unfold Fr.clear
 cases hh:has F.tb id with
 | true=>exact ⟨_,h.drop _,hd.drop _,Qe _,jD⟩
 | false =>
   refine ⟨σ,h,hd,?_,qF.refl _ _⟩
   rintro g x hx ⟨h1,_⟩
   rcases hd g x hx with h2 | ⟨_,_,_,h2,_⟩
   . unfold Fr.at at h2
     rw [h1,jw hh,kv] at h2
     exact h2
   . cases h2
end
end Go.Proofs.YtececadpjelanaaGreat.Ai
namespace Go.Proofs.YtececadpjelanaaGreat.Ai
open Go
section
variable [qi] {w:World} {σ:Gh} {τ:qg->Option qg} {F:Fr} {vt:Nat->Value}
theorem Q9 {p q x y:qg}(h:jf std p q x=some y):(∃ s,x=(p.1,p.2++s)/\y=(q.1,q.2++s))\/(¬Und p x/\y=x):=by
 by_cases hu:Und p x
 . obtain ⟨s,rfl⟩:=qnJ hu
   rw [Ys] at h
   injection h with h
   exact .inl ⟨s,rfl,h.symm⟩
 . rw [Q7 hu] at h
   injection h with h
   exact .inr ⟨hu,h.symm⟩
theorem FR.lift (h:FR F σ w vt){p q:qg}(hb:ke σ q):FR (F.lift std p q) (σ.tr (jf std p q)) w vt:=by
 refine h.less p (fun x=>Q7) ?_
 intro g g' x y a hx hy h1 h2
 rcases Q9 h1 with ⟨s,e1,e2⟩ | ⟨hn,e1⟩
 . rcases Q9 h2 with ⟨s',e3,e4⟩ | ⟨hn',e3⟩
   . rw [e2] at e4
     simp at e4
     rw [e1,e3,e4]
   . exfalso
     refine hb g' y hy ?_
     rw [<-e3,e2]
     exact ⟨rfl,s,rfl⟩
 . rcases Q9 h2 with ⟨s',e3,e4⟩ | ⟨hn',e3⟩
   . exfalso
     refine hb g x hx ?_
     rw [<-e1,e4]
     exact ⟨rfl,s',rfl⟩
   . rw [<-e1,<-e3]
theorem ke.lift {p q q':qg}(h:ke σ q')(hq:∀ s,¬Und q' (q.1,q.2++s)):ke (σ.tr (jf std p q)) q':=by
 intro g x hx hu
 obtain ⟨x',h1,h2,h3⟩:=kH hx
 rcases Q9 h2 with ⟨s,e1,e2⟩ | ⟨hn,e1⟩
 . rw [e2] at hu;exact hq s hu
 . rw [e1] at hu;exact h g x' h1 hu
theorem KD (o:O)(s t:List (Nat×Nat)):o.at std (s++t)=(o.at std s).at std t:=by
 induction s generalizing o with
 | nil=>rfl
 | cons x s ih =>
   obtain ⟨i,j⟩:=x
   cases o with
   | un=>simp [O.at,kv]
   | fz c=>simp [O.at,kv]
   | osl xs =>
     simp only [List.cons_append,O.at]
     cases std.oGet xs i with
     | none=>simp [kv]
     | some y=>cases h:nth y j<;>simp [h,ih,kv]
   | obx cs =>
     simp only [List.cons_append,O.at]
     cases i with
     | succ i=>simp [kv]
     | zero=>cases h:nth cs j<;>simp [h,ih,kv]
theorem Dom.lift {pend:List (qg×O)}(h:Dom F σ pend){p q:qg}(hpq:∀ q' o',(q',o')∈pend->q'.1≠p.1):Dom (F.lift std p q) (σ.tr (jf std p q)) ((q,F.at std p)::pend):=by
 intro g x hx
 obtain ⟨x',h1,h2,h3⟩:=kH hx
 have hn:x.n=x'.n:=by rw [h3]
 rcases Q9 h2 with ⟨s,e1,e2⟩ | ⟨hnu,e1⟩
 . right
   refine ⟨q,_,s,List.mem_cons_self,e2,?_⟩
   rw [hn]
   rcases h g x' h1 with h4 | ⟨q',o',s',h4,h5,h6⟩
   . rw [e1] at h4
     simpa [Fr.at,KD] using h4
   . exfalso
     rw [e1] at h5
     exact hpq q' o' h4 (by simpa using (congrArg Prod.fst h5).symm)
 . rw [e1,hn]
   rcases h g x' h1 with h4 | ⟨q',o',s',h4,h5⟩
   . left;exact Vt hnu h4
   . right;exact ⟨q',o',s',List.mem_cons_of_mem _ h4,h5⟩
theorem qo.lift {p q:qg}{o:O}{v:Value}(h:qo w σ p o v):qo w (σ.tr (jf std p q)) q o v :=
 h.move (Nat.le_refl _) jg q fun _ s _ _ _ hg _=>⟨rfl,zp hg (Ys s)⟩
theorem qo.stay {p q p':qg}{o:O}{v:Value}(h:qo w σ p' o v)(hn:p.1≠p'.1):qo w (σ.tr (jf std p q)) p' o v :=
 h.move (Nat.le_refl _) jg p' fun _ _ _ _ _ hg _=>⟨rfl,zp hg (Q7 fun hu=>hn hu.1.symm)⟩
theorem qfk {kn:Bool}{x:A}{q:qg}{o:O}(h:ZF std kn F x q=some (o,none)){v:Value}(hx:qj w σ x v):qo w σ q o v:=by
 unfold ZF at h
 split at h
 . obtain rfl:=hx.fz_inv.nil_inv
   cases kn<;>simp at h<;>subst h
   . exact .oslz q none
   . exact .fz q _ _ .nilsl
 . cases h
 . simp at h
   subst h
   exact .fz q _ _ hx.fz_inv
 . split at h
   . split at h
     . simp at h
     . cases h
   . cases h
 . split at h
   . split at h
     . simp at h
     . cases h
   . cases h
 . cases h
theorem ZR (hF:FR F σ w vt){pend:List (qg×O)}(hd:Dom F σ pend){p:qg}(hpend:∀ q' o',(q',o')∈pend->q'.1≠p.1){xs:List (List O)}(hp:F.at std p=.osl xs){v:Value}
 (hx:qj w σ (.rf p 0 xs.length) v):qo w σ p (.osl xs) v:=by
 obtain ⟨u,hu⟩:=zf hF p
 rw [hp] at hu
 generalize hl:xs.length=len at hx
 cases hx with
 | rz _ _ b =>
   obtain rfl:xs=[]:=List.eq_nil_of_length_eq_zero hl
   exact .oslz p b
 | rf _ _ _ g n cap sz hg hl' hn =>
   have hfit:xs.length=n/\0<n:=by
    rcases hd g _ hg with h | ⟨q',o',s,h,h1,_⟩
    . rw [hp] at h;exact h
    . exact absurd (by simpa using (congrArg Prod.fst h1).symm) (hpend q' o' h)
   cases hu with
   | oslz=>simp at hfit;omega
   | osl _ _ e sz' g' cap' cur us hh hc' hcm hl2 hs' hg' hm hr =>
     obtain rfl:=hF.inj _ _ _ _ hg hg' rfl
     rw [hg] at hg'
     simp only [Option.some.injEq,Own.mk.injEq] at hg'
     obtain ⟨_,rfl,rfl,rfl⟩:=hg'
     have:=qo.osl (w:=w) (σ:=σ) p xs e sz g cap cur us hh hc' hcm hl2 hs' hg hm hr
     simpa [hl] using this
theorem qhl (hF:FR F σ w vt){p:qg}{cs:List O}(hp:F.at std p=.obx cs){v:Value}(hx:qj w σ (.pp p 0 0) v):qo w σ p (.obx cs) v:=by
 obtain ⟨u,hu⟩:=zf hF p
 rw [hp] at hu
 cases hx with
 | pp _ _ _ g n cap sz hg =>
   cases hu with
   | obx _ _ g' e cells us n' cap' sz' hh hl hg' hm hr =>
     obtain rfl:=hF.inj _ _ _ _ hg hg' rfl
     simpa using qo.obx (w:=w) (σ:=σ) p cs g e cells us n' cap' sz' hh hl hg' hm hr
theorem qfN (hF:FR F σ w vt){pend:List (qg×O)}(hd:Dom F σ pend){kn:Bool}{x:A}{p q:qg}(hpq:∀ q' o',(q',o')∈pend->q'.1=q.1){o:O}(h:ZF std kn F x q=some (o,some p)){v:Value}(hx:qj w σ x v) :
 p.1≠q.1/\F.at std p=o/\qo w σ p o v:=by
 unfold ZF at h
 split at h
 . cases kn<;>simp at h
 . cases h
 . simp at h
 . rename_i p' off len
   split at h
   . rename_i xs hxs
     split at h
     . rename_i hc
       simp only [std,Bool.and_eq_true,Bool.not_eq_true',beq_iff_eq] at hc
       obtain ⟨⟨rfl,hlen⟩,hne⟩:=hc
       simp at h
       obtain ⟨rfl,rfl⟩:=h
       have hne':p'.1≠q.1:=fun e=>by rw [e] at hne;simp at hne
       subst hlen
       exact ⟨hne',hxs,ZR hF hd (fun q' o' hm=>by rw [hpq q' o' hm];exact fun e=>hne' e.symm) hxs hx⟩
     . cases h
   . cases h
 . rename_i p' i j
   split at h
   . rename_i cs hcs
     split at h
     . rename_i hne
       simp at h
       obtain ⟨rfl,rfl⟩:=h
       have hne':p'.1≠q.1:=fun e=>by rw [e] at hne;simp at hne
       exact ⟨hne',hcs,qhl hF hcs hx⟩
     . cases h
   . cases h
 . cases h
theorem ku {p:qg}{id:Nat}(h:p.1≠id):qa .un (F.less std p).tb id=qa .un F.tb id:=by
 obtain ⟨r,s⟩:=p
 cases s with
 | nil =>
   show qa .un (del F.tb r) id=_
   rw [qM,if_neg h]
 | cons x s =>
   show qa .un ((r,_)::del F.tb r) id=_
   rw [qp,qM,if_neg h,if_neg h]
theorem V9 {p:qg}:(F.less std p).n=F.n:=by unfold Fr.less;split<;>rfl
structure qm9 (q:Nat->qg)(r:Nat):Prop where
 root:∀ j,(q j).1=r
 apart:∀ j j',j≠j'->∀ s,¬Und (q j') ((q j).1,(q j).2++s)
structure Conv (w:World)(vt:Nat->Value)(q:Nat->qg)(r j:Nat)(F:Fr)(σ:Gh)(pend:List (qg×O))(vs:List Value)(os:List O)(F':Fr)(σ':Gh)(pend':List (qg×O)):Prop where
 fr:FR F' σ' w vt
 dom:Dom F' σ' pend'
 goes:qF w σ w σ'
 rep:∀ (k:Nat) (o:O),os[k]?=some o->∃ u,vs[k]?=some u/\qo w σ' (q (j+k)) o u
 pnd:∀ q' o',(q',o')∈pend'->(q',o')∈pend\/∃ k,os[k]?=some o'/\q'=q (j+k)
 old:∀ (p:qg) (o:O) (v:Value),p.1=r->qo w σ p o v->qo w σ' p o v
 own:∀ g x,σ g=some x->x.p.1=r->σ' g=some x
 tbl:qa .un F'.tb r=qa .un F.tb r
 n:F'.n=F.n
 bare:∀ q',q'.1=r->(∀ k,j<=k->k<j+os.length->∀ s,¬Und q' ((q k).1,(q k).2++s))->ke σ q'->ke σ' q'
theorem QF {kn:Bool}{q:Nat->qg}{r:Nat}(hq:qm9 q r) :
 ∀ (as:List A) (j:Nat) (F:Fr) (f:A->A) (σ:Gh) (pend:List (qg×O)) (vs:List Value) (os:List O) (F':Fr),jl std kn q j F f as=some (os,F')->FR F σ w vt->Dom F σ pend →
  (∀ q' o',(q',o')∈pend->q'.1=r)->(∀ k,j<=k->k<j+as.length->ke σ (q k))->(∀ (k:Nat) (x:A),as[k]?=some x->∃ u,vs[k]?=some u/\qj w σ (f x) u) →
  os.length=as.length/\∃ σ' pend',Conv w vt q r j F σ pend vs os F' σ' pend':=by
 intro as
 induction as with
 | nil =>
   intro j F f σ pend vs os F' h hF hd hp hb hv
   simp [jl] at h
   obtain ⟨rfl,rfl⟩:=h
   exact ⟨rfl,σ,pend,hF,hd,qF.refl _ _,fun k o hk=>by simp at hk,fun q' o' h=>.inl h,fun p o v _ h=>h,fun g x h _=>h,rfl,rfl,fun q' _ _ h=>h⟩
 | cons x as ih =>
   intro j F f σ pend vs os F' h hF hd hp hb hv
   obtain ⟨u,hu0,hu⟩:=hv 0 x rfl
   obtain ⟨v0,vs',rfl⟩:∃ v0 vs',vs=v0::vs':=by
    cases vs with
    | nil=>simp at hu0
    | cons a b=>exact ⟨a,b,rfl⟩
   simp at hu0
   subst hu0
   simp only [jl] at h
   split at h
   . rename_i o ho
     split at h
     . rename_i os1 F2 hrec
       simp at h
       obtain ⟨rfl,rfl⟩:=h
       obtain ⟨hlen,σ',pend',hc⟩:=ih (j+1) F f σ pend vs' os1 F2 hrec hF hd hp (fun k hk hk'=>hb k (by omega) (by simp;omega)) (fun k y hk=>by simpa using hv (k+1) y (by simpa using hk))
       refine ⟨by simp [hlen],σ',pend',hc.fr,hc.dom,hc.goes,?_,?_,hc.old,hc.own,hc.tbl,hc.n,?_⟩
       . intro k o' hk
         cases k with
         | zero =>
           simp at hk
           subst hk
           exact ⟨v0,rfl,hc.old _ _ _ (hq.root j) (qfk ho hu)⟩
         | succ k =>
           obtain ⟨u',h1,h2⟩:=hc.rep k o' (by simpa using hk)
           exact ⟨u',by simpa using h1,by rw [show j+(k+1)=j+1+k by omega];exact h2⟩
       . intro q' o' hm
         rcases hc.pnd q' o' hm with h | ⟨k,h1,h2⟩
         . exact .inl h
         . exact .inr ⟨k+1,by simpa using h1,by rw [h2];congr 1;omega⟩
       . intro q' h1 h2 h3
         exact hc.bare q' h1 (fun k hk1 hk2=>h2 k (by omega) (by simp;omega)) h3
     . cases h
   . rename_i o p ho
     obtain ⟨hne,hat,hrep⟩:=qfN hF hd (fun q' o' hm=>by rw [hp q' o' hm,hq.root]) ho hu
     rw [hq.root] at hne
     split at h
     . rename_i os1 F2 hrec
       simp at h
       obtain ⟨rfl,rfl⟩:=h
       have hF1:=hF.lift (p:=p) (hb j (Nat.le_refl j) (by simp))
       have hd1:=hd.lift (q:=q j) (fun q' o' hm=>by rw [hp q' o' hm];exact fun e=>hne e.symm) (p:=p)
       rw [hat] at hd1
       have hold:∀ (p':qg) (o:O) (v:Value),p'.1=r->qo w σ p' o v->qo w (σ.tr (jf std p (q j))) p' o v:=fun p' o v h1 h2=>h2.stay (by rw [h1];exact hne)
       obtain ⟨hlen,σ',pend',hc⟩:=ih (j+1) (F.lift std p (q j)) (fun x=>(f x).tr (jf std p (q j))) _ _ vs' os1 F2 hrec hF1 hd1
        (fun q' o' hm=>by
          rcases List.mem_cons.1 hm with h | h
          . injection h with h1 h2;rw [h1,hq.root]
          . exact hp q' o' h)
        (fun k hk hk'=>(hb k (by omega) (by simp;omega)).lift (hq.apart j k (by omega)))
        (fun k y hk=>by
          obtain ⟨u',h1,h2⟩:=hv (k+1) y (by simpa using hk)
          exact ⟨u',by simpa using h1,h2.tr⟩)
       refine ⟨by simp [hlen],σ',pend',hc.fr,hc.dom,jD.trans hc.goes,?_,?_,?_,(fun g x hx hr=>hc.own g x (zp hx (Q7 fun hu=>hne (hu.1.symm.trans hr))) hr),?_,?_,?_⟩
       . intro k o' hk
         cases k with
         | zero =>
           simp at hk
           subst hk
           exact ⟨v0,rfl,hc.old _ _ _ (hq.root j) hrep.lift⟩
         | succ k =>
           obtain ⟨u',h1,h2⟩:=hc.rep k o' (by simpa using hk)
           exact ⟨u',by simpa using h1,by rw [show j+(k+1)=j+1+k by omega];exact h2⟩
       . intro q' o' hm
         rcases hc.pnd q' o' hm with h | ⟨k,h1,h2⟩
         . rcases List.mem_cons.1 h with h | h
           . injection h with h1 h2
             exact .inr ⟨0,by simp [h2],by simpa using h1⟩
           . exact .inl h
         . exact .inr ⟨k+1,by simpa using h1,by rw [h2];congr 1;omega⟩
       . intro p' o' v h1 h2
         exact hc.old p' o' v h1 (hold p' o' v h1 h2)
       . rw [hc.tbl]
         exact ku hne
       . rw [hc.n]
         exact V9
       . intro q' h1 h2 h3
         refine hc.bare q' h1 (fun k hk1 hk2=>h2 k (by omega) (by simp;omega)) ?_
         exact h3.lift (h2 j (Nat.le_refl j) (by simp))
     . cases h
   . cases h
end
end Go.Proofs.YtececadpjelanaaGreat.Ai
namespace Go.Proofs.YtececadpjelanaaGreat.Ai
open Go Go.RowKit
section
variable [qi] {P:Program} {T:Nat->Option Ty} {w w':World} {σ σ':Gh} {F:Fr} {vt:Nat->Value} {a:Act}
def upd (vt:Nat->Value)(d:Nat)(v:Value):Nat->Value:=fun t=>if d=t then v else vt t
theorem Ql {d:Nat}{v:Value}(h:d<a.tmps.size)(hd:d<PH):qC (a.put (some d) v)=upd (qC a) d v:=by
 funext t
 unfold qC upd Act.put
 simp only [Array.getD_eq_getD_getElem?]
 by_cases e:d=t
 . subst e;rw [if_pos hd,if_pos rfl];simp [Array.getElem?_setIfInBounds_self,h]
 . rw [if_neg e,Array.getElem?_setIfInBounds_ne e]
theorem FR.put (h:FR F σ w vt){d:Nat}{x:TV A}{v:Value}(hx:qN (fun _ _=>qj w σ) x v):FR (F.put d x) σ w (upd vt d v):=by
 refine ⟨h.inj,h.lt,h.old,h.tb,fun t=>?_⟩
 show qN _ (qa unT ((d,x)::F.tm) t) _
 rw [qp]
 unfold upd
 by_cases e:d=t
 . rw [if_pos e,if_pos e];exact hx
 . rw [if_neg e,if_neg e];exact h.tm t
theorem Dom.put {pend:List (qg×O)}(h:Dom F σ pend)(d:Nat)(x:TV A):Dom (F.put d x) σ pend:=h
structure kg [qi] (w w':World):Prop where
 os:w'.os=w.os
 tape:w'.tape=w.tape
 output:w'.output=w.output
 size:w.heap.size<=w'.heap.size
 heap:∀ b,b<w.heap.size->Qm b w.heap[b]? w'.heap[b]?
theorem qr.growK (hb:kg w w')(hσ:∀ g,g<w.heap.size->σ' g=σ g){c:C}{v:Value}(h:qr w σ c v):qr w' σ' c v :=
 h.move hb.size ⟨fun b hb' h0=>by rw [hσ b hb'];exact h0,fun b hb' _=>hb.heap b hb'⟩
theorem qo.growK (hb:kg w w')(hσ:∀ g,g<w.heap.size->σ' g=σ g){p:qg}{o:O}{v:Value}(h:qo w σ p o v):qo w' σ' p o v :=
 h.moveS hb.size ⟨fun b hb' h0=>by rw [hσ b hb'];exact h0,fun b hb' _=>hb.heap b hb'⟩ p (fun g s n cap sz hg hlt=>⟨hb.heap g hlt,by rw [hσ g hlt];exact hg⟩)
theorem qj.growK (hlt:∀ g x,σ g=some x->g<w.heap.size)(hb:kg w w')(hσ:∀ g,g<w.heap.size->σ' g=σ g){x:A}{v:Value}(h:qj w σ x v):qj w' σ' x v:=by
 have e:∀ g x,σ g=some x->σ' g=some x:=fun g x h=>by rw [hσ g (hlt g x h)];exact h
 induction h with
 | un v=>exact .un v
 | ud=>exact .ud
 | fz c v h=>exact .fz c v (h.growK hb hσ)
 | rf p off len g n cap sz hg hl hn=>exact .rf p off len g n cap sz (e _ _ hg) hl hn
 | rz p off b=>exact .rz p off b
 | pp p i j g n cap sz hg=>exact .pp p i j g n cap sz (e _ _ hg)
 | clo f caps vs us hl hm hr ih=>exact .clo f caps vs us hl hm ih
theorem qr.grow (hb:Below w.heap.size w w')(hσ:∀ g,g<w.heap.size->σ' g=σ g){c:C}{v:Value}(h:qr w σ c v):qr w' σ' c v :=
 h.move hb.size ⟨fun b hb' h0=>by rw [hσ b hb'];exact h0,fun b hb' _=>.inl (hb.block b hb')⟩
theorem qo.grow (hb:Below w.heap.size w w')(hσ:∀ g,g<w.heap.size->σ' g=σ g){p:qg}{o:O}{v:Value}(h:qo w σ p o v):qo w' σ' p o v :=
 h.move hb.size ⟨fun b hb' h0=>by rw [hσ b hb'];exact h0,fun b hb' _=>.inl (hb.block b hb')⟩ p (fun g s n cap sz hg hlt=>⟨hb.block g hlt,by rw [hσ g hlt];exact hg⟩)
theorem qj.grow (hlt:∀ g x,σ g=some x->g<w.heap.size)(hb:Below w.heap.size w w')(hσ:∀ g,g<w.heap.size->σ' g=σ g){x:A}{v:Value}(h:qj w σ x v):qj w' σ' x v:=by
 have e:∀ g x,σ g=some x->σ' g=some x:=fun g x h=>by rw [hσ g (hlt g x h)];exact h
 induction h with
 | un v=>exact .un v
 | ud=>exact .ud
 | fz c v h=>exact .fz c v (h.grow hb hσ)
 | rf p off len g n cap sz hg hl hn=>exact .rf p off len g n cap sz (e _ _ hg) hl hn
 | rz p off b=>exact .rz p off b
 | pp p i j g n cap sz hg=>exact .pp p i j g n cap sz (e _ _ hg)
 | clo f caps vs us hl hm hr ih=>exact .clo f caps vs us hl hm ih
theorem qQ.imp {α:Type}{R S:Nat->α->Value->Prop}(hf:∀ j a v,R j a v->S j a v){x:V1 α}{v:Value}(h:qQ R x v):qQ S x v:=by
 have:=qQ.map (S:=S) (f:=fun a=>a) hf h
 simpa using this
theorem qN.imp {α:Type}{R S:Nat->Nat->α->Value->Prop}(hf:∀ k j a v,R k j a v->S k j a v){x:TV α}{v:Value}(h:qN R x v):qN S x v:=by
 cases x with
 | v x=>exact qQ.imp (hf 0) h
 | tup xs =>
   obtain ⟨vs,rfl,h1,h2⟩:=h
   refine ⟨vs,rfl,h1,fun k x hk=>?_⟩
   obtain ⟨u,hu,hr⟩:=h2 k x hk
   exact ⟨u,hu,qQ.imp (hf k) hr⟩
theorem FR.grow (h:FR F σ w vt)(hb:Below w.heap.size w w')(hσ:∀ g,g<w.heap.size->σ' g=σ g)
 (hinj:∀ g g' x y,σ' g=some x->σ' g'=some y->x.p=y.p->g=g') (hlt:∀ g x,σ' g=some x->g<w'.heap.size):FR F σ' w' vt :=
 ⟨hinj,hlt,h.old.grow hb.size,fun id=>let ⟨v,hv⟩:=h.tb id;⟨v,hv.grow hb hσ⟩,fun t=>qN.imp (fun _ _ _ _ hr=>hr.grow h.lt hb hσ) (h.tm t)⟩
theorem FR.growK (h:FR F σ w vt)(hb:kg w w')(hσ:∀ g,g<w.heap.size->σ' g=σ g)
 (hinj:∀ g g' x y,σ' g=some x->σ' g'=some y->x.p=y.p->g=g') (hlt:∀ g x,σ' g=some x->g<w'.heap.size):FR F σ' w' vt :=
 ⟨hinj,hlt,h.old.grow hb.size,fun id=>let ⟨v,hv⟩:=h.tb id;⟨v,hv.growK hb hσ⟩,fun t=>qN.imp (fun _ _ _ _ hr=>hr.growK h.lt hb hσ) (h.tm t)⟩
theorem FR.addRoot (h:FR F σ w vt){id:Nat}{o:O}{v:Value}(hr:qo w σ (id,[]) o v):FR (F.root id o) σ w vt:=by
 refine ⟨h.inj,h.lt,h.old,fun t=>?_,h.tm⟩
 show ∃ v,qo w σ (t,[]) (qa .un ((id,o)::F.tb) t) v
 rw [qp]
 by_cases e:id=t
 . subst e;rw [if_pos rfl];exact ⟨v,hr⟩
 . rw [if_neg e];exact h.tb t
theorem Qd {id:Nat}{o:O}{x:qg}:(F.root id o).at std x=if id=x.1 then o.at std x.2 else F.at std x:=by
 unfold Fr.at Fr.root
 dsimp only
 rw [qp]
 by_cases e:id=x.1
 . rw [if_pos e,if_pos e]
 . rw [if_neg e,if_neg e]
def jn (σ:Gh)(g:Nat)(x:Own):Gh:=fun k=>if k=g then some x else σ k
theorem jZ (w:World)(o:Obj):Below w.heap.size w (w.alloc o):=(Below.refl _ w).alloc (Nat.le_refl _) o
theorem qbk {g:Nat}{x:Own}{k:Nat}(h:k<g):jn σ g x k=σ k:=by unfold jn;rw [if_neg (by omega)]
theorem Dom.addRoot {pend:List (qg×O)}(hd:Dom F σ pend){id:Nat}{o:O}(hun:qa .un F.tb id=.un)(hp:∀ q' o',(q',o')∈pend->q'.1=id/\o.at std q'.2=o'):Dom (F.root id o) σ []:=by
 intro g x hx
 left
 rw [Qd]
 rcases hd g x hx with h | ⟨q',o',s,h1,h2,h3⟩
 . by_cases e:id=x.p.1
   . exfalso
     unfold Fr.at at h
     rw [<-e,hun,kv] at h
     exact h
   . rw [if_neg e];exact h
 . obtain ⟨h4,h5⟩:=hp q' o' h1
   rw [h2,if_pos h4.symm]
   dsimp only
   rw [KD,h5]
   exact h3
theorem qaS (h:FR F σ w vt){pend:List (qg×O)}(hd:Dom F σ pend){id:Nat}(hun:qa .un F.tb id=.un)(cells:Array Value)(e:TypeId)(own:Own)(hown:own.p=(id,[])){o:O}{v:Value}
 (hp:∀ q' o',(q',o')∈pend->q'.1=id/\q'.2≠[]/\o.at std q'.2=o') (hfit:Fit o own.n)
 (hr:qo (w.alloc (.cells cells e)) (jn σ w.heap.size own) (id,[]) o v) :
 FR (F.root id o) (jn σ w.heap.size own) (w.alloc (.cells cells e)) vt/\Dom (F.root id o) (jn σ w.heap.size own) []/\qF w σ (w.alloc (.cells cells e)) (jn σ w.heap.size own):=by
 have hb:=jZ w (.cells cells e)
 have hσ:∀ g,g<w.heap.size->jn σ w.heap.size own g=σ g:=fun g hg=>qbk hg
 have hnone:∀ g x,σ g=some x->x.p≠(id,[]):=by
  intro g x hx he
  rcases hd g x hx with h1 | ⟨q',o',s,h1,h2,h3⟩
  . unfold Fr.at at h1
    rw [he] at h1
    dsimp only at h1
    rw [hun] at h1
    exact h1
  . obtain ⟨h4,h5,_⟩:=hp q' o' h1
    rw [he] at h2
    have:=congrArg Prod.snd h2
    simp at this
    exact h5 this.1
 have hg:FR F (jn σ w.heap.size own) (w.alloc (.cells cells e)) vt:=by
  refine h.grow hb hσ ?_ ?_
  . intro g g' x y hx hy he
    unfold jn at hx hy
    split at hx
    . injection hx with hx
      split at hy
      . rw [‹g=_›,‹g'=_›]
      . subst hx;rw [hown] at he;exact absurd he.symm (hnone g' y hy)
    . split at hy
      . injection hy with hy;subst hy;rw [hown] at he;exact absurd he (hnone g x hx)
      . exact h.inj g g' x y hx hy he
  . intro g x hx
    unfold jn at hx
    have hs:(w.alloc (.cells cells e)).heap.size=w.heap.size+1:=by simp
    split at hx
    . omega
    . have:=h.lt g x hx;omega
 refine ⟨hg.addRoot hr,?_,⟨⟨fun b hb' h0=>by rw [hσ b hb'];exact h0,fun b hb' _=>.inl (hb.block b hb')⟩,hb.size,rfl,rfl,rfl⟩⟩
 intro g x hx
 unfold jn at hx
 split at hx
 . injection hx with hx
   subst hx
   left
   rw [hown,Qd,if_pos rfl]
   exact hfit
 . exact Dom.addRoot hd hun (fun q' o' hm=>⟨(hp q' o' hm).1,(hp q' o' hm).2.2⟩) g x hx
theorem qbo (h:FR F σ w vt)(hd:Dom F σ []){id:Nat}(hbare:ke σ (id,[])):FR (F.root id (.osl [])) σ w vt/\Dom (F.root id (.osl [])) σ []:=by
 refine ⟨h.addRoot (.oslz (id,[]) none),?_⟩
 intro g x hx
 left
 rw [Qd]
 have:id≠x.p.1:=fun e=>hbare g x hx ⟨e.symm,x.p.2,rfl⟩
 rw [if_neg this]
 rcases hd g x hx with h | ⟨_,_,_,h,_⟩
 . exact h
 . cases h
theorem jv {id:Nat}:qa .un (F.clear std id).tb id=.un:=by
 unfold Fr.clear
 cases hh:has F.tb id with
 | true =>
   show qa .un (del F.tb id) id=.un
   rw [qM,if_pos rfl]
 | false=>exact jw hh
theorem Zj {id:Nat}:(F.clear std id).n=F.n:=by
 unfold Fr.clear
 cases has F.tb id<;>rfl
structure ZJ (P:Program)(F:Fr)(σ:Gh)(w:World)(a:Act)(d:Nat)(s:Sem Next)(F':Fr)(v:Value)(w':World)(σ':Gh):Prop where
 run:s.run P w=.ok (.value v) w'
 fr:FR F' σ' w' (upd (qC a) d v)
 dom:Dom F' σ' []
 goes:qF w σ w' σ'
 n:F'.n=F.n
theorem Jx (r:Nat)(s:List (Nat×Nat))(i:Nat):qm9 (qAt r s i) r:=by
 refine ⟨fun _=>rfl,?_⟩
 rintro j j' hne t ⟨_,u,hu⟩
 simp [qAt] at hu
 exact hne hu.1
theorem JN {x:TV A}{v:Value}{as:List A}(h:qN (fun _ _=>qj w σ) x v)(hc:x.cells=some as)(hok:okL as=true):v.cells.size=as.length/\∀ (k:Nat) (y:A),as[k]?=some y->∃ u,v.cells.toList[k]?=some u/\qj w σ y u:=by
 cases x with
 | v x =>
   simp [TV.cells] at hc
   subst hc
   obtain ⟨h1,h2⟩:=vU h hok
   exact ⟨h1,fun k y hk=>by simpa using h2 k y hk⟩
 | tup xs=>simp [TV.cells] at hc
mutual
theorem qmC (τ:qg->Option qg):(z:A)->(z.tr τ).ok=true->z.ok=true
 | .un,h=>h
 | .ud,h=>h
 | .fz _,h=>h
 | .rf ..,_=>rfl
 | .pp ..,_=>rfl
 | .clo g caps,h=>by simp only [A.tr,A.ok] at h ⊢;exact qjk τ caps h
theorem qjk (τ:qg->Option qg):(l:List A)->okL (A.trL τ l)=true->okL l=true
 | [],_=>rfl
 | z::l,h=>by
   simp only [A.trL,okL] at h ⊢
   cases ha:(z.tr τ).ok with
   | true=>rw [ha] at h;rw [qmC τ z ha];exact qjk τ l h
   | false=>rw [ha] at h;simp at h
end
theorem yb {kn:Bool}{q:Nat->qg}:∀ (as:List A) (j:Nat) (F:Fr) (f:A->A) (os:List O) (F':Fr),(∀ x,(f x).ok=true->x.ok=true)->jl std kn q j F f as=some (os,F')->okL as=true:=by
 intro as
 induction as with
 | nil=>intro j F f os F' _ _;rfl
 | cons x as ih =>
   intro j F f os F' hf h
   have hx:∀ o p,ZF std kn F (f x) (q j)=some (o,p)->x.ok=true:=by
    intro o p ho
    refine hf x ?_
    unfold ZF at ho
    split at ho
    . rename_i he;rw [he];rfl
    . cases ho
    . rename_i c h1 h2 he
      rw [he]
      cases c<;>first | rfl | exact absurd rfl h2
    . rename_i he;rw [he];rfl
    . rename_i he;rw [he];rfl
    . cases ho
   simp only [jl] at h
   simp only [okL]
   split at h
   . rename_i o ho
     rw [hx _ _ ho]
     split at h
     . rename_i os1 F2 hrec;exact ih _ _ _ _ _ hf hrec
     . cases h
   . rename_i o p ho
     rw [hx _ _ ho]
     split at h
     . rename_i os1 F2 hrec
       refine ih _ _ _ _ _ (fun y hy=>hf y ?_) hrec
       exact qmC _ _ hy
     . cases h
   . cases h
theorem qjX (hF:FR F σ w (qC a))(hd:Dom F σ []){kn:Bool}{d:Nat}{e:TypeId}{x:Operand}{F':Fr}(h:qjC std kn (F.clear std (rid d 0 0)) d x=some F'){o:Oper}(ho:o.op=.box e x) :
 ∃ v w' σ',ZJ P F σ w a d (execOp a.eval o) F' v w' σ':=by
 obtain ⟨σ1,hF1,hd1,hb1,hg1⟩:=hF.clear hd (rid d 0 0)
 unfold qjC at h
 split at h
 . rename_i as has
   split at h
   . rename_i os F2 hconv
     simp at h
     subst h
     have hok:=yb _ _ _ _ _ _ (fun _ h=>h) hconv
     obtain ⟨hl,hv⟩:=JN (zx hF1 x) has hok
     obtain ⟨hlen,σ2,pend,hc⟩:=QF (Jx (rid d 0 0) [] 0) as 0 _ _ σ1 [] (a.eval x).cells.toList os F2 hconv hF1 hd1 (by simp) (fun k _ _=>by
      rintro g y hy ⟨h1,s,h2⟩
      exact hb1 g y hy ⟨h1,y.p.2,rfl⟩) hv
     have hrep:qo (w.alloc (.cells (a.eval x).cells e)) (jn σ2 w.heap.size ⟨(rid d 0 0,[]),0,0,0⟩) (rid d 0 0,[]) (.obx os) (.pointer (some ⟨w.heap.size,0,none⟩)):=by
      refine .obx _ os w.heap.size e (a.eval x).cells (fun j=>((a.eval x).cells[j]?).getD undef) 0 0 0 (heap_alloc_new w _) (by rw [hl,hlen]) (by simp [jn]) ?_ ?_
      . intro j o hj
        obtain ⟨u,h1,_⟩:=hc.rep j o hj
        simp at h1
        simp [h1]
      . intro j o hj
        obtain ⟨u,h1,h2⟩:=hc.rep j o hj
        simp at h1
        simp only [h1,Option.getD_some]
        have:=h2.grow (σ':=jn σ2 w.heap.size ⟨(rid d 0 0,[]),0,0,0⟩) (jZ w (.cells (a.eval x).cells e)) (fun g hg=>qbk hg)
        simpa [qAt] using this
     obtain ⟨h1,h2,h3⟩:=qaS hc.fr hc.dom (by rw [hc.tbl];exact jv) (a.eval x).cells e ⟨(rid d 0 0,[]),0,0,0⟩ rfl (o:=.obx os) (v:=.pointer (some ⟨w.heap.size,0,none⟩)) (by
      intro q' o' hm
      rcases hc.pnd q' o' hm with h | ⟨k,h4,h5⟩
      . cases h
      . subst h5
        refine ⟨rfl,by simp [qAt],?_⟩
        simp [qAt,O.at,qq,h4]) trivial hrep
     refine ⟨.pointer (some ⟨w.heap.size,0,none⟩),_,_,?_,?_,h2,(hg1.trans hc.goes).trans h3,?_⟩
     . simp only [execOp,ho]
       simp only [Instr.box,newVar,newRow,Sem.run_bind,Sem.run_pure]
       rfl
     . refine h1.put ?_
       have:=qj.pp (w:=w.alloc (.cells (a.eval x).cells e)) (σ:=jn σ2 w.heap.size ⟨(rid d 0 0,[]),0,0,0⟩) (rid d 0 0,[]) 0 0 w.heap.size 0 0 0 (by simp [jn])
       exact this
     . show F2.n=F.n
       rw [hc.n,Zj]
   . cases h
 . cases h
end
end Go.Proofs.YtececadpjelanaaGreat.Ai
namespace Go.Proofs.YtececadpjelanaaGreat.Ai
open Go Go.RowKit
section
variable [qi] {P:Program} {T:Nat->Option Ty} {w w':World} {σ σ':Gh} {F:Fr} {vt:Nat->Value} {a:Act}
theorem qci {s:Sem Value}{v:Value}(h:s.run P w=.ok v w'):(do pure (.value (← s)):Sem Next).run P w=.ok (.value v) w':=by
 simp only [Sem.run_bind,h,Result.andThen,Sem.run_pure]
theorem FR.clearK (h:FR F σ w vt)(hd:Dom F σ [])(id:Nat):∃ σ',FR (F.clear std id) σ' w vt/\Dom (F.clear std id) σ' []/\ke σ' (id,[])/\qF w σ w σ'/\∀ g x,σ g=some x->x.p.1≠id->σ' g=some x:=by
 unfold Fr.clear
 cases hh:has F.tb id with
 | true=>exact ⟨_,h.drop _,hd.drop _,Qe _,jD,fun g x hx hne=>zp hx (zi fun hu=>hne hu.1)⟩
 | false =>
   obtain ⟨σ',h1,h2,h3,h4⟩:=h.clear hd id
   have e:F.clear std id=F:=by unfold Fr.clear;rw [hh]
   rw [e] at h1 h2
   refine ⟨σ,h,hd,?_,qF.refl _ _,fun g x hx _=>hx⟩
   intro g x hx hu
   rcases hd g x hx with h5 | ⟨_,_,_,h5,_⟩
   . unfold Fr.at at h5
     rw [hu.1] at h5
     dsimp only at h5
     rw [jw hh,kv] at h5
     exact h5
   . cases h5
theorem qjS {id:Nat}{p:qg}(h:p.1≠id):(F.clear std id).at std p=F.at std p:=by
 unfold Fr.clear
 cases hh:has F.tb id with
 | true =>
   show O.at std (qa .un (del F.tb id) p.1) p.2=_
   rw [qM,if_neg (Ne.symm h)]
   rfl
 | false=>rfl
theorem Q0 (hF:FR F σ w (qC a))(hd:Dom F σ []){d:Nat}{v:Value}{s:Sem Next}(hs:s.run P w=.ok (.value v) w){x:TV A}(hx:qN (fun _ _=>qj w σ) x v) :
 ∃ v w' σ',ZJ P F σ w a d s (F.put d x) v w' σ':=⟨v,w,σ,hs,hF.put hx,hd.put d x,qF.refl _ _,rfl⟩
theorem qg1 (hF:FR F σ w (qC a))(hd:Dom F σ []){d:Nat}{b:Option Addr}{s:Sem Next}(hs:s.run P w=.ok (.value (.slice b 0 0)) w) :
 ∃ v w' σ',ZJ P F σ w a d s (F.putQ std d .mt) v w' σ':=by
 obtain ⟨σ1,hF1,hd1,hb1,hg1⟩:=hF.clear hd (rid d 0 0)
 obtain ⟨h1,h2⟩:=qbo hF1 hd1 hb1
 refine ⟨_,w,σ1,hs,?_,?_,hg1,?_⟩
 . exact h1.put (show qN _ _ _ from qj.rz _ _ _)
 . exact h2
 . exact Zj
theorem qng (hF:FR F σ w (qC a))(hd:Dom F σ []){d:Nat}{v:Value}{s:Sem Next}(hs:s.run P w=.ok (.value v) w){q:QR}(hq:qhq w σ q v) :
 ∃ v w' σ',ZJ P F σ w a d s (F.putQ std d q) v w' σ':=by
 cases q with
 | val x=>exact Q0 hF hd hs hq
 | mt =>
   obtain ⟨b,rfl⟩:=hq
   exact qg1 hF hd hs
theorem Kv {id:Nat}{xs:List (List O)}{v:Value}(h:qo w σ (id,[]) (.osl xs) v):qN (fun _ _=>qj w σ) (rfV id xs.length) v:=Zq h
theorem qcz (hF:FR F σ w (qC a))(hd:Dom F σ []){d:Nat}{v:Value}{s:Sem Next}(hs:s.run P w=.ok (.value v) w){x:TV A}(hx:qN (fun _ _=>qj w σ) x v){F':Fr}(h:j9 std F d x=some F') :
 ∃ v w' σ',ZJ P F σ w a d s F' v w' σ':=by
 unfold j9 at h
 split at h
 . rename_i id off len
   split at h
   . rename_i xs hid hxs
     split at h
     . simp at h;subst h
       exact Q0 hF hd hs hx
     . cases h
   . rename_i xs hid hxs
     split at h
     . rename_i hw
       simp [std] at hw
       obtain ⟨rfl,rfl⟩:=hw
       simp at h
       subst h
       have hne:id≠rid d 0 0:=fun e=>by rw [e] at hid;simp at hid
       obtain ⟨σ1,hF1,hd1,hb1,hg1,hk1⟩:=hF.clearK hd (rid d 0 0)
       have hx1:qj w σ1 (.rf (id,[]) 0 xs.length) v:=by
        have hx':qj w σ (.rf (id,[]) 0 xs.length) v:=hx
        generalize hlen:xs.length=len at hx' ⊢
        cases hx' with
        | rf _ _ _ g n cap sz hg hl hn=>exact .rf _ _ _ g n cap sz (hk1 _ _ hg hne) hl hn
        | rz _ _ b=>exact .rz _ _ b
       have hat:(F.clear std (rid d 0 0)).at std (id,[])=.osl xs:=by rw [qjS hne];exact hxs
       have hwh:=ZR hF1 hd1 (fun _ _ h=>by cases h) hat hx1
       have hl:=hF1.lift (p:=(id,[])) hb1
       have hD:=hd1.lift (p:=(id,[])) (q:=(rid d 0 0,[])) (fun _ _ h=>by cases h)
       have hr:=hwh.lift (q:=(rid d 0 0,[]))
       refine ⟨v,w,_,hs,(hl.addRoot hr).put (Kv hr),?_,hg1.trans jD,?_⟩
       . have:=Dom.addRoot (id:=rid d 0 0) (o:=.osl xs) hD (by
          show qa .un (Fr.less std _ _).tb _=_
          rw [ku (p:=(id,[])) hne];exact jv) (by
          intro q' o' hm
          simp at hm
          obtain ⟨rfl,rfl⟩:=hm
          exact ⟨rfl,hat.symm⟩)
         exact this
       . show (Fr.less std _ _).n=F.n
         rw [V9,Zj]
     . simp at h;subst h
       exact Q0 hF hd hs hx
   . simp at h;subst h
     exact Q0 hF hd hs hx
 . simp at h;subst h
   exact Q0 hF hd hs hx
theorem qjA (hF:FR F σ w (qC a))(hd:Dom F σ []){kn:Bool}{d:Nat}{v:Value}{s:Sem Next}(hs:s.run P w=.ok (.value v) w){x:TV A}(hx:qN (fun _ _=>qj w σ) x v){F':Fr}(h:qeW std kn F d x=some F') :
 ∃ v w' σ',ZJ P F σ w a d s F' v w' σ':=by
 unfold qeW at h
 split at h
 . split at h
   . simp at h;subst h
     exact Q0 hF hd hs hx
   . simp at h;subst h
     have hx':qj w σ (.fz .nilsl) v:=hx
     obtain rfl:=hx'.fz_inv.nil_inv
     exact qg1 hF hd hs
 . exact qcz hF hd hs hx h
theorem qil (kn:Bool):∀ (l:List C) (j:Nat),(zN kn l)[j]?=(l[j]?).map fun c=>match c with | .nilsl=>(match kn with | true=>O.fz .nilsl | false=>.osl []) | c=>.fz c:=by
 intro l
 induction l with
 | nil=>intro j;rfl
 | cons c l ih =>
   intro j
   cases j with
   | zero=>cases c<;>rfl
   | succ j =>
     have:(zN kn (c::l))[j+1]?=(zN kn l)[j]?:=by cases c<;>rfl
     rw [this,ih j];rfl
theorem J3 (kn:Bool)(l:List C):(zN kn l).length=l.length:=by
 induction l with
 | nil=>rfl
 | cons c l ih=>cases c<;>simp [zN,ih]
theorem wP {kn:Bool}{cs:List Value}(hn:Q6 (cs.map jU)=true){j:Nat}{o:O}(hj:(zN kn (cs.map jU))[j]?=some o)(w:World)(σ:Gh)(p:qg):∃ u,cs[j]?=some u/\qo w σ p o u:=by
 rw [qil,List.getElem?_map] at hj
 cases hu:cs[j]? with
 | none=>rw [hu] at hj;simp at hj
 | some u =>
   rw [hu] at hj
   simp at hj
   refine ⟨u,rfl,?_⟩
   have hne:jU u≠.un:=qhh hn _ (List.mem_map_of_mem (List.mem_of_getElem? hu))
   have hr:qr w σ (jU u) u:=by
    rcases Ke (w:=w) (σ:=σ) u with h | h
    . exact h.fz_inv
    . exact absurd h hne
   subst hj
   split
   . rename_i he
     rw [he] at hr
     obtain rfl:=hr.nil_inv
     cases kn with
     | true=>exact .fz _ _ _ .nilsl
     | false=>exact .oslz _ _
   . exact .fz _ _ _ hr
theorem qe2 (hT:ka P T)(hF:FR F σ w (qC a))(hd:Dom F σ []){kn:Bool}{d:Nat}{e:TypeId}{ty:Ty}(ht:T e=some ty)(hn:Q6 ty.zero=true){o:Oper}(ho:o.op=.alloc e) :
 ∃ v w' σ',ZJ P F σ w a d (execOp a.eval o) (((F.clear std (rid d 0 0)).root (rid d 0 0) (.obx (zN kn ty.zero))).put d (ppV (rid d 0 0))) v w' σ':=by
 obtain ⟨i,u,z,hi,hu,hz,rfl⟩:=qz (hT _ _ ht)
 dsimp only at hn ⊢
 obtain ⟨σ1,hF1,hd1,hb1,hg1⟩:=hF.clear hd (rid d 0 0)
 have hrep:qo (w.alloc (.cells z.cells e)) (jn σ1 w.heap.size ⟨(rid d 0 0,[]),0,0,0⟩) (rid d 0 0,[]) (.obx (zN kn (z.cells.toList.map jU))) (.pointer (some ⟨w.heap.size,0,none⟩)):=by
  refine .obx _ _ w.heap.size e z.cells (fun j=>(z.cells[j]?).getD undef) 0 0 0 (heap_alloc_new w _) (by rw [J3];simp) (by simp [jn]) ?_ ?_
  . intro j o hj
    obtain ⟨u,h1,_⟩:=wP hn hj w σ (0,[])
    simp at h1
    simp [h1]
  . intro j o hj
    obtain ⟨u,h1,h2⟩:=wP hn hj (w.alloc (.cells z.cells e)) (jn σ1 w.heap.size ⟨(rid d 0 0,[]),0,0,0⟩) (rid d 0 0,[]++[(0,j)])
    simp at h1
    simp only [h1,Option.getD_some]
    exact h2
 obtain ⟨h1,h2,h3⟩:=qaS hF1 hd1 jv z.cells e ⟨(rid d 0 0,[]),0,0,0⟩ rfl (o:=.obx (zN kn (z.cells.toList.map jU))) (v:=.pointer (some ⟨w.heap.size,0,none⟩)) (fun _ _ h=>by cases h) trivial hrep
 refine ⟨.pointer (some ⟨w.heap.size,0,none⟩),_,_,?_,?_,h2,hg1.trans h3,?_⟩
 . simp only [execOp,ho]
   simp only [Instr.alloc,zeroValue,typeInfo,newVar,newRow,Sem.run_bind,Sem.run_pure]
   simp [hi,hz]
 . refine h1.put ?_
   have:=qj.pp (w:=w.alloc (.cells z.cells e)) (σ:=jn σ1 w.heap.size ⟨(rid d 0 0,[]),0,0,0⟩) (rid d 0 0,[]) 0 0 w.heap.size 0 0 0 (by simp [jn])
   exact this
 . exact Zj
end
end Go.Proofs.YtececadpjelanaaGreat.Ai
namespace Go.Proofs.YtececadpjelanaaGreat.Ai
open Go Go.RowKit
section
variable [qi] {P:Program} {T:Nat->Option Ty} {w w':World} {σ σ':Gh} {F:Fr} {vt:Nat->Value} {a:Act}
structure Rows (w:World)(vt:Nat->Value)(r sz i:Nat)(F:Fr)(σ:Gh)(pend:List (qg×O))(vs:List Value)(ys:List (List O))(F':Fr)(σ':Gh)(pend':List (qg×O)):Prop where
 fr:FR F' σ' w vt
 dom:Dom F' σ' pend'
 goes:qF w σ w σ'
 size:∀ y∈ys,y.length=sz
 rep:∀ (k:Nat) (y:List O),ys[k]?=some y->∃ v,vs[k]?=some v/\v.cells.size=sz/\∀ (j:Nat) (o:O),y[j]?=some o->∃ u,v.cells[j]?=some u/\qo w σ' (r,[(i+k,j)]) o u
 pnd:∀ q' o',(q',o')∈pend'->(q',o')∈pend\/∃ (k j:Nat) (y:List O),ys[k]?=some y/\y[j]?=some o'/\q'=(r,[(i+k,j)])
 old:∀ (p:qg) (o:O) (v:Value),p.1=r->qo w σ p o v->qo w σ' p o v
 tbl:qa .un F'.tb r=qa .un F.tb r
 n:F'.n=F.n
theorem qag {kn:Bool}{r sz:Nat}:∀ (parts:List (Nat×Operand)) (i:Nat) (F:Fr) (σ:Gh) (pend:List (qg×O)) (ys:List (List O)) (F':Fr),QT std kn r sz i F parts=some (ys,F')->FR F σ w (qC a)->Dom F σ pend →
 (∀ q' o',(q',o')∈pend->q'.1=r)->(∀ k j,i<=k->ke σ (r,[(k,j)])) →
 ys.length=parts.length/\(∀ (k:Nat) (x:Nat×Operand),parts[k]?=some x->x.1=i+k)/\∃ σ' pend',Rows w (qC a) r sz i F σ pend (parts.map fun x=>a.eval x.2) ys F' σ' pend':=by
 intro parts
 induction parts with
 | nil =>
   intro i F σ pend ys F' h hF hd hp hb
   simp [QT] at h
   obtain ⟨rfl,rfl⟩:=h
   exact ⟨rfl,fun k x hk=>by simp at hk,σ,pend,hF,hd,qF.refl _ _,(fun y hy=>by cases hy),fun k y hk=>by simp at hk,fun q' o' h=>.inl h,fun p o v _ h=>h,rfl,rfl⟩
 | cons part parts ih =>
   intro i F σ pend ys F' h hF hd hp hb
   obtain ⟨i',x⟩:=part
   simp only [QT] at h
   split at h
   . rename_i g as hi hev
     have hi':i'=i:=Nat.eq_of_beq_eq_true hi
     subst hi'
     split at h
     . rename_i hsz
       rw [kf] at hsz
       have hsz:=Nat.eq_of_beq_eq_true hsz
       split at h
       . rename_i os F1 hconv
         split at h
         . rename_i ys2 F2 hrec
           simp at h
           obtain ⟨rfl,rfl⟩:=h
           have hok:=yb _ _ _ _ _ _ (fun _ h=>h) hconv
           have hx:=zx hF x
           rw [hev] at hx
           obtain ⟨hl,hv⟩:=JN hx rfl hok
           have hgoal:qm9 (qAt r [] i') r:=Jx r [] i'
           obtain ⟨hlen,σ1,pend1,hc⟩:=QF hgoal as 0 _ _ σ pend (a.eval x).cells.toList os F1 hconv hF hd hp (fun k _ _=>hb i' k (Nat.le_refl _)) hv
           have hp1:∀ q' o',(q',o')∈pend1->q'.1=r:=by
            intro q' o' hm
            rcases hc.pnd q' o' hm with h | ⟨k,_,h⟩
            . exact hp q' o' h
            . rw [h];rfl
           have hb1:∀ k j,i'+1<=k->ke σ1 (r,[(k,j)]):=by
            intro k j hk
            refine hc.bare _ rfl ?_ (hb k j (by omega))
            rintro m _ _ s ⟨_,t,ht⟩
            simp [qAt] at ht
            omega
           obtain ⟨h1,h2,σ2,pend2,hR⟩:=ih (i'+1) F1 σ1 pend1 ys2 F2 hrec hc.fr hc.dom hp1 hb1
           refine ⟨by simp [h1],?_,σ2,pend2,?_⟩
           . intro k y hk
             cases k with
             | zero=>simp at hk;subst hk;rfl
             | succ k=>simp at hk;rw [h2 k y hk];omega
           . refine ⟨hR.fr,hR.dom,hc.goes.trans hR.goes,?_,?_,?_,fun p o v hp h=>hR.old p o v hp (hc.old p o v hp h),hR.tbl.trans hc.tbl,hR.n.trans hc.n⟩
             . intro y hy
               rcases List.mem_cons.1 hy with rfl | hy
               . rw [hlen,hsz]
               . exact hR.size y hy
             . intro k y hk
               cases k with
               | zero =>
                 simp at hk;subst hk
                 refine ⟨a.eval x,rfl,by rw [hl,hsz],?_⟩
                 intro j o hj
                 obtain ⟨u,h3,h4⟩:=hc.rep j o hj
                 refine ⟨u,by simpa using h3,?_⟩
                 have h5:=hR.old _ _ _ rfl h4
                 simpa [qAt] using h5
               | succ k =>
                 simp at hk
                 obtain ⟨v,h3,h4,h5⟩:=hR.rep k y hk
                 refine ⟨v,by simpa using h3,h4,?_⟩
                 intro j o hj
                 obtain ⟨u,h6,h7⟩:=h5 j o hj
                 refine ⟨u,h6,?_⟩
                 have e:i'+1+k=i'+(k+1):=by omega
                 rw [e] at h7
                 exact h7
             . intro q' o' hm
               rcases hR.pnd q' o' hm with h | ⟨k,j,y,h3,h4,h5⟩
               . rcases hc.pnd q' o' h with h | ⟨k,h3,h4⟩
                 . exact .inl h
                 . refine .inr ⟨0,k,os,rfl,h3,?_⟩
                   rw [h4];simp [qAt]
               . refine .inr ⟨k+1,j,y,by simpa using h3,h4,?_⟩
                 rw [h5]
                 have e:i'+1+k=i'+(k+1):=by omega
                 rw [e]
         . cases h
       . cases h
     . cases h
   . cases h
theorem qhF (sz:Nat):∀ (ps:List (Nat×Value)) (i:Nat) (cs:Array Value),(∀ (k:Nat) (x:Nat×Value),ps[k]?=some x->x.1=i+k/\x.2.cells.size=sz)->(i+ps.length) * sz<=cs.size →
 ∃ cs',Instr.fill (fun i=>some (i * sz,sz)) cs ps=some cs'/\cs'.size=cs.size/\(∀ m,m<i * sz->cs'[m]?=cs[m]?)/\∀ (k:Nat) (x:Nat×Value) (j:Nat),ps[k]?=some x->j<sz->cs'[(i+k) * sz+j]?=x.2.cells[j]?:=by
 intro ps
 induction ps with
 | nil=>intro i cs _ _;exact ⟨cs,rfl,rfl,fun _ _=>rfl,fun k x j hk=>by simp at hk⟩
 | cons p ps ih =>
   intro i cs hp hb
   obtain ⟨i',v⟩:=p
   obtain ⟨h1,h2⟩:=hp 0 _ rfl
   simp at h1 h2
   subst h1
   have hfold:=qcy (i' * sz) v.cells.toList 0 cs (by
    simp [h2]
    have:(i'+1) * sz<=cs.size:=Nat.le_trans (Nat.mul_le_mul_right _ (by simp)) hb
    rw [Nat.add_mul] at this;omega)
   have hz:v.cells.zipIdx.toList=v.cells.toList.zipIdx 0:=by simp
   have hfold':∀ j:Nat,(v.cells.zipIdx.foldl (fun cs (x:Value×Nat)=>cs.setIfInBounds (i' * sz+x.2) x.1) cs)[j]?=if i' * sz<=j/\j<i' * sz+sz then v.cells[j-i' * sz]? else cs[j]?:=by
    intro j
    rw [<-Array.foldl_toList,hz,hfold j]
    simp [h2]
   have hs':(v.cells.zipIdx.foldl (fun cs (x:Value×Nat)=>cs.setIfInBounds (i' * sz+x.2) x.1) cs).size=cs.size:=by
    rw [<-Array.foldl_toList,YF]
   obtain ⟨cs',h3,h4,h5,h6⟩:=ih (i'+1) (v.cells.zipIdx.foldl (fun cs (x:Value×Nat)=>cs.setIfInBounds (i' * sz+x.2) x.1) cs) (by
    intro k x hk
    have:=hp (k+1) x (by simpa using hk)
    omega) (by rw [hs'];simp at hb;have:i'+1+ps.length=i'+(ps.length+1):=by omega
               rw [this];exact hb)
   refine ⟨cs',?_,h4.trans hs',?_,?_⟩
   . have hle:¬(i' * sz+v.cells.size > cs.size):=by
      rw [h2]
      have:(i'+1) * sz<=cs.size:=Nat.le_trans (Nat.mul_le_mul_right _ (by simp)) hb
      rw [Nat.add_mul] at this;omega
     unfold Instr.fill
     dsimp only
     rw [if_neg (by rw [h2] at hle ⊢;simp;omega)]
     exact h3
   . intro m hm
     rw [h5 m (by rw [Nat.add_mul];omega),hfold' m,if_neg (by omega)]
   . intro k x j hk hj
     cases k with
     | zero =>
       simp at hk;subst hk
       rw [h5 _ (by rw [Nat.add_mul,Nat.add_mul];omega),hfold',if_pos (by simp;omega)]
       simp
     | succ k =>
       simp at hk
       have:=h6 k x j hk hj
       have e:i'+1+k=i'+(k+1):=by omega
       rw [e] at this
       exact this
theorem Zp (h:FR F σ w vt)(o:Obj):FR F σ (w.alloc o) vt/\qF w σ (w.alloc o) σ:=by
 have hb:=jZ w o
 refine ⟨h.grow hb (fun _ _=>rfl) h.inj (fun g x hx=>?_),⟨⟨fun _ _ h=>h,fun b hb' _=>.inl (hb.block b hb')⟩,hb.size,rfl,rfl,rfl⟩⟩
 have:=h.lt g x hx
 have hs:(w.alloc o).heap.size=w.heap.size+1:=by simp
 omega
theorem qdu (hF:FR F σ w vt){pend:List (qg×O)}(hd:Dom F σ pend){id:Nat}(hun:qa .un F.tb id=.un){ys:List (List O)}{sz cap:Nat}{e:TypeId}{cells:Array Value}
 (hne:0<ys.length) (hcap:ys.length<=cap) (hmax:cap<=maxLen) (hsz:cells.size=cap * sz) (hys:∀ y∈ys,y.length=sz)
 (hp:∀ q' o',(q',o')∈pend->∃ (k j:Nat) (y:List O),ys[k]?=some y/\y[j]?=some o'/\q'=(id,[(k,j)]))
 (hrep:∀ (k:Nat) (y:List O) (j:Nat) (o:O),ys[k]?=some y->y[j]?=some o->∃ u,cells[k * sz+j]?=some u/\qo w σ (id,[(k,j)]) o u) :
 qo (w.alloc (.cells cells e)) (jn σ w.heap.size ⟨(id,[]),ys.length,cap,sz⟩) (id,[]) (.osl ys) (.slice (some ⟨w.heap.size,0,none⟩) ys.length cap) ∧
 FR (F.root id (.osl ys)) (jn σ w.heap.size ⟨(id,[]),ys.length,cap,sz⟩) (w.alloc (.cells cells e)) vt/\Dom (F.root id (.osl ys)) (jn σ w.heap.size ⟨(id,[]),ys.length,cap,sz⟩) [] ∧
  qF w σ (w.alloc (.cells cells e)) (jn σ w.heap.size ⟨(id,[]),ys.length,cap,sz⟩):=by
 have hr:qo (w.alloc (.cells cells e)) (jn σ w.heap.size ⟨(id,[]),ys.length,cap,sz⟩) (id,[]) (.osl ys) (.slice (some ⟨w.heap.size,0,none⟩) ys.length cap):=by
  refine .osl _ ys e sz w.heap.size cap cells (fun i j=>(cells[i * sz+j]?).getD undef) (heap_alloc_new w _) ⟨hne,hcap⟩ hmax hsz hys (by simp [jn]) ?_ ?_
  . intro i j y o hi hj
    obtain ⟨u,h1,_⟩:=hrep i y j o hi hj
    simp [h1]
  . intro i j y o hi hj
    obtain ⟨u,h1,h2⟩:=hrep i y j o hi hj
    simp only [h1,Option.getD_some]
    have:=h2.grow (σ':=jn σ w.heap.size ⟨(id,[]),ys.length,cap,sz⟩) (jZ w (.cells cells e)) (fun g hg=>qbk hg)
    simpa using this
 refine ⟨hr,qaS hF hd hun cells e ⟨(id,[]),ys.length,cap,sz⟩ rfl (o:=.osl ys) (v:=.slice (some ⟨w.heap.size,0,none⟩) ys.length cap) ?_ ⟨rfl,hne⟩ hr⟩
 intro q' o' hm
 obtain ⟨k,j,y,h1,h2,rfl⟩:=hp q' o' hm
 refine ⟨rfl,by simp,?_⟩
 simp [O.at,std,h1,qq,h2]
theorem qer (hT:ka P T)(hF:FR F σ w (qC a))(hd:Dom F σ []){kn:Bool}{d t e len:Nat}{ty:Ty}{g1:Bool}{g2 g3:Nat}{g4:List C}(ht:T t=some ⟨.sl e,g1,g2,g3,g4⟩)(hte:T e=some ty){parts:List (Nat×Operand)}(hl:parts.length=len)(hmx:len<=4096)
 (hz0:0<ty.size) (hz1:ty.size<=4096) {ys:List (List O)} {F2:Fr} (hb:QT std kn (rid d 0 0) ty.size 0 (F.clear std (rid d 0 0)) parts=some (ys,F2)) {o:Oper} (ho:o.op=.buildSlice t len ⟨parts⟩) :
 ∃ v w' σ',ZJ P F σ w a d (execOp a.eval o) ((F2.root (rid d 0 0) (.osl ys)).put d (rfV (rid d 0 0) len)) v w' σ':=by
 obtain ⟨i,u,z,hi,hu,hz,hty⟩:=qz (hT _ _ ht)
 injection hty with hk _ _ _ _
 have hu':=ja hk.symm
 subst hu'
 obtain ⟨i',u',z',hi',hu',hz',rfl⟩:=qz (hT _ _ hte)
 dsimp only at hz0 hz1 hb ⊢
 obtain ⟨σ1,hF1,hd1,hb1,hg1⟩:=hF.clear hd (rid d 0 0)
 obtain ⟨h1,h2,σ2,pend,hR⟩:=qag parts 0 _ σ1 [] ys F2 hb hF1 hd1 (fun _ _ h=>by cases h) (by
  rintro k j _ g y hy ⟨h3,s,h4⟩
  exact hb1 g y hy ⟨h3,y.p.2,rfl⟩)
 have hvs:∀ (k:Nat) (x:Nat×Value),(parts.map fun x=>(x.1,a.eval x.2))[k]?=some x->x.1=0+k/\x.2.cells.size=i'.size:=by
  intro k x hk
  rw [List.getElem?_map] at hk
  cases hp:parts[k]? with
  | none=>rw [hp] at hk;simp at hk
  | some p =>
    rw [hp] at hk;simp at hk;subst hk
    refine ⟨h2 k p hp,?_⟩
    have hlt:k<ys.length:=by
     rw [h1];rcases Nat.lt_or_ge k parts.length with h | h
     . exact h
     . rw [List.getElem?_eq_none h] at hp;cases hp
    obtain ⟨v,h3,h4,_⟩:=hR.rep k ys[k] (List.getElem?_eq_getElem hlt)
    rw [List.getElem?_map,hp] at h3
    simp at h3;subst h3
    exact h4
 obtain ⟨cs',h3,h4,_,h6⟩:=qhF i'.size (parts.map fun x=>(x.1,a.eval x.2)) 0 ((Array.range (len * i'.size)).map ((if len * i'.size=0 then #[] else z'.cells)[· % (if len * i'.size=0 then #[] else z'.cells).size]!)) hvs (by simp [hl])
 have hrun:(execOp a.eval o).run P w=.ok (.value (.slice (some ⟨w.heap.size,0,none⟩) len len)) (w.alloc (.cells cs' e)):=by
  simp only [execOp,ho]
  refine qci ?_
  have hle:¬(len * i'.size > 2 ^ 24):=by
   have:=Nat.mul_le_mul hmx hz1
   omega
  have hm:(Array.map (fun x=>(x.1,a.eval x.2)) ⟨parts⟩:Array (Nat×Value)).toList=parts.map fun x=>(x.1,a.eval x.2):=by simp
  by_cases h0:len * i'.size=0
  . rw [if_pos h0] at h3
    simp only [Instr.buildSlice,Sem.run_bind,run_underlying hu,sizeOf,typeInfo]
    simp [hi',h0,newRow,hle] at h3 ⊢
    simp [h3]
  . rw [if_neg h0] at h3
    simp only [Instr.buildSlice,Sem.run_bind,run_underlying hu,sizeOf,typeInfo]
    simp [hi',h0,newRow,hle,zeroValue,typeInfo,hz'] at h3 ⊢
    simp [h3]
 have hyl:ys.length=len:=h1.trans hl
 have hrep:∀ (k:Nat) (y:List O) (j:Nat) (o:O),ys[k]?=some y->y[j]?=some o->∃ u,cs'[k * i'.size+j]?=some u/\qo w σ2 (rid d 0 0,[(k,j)]) o u:=by
  intro k y j o hk hj
  obtain ⟨v,h7,h8,h9⟩:=hR.rep k y hk
  obtain ⟨u,h10,h11⟩:=h9 j o hj
  have hp:∃ p,(parts.map fun x=>(x.1,a.eval x.2))[k]?=some (p,v):=by
   rw [List.getElem?_map] at h7 ⊢
   cases hp:parts[k]? with
   | none=>rw [hp] at h7;simp at h7
   | some p=>rw [hp] at h7;simp at h7;exact ⟨p.1,by simp [h7]⟩
  obtain ⟨p,hp⟩:=hp
  have hjs:j<i'.size:=by
   rcases Nat.lt_or_ge j y.length with h | h
   . rw [hR.size y (List.mem_of_getElem? hk)] at h;exact h
   . rw [List.getElem?_eq_none h] at hj;cases hj
  have:=h6 k _ j hp hjs
  simp only [Nat.zero_add] at this h11
  exact ⟨u,this.trans h10,h11⟩
 have htbl:qa .un F2.tb (rid d 0 0)=.un:=hR.tbl.trans jv
 have hn:F2.n=F.n:=hR.n.trans Zj
 cases hys:ys with
 | nil =>
   subst hys
   simp at hyl
   subst hyl
   have hpe:∀ q' o',(q',o')∈pend->False:=by
    intro q' o' hm
    rcases hR.pnd q' o' hm with h | ⟨k,j,y,h,_⟩
    . cases h
    . simp at h
   have hd2:Dom F2 σ2 []:=by
    intro g x hx
    rcases hR.dom g x hx with h | ⟨q',o',s,h,_⟩
    . exact .inl h
    . exact (hpe _ _ h).elim
   obtain ⟨hF3,hg3⟩:=Zp hR.fr (.cells cs' e)
   have hbare:ke σ2 (rid d 0 0,[]):=by
    rintro g x hx ⟨h7,_⟩
    rcases hd2 g x hx with h | ⟨_,_,_,h,_⟩
    . unfold Fr.at at h
      rw [h7] at h
      dsimp only at h
      rw [htbl,kv] at h
      exact h
    . cases h
   obtain ⟨h7,h8⟩:=qbo hF3 hd2 hbare
   exact ⟨_,_,σ2,hrun,h7.put (show qN _ _ _ from qj.rz _ _ _),h8,(hg1.trans hR.goes).trans hg3,hn⟩
 | cons y0 ys0 =>
   rw [<-hys]
   obtain ⟨hr,h7,h8,h9⟩:=qdu (e:=e) (cells:=cs') (cap:=ys.length) (sz:=i'.size) hR.fr hR.dom htbl (by rw [hys];simp) (Nat.le_refl _) (by rw [hyl];simp only [maxLen];omega)
    (by rw [h4,hyl];simp) hR.size (by
      intro q' o' hm
      rcases hR.pnd q' o' hm with h | ⟨k,j,y,h,h',h''⟩
      . cases h
      . exact ⟨k,j,y,h,h',by simpa using h''⟩) hrep
   have hrf:=Kv hr
   rw [hyl] at hrf hr h7 h8 h9
   rw [<-hyl] at hrun
   rw [hyl] at hrun
   exact ⟨_,_,_,hrun,h7.put hrf,h8,(hg1.trans hR.goes).trans h9,hn⟩
end
end Go.Proofs.YtececadpjelanaaGreat.Ai
namespace Go.Proofs.YtececadpjelanaaGreat.Ai
open Go Go.RowKit
section
variable [qi] {P:Program} {T:Nat->Option Ty} {w w':World} {σ σ':Gh} {F:Fr} {vt:Nat->Value} {a:Act}
theorem qjh (hF:FR F σ w (qC a)){pend:List (qg×O)}(hd:Dom F σ pend){id:Nat}(hun:qa .un F.tb id=.un){d:Nat}{ys:List (List O)}{sz cap:Nat}{e:TypeId}{cells:Array Value}
 (hcap:ys.length<=cap) (hmax:cap<=maxLen) (hsz:cells.size=cap * sz) (hys:∀ y∈ys,y.length=sz) (hc0:ys.length=0->cap=0)
 (hp:∀ q' o',(q',o')∈pend->∃ (k j:Nat) (y:List O),ys[k]?=some y/\y[j]?=some o'/\q'=(id,[(k,j)]))
 (hrep:∀ (k:Nat) (y:List O) (j:Nat) (o:O),ys[k]?=some y->y[j]?=some o->∃ u,cells[k * sz+j]?=some u/\qo w σ (id,[(k,j)]) o u) {s:Sem Next} {w0:World} {σ0:Gh} (hg:qF w0 σ0 w σ)
 (hs:s.run P w0=.ok (.value (.slice (some ⟨w.heap.size,0,none⟩) ys.length cap)) (w.alloc (.cells cells e))) {n:Nat} (hn:F.n=n) {F0:Fr} (hn0:n=F0.n) :
 ∃ v w' σ',ZJ P F0 σ0 w0 a d s ((F.root id (.osl ys)).put d (rfV id ys.length)) v w' σ':=by
 cases hys':ys with
 | nil =>
   subst hys'
   obtain rfl:=hc0 rfl
   have hd2:Dom F σ []:=by
    intro g x hx
    rcases hd g x hx with h | ⟨q',o',s,h,_⟩
    . exact .inl h
    . obtain ⟨k,j,y,h,_⟩:=hp q' o' h
      simp at h
   obtain ⟨hF3,hg3⟩:=Zp hF (.cells cells e)
   have hbare:ke σ (id,[]):=by
    rintro g x hx ⟨h7,_⟩
    rcases hd2 g x hx with h | ⟨_,_,_,h,_⟩
    . unfold Fr.at at h
      rw [h7] at h
      dsimp only at h
      rw [hun,kv] at h
      exact h
    . cases h
   obtain ⟨h7,h8⟩:=qbo hF3 hd2 hbare
   exact ⟨_,_,σ,hs,h7.put (show qN _ _ _ from qj.rz _ _ _),h8,hg.trans hg3,hn.trans hn0⟩
 | cons y0 ys0 =>
   rw [<-hys']
   obtain ⟨hr,h7,h8,h9⟩:=qdu (e:=e) (cells:=cells) (cap:=cap) (sz:=sz) hF hd hun (by rw [hys'];simp) hcap hmax hsz hys hp hrep
   exact ⟨_,_,_,hs,h7.put (Kv hr),h8,hg.trans h9,hn.trans hn0⟩
theorem qix (hT:ka P T)(hF:FR F σ w (qC a))(hd:Dom F σ []){kn:Bool}{d t e:Nat}{ty:Ty}{g1:Bool}{g2 g3:Nat}{g4:List C}(ht:T t=some ⟨.sl e,g1,g2,g3,g4⟩)(hte:T e=some ty){l c:Operand}{k1 k2:IntKind}{n m:Int}
 (hl:ev1 F l=.fz (.int k1 n)) (hc:ev1 F c=.fz (.int k2 m)) (hnm:n=m) (hby:ty.bytes<=4096) (hz0:0<ty.size) (hzl:ty.zero.length=ty.size) (hnu:Q6 ty.zero=true) {ys:List (List O)} (hr:std.oRep n (zN kn ty.zero)=some ys)
 {o:Oper} (ho:o.op=.makeSlice t l c) :
 ∃ v w' σ',ZJ P F σ w a d (execOp a.eval o) (((F.clear std (rid d 0 0)).root (rid d 0 0) (.osl ys)).put d (rfV (rid d 0 0) ys.length)) v w' σ':=by
 subst hnm
 obtain ⟨i,u,z,hi,hu,hz,hty⟩:=qz (hT _ _ ht)
 injection hty with hk _ _ _ _
 have hu':=ja hk.symm
 subst hu'
 obtain ⟨i',u',z',hi',hu',hz',rfl⟩:=qz (hT _ _ hte)
 dsimp only at hz0 hby hr hnu hzl ⊢
 have hvl:=qt hF l
 have hvc:=qt hF c
 rw [hl] at hvl
 rw [hc] at hvc
 have hvl:=hvl.fz_inv.int_inv
 have hvc:=hvc.fz_inv.int_inv
 obtain ⟨h0,h1,rfl⟩:0<=n/\n<=(lim:Int)/\ys=List.replicate n.toNat (zN kn (z'.cells.toList.map jU)):=by
  simp only [std] at hr
  split at hr
  . rename_i h;simp at hr;exact ⟨h.1,h.2,hr.symm⟩
  . cases hr
 have hlim:(lim:Int)=34359738368:=rfl
 have hrun:=run_make (P:=P) w t e i' z' hu hi' hz' k1 k2 n n h0 (Int.le_refl _) (by
  have:(i'.bytes:Int) * n<=4096 * 34359738368:=Int.mul_le_mul (by omega) (by omega) h0 (by omega)
  omega) (by omega)
 obtain ⟨σ1,hF1,hd1,hb1,hg1⟩:=hF.clear hd (rid d 0 0)
 have hzs:z'.cells.size=i'.size:=by simpa using hzl
 have:=qjh (P:=P) (F:=F.clear std (rid d 0 0)) (d:=d) (ys:=List.replicate n.toNat (zN kn (z'.cells.toList.map jU))) (sz:=i'.size) (cap:=n.toNat) (e:=e) (cells:=madeCells z'.cells (n.toNat * i'.size)) hF1 hd1 jv
  (by simp) (by simp only [maxLen];omega) (size_madeCells _ _) (by
    intro y hy
    rw [(List.mem_replicate.1 hy).2,J3]
    simp [hzs]) (by simp) (fun _ _ h=>by cases h) (by
    intro k y j o hk hj
    obtain ⟨hk1,hk2⟩:k<n.toNat/\y=zN kn (z'.cells.toList.map jU):=by
     rw [List.getElem?_replicate] at hk
     split at hk
     . rename_i h;simp at hk;exact ⟨h,hk.symm⟩
     . cases hk
    subst hk2
    obtain ⟨u,h2,h3⟩:=wP hnu hj w σ1 (rid d 0 0,[(k,j)])
    refine ⟨u,?_,h3⟩
    have hj':j<i'.size:=by
     rcases Nat.lt_or_ge j z'.cells.size with h | h
     . omega
     . simp [Array.getElem?_eq_none h] at h2
    have hlt:k * i'.size+j<n.toNat * i'.size:=by
     have:(k+1) * i'.size<=n.toNat * i'.size:=Nat.mul_le_mul_right _ hk1
     rw [Nat.add_mul] at this;omega
    have hmod:(k * i'.size+j) % i'.size=j:=by
     rw [Nat.add_comm,Nat.add_mul_mod_self_right,Nat.mod_eq_of_lt hj']
    have hj2:j<z'.cells.size:=by omega
    have h2':z'.cells[j]?=some u:=by simpa using h2
    simp [madeCells,hlt,hzs,hmod,Array.getElem!_eq_getD,hj2,h2']) (w0:=w) (σ0:=σ) hg1 (s:=execOp a.eval o) (by
    simp only [execOp,ho,hvl,hvc]
    refine qci ?_
    simpa using hrun) (n:=F.n) Zj (F0:=F) rfl
 exact this
end
end Go.Proofs.YtececadpjelanaaGreat.Ai
