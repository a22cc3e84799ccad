/- The law's proof, part 10 of 11: what of its author's texts it needs; no condition. -/
import Derived.Deep.RegionLaw
import Derived.Laws.CopyOwn
import Derived.Test.YtfafehnchmelnaaGreatZaI
set_option linter.unusedSectionVars false
set_option linter.unusedSimpArgs false
set_option linter.unusedVariables false
namespace Go.Proofs.YtfafehnchmelnaaGreat.Ai
open Go Go.RowKit
set_option maxRecDepth 100000
variable [qf]
def zJ (c:Int)(n k:Nat):List Value:=List.replicate k (.int .i64 c)++List.replicate (n-k) (.int .i64 0)
theorem J5 (c:Int){n k:Nat}(h:k<=n):(zJ c n k).length=n:=by simp [zJ];omega
theorem WS (c:Int){n k m:Nat}(h:k+m<=n):splice (zJ c n k) k (List.replicate m (.int .i64 c))=zJ c n (k+m):=by
 unfold splice zJ
 rw [List.take_left' (by simp),List.length_replicate,List.drop_append,List.drop_eq_nil_of_le (by simp)]
 simp only [List.length_replicate,List.nil_append,List.drop_replicate]
 rw [<-List.append_assoc,List.replicate_append_replicate]
 congr 2
 omega
theorem qr1 {k m n:Nat}(h:k+m<=n)(hn:Hid (n<=1000000)):IntKind.i64.wrap ((k:Int)+(m:Int))=((k+m:Nat):Int):=by
 have:=hn.out
 exact (IntWalk.i64_in _ ⟨by omega,by omega⟩).trans (Int.natCast_add _ _).symm
theorem qrj {n:Nat}(hn:Hid (n<=1000000)):IntKind.u64.wrap (n:Int)=n:=by
 have:=hn.out
 exact IntWalk.u64_in _ ⟨by omega,by omega⟩
theorem qrv:(Tryz.prog.info? 3).map (fun i=>(i.zero,i.size,i.bytes))=some (some (.int .i64 0),1,8):=by kernel_rfl
theorem qrU (n:Nat):¬((n:Int)<0):=by omega
theorem qrT {n:Nat}(hn:Hid (n<=1000000)):¬((9223372036854775807:Int)<(n:Int)):=by
 have:=hn.out
 omega
theorem qr5 {n:Nat}(hn:Hid (n<=1000000)):wrap64 (n:Int)=n:=by
 have:=hn.out
 unfold wrap64;omega
theorem qrA (n:Nat):madeCells (Value.int .i64 0).cells n=(List.replicate n (Value.int .i64 0)).toArray:=by
 apply Array.ext'
 unfold madeCells
 simp only [Array.toList_map,Array.toList_range,List.toList_toArray]
 apply List.ext_getElem?
 intro j
 rw [List.getElem?_map,List.getElem?_replicate]
 by_cases h:j<n
 . rw [List.getElem?_range h,if_pos h,Option.map_some]
   show some ((#[Value.int .i64 0]:Array Value)[j % 1]!)=_
   rw [Nat.mod_one];rfl
 . rw [if_neg h,List.getElem?_eq_none (by simpa using h)];rfl
theorem Vd {P:Program}(w:World){ops:Array Oper}{rest:List Oper}{o:Oper}{a:Act}{Q:Exit->Act->World->Prop}
 (hg:o.guard=none) (l c:Operand) (t:TypeId) (hop:o.op=Op.makeSlice t l c) (i:TypeInfo) (h1:P.underlying t=some (.slice 3)) (h2:P.info? 3=some i) (h3:i.zero=some (.int .i64 0)) (h4:i.size=1) (h5:i.bytes=8)
 (n:Nat) (hl:a.eval l=.int .i64 n) (hc:a.eval c=.int .i64 n) (hn:Hid (n<=1000000)) (k:Int)
 (hK:∀ w',Hid (w'.heap[w.heap.size]?=some (.cells (zJ k n 0).toArray 3 (0,0)))->Hid (Below w.heap.size w w')->wpList P ops Q rest (a.put o.dst (.slice (some ⟨w.heap.size,0,none⟩) n n)) w') :
 wpList P ops Q (o::rest) a w:=by
 have hm:=hn.out
 refine wpList_plain hg fun K hK'=>?_
 have hr:=run_make (P:=P) w t 3 i (.int .i64 0) h1 h2 h3 .i64 .i64 n n (by omega) (Int.le_refl _) (by rw [h5];omega) (by omega)
 rw [h4,Nat.mul_one,qrA] at hr
 simp only [Int.toNat_natCast] at hr
 unfold Oper.wp
 simp [execOp,hop,hl,hc,hr,Result.andThen]
 refine hK' _ _ (hK _ ?_ ?_)
 . show (w.heap.push _)[w.heap.size]?=_
   rw [Array.getElem?_push,if_pos rfl]
   simp [zJ]
 . exact ⟨rfl,rfl,rfl,by show w.heap.size<=(w.heap.push _).size;simp,fun k hk=>by show (w.heap.push _)[k]?=_;rw [Array.getElem?_push,if_neg (by omega)]⟩
theorem qq7 {n j:Nat}(h:j<n):¬n=j:=by omega
theorem qrb {k n j m:Nat}(hk:k=n+1-j)(h:j<n)(hm:0<m):n+1-(j+m)<k:=by omega
theorem qr6 {j m:Nat}(h:1<=j):1<=j+m:=by omega
theorem qrN (n:Nat):n=n+1-1:=by omega
theorem qrW {j n:Nat}(h1:1<=j)(h:j<n):∃ m,Hid (∀ c:Int,(List.replicate m (Value.int .i64 c)).length=Nat.min j (n-j))/\m<=j/\0<m/\j+m<=n:=by
 refine ⟨Nat.min j (n-j),fun (_:Int)=>List.length_replicate,Nat.min_le_left _ _,?_,?_⟩
 . exact (Nat.lt_min).2 ⟨h1,by omega⟩
 . have:Nat.min j (n-j)<=n-j:=Nat.min_le_right _ _
   omega
theorem qoF {wr:World}{g n j m:Nat}{c:Int}(h:Hid (wr.heap[g]?=some (.cells (zJ c n j).toArray 3 (0,0))))(hjn:j+m<=n)(hm:m<=j)(i:Nat)(v:Value)(hi:(List.replicate m (Value.int .i64 c))[i]?=some v):wr.cell? ((⟨g,0,none⟩:Addr).add i)=some v:=by
 have him:i<m:=by
  have:=(List.getElem?_eq_some_iff.1 hi).1
  simpa using this
 rw [Addr.add_lit]
 unfold World.cell?
 dsimp only
 rw [h.out]
 dsimp only
 rw [if_neg (by simp),Nat.zero_add]
 show (zJ c n j).toArray[i]?=some v
 rw [List.getElem?_toArray]
 unfold zJ
 rw [List.getElem?_append_left (by simp;omega),<-hi,List.getElem?_replicate,List.getElem?_replicate,if_pos (by omega),if_pos him]
theorem qpo (c:Int){n j m:Nat}(h:j+m<=n):j+(List.replicate m (Value.int .i64 c)).length<=(zJ c n j).length:=by rw [J5 c (by omega),List.length_replicate];exact h
theorem qoe (c:Int)(m:Nat):∀ v∈List.replicate m (Value.int .i64 c),v.oneCell'=true:=fun v h=>by
 obtain ⟨_,rfl⟩:=List.mem_replicate.1 h
 rfl
theorem qpT {w:World}{xb xo:Nat}{c:Int}(h:w.cell? ⟨xb,xo,none⟩=some (.int .i64 c))(j:Nat)(v:Value)(hj:[Value.int .i64 c][j]?=some v):w.cell? ((⟨xb,xo,none⟩:Addr).add j)=some v:=by
 cases j with
 | zero=>injection hj with hj;subst hj;exact h
 | succ j=>cases hj
theorem qql (c:Int){n:Nat}(h:1<=n):0+[Value.int .i64 c].length<=(zJ c n 0).length:=by rw [J5 c (Nat.zero_le _)];exact h
theorem qqv (c:Int):∀ v∈[Value.int .i64 c],v.oneCell'=true:=fun v h=>by
 obtain rfl:=List.mem_singleton.1 h
 rfl
set_option maxHeartbeats 1600000 in
set_option maxRecDepth 1000000 in
theorem qdG (xb xo xc n:Nat)(c:Int)(w:World)(h1:1<=n)(hn:Hid (n<=1000000))(hxb:xb<w.heap.size)(hx:w.cell? ⟨xb,xo,none⟩=some (.int .i64 c))
 (hM:∀ k:Int,k=n->Calls Tryz.prog 108 #[.int .u64 1,.int .u64 k] w fun e w'=>e=.returned (.tuple #[.int .u64 0,.int .u64 n])/\w=w') :
 Calls Tryz.prog 65 #[.slice (some ⟨xb,xo,none⟩) 1 xc,.int .i64 n] w fun e w'=>e=.returned (.slice (some ⟨w.heap.size,0,none⟩) n n)/\w'.heap[w.heap.size]?=some (.cells (zJ c n n).toArray 3 (0,0))/\Below w.heap.size w w':=by
 obtain ⟨i0,hi,hz0,hz1,hz2⟩:=info_parts qrv
 go_enter Tryz.func65,Tryz.ntmps65
 have hwu:IntKind.u64.wrap (n:Int)=n:=qrj hn
 have hwi:wrap64 (n:Int)=n:=qr5 hn
 have hn0:¬((n:Int)<0):=qrU n
 have hng:¬((9223372036854775807:Int)<(n:Int)):=qrT hn
 go_wp2_with (first | (go_at_call 108;refine (hM _ rfl).mono ?_;rintro e w' ⟨rfl,rfl⟩) | (at_make;refine Vd _ rfl _ _ 48 rfl i0 Tryz.underlying48 hi hz0 hz1 hz2 n rfl rfl hn c ?_))
 intro w1 hg1 hb1
 have hx1:w1.cell? ⟨xb,xo,none⟩=some (.int .i64 c):=(World.cell?_of_block (a:=⟨xb,xo,none⟩) (hb1.out.block xb hxb)).trans hx
 have hmin:Nat.min 1 n=1:=Nat.min_eq_left h1
 go_wp2_with ((refine wpList_copy_splice (o:=⟨some 33,_,_,_,_,_⟩) rfl (.tmp 31) (.tmp 32) 48 48 rfl 3 Tryz.underlying48 (by rw [hi];exact congrArg some hz1) (some ⟨w.heap.size,0,none⟩) (some ⟨xb,xo,none⟩) n n 1 xc rfl rfl w.heap.size 0 (zJ c n 0) 3 hg1.out [.int .i64 c] hmin.symm (fun _=>⟨rfl,⟨xb,xo,none⟩,rfl,qpT hx1⟩) (qql c h1) (qqv c) w.heap.size w hb1.out (Nat.le_refl _) ?_))
 intro w2 hg2 hb2
 have e2:splice (zJ c n 0) 0 [Value.int .i64 c]=zJ c n 1:=WS c (k:=0) (m:=1) (by omega)
 rw [e2] at hg2
 have hb2:Hid (Below w.heap.size w w2):=hb2
 clear e2 hx1 hg1 hb1
 go_wp2
 go_loopg [8] n (fun k b wr=>∃ j,k=n+1-j/\1<=j/\j<=n/\b=.int .i64 j/\Hid (wr.heap[w.heap.size]?=some (.cells (zJ c n j).toArray 3 (0,0)))/\Hid (Below w.heap.size w wr))
 case atStart=>exact ⟨1,qrN n,Nat.le_refl _,h1,rfl,hg2,hb2⟩
 case round =>
  obtain ⟨j,hk,hj1,hjn,rfl,hgr,hbr⟩:=hrel
  by_cases hlt:j<n
  . have hlt':=qqt hlt
    obtain ⟨m,hm,hmj,hm1,hm2⟩:=qrW hj1 hlt
    have hnj:¬n=j:=qq7 hlt
    have hgd:Hid (wr.drew.heap[w.heap.size]?=some (.cells (zJ c n j).toArray 3 (0,0))):=hgr
    go_wp2
    go_region_law (refine step_copy_splice (o:=⟨some 45,_,_,_,_,_⟩) rfl (.tmp 41) (.tmp 44) 48 48 rfl 3 Tryz.underlying48 (by rw [hi];exact congrArg some hz1) (some ⟨w.heap.size,j,none⟩) (some ⟨w.heap.size,0,none⟩) (n-j) (n-j) j n (by simp [Act.eval,Act.put,hnj]) (by simp [Act.eval,Act.put]) w.heap.size j (zJ c n j) 3 hgd.out (List.replicate m (.int .i64 c)) (hm.out c) (fun _=>⟨rfl,⟨w.heap.size,0,none⟩,rfl,qoF hgd hm2 hmj⟩) (qpo c hm2) (qoe c m) w.heap.size w hbr.out.drew (Nat.le_refl _) ?_;intro w4 hg4 hb4)
    go_wp2
    go_roundg (n+1-(j+m))
    case measure=>first | exact qrb hk hlt hm1 | exact qrb rfl hlt hm1
    case rel =>
     have e5:splice (zJ c n j) j (List.replicate m (.int .i64 c))=zJ c n (j+m):=WS c hm2
     rw [e5] at hg4
     exact ⟨j+m,rfl,qr6 hj1,hm2,congrArg _ (qr1 hm2 hn),hg4,hb4⟩
  . obtain rfl:=qqI hjn hlt
    go_wp2
    go_ret
    exact ⟨rfl,hgr.out,hbr.out⟩
theorem qqO {n:Nat}(hn:Hid (n<=1000000)):bits BinOp.and IntKind.u64 (n:Int) 4294967295=n:=by
 have h:=hn.out
 have h1:=bits_and_u64_nat n 4294967295 (by omega) (by omega)
 have h2:n &&& 4294967295=n:=by
  rw [show (4294967295:Nat)=2 ^ 32-1 by decide,Nat.and_two_pow_sub_one_eq_mod]
  exact Nat.mod_eq_of_lt (by omega)
 rw [h2] at h1
 exact h1
theorem qmt (n:Nat)(hn:Hid (n<=1000000))(w:World):Calls Tryz.prog 108 #[.int .u64 1,.int .u64 n] w fun e w'=>e=.returned (.tuple #[.int .u64 0,.int .u64 n])/\w=w':=by
 have hb1:bits BinOp.and IntKind.u64 1 4294967295=1:=by decide +kernel
 have hb0:bits BinOp.and IntKind.u64 0 4294967295=0:=by decide +kernel
 have hb2:bits BinOp.and IntKind.u64 (n:Int) 4294967295=n:=qqO hn
 have hw:IntKind.u64.wrap (n:Int)=n:=qrj hn
 have hw0:IntKind.u64.wrap 0=0:=by decide +kernel
 have hd:(n:Int) / 4294967296=0:=by have:=hn.out;omega
 go_enter Tryz.func108,Tryz.ntmps108
 go_wp2
 go_ret2
 exact ⟨rfl,rfl⟩
end Go.Proofs.YtfafehnchmelnaaGreat.Ai
namespace Go.Proofs.YtfafehnchmelnaaGreat.Ai
open Go Go.RowKit
set_option maxRecDepth 100000
variable [qf]
theorem qoV {J:qk}{w w':World}{n:Nat}{c:Int}(h1:1<=n)(hn:n<=1000000)(hg:w'.heap[w.heap.size]?=some (.cells (zJ c n n).toArray 3 (0,0)))(hb:Below w.heap.size w w'):@ja J w (.v (false,[.osl (qK (List.replicate n c))])) (.slice (some ⟨w.heap.size,0,none⟩) n n) w':=by
 letI:=J
 refine ⟨zH.of_below hb,?_⟩
 have hlt:w.heap.size<w'.heap.size:=by
  apply Classical.byContradiction
  intro h
  rw [Array.getElem?_eq_none (by omega)] at hg
  cases hg
 have hcl:(qK (List.replicate n c)).length=n:=by simp [qK]
 refine ⟨fun g=>if g=w.heap.size then some ⟨(qx,[(0,0)]),n,n,1⟩ else none,fun g x hx=>?_,fun g g' x y hx hy _=>?_,?_,fun g x hx=>?_⟩
 . dsimp only at hx
   split at hx
   . rename_i e;subst e;exact ⟨Nat.le_refl _,hlt⟩
   . cases hx
 . dsimp only at hx hy
   split at hx
   . split at hy
     . rename_i e1 e2;exact e1.trans e2.symm
     . cases hy
   . cases hx
 . have h9:qq w' (fun g=>if g=w.heap.size then some ⟨(qx,[(0,0)]),n,n,1⟩ else none) (qx,[(0,0)]) (.osl (qK (List.replicate n c))) (.slice (some ⟨w.heap.size,0,none⟩) (qK (List.replicate n c)).length n):=by
    refine qq.osl _ (qK (List.replicate n c)) 3 1 w.heap.size n (zJ c n n).toArray (fun _ _=>.int .i64 c) hg ⟨by omega,by omega⟩ (by unfold maxLen;omega) (by rw [List.size_toArray,J5 c (Nat.le_refl _)];omega) (fun y hy=>?_) (by rw [if_pos rfl,hcl]) (fun i j y o hi hj=>?_) fun i j y o hi hj=>?_
    . obtain ⟨x,_,rfl⟩:=List.mem_map.1 hy;rfl
    . obtain ⟨x,hx,rfl,rfl⟩:=ZQ hi hj
      rw [List.getElem?_replicate] at hx
      split at hx
      . rename_i hin
        rw [show i * 1+0=i by omega,List.getElem?_toArray]
        unfold zJ
        rw [List.getElem?_append_left (by simpa using hin),List.getElem?_replicate,if_pos hin]
      . cases hx
    . obtain ⟨x,hx,rfl,rfl⟩:=ZQ hi hj
      rw [List.getElem?_replicate] at hx
      split at hx
      . injection hx with hx
        subst hx
        exact .fz _ _ _ (.int _ _)
      . cases hx
   rw [hcl] at h9
   exact h9
 . dsimp only at hx
   split at hx
   . injection hx with hx
     subst hx
     exact ⟨0,0,.osl (qK (List.replicate n c)),[],rfl,by decide,by decide,rfl,⟨hcl,by show 0<n;omega⟩⟩
   . cases hx
theorem qjI (n:Nat)(c:Int)(h1:1<=n)(hn:n<=1000000):qe Tryz.prog 65 [aIs [c],aI n] (rIs (List.replicate n c)):=by
 have key:zz Tryz.prog 65 [(false,[.sl (rcI [c])]),(false,[.int .i64 n])] (.v (false,[.osl (qK (List.replicate n c))])):=by
  refine ⟨⟨_,_,Tryz.func65,rfl,by kernel_rfl⟩,fun J w vals hfut hold hsz ha=>?_⟩
  letI:=J
  obtain ⟨u,hu,hr⟩:=ha 0 _ rfl
  obtain ⟨u2,hu2,hr2⟩:=ha 1 _ rfl
  have hr:qr w (fun _=>none) (.sl (rcI [c])) u:=hr
  have hr2:qr w (fun _=>none) (.int .i64 n) u2:=hr2
  obtain rfl:vals=#[u,u2]:=by
   apply Array.ext'
   have h2:vals.toList.length=2:=by simpa using hsz
   have h3:vals.toList[0]?=some u:=by simpa using hu
   have h4:vals.toList[1]?=some u2:=by simpa using hu2
   generalize vals.toList=q at h2 h3 h4
   match q,h2 with
   | [x,y],_=>simp at h3 h4;simp [h3,h4]
  cases hr2
  obtain ⟨a,cp,rfl,hc⟩:=qdo hr
  obtain ⟨b,o,rfl,hb,hcl⟩:=hc (by simp)
  refine (qdG b o cp n c w h1 hn hb (hcl 0 (by simp)) (fun k hk=>by subst hk;exact qmt n hn w)).mono ?_
  rintro e w' ⟨rfl,hg,hbl⟩
  exact ⟨_,rfl,qoV h1 hn hg hbl⟩
 have e1:(rIs (List.replicate n c)).er W.erL=.v (false,[.osl (qK (List.replicate n c))]):=by rw [<-K9];rfl
 unfold qe
 rw [e1]
 exact key
end Go.Proofs.YtfafehnchmelnaaGreat.Ai
namespace Go.Proofs.YtfafehnchmelnaaGreat.Ai
open Go
set_option maxRecDepth 100000
variable [qf]
def qn7 (l:List Int)(n:Int):List Int:=List.replicate n.toNat (l.getD 0 0)
structure qr2 (l:List Int)(n:Int):Prop where out:l.length=1/\1<=n/\n<=1000000
def qrh (f:List Int->Int->List Int):Wr:=w2 kx dcI (fun l n=>rUs (f l n)) (fun l n=>[qr2 l n])
theorem qo4:qA Tryz.prog 65 (qrh qn7):=qG fun l n h=>by
 obtain ⟨h0,h1,h2⟩:=(h _ (.head _)).out
 obtain ⟨c,rfl⟩:=List.length_eq_one_iff.1 h0
 have h3:=qjI n.toNat c (by omega) (by omega)
 rw [Int.toNat_of_nonneg (by omega)] at h3
 exact h3
def Zy (n:Nat):List Int:=(List.replicate n (-1)).set 0 0
def zL (t:qm):qh:=match qO t with | true=>⟨0,Zy t.nodes.length,[0,0,0]⟩ | false=>⟨0,[],[]⟩
theorem qb7 (t:qm)(ht:kj t):qe Tryz.prog 32 [qN t] (kD (zL t)):=by
 refine qe.of qc (fn:=Tryz.f32) (c:=Tryz.f32.body.getD .skip) (dr:=fun n=>qa 0 [(3,8)] n) Tryz.func32 rfl (by kernel_rfl) (by kernel_rfl) (by kernel_rfl) ?_
 obtain ⟨f1,hf1⟩:∃ f,f=qO:=⟨_,rfl⟩
 obtain ⟨f2,hf2⟩:∃ f,f=qn7:=⟨_,rfl⟩
 have hO:qp Tryz.prog (qL [(21,Jp f1),(65,qrh f2)]):=by
  subst hf1 hf2
  exact qb WF (qb qo4 qd)
 have hn:f1 t=true->1<=t.nodes.length/\t.nodes.length<=7:=fun h=>by rw [hf1] at h;exact qF h
 have hl:(f2 [-1] t.nodes.length).length=t.nodes.length:=by rw [hf2];simp [qn7]
 have hr0:f1 t=false->zL t=⟨0,[],[]⟩:=fun h=>by rw [hf1] at h;unfold zL;rw [h]
 have hr1:f1 t=true->zL t=⟨0,(f2 [-1] t.nodes.length).set 0 0,[0,0,0]⟩:=fun h=>by rw [hf1] at h;unfold zL;rw [h,hf2];simp [qn7,Zy]
 obtain ⟨s,hs⟩:∃ s,s=zL t:=⟨_,rfl⟩
 rw [<-hs] at hr0 hr1 ⊢
 clear hs hf1 hf2
 obtain ⟨ns,ts,hr⟩:=t
 dsimp only at hn hl hr1
 obtain ⟨now,tm,vs⟩:=s
 refine SEx.go (X:=XX) qc (fun n=>qa [] [] n) (fun _=>none) hO 60 ?_
 intro M R L N m0 m1 m2 m3 m4 m5
 cases M
 cbv
 repeat' first | refine m1 _ _ ?_ ?_ | refine m2 _ _ fun h=>?_ | refine m3 _ ?_ | (refine m4 _ _ (Hd.out ?_);try first | rw [hks] | rw [hk2] | rw [hk3]) | (refine m5 _ _ ?_;cbv)
 all_goals (clear m1 m2 m3 m4 m5;cases m0;(try clear hks;try clear hk2;try clear hk3);try dsimp only)
 all_goals try simp only [sm] at *
 all_goals first
  | exact ht
  | exact ⟨⟨rfl,by have:=hn (by assumption);omega,by have:=hn (by assumption);omega⟩⟩
  | (have:=hn (by assumption);omega)
  | (have:=zm;omega)
  | (have e:=hr0 (by assumption);injection e with e1 e2 e3;subst e1 e2 e3;rfl)
  | (have e:=hr1 (by assumption);injection e with e1 e2 e3;subst e1 e2 e3;rfl)
  | skip
theorem Zv (n:Nat):(Zy n).length=n:=by simp [Zy]
theorem qay {n i:Nat}(h:i<n):(Zy n).take (i+1)=(Zy n).take i++[if i=0 then 0 else -1]:=by
 rw [List.take_add_one,List.getElem?_eq_getElem (by rw [Zv];exact h),Option.toList_some]
 congr 2
 unfold Zy
 rw [List.getElem_set]
 by_cases e:i=0
 . subst e;simp
 . rw [if_neg (by omega),if_neg e];simp
theorem qbo (t:qm)(ht:kj t):qe Tryz.prog 28 [qN t] (kD (zL t)):=by
 refine qe.of qc (fn:=Tryz.f28) (c:=Tryz.f28.body.getD .skip) (dr:=fun n=>qa 0 [] n) Tryz.func28 rfl (by kernel_rfl) (by kernel_rfl) (by kernel_rfl) ?_
 obtain ⟨f1,hf1⟩:∃ f,f=qO:=⟨_,rfl⟩
 have hO:qp Tryz.prog (qL [(26,Jp f1)]):=by
  subst hf1
  exact qb WJ qd
 have hn:f1 t=true->1<=t.nodes.length/\t.nodes.length<=7:=fun h=>by rw [hf1] at h;exact qF h
 have hr0:f1 t=false->zL t=⟨0,[],[]⟩:=fun h=>by rw [hf1] at h;unfold zL;rw [h]
 have hr1:f1 t=true->zL t=⟨0,Zy t.nodes.length,[0,0,0]⟩:=fun h=>by rw [hf1] at h;unfold zL;rw [h]
 obtain ⟨s,hs⟩:∃ s,s=zL t:=⟨_,rfl⟩
 rw [<-hs] at hr0 hr1 ⊢
 clear hs hf1
 obtain ⟨ns,ts,hr⟩:=t
 dsimp only at hn hr1
 obtain ⟨now,tm,vs⟩:=s
 refine SEx.go (X:=XX) qc (fun n=>qa [] [(5,[2,3,14,15])] n) (fun _=>none) hO 60 ?_
 intro M R L N m0 m1 m2 m3 m4 m5
 cases M
 cbv
 repeat' first | refine m1 _ _ ?_ ?_ | refine m2 _ _ fun h=>?_ | refine m3 _ ?_ | (refine m4 _ _ (Hd.out ?_);generalize hks:(List.cons _ _:List K)=ks) | (refine m5 _ _ ?_;cbv)
 all_goals (clear m1 m2 m3 m4 m5;cases m0;try dsimp only)
 all_goals try simp only [sm] at *
 all_goals first
  | exact ht
  | (have:=hn (by assumption);omega)
  | (have:=zm;omega)
  | (have e:=hr0 (by assumption);injection e with e1 e2 e3;subst e1 e2 e3;rfl)
  | skip
 have hn:=hn (by assumption)
 have e:=hr1 (by assumption)
 injection e with e1 e2 e3
 subst e1 e2 e3
 clear hr0 hr1
 obtain ⟨m,hm⟩:∃ m,m=ns.length:=⟨_,rfl⟩
 rw [<-hm] at hn ⊢
 refine ⟨SEx.same (SEx.idx m (fun i=>⟨28,[(2,bP 8192),(3,bP 12288),(14,bI m),(15,bI i)],[(8192,.obx [.fz (.int .i64 0),.onil,.onil]),(12288,.obx [.fz (.int .i64 0),.osl (.i ((Zy m).take i)),.osl (.i [0,0,0])])]⟩) (fun _=>kD ⟨0,Zy m,[0,0,0]⟩) ?_) rfl rfl⟩
 intro i hi ih
 rw [<-hks]
 obtain ⟨u,hu⟩:∃ u,u=(Zy m).take i:=⟨_,rfl⟩
 have hul:u.length=i:=by rw [hu,List.length_take,Zv];omega
 have h0:i<m->i=0->(Zy m).take (i+1)=u++[0]:=fun h e=>by rw [qay h,hu,if_pos e]
 have h1:i<m->¬i=0->(Zy m).take (i+1)=u++[-1]:=fun h e=>by rw [qay h,hu,if_neg e]
 have h2:i=m->Zy m=u:=fun e=>by rw [hu,e,List.take_of_length_le (by rw [Zv];omega)]
 rw [<-hu]
 clear hu
 obtain ⟨tm,htm⟩:∃ tm,tm=Zy m:=⟨_,rfl⟩
 rw [<-htm] at h0 h1 h2 ih ⊢
 refine SEx.go (X:=XX) qc (fun n=>qa [] [(5,[2,3,14,15])] n) (fun _=>none) hO 60 ?_
 intro M R L N m0 m1 m2 m3 m4 m5
 cases M
 cbv
 repeat' first | refine m1 _ _ ?_ ?_ | refine m2 _ _ fun h=>?_ | refine m3 _ ?_ | (refine m4 _ _ (Hd.out ?_);try first | rw [hks] | rw [hk2] | rw [hk3]) | (refine m5 _ _ ?_;cbv)
 all_goals (clear m1 m2 m3 m4 m5;cases m0;(try clear hks;try clear hk2;try clear hk3);try dsimp only)
 all_goals try simp only [sm] at *
 all_goals try simp only [List.length_append,List.length_cons,List.length_nil,List.length_set] at *
 all_goals (try omega)
 all_goals (try (have:=zm;omega))
 all_goals (try simp only [qg (show i<9223372036854775807 by omega)])
 all_goals first
  | (have ih':=ih (by omega)
     rw [h0 (by omega) (by omega)] at ih'
     exact ⟨ih'.same rfl rfl⟩)
  | (have ih':=ih (by omega)
     rw [h1 (by omega) (by omega)] at ih'
     exact ⟨ih'.same rfl rfl⟩)
  | (rw [h2 (by omega)];rfl)
  | skip
end Go.Proofs.YtfafehnchmelnaaGreat.Ai
namespace Go.Proofs.YtfafehnchmelnaaGreat.Ai
open Go
set_option maxRecDepth 100000
variable [qf]
theorem qnL {t:qm}(h:qO t=true):(nd t.nodes 0).watch=0:=by
 unfold qO jL j8 at h
 simp only [Bool.and_eq_true,decide_eq_true_eq] at h
 exact h.1.1.2.2
theorem qd8 {n i:Nat}(h:i<n):(Zy n).getD i 0=if i=0 then 0 else -1:=by
 rw [List.getD_eq_getElem?_getD,List.getElem?_eq_getElem (by rw [Zv];exact h),Option.getD_some]
 unfold Zy
 rw [List.getElem_set]
 by_cases e:i=0
 . subst e;simp
 . rw [if_neg (by omega),if_neg e];simp
theorem qj2 {t:qm}(h:qO t=true):zL t=⟨0,Zy t.nodes.length,[0,0,0]⟩:=by unfold zL;rw [h]
theorem JX {t:qm}(h:qO t=true):StT t (zL t):=by
 have hn:=qF h
 have hh:=zO h
 rw [qj2 h]
 refine ⟨h,z8.2 ⟨⟨Int.le_refl _,by show (0:Int)<=t.hor+1;omega,Zv _⟩,(by decide:qW [0,0,0]=true),fun i hi=>?_,fun i hi=>?_⟩⟩
 . have hi:i<t.nodes.length:=by rw [<-Zv t.nodes.length];exact hi
   show Zu 0 i ((Zy t.nodes.length).getD i 0)=true
   unfold Zu
   rw [qd8 hi,decide_eq_true_eq]
   split<;>omega
 . have hi:i<3:=hi
   show qcA t.nodes (Zy t.nodes.length) i (([0,0,0]:List Int).getD i 0)=true
   have e0:([0,0,0]:List Int).getD i 0=0:=by
    have:i=0\/i=1\/i=2:=by omega
    rcases this with rfl | rfl | rfl<;>rfl
   unfold qcA QU
   rw [e0]
   by_cases hw:0<=zo t.nodes ((i:Int)+1)
   . have h1:=qa9 hw
     have h2:=qnL h
     have h3:(zo t.nodes ((i:Int)+1)).toNat<t.nodes.length:=by
      have:=(Vx (fun q:qi=>q.watch == ((i:Int)+1)) t.nodes 0).1
      have e:zo t.nodes ((i:Int)+1)=zT (fun q:qi=>q.watch == ((i:Int)+1)) t.nodes 0:=rfl
      omega
     have h4:(zo t.nodes ((i:Int)+1)).toNat≠0:=by
      intro e
      rw [show zo t.nodes ((i:Int)+1)=0 by omega,h2] at h1
      omega
     rw [qd8 h3,if_neg h4,decide_eq_true hw]
     decide
   . rw [decide_eq_false hw]
     rfl
def qeQ (t:qm):Bool:=qO t&&kV t (zL t)
theorem qkU (t:qm)(ht:kj t):kO t (zL t):=by
 refine ⟨ht,?_⟩
 cases h:qO t with
 | true=>exact qgE (JX h)
 | false =>
   have e:zL t=⟨0,[],[]⟩:=by unfold zL;rw [h]
   rw [e]
   exact ⟨by rw [Q0];show -9223372036854775808<=(0:Int)/\(0:Int)<=9223372036854775807;omega,Nat.zero_le _,Nat.zero_le _⟩
theorem qmm (t:qm):cwB t (zL t)=qeQ t:=by
 unfold cwB qeQ
 cases h:qO t with
 | false=>unfold WI;rw [h];rfl
 | true=>unfold WI;rw [h,(JX h).st];rfl
def qbq (f:qm->qh):Wr:=w1 qM (fun t=>kD (f t)) (fun t=>[kj t])
theorem qhh:qA Tryz.prog 32 (qbq zL):=zt fun t h=>qb7 t (h _ (.head _))
theorem qhl:qA Tryz.prog 28 (qbq zL):=zt fun t h=>qbo t (h _ (.head _))
theorem qfu (t:qm)(ht:kj t):qe Tryz.prog 12 [qN t] (rB (qeQ t)):=by
 refine qe.of qc (fn:=Tryz.f12) (c:=Tryz.f12.body.getD .skip) (dr:=fun n=>qa 0 [(1,3)] n) Tryz.func12 rfl (by kernel_rfl) (by kernel_rfl) (by kernel_rfl) ?_
 obtain ⟨f1,hf1⟩:∃ f,f=zL:=⟨_,rfl⟩
 obtain ⟨f2,hf2⟩:∃ f,f=cwB:=⟨_,rfl⟩
 have hO:qp Tryz.prog (qL [(32,qbq f1),(31,qiJ f2)]):=by
  subst hf1 hf2
  exact qb qhh (qb qek qd)
 have h1:kO t (f1 t):=by rw [hf1];exact qkU t ht
 rw [<-qmm,<-hf1,<-hf2]
 clear hf1 hf2
 obtain ⟨s,hs⟩:∃ s,s=f1 t:=⟨_,rfl⟩
 rw [<-hs] at h1 ⊢
 obtain ⟨ns,ts,hr⟩:=t
 refine SEx.go (X:=XX) qc (fun n=>qa [] [] n) (fun _=>none) hO 60 ?_
 intro M R L N m0 m1 m2 m3 m4 m5
 cases M
 cbv
 repeat' first | refine m1 _ _ ?_ ?_ | refine m2 _ _ fun h=>?_ | refine m3 _ ?_ | (refine m4 _ _ (Hd.out ?_);try first | rw [hks] | rw [hk2] | rw [hk3]) | (refine m5 _ _ ?_;cbv)
 all_goals (clear m1 m2 m3 m4 m5;cases m0;(try clear hks;try clear hk2;try clear hk3);try dsimp only)
 all_goals try simp only [sm] at *
 all_goals first
  | exact ht
  | (rw [<-hs];exact h1)
  | (rw [<-hs];rfl)
  | skip
theorem qgx (t:qm)(ht:kj t):qe Tryz.prog 10 [qN t] (rB (qeQ t)):=by
 refine qe.of qc (fn:=Tryz.f10) (c:=Tryz.f10.body.getD .skip) (dr:=fun n=>qa 0 [(1,6)] n) Tryz.func10 rfl (by kernel_rfl) (by kernel_rfl) (by kernel_rfl) ?_
 obtain ⟨f1,hf1⟩:∃ f,f=zL:=⟨_,rfl⟩
 obtain ⟨f2,hf2⟩:∃ f,f=kV:=⟨_,rfl⟩
 obtain ⟨f0,hf0⟩:∃ f,f=qO:=⟨_,rfl⟩
 have hO:qp Tryz.prog (qL [(26,Jp f0),(28,qbq f1),(27,qoW 12 f2)]):=by
  subst hf0 hf1 hf2
  exact qb WJ (qb qhl (qb (qd0 12) qd))
 have h1:f0 t=true->GmX 12 t (f1 t):=fun h=>by rw [hf0] at h;rw [hf1];exact qmr ht (JX h)
 have hr:qeQ t=(f0 t&&f2 t (f1 t)):=by rw [hf0,hf1,hf2];rfl
 rw [hr]
 clear hf0 hf1 hf2 hr
 obtain ⟨s,hs⟩:∃ s,s=f1 t:=⟨_,rfl⟩
 rw [<-hs] at h1 ⊢
 obtain ⟨ns,ts,hr⟩:=t
 refine SEx.go (X:=XX) qc (fun n=>qa [] [] n) (fun _=>none) hO 60 ?_
 intro M R L N m0 m1 m2 m3 m4 m5
 cases M
 cbv
 repeat' first | refine m1 _ _ ?_ ?_ | refine m2 _ _ fun h=>?_ | refine m3 _ ?_ | (refine m4 _ _ (Hd.out ?_);try first | rw [hks] | rw [hk2] | rw [hk3]) | (refine m5 _ _ ?_;cbv)
 all_goals (clear m1 m2 m3 m4 m5;cases m0;(try clear hks;try clear hk2;try clear hk3);try dsimp only)
 all_goals try simp only [sm] at *
 all_goals first
  | exact ht
  | (rw [<-hs];exact h1 (by assumption))
  | (rw [<-hs];refine qV ?_ _;simp_all;done)
  | (refine qV ?_ _;simp_all;done)
  | skip
def qnR (f:qm->Bool):Wr:=w1 qM (fun t=>rB (f t)) (fun t=>[kj t])
theorem qlz:qA Tryz.prog 12 (qnR qeQ):=zt fun t h=>qfu t (h _ (.head _))
theorem ql6:qA Tryz.prog 10 (qnR qeQ):=zt fun t h=>qgx t (h _ (.head _))
end Go.Proofs.YtfafehnchmelnaaGreat.Ai
namespace Go.Proofs.YtfafehnchmelnaaGreat.Ai
open Go
set_option maxRecDepth 100000
variable [qf]
theorem qka (t:qm)(ht:qbk t):qe Tryz.prog 3 [qN t] (rB true):=by
 refine qe.of qc (fn:=Tryz.f3) (c:=Tryz.f3.body.getD .skip) (dr:=fun n=>qa 0 [(10,3)] n) Tryz.func3 rfl (by kernel_rfl) (by kernel_rfl) (by kernel_rfl) ?_
 obtain ⟨f,hf⟩:∃ f:qm->Bool,f=qeQ:=⟨_,rfl⟩
 obtain ⟨g,hg⟩:∃ g,g=jt:=⟨_,rfl⟩
 have hO:qp Tryz.prog (qL [(9,qij g),(11,qim),(10,qnR f),(12,qnR f),(13,qiO)]):=by
  subst hf hg
  exact qb qfI (qb qg4 (qb ql6 (qb qlz (qb qgu qd))))
 have hA:0<=g t 1048576->qmT t (g t 1048576):=fun h=>by rw [hg] at h ⊢;exact qqF h
 have h1:=ht.le
 have hn:∀ q∈t.nodes,Wa q maxLen:=fun q hq=>⟨(ht.nodes q hq).name,(ht.nodes q hq).len⟩
 clear ht hf hg
 obtain ⟨ns,ts,hr⟩:=t
 refine SEx.go (X:=XX) qc (fun n=>qa [] [] n) (fun _=>none) hO 60 ?_
 intro M R L N m0 m1 m2 m3 m4 m5
 cases M
 cbv
 repeat' first | refine m1 _ _ ?_ ?_ | refine m2 _ _ fun h=>?_ | refine m3 _ ?_ | (refine m4 _ _ (Hd.out ?_);try first | rw [hks] | rw [hk2] | rw [hk3]) | (refine m5 _ _ ?_;cbv)
 all_goals (clear m1 m2 m3 m4 m5;cases m0;(try clear hks;try clear hk2;try clear hk3);try dsimp only)
 all_goals try simp only [sm] at *
 all_goals (clear hO)
 all_goals first
  | rfl
  | contradiction
  | exact ⟨h1.len⟩
  | exact ⟨h1.tlen⟩
  | exact ⟨hn⟩
  | exact ⟨⟨by decide,by decide⟩⟩
  | exact ⟨(hA (by assumption)).len⟩
  | exact ⟨(hA (by assumption)).tlen⟩
  | exact ⟨(hA (by assumption)).labs⟩
  | exact h1
  | exact (hA (by assumption)).mem
  | exact ⟨h1,(hA (by assumption)).mem⟩
  | exact ⟨rfl⟩
  | exact ⟨fun q hq=>(h1.nodes q hq).len⟩
  | exact absurd trivial (by assumption)
  | exact absurd rfl (by assumption)
  | skip
end Go.Proofs.YtfafehnchmelnaaGreat.Ai
