/- The law's proof, part 10 of 11: what of its author's texts it needs; no condition. -/
import Derived.Deep.RegionLaw
import Derived.Laws.CopyOwn
import Derived.Test.YtfafehnchmelnaaGreatZdI
set_option linter.unusedSectionVars false
set_option linter.unusedSimpArgs false
set_option linter.unusedVariables false
namespace Go.Proofs.YtfafehnchmelnaaGreat.Ai
open Go Go.RowKit
set_option maxRecDepth 100000
variable [qf]
def zM (c:Int)(n k:Nat):List Value:=List.replicate k (.int .i64 c)++List.replicate (n-k) (.int .i64 0)
theorem wn (c:Int){n k:Nat}(h:k<=n):(zM c n k).length=n:=by simp [zM];omega
theorem W1 (c:Int){n k m:Nat}(h:k+m<=n):splice (zM c n k) k (List.replicate m (.int .i64 c))=zM c n (k+m):=by
 unfold splice zM
 rw [List.take_left' (by simp),List.length_replicate,List.drop_append,List.drop_eq_nil_of_le (by simp)]
 simp only [List.length_replicate,List.nil_append,List.drop_replicate]
 rw [<-List.append_assoc,List.replicate_append_replicate]
 congr 2
 omega
theorem qsI {k m n:Nat}(h:k+m<=n)(hn:Hid (n<=1000000)):IntKind.i64.wrap ((k:Int)+(m:Int))=((k+m:Nat):Int):=by
 have:=hn.out
 exact (IntWalk.i64_in _ ⟨by omega,by omega⟩).trans (Int.natCast_add _ _).symm
theorem qrQ {n:Nat}(hn:Hid (n<=1000000)):IntKind.u64.wrap (n:Int)=n:=by
 have:=hn.out
 exact IntWalk.u64_in _ ⟨by omega,by omega⟩
theorem qr4:(Tryz.prog.info? 3).map (fun i=>(i.zero,i.size,i.bytes))=some (some (.int .i64 0),1,8):=by kernel_rfl
theorem qsY (n:Nat):¬((n:Int)<0):=by omega
theorem qsK {n:Nat}(hn:Hid (n<=1000000)):¬((9223372036854775807:Int)<(n:Int)):=by
 have:=hn.out
 omega
theorem qs1 {n:Nat}(hn:Hid (n<=1000000)):wrap64 (n:Int)=n:=by
 have:=hn.out
 unfold wrap64;omega
theorem qr9 (n:Nat):madeCells (Value.int .i64 0).cells n=(List.replicate n (Value.int .i64 0)).toArray:=by
 apply Array.ext'
 unfold madeCells
 simp only [Array.toList_map,Array.toList_range,List.toList_toArray]
 apply List.ext_getElem?
 intro j
 rw [List.getElem?_map,List.getElem?_replicate]
 by_cases h:j<n
 . rw [List.getElem?_range h,if_pos h,Option.map_some]
   show some ((#[Value.int .i64 0]:Array Value)[j % 1]!)=_
   rw [Nat.mod_one];rfl
 . rw [if_neg h,List.getElem?_eq_none (by simpa using h)];rfl
theorem Vs {P:Program}(w:World){ops:Array Oper}{rest:List Oper}{o:Oper}{a:Act}{Q:Exit->Act->World->Prop}
 (hg:o.guard=none) (l c:Operand) (t:TypeId) (hop:o.op=Op.makeSlice t l c) (i:TypeInfo) (h1:P.underlying t=some (.slice 3)) (h2:P.info? 3=some i) (h3:i.zero=some (.int .i64 0)) (h4:i.size=1) (h5:i.bytes=8)
 (n:Nat) (hl:a.eval l=.int .i64 n) (hc:a.eval c=.int .i64 n) (hn:Hid (n<=1000000)) (k:Int)
 (hK:∀ w',Hid (w'.heap[w.heap.size]?=some (.cells (zM k n 0).toArray 3 (0,0)))->Hid (Below w.heap.size w w')->wpList P ops Q rest (a.put o.dst (.slice (some ⟨w.heap.size,0,none⟩) n n)) w') :
 wpList P ops Q (o::rest) a w:=by
 have hm:=hn.out
 refine wpList_plain hg fun K hK'=>?_
 have hr:=run_make (P:=P) w t 3 i (.int .i64 0) h1 h2 h3 .i64 .i64 n n (by omega) (Int.le_refl _) (by rw [h5];omega) (by omega)
 rw [h4,Nat.mul_one,qr9] at hr
 simp only [Int.toNat_natCast] at hr
 unfold Oper.wp
 simp [execOp,hop,hl,hc,hr,Result.andThen]
 refine hK' _ _ (hK _ ?_ ?_)
 . show (w.heap.push _)[w.heap.size]?=_
   rw [Array.getElem?_push,if_pos rfl]
   simp [zM]
 . exact ⟨rfl,rfl,rfl,by show w.heap.size<=(w.heap.push _).size;simp,fun k hk=>by show (w.heap.push _)[k]?=_;rw [Array.getElem?_push,if_neg (by omega)]⟩
theorem qrZ {n j:Nat}(h:j<n):¬n=j:=by omega
theorem qsn {k n j m:Nat}(hk:k=n+1-j)(h:j<n)(hm:0<m):n+1-(j+m)<k:=by omega
theorem qsP {j m:Nat}(h:1<=j):1<=j+m:=by omega
theorem qsX (n:Nat):n=n+1-1:=by omega
theorem qsO {j n:Nat}(h1:1<=j)(h:j<n):∃ m,Hid (∀ c:Int,(List.replicate m (Value.int .i64 c)).length=Nat.min j (n-j))/\m<=j/\0<m/\j+m<=n:=by
 refine ⟨Nat.min j (n-j),fun (_:Int)=>List.length_replicate,Nat.min_le_left _ _,?_,?_⟩
 . exact (Nat.lt_min).2 ⟨h1,by omega⟩
 . have:Nat.min j (n-j)<=n-j:=Nat.min_le_right _ _
   omega
theorem qp8 {wr:World}{g n j m:Nat}{c:Int}(h:Hid (wr.heap[g]?=some (.cells (zM c n j).toArray 3 (0,0))))(hjn:j+m<=n)(hm:m<=j)(i:Nat)(v:Value)(hi:(List.replicate m (Value.int .i64 c))[i]?=some v):wr.cell? ((⟨g,0,none⟩:Addr).add i)=some v:=by
 have him:i<m:=by
  have:=(List.getElem?_eq_some_iff.1 hi).1
  simpa using this
 rw [Addr.add_lit]
 unfold World.cell?
 dsimp only
 rw [h.out]
 dsimp only
 rw [if_neg (by simp),Nat.zero_add]
 show (zM c n j).toArray[i]?=some v
 rw [List.getElem?_toArray]
 unfold zM
 rw [List.getElem?_append_left (by simp;omega),<-hi,List.getElem?_replicate,List.getElem?_replicate,if_pos (by omega),if_pos him]
theorem qp7 (c:Int){n j m:Nat}(h:j+m<=n):j+(List.replicate m (Value.int .i64 c)).length<=(zM c n j).length:=by rw [wn c (by omega),List.length_replicate];exact h
theorem qpT (c:Int)(m:Nat):∀ v∈List.replicate m (Value.int .i64 c),v.oneCell'=true:=fun v h=>by
 obtain ⟨_,rfl⟩:=List.mem_replicate.1 h
 rfl
theorem qqH {w:World}{xb xo:Nat}{c:Int}(h:w.cell? ⟨xb,xo,none⟩=some (.int .i64 c))(j:Nat)(v:Value)(hj:[Value.int .i64 c][j]?=some v):w.cell? ((⟨xb,xo,none⟩:Addr).add j)=some v:=by
 cases j with
 | zero=>injection hj with hj;subst hj;exact h
 | succ j=>cases hj
theorem qrm (c:Int){n:Nat}(h:1<=n):0+[Value.int .i64 c].length<=(zM c n 0).length:=by rw [wn c (Nat.zero_le _)];exact h
theorem qre (c:Int):∀ v∈[Value.int .i64 c],v.oneCell'=true:=fun v h=>by
 obtain rfl:=List.mem_singleton.1 h
 rfl
set_option maxHeartbeats 1600000 in
set_option maxRecDepth 1000000 in
theorem qdr (xb xo xc n:Nat)(c:Int)(w:World)(h1:1<=n)(hn:Hid (n<=1000000))(hxb:xb<w.heap.size)(hx:w.cell? ⟨xb,xo,none⟩=some (.int .i64 c))
 (hM:∀ k:Int,k=n->Calls Tryz.prog 108 #[.int .u64 1,.int .u64 k] w fun e w'=>e=.returned (.tuple #[.int .u64 0,.int .u64 n])/\w=w') :
 Calls Tryz.prog 65 #[.slice (some ⟨xb,xo,none⟩) 1 xc,.int .i64 n] w fun e w'=>e=.returned (.slice (some ⟨w.heap.size,0,none⟩) n n)/\w'.heap[w.heap.size]?=some (.cells (zM c n n).toArray 3 (0,0))/\Below w.heap.size w w':=by
 obtain ⟨i0,hi,hz0,hz1,hz2⟩:=info_parts qr4
 go_enter Tryz.func65,Tryz.ntmps65
 have hwu:IntKind.u64.wrap (n:Int)=n:=qrQ hn
 have hwi:wrap64 (n:Int)=n:=qs1 hn
 have hn0:¬((n:Int)<0):=qsY n
 have hng:¬((9223372036854775807:Int)<(n:Int)):=qsK hn
 go_wp2_with (first | (go_at_call 108;refine (hM _ rfl).mono ?_;rintro e w' ⟨rfl,rfl⟩) | (at_make;refine Vs _ rfl _ _ 48 rfl i0 Tryz.underlying48 hi hz0 hz1 hz2 n rfl rfl hn c ?_))
 intro w1 hg1 hb1
 have hx1:w1.cell? ⟨xb,xo,none⟩=some (.int .i64 c):=(World.cell?_of_block (a:=⟨xb,xo,none⟩) (hb1.out.block xb hxb)).trans hx
 have hmin:Nat.min 1 n=1:=Nat.min_eq_left h1
 go_wp2_with ((refine wpList_copy_splice (o:=⟨some 33,_,_,_,_,_⟩) rfl (.tmp 31) (.tmp 32) 48 48 rfl 3 Tryz.underlying48 (by rw [hi];exact congrArg some hz1) (some ⟨w.heap.size,0,none⟩) (some ⟨xb,xo,none⟩) n n 1 xc rfl rfl w.heap.size 0 (zM c n 0) 3 hg1.out [.int .i64 c] hmin.symm (fun _=>⟨rfl,⟨xb,xo,none⟩,rfl,qqH hx1⟩) (qrm c h1) (qre c) w.heap.size w hb1.out (Nat.le_refl _) ?_))
 intro w2 hg2 hb2
 have e2:splice (zM c n 0) 0 [Value.int .i64 c]=zM c n 1:=W1 c (k:=0) (m:=1) (by omega)
 rw [e2] at hg2
 have hb2:Hid (Below w.heap.size w w2):=hb2
 clear e2 hx1 hg1 hb1
 go_wp2
 go_loopg [8] n (fun k b wr=>∃ j,k=n+1-j/\1<=j/\j<=n/\b=.int .i64 j/\Hid (wr.heap[w.heap.size]?=some (.cells (zM c n j).toArray 3 (0,0)))/\Hid (Below w.heap.size w wr))
 case atStart=>exact ⟨1,qsX n,Nat.le_refl _,h1,rfl,hg2,hb2⟩
 case round =>
  obtain ⟨j,hk,hj1,hjn,rfl,hgr,hbr⟩:=hrel
  by_cases hlt:j<n
  . have hlt':=qqO hlt
    obtain ⟨m,hm,hmj,hm1,hm2⟩:=qsO hj1 hlt
    have hnj:¬n=j:=qrZ hlt
    have hgd:Hid (wr.drew.heap[w.heap.size]?=some (.cells (zM c n j).toArray 3 (0,0))):=hgr
    go_wp2
    go_region_law (refine step_copy_splice (o:=⟨some 45,_,_,_,_,_⟩) rfl (.tmp 41) (.tmp 44) 48 48 rfl 3 Tryz.underlying48 (by rw [hi];exact congrArg some hz1) (some ⟨w.heap.size,j,none⟩) (some ⟨w.heap.size,0,none⟩) (n-j) (n-j) j n (by simp [Act.eval,Act.put,hnj]) (by simp [Act.eval,Act.put]) w.heap.size j (zM c n j) 3 hgd.out (List.replicate m (.int .i64 c)) (hm.out c) (fun _=>⟨rfl,⟨w.heap.size,0,none⟩,rfl,qp8 hgd hm2 hmj⟩) (qp7 c hm2) (qpT c m) w.heap.size w hbr.out.drew (Nat.le_refl _) ?_;intro w4 hg4 hb4)
    go_wp2
    go_roundg (n+1-(j+m))
    case measure=>first | exact qsn hk hlt hm1 | exact qsn rfl hlt hm1
    case rel =>
     have e5:splice (zM c n j) j (List.replicate m (.int .i64 c))=zM c n (j+m):=W1 c hm2
     rw [e5] at hg4
     exact ⟨j+m,rfl,qsP hj1,hm2,congrArg _ (qsI hm2 hn),hg4,hb4⟩
  . obtain rfl:=qrr hjn hlt
    go_wp2
    go_ret
    exact ⟨rfl,hgr.out,hbr.out⟩
theorem qq0 {n:Nat}(hn:Hid (n<=1000000)):bits BinOp.and IntKind.u64 (n:Int) 4294967295=n:=by
 have h:=hn.out
 have h1:=bits_and_u64_nat n 4294967295 (by omega) (by omega)
 have h2:n &&& 4294967295=n:=by
  rw [show (4294967295:Nat)=2 ^ 32-1 by decide,Nat.and_two_pow_sub_one_eq_mod]
  exact Nat.mod_eq_of_lt (by omega)
 rw [h2] at h1
 exact h1
theorem qng (n:Nat)(hn:Hid (n<=1000000))(w:World):Calls Tryz.prog 108 #[.int .u64 1,.int .u64 n] w fun e w'=>e=.returned (.tuple #[.int .u64 0,.int .u64 n])/\w=w':=by
 have hb1:bits BinOp.and IntKind.u64 1 4294967295=1:=by decide +kernel
 have hb0:bits BinOp.and IntKind.u64 0 4294967295=0:=by decide +kernel
 have hb2:bits BinOp.and IntKind.u64 (n:Int) 4294967295=n:=qq0 hn
 have hw:IntKind.u64.wrap (n:Int)=n:=qrQ hn
 have hw0:IntKind.u64.wrap 0=0:=by decide +kernel
 have hd:(n:Int) / 4294967296=0:=by have:=hn.out;omega
 go_enter Tryz.func108,Tryz.ntmps108
 go_wp2
 go_ret2
 exact ⟨rfl,rfl⟩
end Go.Proofs.YtfafehnchmelnaaGreat.Ai
namespace Go.Proofs.YtfafehnchmelnaaGreat.Ai
open Go Go.RowKit
set_option maxRecDepth 100000
variable [qf]
theorem qoy {J:ql}{w w':World}{n:Nat}{c:Int}(h1:1<=n)(hn:n<=1000000)(hg:w'.heap[w.heap.size]?=some (.cells (zM c n n).toArray 3 (0,0)))(hb:Below w.heap.size w w'):@jb J w (.v (false,[.osl (qO (List.replicate n c))])) (.slice (some ⟨w.heap.size,0,none⟩) n n) w':=by
 letI:=J
 refine ⟨zJ.of_below hb,?_⟩
 have hlt:w.heap.size<w'.heap.size:=by
  apply Classical.byContradiction
  intro h
  rw [Array.getElem?_eq_none (by omega)] at hg
  cases hg
 have hcl:(qO (List.replicate n c)).length=n:=by simp [qO]
 refine ⟨fun g=>if g=w.heap.size then some ⟨(qy,[(0,0)]),n,n,1⟩ else none,fun g x hx=>?_,fun g g' x y hx hy _=>?_,?_,fun g x hx=>?_⟩
 . dsimp only at hx
   split at hx
   . rename_i e;subst e;exact ⟨Nat.le_refl _,hlt⟩
   . cases hx
 . dsimp only at hx hy
   split at hx
   . split at hy
     . rename_i e1 e2;exact e1.trans e2.symm
     . cases hy
   . cases hx
 . have h9:qq w' (fun g=>if g=w.heap.size then some ⟨(qy,[(0,0)]),n,n,1⟩ else none) (qy,[(0,0)]) (.osl (qO (List.replicate n c))) (.slice (some ⟨w.heap.size,0,none⟩) (qO (List.replicate n c)).length n):=by
    refine qq.osl _ (qO (List.replicate n c)) 3 1 w.heap.size n (zM c n n).toArray (fun _ _=>.int .i64 c) hg ⟨by omega,by omega⟩ (by unfold maxLen;omega) (by rw [List.size_toArray,wn c (Nat.le_refl _)];omega) (fun y hy=>?_) (by rw [if_pos rfl,hcl]) (fun i j y o hi hj=>?_) fun i j y o hi hj=>?_
    . obtain ⟨x,_,rfl⟩:=List.mem_map.1 hy;rfl
    . obtain ⟨x,hx,rfl,rfl⟩:=Z6 hi hj
      rw [List.getElem?_replicate] at hx
      split at hx
      . rename_i hin
        rw [show i * 1+0=i by omega,List.getElem?_toArray]
        unfold zM
        rw [List.getElem?_append_left (by simpa using hin),List.getElem?_replicate,if_pos hin]
      . cases hx
    . obtain ⟨x,hx,rfl,rfl⟩:=Z6 hi hj
      rw [List.getElem?_replicate] at hx
      split at hx
      . injection hx with hx
        subst hx
        exact .fz _ _ _ (.int _ _)
      . cases hx
   rw [hcl] at h9
   exact h9
 . dsimp only at hx
   split at hx
   . injection hx with hx
     subst hx
     exact ⟨0,0,.osl (qO (List.replicate n c)),[],rfl,by decide,by decide,rfl,⟨hcl,by show 0<n;omega⟩⟩
   . cases hx
theorem qjR (n:Nat)(c:Int)(h1:1<=n)(hn:n<=1000000):qe Tryz.prog 65 [aIs [c],aI n] (rIs (List.replicate n c)):=by
 have key:zG Tryz.prog 65 [(false,[.sl (rcI [c])]),(false,[.int .i64 n])] (.v (false,[.osl (qO (List.replicate n c))])):=by
  refine ⟨⟨_,_,Tryz.func65,rfl,by kernel_rfl⟩,fun J w vals hfut hold hsz ha=>?_⟩
  letI:=J
  obtain ⟨u,hu,hr⟩:=ha 0 _ rfl
  obtain ⟨u2,hu2,hr2⟩:=ha 1 _ rfl
  have hr:qr w (fun _=>none) (.sl (rcI [c])) u:=hr
  have hr2:qr w (fun _=>none) (.int .i64 n) u2:=hr2
  obtain rfl:vals=#[u,u2]:=by
   apply Array.ext'
   have h2:vals.toList.length=2:=by simpa using hsz
   have h3:vals.toList[0]?=some u:=by simpa using hu
   have h4:vals.toList[1]?=some u2:=by simpa using hu2
   generalize vals.toList=q at h2 h3 h4
   match q,h2 with
   | [x,y],_=>simp at h3 h4;simp [h3,h4]
  cases hr2
  obtain ⟨a,cp,rfl,hc⟩:=qfB hr
  obtain ⟨b,o,rfl,hb,hcl⟩:=hc (by simp)
  refine (qdr b o cp n c w h1 hn hb (hcl 0 (by simp)) (fun k hk=>by subst hk;exact qng n hn w)).mono ?_
  rintro e w' ⟨rfl,hg,hbl⟩
  exact ⟨_,rfl,qoy h1 hn hg hbl⟩
 have e1:(rIs (List.replicate n c)).er W.erL=.v (false,[.osl (qO (List.replicate n c))]):=by rw [<-Jz];rfl
 unfold qe
 rw [e1]
 exact key
end Go.Proofs.YtfafehnchmelnaaGreat.Ai
namespace Go.Proofs.YtfafehnchmelnaaGreat.Ai
open Go
set_option maxRecDepth 100000
variable [qf]
def qoK (l:List Int)(n:Int):List Int:=List.replicate n.toNat (l.getD 0 0)
structure qsV (l:List Int)(n:Int):Prop where out:l.length=1/\1<=n/\n<=1000000
def qrM (f:List Int->Int->List Int):Wr:=w2 kw dcI (fun l n=>rUs (f l n)) (fun l n=>[qsV l n])
theorem qpQ:qz Tryz.prog 65 (qrM qoK):=qF fun l n h=>by
 obtain ⟨h0,h1,h2⟩:=(h _ (.head _)).out
 obtain ⟨c,rfl⟩:=List.length_eq_one_iff.1 h0
 have h3:=qjR n.toNat c (by omega) (by omega)
 rw [Int.toNat_of_nonneg (by omega)] at h3
 exact h3
def ZJ (n:Nat):List Int:=(List.replicate n (-1)).set 0 0
def zN (t:qj):qh:=match qM t with | true=>⟨0,ZJ t.nodes.length,[0,0,0]⟩ | false=>⟨0,[],[]⟩
theorem qcO (t:qj)(ht:za t):qe Tryz.prog 32 [qH t] (kF (zN t)):=by
 refine qe.of qc (fn:=Tryz.f32) (c:=Tryz.f32.body.getD .skip) (dr:=fun n=>qa 0 [(3,8)] n) Tryz.func32 rfl (by kernel_rfl) (by kernel_rfl) (by kernel_rfl) ?_
 obtain ⟨f1,hf1⟩:∃ f,f=qM:=⟨_,rfl⟩
 obtain ⟨f2,hf2⟩:∃ f,f=qoK:=⟨_,rfl⟩
 have hO:qp Tryz.prog (qJ [(21,jx f1),(65,qrM f2)]):=by
  subst hf1 hf2
  exact qb Q9 (qb qpQ qd)
 have hn:f1 t=true->1<=t.nodes.length/\t.nodes.length<=7:=fun h=>by rw [hf1] at h;exact qG h
 have hl:(f2 [-1] t.nodes.length).length=t.nodes.length:=by rw [hf2];simp [qoK]
 have hr0:f1 t=false->zN t=⟨0,[],[]⟩:=fun h=>by rw [hf1] at h;unfold zN;rw [h]
 have hr1:f1 t=true->zN t=⟨0,(f2 [-1] t.nodes.length).set 0 0,[0,0,0]⟩:=fun h=>by rw [hf1] at h;unfold zN;rw [h,hf2];simp [qoK,ZJ]
 obtain ⟨s,hs⟩:∃ s,s=zN t:=⟨_,rfl⟩
 rw [<-hs] at hr0 hr1 ⊢
 clear hs hf1 hf2
 obtain ⟨ns,ts,hr⟩:=t
 dsimp only at hn hl hr1
 obtain ⟨now,tm,vs⟩:=s
 refine SEx.go (X:=XX) qc (fun n=>qa [] [] n) (fun _=>none) hO 60 ?_
 intro M R L N m0 m1 m2 m3 m4 m5
 cases M
 cbv
 repeat' first | refine m1 _ _ ?_ ?_ | refine m2 _ _ fun h=>?_ | refine m3 _ ?_ | (refine m4 _ _ (Hd.out ?_);try first | rw [hks] | rw [hk2] | rw [hk3]) | (refine m5 _ _ ?_;cbv)
 all_goals (clear m1 m2 m3 m4 m5;cases m0;(try clear hks;try clear hk2;try clear hk3);try dsimp only)
 all_goals try simp only [sm] at *
 all_goals first
  | exact ht
  | exact ⟨⟨rfl,by have:=hn (by assumption);omega,by have:=hn (by assumption);omega⟩⟩
  | (have:=hn (by assumption);omega)
  | (have:=qZ;omega)
  | (have e:=hr0 (by assumption);injection e with e1 e2 e3;subst e1 e2 e3;rfl)
  | (have e:=hr1 (by assumption);injection e with e1 e2 e3;subst e1 e2 e3;rfl)
  | skip
theorem ZN (n:Nat):(ZJ n).length=n:=by simp [ZJ]
theorem qaN {n i:Nat}(h:i<n):(ZJ n).take (i+1)=(ZJ n).take i++[if i=0 then 0 else -1]:=by
 rw [List.take_add_one,List.getElem?_eq_getElem (by rw [ZN];exact h),Option.toList_some]
 congr 2
 unfold ZJ
 rw [List.getElem_set]
 by_cases e:i=0
 . subst e;simp
 . rw [if_neg (by omega),if_neg e];simp
theorem qbX (t:qj)(ht:za t):qe Tryz.prog 28 [qH t] (kF (zN t)):=by
 refine qe.of qc (fn:=Tryz.f28) (c:=Tryz.f28.body.getD .skip) (dr:=fun n=>qa 0 [] n) Tryz.func28 rfl (by kernel_rfl) (by kernel_rfl) (by kernel_rfl) ?_
 obtain ⟨f1,hf1⟩:∃ f,f=qM:=⟨_,rfl⟩
 have hO:qp Tryz.prog (qJ [(26,jx f1)]):=by
  subst hf1
  exact qb Qb qd
 have hn:f1 t=true->1<=t.nodes.length/\t.nodes.length<=7:=fun h=>by rw [hf1] at h;exact qG h
 have hr0:f1 t=false->zN t=⟨0,[],[]⟩:=fun h=>by rw [hf1] at h;unfold zN;rw [h]
 have hr1:f1 t=true->zN t=⟨0,ZJ t.nodes.length,[0,0,0]⟩:=fun h=>by rw [hf1] at h;unfold zN;rw [h]
 obtain ⟨s,hs⟩:∃ s,s=zN t:=⟨_,rfl⟩
 rw [<-hs] at hr0 hr1 ⊢
 clear hs hf1
 obtain ⟨ns,ts,hr⟩:=t
 dsimp only at hn hr1
 obtain ⟨now,tm,vs⟩:=s
 refine SEx.go (X:=XX) qc (fun n=>qa [] [(5,[2,3,14,15])] n) (fun _=>none) hO 60 ?_
 intro M R L N m0 m1 m2 m3 m4 m5
 cases M
 cbv
 repeat' first | refine m1 _ _ ?_ ?_ | refine m2 _ _ fun h=>?_ | refine m3 _ ?_ | (refine m4 _ _ (Hd.out ?_);generalize hks:(List.cons _ _:List K)=ks) | (refine m5 _ _ ?_;cbv)
 all_goals (clear m1 m2 m3 m4 m5;cases m0;try dsimp only)
 all_goals try simp only [sm] at *
 all_goals first
  | exact ht
  | (have:=hn (by assumption);omega)
  | (have:=qZ;omega)
  | (have e:=hr0 (by assumption);injection e with e1 e2 e3;subst e1 e2 e3;rfl)
  | skip
 have hn:=hn (by assumption)
 have e:=hr1 (by assumption)
 injection e with e1 e2 e3
 subst e1 e2 e3
 clear hr0 hr1
 obtain ⟨m,hm⟩:∃ m,m=ns.length:=⟨_,rfl⟩
 rw [<-hm] at hn ⊢
 refine ⟨SEx.same (SEx.idx m (fun i=>⟨28,[(2,bP 8192),(3,bP 12288),(14,bI m),(15,bI i)],[(8192,.obx [.fz (.int .i64 0),.onil,.onil]),(12288,.obx [.fz (.int .i64 0),.osl (.i ((ZJ m).take i)),.osl (.i [0,0,0])])]⟩) (fun _=>kF ⟨0,ZJ m,[0,0,0]⟩) ?_) rfl rfl⟩
 intro i hi ih
 rw [<-hks]
 obtain ⟨u,hu⟩:∃ u,u=(ZJ m).take i:=⟨_,rfl⟩
 have hul:u.length=i:=by rw [hu,List.length_take,ZN];omega
 have h0:i<m->i=0->(ZJ m).take (i+1)=u++[0]:=fun h e=>by rw [qaN h,hu,if_pos e]
 have h1:i<m->¬i=0->(ZJ m).take (i+1)=u++[-1]:=fun h e=>by rw [qaN h,hu,if_neg e]
 have h2:i=m->ZJ m=u:=fun e=>by rw [hu,e,List.take_of_length_le (by rw [ZN];omega)]
 rw [<-hu]
 clear hu
 obtain ⟨tm,htm⟩:∃ tm,tm=ZJ m:=⟨_,rfl⟩
 rw [<-htm] at h0 h1 h2 ih ⊢
 refine SEx.go (X:=XX) qc (fun n=>qa [] [(5,[2,3,14,15])] n) (fun _=>none) hO 60 ?_
 intro M R L N m0 m1 m2 m3 m4 m5
 cases M
 cbv
 repeat' first | refine m1 _ _ ?_ ?_ | refine m2 _ _ fun h=>?_ | refine m3 _ ?_ | (refine m4 _ _ (Hd.out ?_);try first | rw [hks] | rw [hk2] | rw [hk3]) | (refine m5 _ _ ?_;cbv)
 all_goals (clear m1 m2 m3 m4 m5;cases m0;(try clear hks;try clear hk2;try clear hk3);try dsimp only)
 all_goals try simp only [sm] at *
 all_goals try simp only [List.length_append,List.length_cons,List.length_nil,List.length_set] at *
 all_goals (try omega)
 all_goals (try (have:=qZ;omega))
 all_goals (try simp only [qg (show i<9223372036854775807 by omega)])
 all_goals first
  | (have ih':=ih (by omega)
     rw [h0 (by omega) (by omega)] at ih'
     exact ⟨ih'.same rfl rfl⟩)
  | (have ih':=ih (by omega)
     rw [h1 (by omega) (by omega)] at ih'
     exact ⟨ih'.same rfl rfl⟩)
  | (rw [h2 (by omega)];rfl)
  | skip
end Go.Proofs.YtfafehnchmelnaaGreat.Ai
namespace Go.Proofs.YtfafehnchmelnaaGreat.Ai
open Go
set_option maxRecDepth 100000
variable [qf]
theorem qoh {t:qj}(h:qM t=true):(nd t.nodes 0).watch=0:=by
 unfold qM jO Qa at h
 simp only [Bool.and_eq_true,decide_eq_true_eq] at h
 exact h.1.1.2.2
theorem qec {n i:Nat}(h:i<n):(ZJ n).getD i 0=if i=0 then 0 else -1:=by
 rw [List.getD_eq_getElem?_getD,List.getElem?_eq_getElem (by rw [ZN];exact h),Option.getD_some]
 unfold ZJ
 rw [List.getElem_set]
 by_cases e:i=0
 . subst e;simp
 . rw [if_neg (by omega),if_neg e];simp
theorem qj7 {t:qj}(h:qM t=true):zN t=⟨0,ZJ t.nodes.length,[0,0,0]⟩:=by unfold zN;rw [h]
theorem ww {t:qj}(h:qM t=true):StT t (zN t):=by
 have hn:=qG h
 have hh:=zR h
 rw [qj7 h]
 refine ⟨h,ka.2 ⟨⟨Int.le_refl _,by show (0:Int)<=t.hor+1;omega,ZN _⟩,(by decide:qW [0,0,0]=true),fun i hi=>?_,fun i hi=>?_⟩⟩
 . have hi:i<t.nodes.length:=by rw [<-ZN t.nodes.length];exact hi
   show ZI 0 i ((ZJ t.nodes.length).getD i 0)=true
   unfold ZI
   rw [qec hi,decide_eq_true_eq]
   split<;>omega
 . have hi:i<3:=hi
   show qcy t.nodes (ZJ t.nodes.length) i (([0,0,0]:List Int).getD i 0)=true
   have e0:([0,0,0]:List Int).getD i 0=0:=by
    have:i=0\/i=1\/i=2:=by omega
    rcases this with rfl | rfl | rfl<;>rfl
   unfold qcy QN
   rw [e0]
   by_cases hw:0<=zt t.nodes ((i:Int)+1)
   . have h1:=qbD hw
     have h2:=qoh h
     have h3:(zt t.nodes ((i:Int)+1)).toNat<t.nodes.length:=by
      have:=(V0 (fun q:qi=>q.watch == ((i:Int)+1)) t.nodes 0).1
      have e:zt t.nodes ((i:Int)+1)=zV (fun q:qi=>q.watch == ((i:Int)+1)) t.nodes 0:=rfl
      omega
     have h4:(zt t.nodes ((i:Int)+1)).toNat≠0:=by
      intro e
      rw [show zt t.nodes ((i:Int)+1)=0 by omega,h2] at h1
      omega
     rw [qec h3,if_neg h4,decide_eq_true hw]
     decide
   . rw [decide_eq_false hw]
     rfl
def Vz (t:qj):Bool:=qM t&&kW t (zN t)
theorem qj1 (t:qj)(ht:za t):kP t (zN t):=by
 refine ⟨ht,?_⟩
 cases h:qM t with
 | true=>exact qgF (ww h)
 | false =>
   have e:zN t=⟨0,[],[]⟩:=by unfold zN;rw [h]
   rw [e]
   exact ⟨by rw [kv];show -9223372036854775808<=(0:Int)/\(0:Int)<=9223372036854775807;omega,Nat.zero_le _,Nat.zero_le _⟩
theorem ql4 (t:qj):cwB t (zN t)=Vz t:=by
 unfold cwB Vz
 cases h:qM t with
 | false=>unfold W9;rw [h];rfl
 | true=>unfold W9;rw [h,(ww h).st];rfl
def qdb (f:qj->qh):Wr:=w1 qK (fun t=>kF (f t)) (fun t=>[za t])
theorem qgq:qz Tryz.prog 32 (qdb zN):=zl fun t h=>qcO t (h _ (.head _))
theorem qgP:qz Tryz.prog 28 (qdb zN):=zl fun t h=>qbX t (h _ (.head _))
theorem qhe (t:qj)(ht:za t):qe Tryz.prog 12 [qH t] (rB (Vz t)):=by
 refine qe.of qc (fn:=Tryz.f12) (c:=Tryz.f12.body.getD .skip) (dr:=fun n=>qa 0 [(1,3)] n) Tryz.func12 rfl (by kernel_rfl) (by kernel_rfl) (by kernel_rfl) ?_
 obtain ⟨f1,hf1⟩:∃ f,f=zN:=⟨_,rfl⟩
 obtain ⟨f2,hf2⟩:∃ f,f=cwB:=⟨_,rfl⟩
 have hO:qp Tryz.prog (qJ [(32,qdb f1),(31,qiz f2)]):=by
  subst hf1 hf2
  exact qb qgq (qb qez qd)
 have h1:kP t (f1 t):=by rw [hf1];exact qj1 t ht
 rw [<-ql4,<-hf1,<-hf2]
 clear hf1 hf2
 obtain ⟨s,hs⟩:∃ s,s=f1 t:=⟨_,rfl⟩
 rw [<-hs] at h1 ⊢
 obtain ⟨ns,ts,hr⟩:=t
 refine SEx.go (X:=XX) qc (fun n=>qa [] [] n) (fun _=>none) hO 60 ?_
 intro M R L N m0 m1 m2 m3 m4 m5
 cases M
 cbv
 repeat' first | refine m1 _ _ ?_ ?_ | refine m2 _ _ fun h=>?_ | refine m3 _ ?_ | (refine m4 _ _ (Hd.out ?_);try first | rw [hks] | rw [hk2] | rw [hk3]) | (refine m5 _ _ ?_;cbv)
 all_goals (clear m1 m2 m3 m4 m5;cases m0;(try clear hks;try clear hk2;try clear hk3);try dsimp only)
 all_goals try simp only [sm] at *
 all_goals first
  | exact ht
  | (rw [<-hs];exact h1)
  | (rw [<-hs];rfl)
  | skip
theorem qgJ (t:qj)(ht:za t):qe Tryz.prog 10 [qH t] (rB (Vz t)):=by
 refine qe.of qc (fn:=Tryz.f10) (c:=Tryz.f10.body.getD .skip) (dr:=fun n=>qa 0 [(1,6)] n) Tryz.func10 rfl (by kernel_rfl) (by kernel_rfl) (by kernel_rfl) ?_
 obtain ⟨f1,hf1⟩:∃ f,f=zN:=⟨_,rfl⟩
 obtain ⟨f2,hf2⟩:∃ f,f=kW:=⟨_,rfl⟩
 obtain ⟨f0,hf0⟩:∃ f,f=qM:=⟨_,rfl⟩
 have hO:qp Tryz.prog (qJ [(26,jx f0),(28,qdb f1),(27,qp4 12 f2)]):=by
  subst hf0 hf1 hf2
  exact qb Qb (qb qgP (qb (qdQ 12) qd))
 have h1:f0 t=true->GmX 12 t (f1 t):=fun h=>by rw [hf0] at h;rw [hf1];exact qmV ht (ww h)
 have hr:Vz t=(f0 t&&f2 t (f1 t)):=by rw [hf0,hf1,hf2];rfl
 rw [hr]
 clear hf0 hf1 hf2 hr
 obtain ⟨s,hs⟩:∃ s,s=f1 t:=⟨_,rfl⟩
 rw [<-hs] at h1 ⊢
 obtain ⟨ns,ts,hr⟩:=t
 refine SEx.go (X:=XX) qc (fun n=>qa [] [] n) (fun _=>none) hO 60 ?_
 intro M R L N m0 m1 m2 m3 m4 m5
 cases M
 cbv
 repeat' first | refine m1 _ _ ?_ ?_ | refine m2 _ _ fun h=>?_ | refine m3 _ ?_ | (refine m4 _ _ (Hd.out ?_);try first | rw [hks] | rw [hk2] | rw [hk3]) | (refine m5 _ _ ?_;cbv)
 all_goals (clear m1 m2 m3 m4 m5;cases m0;(try clear hks;try clear hk2;try clear hk3);try dsimp only)
 all_goals try simp only [sm] at *
 all_goals first
  | exact ht
  | (rw [<-hs];exact h1 (by assumption))
  | (rw [<-hs];refine qV ?_ _;simp_all;done)
  | (refine qV ?_ _;simp_all;done)
  | skip
def ql5 (f:qj->Bool):Wr:=w1 qK (fun t=>rB (f t)) (fun t=>[za t])
theorem qmL:qz Tryz.prog 12 (ql5 Vz):=zl fun t h=>qhe t (h _ (.head _))
theorem qfl:qz Tryz.prog 10 (ql5 Vz):=zl fun t h=>qgJ t (h _ (.head _))
end Go.Proofs.YtfafehnchmelnaaGreat.Ai
namespace Go.Proofs.YtfafehnchmelnaaGreat.Ai
open Go
set_option maxRecDepth 100000
variable [qf]
def YC (p:Nat->Int->Bool)(m:Nat)(q:Int)(i:Nat):Option Nat:=((List.range m).drop i).find? fun i=>p i q
def Za (p:Nat->Int->Bool)(m:Nat):Nat->Int->Option (Nat×Int)
 | 0,_=>none
 | f+1,q=>match YC p m q 0 with | some i=>some (i,q) | none=>Za p m f (q+1)
def jr (p:Nat->Int->Bool)(m f:Nat)(q:Int)(i:Nat):Option (Nat×Int):=match YC p m q i with | some i=>some (i,q) | none=>Za p m f (q+1)
theorem qaZ {p:Nat->Int->Bool}{m f:Nat}{q:Int}{i:Nat}(h:i<m)(hp:p i q=true):jr p m f q i=some (i,q):=by
 unfold jr YC
 rw [wi 0 (by simpa using h),V9 h,if_pos hp]
theorem qdH {p:Nat->Int->Bool}{m f:Nat}{q:Int}{i:Nat}(h:i<m)(hp:p i q=false):jr p m f q i=jr p m f q (i+1):=by
 unfold jr YC
 rw [wi 0 (by simpa using h),V9 h,if_neg (by rw [hp];decide)]
theorem qa8 {p:Nat->Int->Bool}{m f:Nat}{q:Int}{i:Nat}(h:m<=i):jr p m f q i=Za p m f (q+1):=by
 unfold jr YC
 rw [List.drop_eq_nil_of_le (by simpa using h)]
 rfl
def leP (fr:Bool)(t:qj)(i:Nat)(q:Int):Bool:=jk fr t i q&&Vz (JO fr t i q)
def rL (a b:Int)(c:Bool):TV W:=.tup [(false,[.fz (.int .i64 a)]),(false,[.fz (.int .i64 b)]),(false,[.fz (.bool false c)])]
def leW:Option (Nat×Int)->Int×Int×Bool
 | some x=>(x.1,x.2,true)
 | none=>(-1,0,false)
def rLv (v:Int×Int×Bool):TV W:=rL v.1 v.2.1 v.2.2
def leV (fr:Bool)(t:qj)(most:Int):Int×Int×Bool:=match qM t with | false=>(-1,0,false) | true=>(match Vz t with | true=>(-1,0,true) | false=>leW (Za (leP fr t) t.ties.length most.toNat 1))
theorem qeu {t:qj}(h:za t)(fr:Bool)(k y:Int):za (JO fr t k y):=by
 unfold JO
 cases jk fr t k y with
 | true=>exact yw h _ _
 | false=>exact ⟨Nat.zero_le _,Nat.zero_le _,fun q hq=>by cases hq⟩
structure LeH (t:qj)(most:Int):Prop where
 le:za t
 mem:QE t
 most:0<=most/\most<=20
def qsC (k:Nat):Dc Unit:=⟨fun _=>aF k [],fun | (false,[.fn f []])=>(match nq f k with | true=>some () | false=>none) | _=>none,by
 intro x a h
 split at h
 . split at h
   . rename_i hk
     obtain rfl:=Qk.1 hk
     rfl
   . cases h
 . cases h⟩
theorem wU (t:qj)(most:Int)(h:LeH t most):qe Tryz.prog 38 [qH t,aI most,aF 22 []] (rLv (leV false t most)):=by
 refine qe.of qc (fn:=Tryz.f38) (c:=Tryz.f38.body.getD .skip) (dr:=fun n=>qa 0 [] n) Tryz.func38 rfl (by kernel_rfl) (by kernel_rfl) (by kernel_rfl) ?_
 obtain ⟨ht,hz,hmo⟩:=h
 obtain ⟨f1,hf1⟩:∃ f,f=qM:=⟨_,rfl⟩
 obtain ⟨f2,hf2⟩:∃ f,f=Vz:=⟨_,rfl⟩
 obtain ⟨fs,hfs⟩:∃ f,f=JO false:=⟨_,rfl⟩
 obtain ⟨fk,hfk⟩:∃ f,f=jk false:=⟨_,rfl⟩
 have hO:qp Tryz.prog (qJ [(21,jx f1),(12,ql5 f2),(22,qig fs fk)]):=by
  subst hf1 hf2 hfs hfk
  exact qb Q9 (qb qmL (qb qaD qd))
 have htl:f1 t=true->t.ties.length<=14:=fun h=>by rw [hf1] at h;exact zq h
 have hr0:f1 t=false->leV false t most=(-1,0,false):=fun h=>by rw [hf1] at h;unfold leV;rw [h]
 have hr1:f1 t=true->f2 t=true->leV false t most=(-1,0,true):=fun h h'=>by rw [hf1] at h;rw [hf2] at h';unfold leV;rw [h];dsimp only;rw [h']
 obtain ⟨p,hp⟩:∃ p:Nat->Int->Bool,p=fun (i:Nat) (q:Int)=>fk t i q&&f2 (fs t i q):=⟨_,rfl⟩
 have hr2:f1 t=true->f2 t=false->leV false t most=leW (Za p t.ties.length (most:Int).toNat 1):=fun h h'=>by
  rw [hf1] at h
  rw [hf2] at h'
  unfold leV
  rw [h]
  dsimp only
  rw [h',hp,hfk,hf2,hfs]
  rfl
 have hxl:∀ k y,za (fs t k y):=fun k y=>by rw [hfs];exact qeu ht _ _ _
 have hpk:∀ (i:Nat) (q:Int),p i q=(fk t i q&&f2 (fs t i q)):=fun i q=>by rw [hp]
 obtain ⟨m,hm⟩:∃ m,m=t.ties.length:=⟨_,rfl⟩
 rw [<-hm] at hr2 htl
 obtain ⟨n,hn⟩:∃ n,n=(most:Int).toNat:=⟨_,rfl⟩
 rw [<-hn] at hr2
 have hy:∀ f q i,i<m->p i q=true->jr p m f q i=some (i,q):=fun f q i h h'=>qaZ h h'
 have hno:∀ f q i,i<m->p i q=false->jr p m f q i=jr p m f q (i+1):=fun f q i h h'=>qdH h h'
 have hen:∀ f q i,m<=i->jr p m f q i=Za p m f (q+1):=fun f q i h=>qa8 h
 have hst:∀ f q,Za p m (f+1) q=jr p m f q 0:=fun f q=>rfl
 have hnil:∀ q,Za p m 0 q=none:=fun q=>rfl
 obtain ⟨fo,hfo⟩:∃ f,f=Za p m:=⟨_,rfl⟩
 obtain ⟨fm,hfm⟩:∃ f,f=jr p m:=⟨_,rfl⟩
 rw [<-hfm] at hy hno hen hst
 rw [<-hfo] at hen hst hnil hr2
 obtain ⟨v,hv⟩:∃ v,v=leV false t most:=⟨_,rfl⟩
 rw [<-hv] at hr0 hr1 hr2 ⊢
 clear hv hf1 hf2 hfs hfk hp hfo hfm
 obtain ⟨va,vb,vc⟩:=v
 obtain ⟨ns,ts,hor⟩:=t
 dsimp only at hm
 refine SEx.go (X:=XX) qc (fun n=>qa [] [(6,[1,2,3,9]),(9,[1,2,3,9,25,26])] n) (fun _=>none) hO 60 ?_
 intro M R L N m0 m1 m2 m3 m4 m5
 cases M
 cbv
 repeat' first | refine m1 _ _ ?_ ?_ | refine m2 _ _ fun h=>?_ | refine m3 _ ?_ | (refine m4 _ _ (Hd.out ?_);generalize hks:(List.cons _ _:List K)=ks) | (refine m5 _ _ ?_;cbv)
 all_goals (clear m1 m2 m3 m4 m5;cases m0;try dsimp only)
 all_goals try simp only [sm] at *
 all_goals first
  | exact ht
  | (have e:=hr0 (by assumption);injection e with e1 e;injection e with e2 e3;subst e1 e2 e3;rfl)
  | (have e:=hr1 (by assumption) (by assumption);injection e with e1 e;injection e with e2 e3;subst e1 e2 e3;rfl)
  | skip
 have hb:=htl (by assumption)
 rw [hr2 (by assumption) (by assumption)]
 clear hr0 hr1 hr2 htl
 refine ⟨SEx.same (SEx.idx n (fun j=>⟨45,[(1,bI most),(2,.v (false,[.fz (.fn 22 [])])),(3,bP 12288),(9,bI ((j:Nat)+1))],[(12288,.obx [.fz (.sl (.node false none ns)),.fz (.sl (.tie ts)),.fz (.int .i64 hor)])]⟩) (fun j=>rLv (leW (fo (n-j) ((j:Nat)+1)))) ?_) rfl rfl⟩
 intro j hj ih
 rw [<-hks]
 obtain ⟨q,hq⟩:∃ q:Int,q=(j:Nat)+1:=⟨_,rfl⟩
 rw [show ((j+1:Nat):Int)+1=q+1 by omega] at ih
 rw [<-hq]
 have hw1:IntKind.i64.wrap (q+1)=q+1:=qx (by omega) (by omega)
 have hn0:¬q<=most->n-j=0:=fun h=>by omega
 have hn1:q<=most->n-j=n-(j+1)+1:=fun h=>by omega
 refine SEx.go (X:=XX) qc (fun n=>qa [] [(6,[1,2,3,9]),(9,[1,2,3,9,25,26])] n) (fun _=>none) hO 60 ?_
 intro M R L N m0 m1 m2 m3 m4 m5
 cases M
 cbv
 repeat' first | refine m1 _ _ ?_ ?_ | refine m2 _ _ fun h=>?_ | refine m3 _ ?_ | (refine m4 _ _ (Hd.out ?_);first | rw [hks] | generalize hk2:(List.cons _ _:List K)=k2) | (refine m5 _ _ ?_;cbv)
 all_goals (clear m1 m2 m3 m4 m5;cases m0;try dsimp only)
 all_goals try simp only [sm] at *
 all_goals first
  | omega
  | (rw [hn0 (by omega),hnil];rfl)
  | skip
 rw [hn1 (by omega),hst,<-hm]
 refine ⟨SEx.same (SEx.idx m (fun i=>⟨45,[(1,bI most),(2,.v (false,[.fz (.fn 22 [])])),(3,bP 12288),(9,bI q),(25,bI m),(26,bI i)],[(12288,.obx [.fz (.sl (.node false none ns)),.fz (.sl (.tie ts)),.fz (.int .i64 hor)])]⟩) (fun i=>rLv (leW (fm (n-(j+1)) q i))) ?_) rfl rfl⟩
 intro i hi ih2
 rw [<-hk2]
 have hpi:=hpk i q
 have hfound:i<m->fk ⟨ns,ts,hor⟩ i q=true->f2 (fs ⟨ns,ts,hor⟩ i q)=true->fm (n-(j+1)) q i=some (i,q):=fun h a b=>hy _ _ _ h (by rw [hpi,a,b];rfl)
 have hn1':i<m->fk ⟨ns,ts,hor⟩ i q=false->fm (n-(j+1)) q i=fm (n-(j+1)) q (i+1):=fun h a=>hno _ _ _ h (by rw [hpi,a];rfl)
 have hn2':i<m->f2 (fs ⟨ns,ts,hor⟩ i q)=false->fm (n-(j+1)) q i=fm (n-(j+1)) q (i+1):=fun h a=>hno _ _ _ h (by rw [hpi,a];simp)
 have hii:inI (i:Int):=by rw [kv];omega
 have hqq:inI q:=by rw [kv];omega
 clear hpk hpi
 refine SEx.go (X:=XX) qc (fun n=>qa [] [(6,[1,2,3,9]),(9,[1,2,3,9,25,26])] n) (fun _=>none) hO 60 ?_
 intro M R L N m0 m1 m2 m3 m4 m5
 cases M
 cbv
 repeat' first | refine m1 _ _ ?_ ?_ | refine m2 _ _ fun h=>?_ | refine m3 _ ?_ | (refine m4 _ _ (Hd.out ?_);try first | rw [hks] | rw [hk2] | rw [hk3]) | (refine m5 _ _ ?_;cbv)
 all_goals (clear m1 m2 m3 m4 m5;cases m0;(try clear hks;try clear hk2;try clear hk3);try dsimp only)
 all_goals try simp only [sm] at *
 all_goals (try simp only [hw1,qg (show i<9223372036854775807 by omega)])
 all_goals first
  | omega
  | exact ⟨ht,hz,hii,hqq⟩
  | exact hxl _ _
  | (rw [hfound (by omega) (by assumption) (by assumption)];rfl)
  | (rw [hn1' (by omega) (by assumption)];exact ⟨(ih2 (by omega)).same rfl rfl⟩)
  | (rw [hn2' (by omega) (by assumption)];exact ⟨(ih2 (by omega)).same rfl rfl⟩)
  | (rw [hen _ _ _ (by omega)];exact ⟨(ih (by omega)).same rfl rfl⟩)
  | skip
theorem qgx (t:qj)(most:Int)(h:LeH t most):qe Tryz.prog 18 [qH t,aI most] (rLv (leV false t most)):=by
 refine qe.of qc (fn:=Tryz.f18) (c:=Tryz.f18.body.getD .skip) (dr:=fun n=>qa 0 [] n) Tryz.func18 rfl (by kernel_rfl) (by kernel_rfl) (by kernel_rfl) ?_
 obtain ⟨ht,hz,hmo⟩:=h
 obtain ⟨f1,hf1⟩:∃ f,f=qM:=⟨_,rfl⟩
 obtain ⟨f2,hf2⟩:∃ f,f=Vz:=⟨_,rfl⟩
 obtain ⟨fs,hfs⟩:∃ f,f=JO false:=⟨_,rfl⟩
 obtain ⟨fk,hfk⟩:∃ f,f=jk false:=⟨_,rfl⟩
 obtain ⟨f0,hf0⟩:∃ f,f=zp:=⟨_,rfl⟩
 have hin:f0 most 0 20=true:=by rw [hf0];unfold zp;rw [decide_eq_true hmo.1,decide_eq_true hmo.2];rfl
 have hO:qp Tryz.prog (qJ [(26,jx f1),(10,ql5 f2),(40,qig fs fk),(39,YK f0)]):=by
  subst hf1 hf2 hfs hfk hf0
  exact qb Qb (qb qfl (qb qax (qb jW qd)))
 have htl:f1 t=true->t.ties.length<=14:=fun h=>by rw [hf1] at h;exact zq h
 have hr0:f1 t=false->leV false t most=(-1,0,false):=fun h=>by rw [hf1] at h;unfold leV;rw [h]
 have hr1:f1 t=true->f2 t=true->leV false t most=(-1,0,true):=fun h h'=>by rw [hf1] at h;rw [hf2] at h';unfold leV;rw [h];dsimp only;rw [h']
 obtain ⟨p,hp⟩:∃ p:Nat->Int->Bool,p=fun (i:Nat) (q:Int)=>fk t i q&&f2 (fs t i q):=⟨_,rfl⟩
 have hr2:f1 t=true->f2 t=false->leV false t most=leW (Za p t.ties.length (most:Int).toNat 1):=fun h h'=>by
  rw [hf1] at h
  rw [hf2] at h'
  unfold leV
  rw [h]
  dsimp only
  rw [h',hp,hfk,hf2,hfs]
  rfl
 have hxl:∀ k y,za (fs t k y):=fun k y=>by rw [hfs];exact qeu ht _ _ _
 have hpk:∀ (i:Nat) (q:Int),p i q=(fk t i q&&f2 (fs t i q)):=fun i q=>by rw [hp]
 obtain ⟨m,hm⟩:∃ m,m=t.ties.length:=⟨_,rfl⟩
 rw [<-hm] at hr2 htl
 obtain ⟨n,hn⟩:∃ n,n=(most:Int).toNat:=⟨_,rfl⟩
 rw [<-hn] at hr2
 have hy:∀ f q i,i<m->p i q=true->jr p m f q i=some (i,q):=fun f q i h h'=>qaZ h h'
 have hno:∀ f q i,i<m->p i q=false->jr p m f q i=jr p m f q (i+1):=fun f q i h h'=>qdH h h'
 have hen:∀ f q i,m<=i->jr p m f q i=Za p m f (q+1):=fun f q i h=>qa8 h
 have hst:∀ f q,Za p m (f+1) q=jr p m f q 0:=fun f q=>rfl
 have hnil:∀ q,Za p m 0 q=none:=fun q=>rfl
 obtain ⟨fo,hfo⟩:∃ f,f=Za p m:=⟨_,rfl⟩
 obtain ⟨fm,hfm⟩:∃ f,f=jr p m:=⟨_,rfl⟩
 rw [<-hfm] at hy hno hen hst
 rw [<-hfo] at hen hst hnil hr2
 obtain ⟨v,hv⟩:∃ v,v=leV false t most:=⟨_,rfl⟩
 rw [<-hv] at hr0 hr1 hr2 ⊢
 clear hv hf1 hf2 hfs hfk hp hfo hfm hf0
 obtain ⟨va,vb,vc⟩:=v
 obtain ⟨ns,ts,hor⟩:=t
 dsimp only at hm
 refine SEx.go (X:=XX) qc (fun n=>qa [] [(6,[1,2,7]),(9,[1,2,7,28,29])] n) (fun _=>none) hO 60 ?_
 intro M R L N m0 m1 m2 m3 m4 m5
 cases M
 cbv
 repeat' first | refine m1 _ _ ?_ ?_ | refine m2 _ _ fun h=>?_ | refine m3 _ ?_ | (refine m4 _ _ (Hd.out ?_);generalize hks:(List.cons _ _:List K)=ks) | (refine m5 _ _ ?_;cbv)
 all_goals (clear m1 m2 m3 m4 m5;cases m0;try dsimp only)
 all_goals try simp only [sm] at *
 all_goals first
  | exact ht
  | (rw [hin] at *;contradiction)
  | (have e:=hr0 (by assumption);injection e with e1 e;injection e with e2 e3;subst e1 e2 e3;rfl)
  | (have e:=hr1 (by assumption) (by assumption);injection e with e1 e;injection e with e2 e3;subst e1 e2 e3;rfl)
  | skip
 have hb:=htl (by assumption)
 rw [hr2 (by assumption) (by assumption)]
 clear hr0 hr1 hr2 htl
 refine ⟨SEx.same (SEx.idx n (fun j=>⟨47,[(1,bI most),(2,bP 8192),(7,bI ((j:Nat)+1))],[(8192,.obx [.fz (.sl (.node false none ns)),.fz (.sl (.tie ts)),.fz (.int .i64 hor)])]⟩) (fun j=>rLv (leW (fo (n-j) ((j:Nat)+1)))) ?_) rfl rfl⟩
 intro j hj ih
 rw [<-hks]
 obtain ⟨q,hq⟩:∃ q:Int,q=(j:Nat)+1:=⟨_,rfl⟩
 rw [show ((j+1:Nat):Int)+1=q+1 by omega] at ih
 rw [<-hq]
 have hw1:IntKind.i64.wrap (q+1)=q+1:=qx (by omega) (by omega)
 have hn0:¬q<=most->n-j=0:=fun h=>by omega
 have hn1:q<=most->n-j=n-(j+1)+1:=fun h=>by omega
 refine SEx.go (X:=XX) qc (fun n=>qa [] [(6,[1,2,7]),(9,[1,2,7,28,29])] n) (fun _=>none) hO 60 ?_
 intro M R L N m0 m1 m2 m3 m4 m5
 cases M
 cbv
 repeat' first | refine m1 _ _ ?_ ?_ | refine m2 _ _ fun h=>?_ | refine m3 _ ?_ | (refine m4 _ _ (Hd.out ?_);first | rw [hks] | generalize hk2:(List.cons _ _:List K)=k2) | (refine m5 _ _ ?_;cbv)
 all_goals (clear m1 m2 m3 m4 m5;cases m0;try dsimp only)
 all_goals try simp only [sm] at *
 all_goals first
  | omega
  | (rw [hn0 (by omega),hnil];rfl)
  | skip
 rw [hn1 (by omega),hst,<-hm]
 refine ⟨SEx.same (SEx.idx m (fun i=>⟨47,[(1,bI most),(2,bP 8192),(7,bI q),(28,bI m),(29,bI i)],[(8192,.obx [.fz (.sl (.node false none ns)),.fz (.sl (.tie ts)),.fz (.int .i64 hor)])]⟩) (fun i=>rLv (leW (fm (n-(j+1)) q i))) ?_) rfl rfl⟩
 intro i hi ih2
 rw [<-hk2]
 have hpi:=hpk i q
 have hfound:i<m->fk ⟨ns,ts,hor⟩ i q=true->f2 (fs ⟨ns,ts,hor⟩ i q)=true->fm (n-(j+1)) q i=some (i,q):=fun h a b=>hy _ _ _ h (by rw [hpi,a,b];rfl)
 have hn1':i<m->fk ⟨ns,ts,hor⟩ i q=false->fm (n-(j+1)) q i=fm (n-(j+1)) q (i+1):=fun h a=>hno _ _ _ h (by rw [hpi,a];rfl)
 have hn2':i<m->f2 (fs ⟨ns,ts,hor⟩ i q)=false->fm (n-(j+1)) q i=fm (n-(j+1)) q (i+1):=fun h a=>hno _ _ _ h (by rw [hpi,a];simp)
 have hii:inI (i:Int):=by rw [kv];omega
 have hqq:inI q:=by rw [kv];omega
 clear hpk hpi
 refine SEx.go (X:=XX) qc (fun n=>qa [] [(6,[1,2,7]),(9,[1,2,7,28,29])] n) (fun _=>none) hO 60 ?_
 intro M R L N m0 m1 m2 m3 m4 m5
 cases M
 cbv
 repeat' first | refine m1 _ _ ?_ ?_ | refine m2 _ _ fun h=>?_ | refine m3 _ ?_ | (refine m4 _ _ (Hd.out ?_);try first | rw [hks] | rw [hk2] | rw [hk3]) | (refine m5 _ _ ?_;cbv)
 all_goals (clear m1 m2 m3 m4 m5;cases m0;(try clear hks;try clear hk2;try clear hk3);try dsimp only)
 all_goals try simp only [sm] at *
 all_goals (try simp only [hw1,qg (show i<9223372036854775807 by omega)])
 all_goals first
  | omega
  | exact ⟨ht,hz,hii,hqq⟩
  | exact hxl _ _
  | (rw [hfound (by omega) (by assumption) (by assumption)];rfl)
  | (rw [hn1' (by omega) (by assumption)];exact ⟨(ih2 (by omega)).same rfl rfl⟩)
  | (rw [hn2' (by omega) (by assumption)];exact ⟨(ih2 (by omega)).same rfl rfl⟩)
  | (rw [hen _ _ _ (by omega)];exact ⟨(ih (by omega)).same rfl rfl⟩)
  | skip
end Go.Proofs.YtfafehnchmelnaaGreat.Ai
namespace Go.Proofs.YtfafehnchmelnaaGreat.Ai
open Go
set_option maxRecDepth 100000
variable [qf]
structure LeQ (t:qj):Prop where
 le:za t
 mem:QE t
def wLe (k:Nat)(f:qj->Int->Int×Int×Bool):Wr:=w3 qK dcI (qsC k) (fun t m _=>rL (f t m).1 (f t m).2.1 (f t m).2.2) (fun t m _=>[LeH t m])
theorem qqb:qz Tryz.prog 38 (wLe 22 (leV false)):=jL fun t m _ h=>wU t m (h _ (.head _))
def lrV (t:qj)(most:Int):Int×Int×Bool:=match decide (0<=most/\most<=20) with | true=>leV false t most | false=>(-1,0,false)
theorem qld (t:qj)(most:Int)(h:LeQ t):qe Tryz.prog 19 [qH t,aI most] (rLv (lrV t most)):=by
 refine qe.of qc (fn:=Tryz.f19) (c:=Tryz.f19.body.getD .skip) (dr:=fun n=>qa 0 [] n) Tryz.func19 rfl (by kernel_rfl) (by kernel_rfl) (by kernel_rfl) ?_
 obtain ⟨f,hf⟩:∃ f,f=leV false:=⟨_,rfl⟩
 have hO:qp Tryz.prog (qJ [(38,wLe 22 f)]):=by subst hf;exact qb qqb qd
 obtain ⟨h1,h2⟩:=h
 have hi:0<=most->most<=20->lrV t most=f t most:=fun a b=>by unfold lrV;rw [decide_eq_true ⟨a,b⟩,hf]
 have ho:¬(0<=most/\most<=20)->lrV t most=(-1,0,false):=fun a=>by unfold lrV;rw [decide_eq_false a]
 obtain ⟨v,hv⟩:∃ v,v=lrV t most:=⟨_,rfl⟩
 rw [<-hv] at hi ho ⊢
 clear hf hv
 obtain ⟨va,vb,vc⟩:=v
 obtain ⟨ns,ts,hor⟩:=t
 refine SEx.go (X:=XX) qc (fun n=>qa [] [] n) (fun _=>none) hO 60 ?_
 intro M R L N m0 m1 m2 m3 m4 m5
 cases M
 cbv
 repeat' first | refine m1 _ _ ?_ ?_ | refine m2 _ _ fun h=>?_ | refine m3 _ ?_ | (refine m4 _ _ (Hd.out ?_);try first | rw [hks] | rw [hk2] | rw [hk3]) | (refine m5 _ _ ?_;cbv)
 all_goals (clear m1 m2 m3 m4 m5;cases m0;(try clear hks;try clear hk2;try clear hk3);try dsimp only)
 all_goals try simp only [sm] at *
 all_goals first
  | exact ⟨h1,h2,by omega,by omega⟩
  | (have e:=ho (by omega);injection e with e1 e;injection e with e2 e3;subst e1 e2 e3;rfl)
  | (rw [<-hi (by omega) (by omega)];rfl)
  | skip
theorem qf7 (t:qj)(most:Int)(ht:za t)(hm:¬(0<=most/\most<=20)):qe Tryz.prog 18 [qH t,aI most] (rL (-1) 0 false):=by
 refine qe.of qc (fn:=Tryz.f18) (c:=Tryz.f18.body.getD .skip) (dr:=fun n=>qa 0 [] n) Tryz.func18 rfl (by kernel_rfl) (by kernel_rfl) (by kernel_rfl) ?_
 obtain ⟨f1,hf1⟩:∃ f,f=qM:=⟨_,rfl⟩
 obtain ⟨f2,hf2⟩:∃ f,f=Vz:=⟨_,rfl⟩
 obtain ⟨f0,hf0⟩:∃ f,f=zp:=⟨_,rfl⟩
 have hin:f0 most 0 20=true->False:=fun h=>by rw [hf0] at h;unfold zp at h;simp only [Bool.and_eq_true,decide_eq_true_eq] at h;exact hm h
 have hO:qp Tryz.prog (qJ [(26,jx f1),(10,ql5 f2),(39,YK f0)]):=by
  subst hf1 hf2 hf0
  exact qb Qb (qb qfl (qb jW qd))
 clear hf1 hf2 hf0
 obtain ⟨ns,ts,hor⟩:=t
 refine SEx.go (X:=XX) qc (fun n=>qa [] [(6,[1,2,7]),(9,[1,2,7,28,29])] n) (fun _=>none) hO 60 ?_
 intro M R L N m0 m1 m2 m3 m4 m5
 cases M
 cbv
 repeat' first | refine m1 _ _ ?_ ?_ | refine m2 _ _ fun h=>?_ | refine m3 _ ?_ | (refine m4 _ _ (Hd.out ?_);generalize hks:(List.cons _ _:List K)=ks) | (refine m5 _ _ ?_;cbv)
 all_goals (clear m1 m2 m3 m4 m5;cases m0;try dsimp only)
 all_goals try simp only [sm] at *
 all_goals first
  | exact ht
  | rfl
  | exact (hin (by assumption)).elim
  | skip
theorem qk9 (t:qj)(most:Int)(h:LeQ t):qe Tryz.prog 18 [qH t,aI most] (rLv (lrV t most)):=by
 by_cases hm:0<=most/\most<=20
 . have:=qgx t most ⟨h.le,h.mem,hm⟩
   unfold lrV
   rw [decide_eq_true hm]
   exact this
 . have:=qf7 t most h.le hm
   unfold lrV
   rw [decide_eq_false hm]
   exact this
def wLR (f:qj->Int->Int×Int×Bool):Wr:=w2 qK dcI (fun t m=>rL (f t m).1 (f t m).2.1 (f t m).2.2) (fun t _=>[LeQ t])
theorem qpP:qz Tryz.prog 19 (wLR lrV):=qF fun t m h=>qld t m (h _ (.head _))
theorem qo9:qz Tryz.prog 18 (wLR lrV):=qF fun t m h=>qk9 t m (h _ (.head _))
end Go.Proofs.YtfafehnchmelnaaGreat.Ai
namespace Go.Proofs.YtfafehnchmelnaaGreat.Ai
open Go
set_option maxRecDepth 100000
variable [qf]
theorem qnS (t:qj)(m:Int)(ht:qcW t)(hm:inI m):qe Tryz.prog 6 [qH t,aI m] (rB true):=by
 refine qe.of qc (fn:=Tryz.f6) (c:=Tryz.f6.body.getD .skip) (dr:=fun n=>qa 0 [(10,3)] n) Tryz.func6 rfl (by kernel_rfl) (by kernel_rfl) (by kernel_rfl) ?_
 obtain ⟨f,hf⟩:∃ f:qj->Int->Int×Int×Bool,f=lrV:=⟨_,rfl⟩
 obtain ⟨g,hg⟩:∃ g,g=jA:=⟨_,rfl⟩
 have hO:qp Tryz.prog (qJ [(9,qi4 g),(11,qiN),(18,wLR f),(19,wLR f),(13,qi5)]):=by
  subst hf hg
  exact qb qgl (qb qgp (qb qo9 (qb qpP (qb qhm qd))))
 have hA:0<=g t 1048576->qbU t (g t 1048576):=fun h=>by rw [hg] at h ⊢;exact qrb h
 have h1:=ht.le
 have hn:∀ q∈t.nodes,WK q maxLen:=fun q hq=>⟨(ht.nodes q hq).name,(ht.nodes q hq).len⟩
 clear ht hf hg
 obtain ⟨ns,ts,hr⟩:=t
 refine SEx.go (X:=XX) qc (fun n=>qa [] [] n) (fun _=>none) hO 60 ?_
 intro M R L N m0 m1 m2 m3 m4 m5
 cases M
 cbv
 repeat' first | refine m1 _ _ ?_ ?_ | refine m2 _ _ fun h=>?_ | refine m3 _ ?_ | (refine m4 _ _ (Hd.out ?_);try first | rw [hks] | rw [hk2] | rw [hk3]) | (refine m5 _ _ ?_;cbv)
 all_goals (clear m1 m2 m3 m4 m5;cases m0;(try clear hks;try clear hk2;try clear hk3);try dsimp only)
 all_goals try simp only [sm] at *
 all_goals (clear hO)
 all_goals first
  | rfl
  | contradiction
  | exact ⟨h1.len⟩
  | exact ⟨h1.tlen⟩
  | exact ⟨hn⟩
  | exact ⟨⟨by decide,by decide⟩⟩
  | exact ⟨(hA (by assumption)).len⟩
  | exact ⟨(hA (by assumption)).tlen⟩
  | exact ⟨(hA (by assumption)).labs⟩
  | exact h1
  | exact (hA (by assumption)).mem
  | exact ⟨h1,(hA (by assumption)).mem⟩
  | exact ⟨rfl⟩
  | exact ⟨fun q hq=>(h1.nodes q hq).len⟩
  | exact absurd trivial (by assumption)
  | exact absurd rfl (by assumption)
  | skip
end Go.Proofs.YtfafehnchmelnaaGreat.Ai
