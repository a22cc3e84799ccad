/- The law's proof, part 10 of 11: what of its author's texts it needs; no condition. -/
import Derived.Deep.RegionLaw
import Derived.Laws.CopyOwn
import Derived.Test.YtfafehnchmelnaaGreatZbI
set_option linter.unusedSectionVars false
set_option linter.unusedSimpArgs false
set_option linter.unusedVariables false
namespace Go.Proofs.YtfafehnchmelnaaGreat.Ai
open Go Go.RowKit
set_option maxRecDepth 100000
variable [qf]
def zN (c:Int)(n k:Nat):List Value:=List.replicate k (.int .i64 c)++List.replicate (n-k) (.int .i64 0)
theorem wc (c:Int){n k:Nat}(h:k<=n):(zN c n k).length=n:=by simp [zN];omega
theorem WT (c:Int){n k m:Nat}(h:k+m<=n):splice (zN c n k) k (List.replicate m (.int .i64 c))=zN c n (k+m):=by
 unfold splice zN
 rw [List.take_left' (by simp),List.length_replicate,List.drop_append,List.drop_eq_nil_of_le (by simp)]
 simp only [List.length_replicate,List.nil_append,List.drop_replicate]
 rw [<-List.append_assoc,List.replicate_append_replicate]
 congr 2
 omega
theorem qsq {k m n:Nat}(h:k+m<=n)(hn:Hid (n<=1000000)):IntKind.i64.wrap ((k:Int)+(m:Int))=((k+m:Nat):Int):=by
 have:=hn.out
 exact (IntWalk.i64_in _ ⟨by omega,by omega⟩).trans (Int.natCast_add _ _).symm
theorem qrJ {n:Nat}(hn:Hid (n<=1000000)):IntKind.u64.wrap (n:Int)=n:=by
 have:=hn.out
 exact IntWalk.u64_in _ ⟨by omega,by omega⟩
theorem qrX:(Tryz.prog.info? 3).map (fun i=>(i.zero,i.size,i.bytes))=some (some (.int .i64 0),1,8):=by kernel_rfl
theorem qr8 (n:Nat):¬((n:Int)<0):=by omega
theorem qsm {n:Nat}(hn:Hid (n<=1000000)):¬((9223372036854775807:Int)<(n:Int)):=by
 have:=hn.out
 omega
theorem qsv {n:Nat}(hn:Hid (n<=1000000)):wrap64 (n:Int)=n:=by
 have:=hn.out
 unfold wrap64;omega
theorem qrf (n:Nat):madeCells (Value.int .i64 0).cells n=(List.replicate n (Value.int .i64 0)).toArray:=by
 apply Array.ext'
 unfold madeCells
 simp only [Array.toList_map,Array.toList_range,List.toList_toArray]
 apply List.ext_getElem?
 intro j
 rw [List.getElem?_map,List.getElem?_replicate]
 by_cases h:j<n
 . rw [List.getElem?_range h,if_pos h,Option.map_some]
   show some ((#[Value.int .i64 0]:Array Value)[j % 1]!)=_
   rw [Nat.mod_one];rfl
 . rw [if_neg h,List.getElem?_eq_none (by simpa using h)];rfl
theorem Vk {P:Program}(w:World){ops:Array Oper}{rest:List Oper}{o:Oper}{a:Act}{Q:Exit->Act->World->Prop}
 (hg:o.guard=none) (l c:Operand) (t:TypeId) (hop:o.op=Op.makeSlice t l c) (i:TypeInfo) (h1:P.underlying t=some (.slice 3)) (h2:P.info? 3=some i) (h3:i.zero=some (.int .i64 0)) (h4:i.size=1) (h5:i.bytes=8)
 (n:Nat) (hl:a.eval l=.int .i64 n) (hc:a.eval c=.int .i64 n) (hn:Hid (n<=1000000)) (k:Int)
 (hK:∀ w',Hid (w'.heap[w.heap.size]?=some (.cells (zN k n 0).toArray 3 (0,0)))->Hid (Below w.heap.size w w')->wpList P ops Q rest (a.put o.dst (.slice (some ⟨w.heap.size,0,none⟩) n n)) w') :
 wpList P ops Q (o::rest) a w:=by
 have hm:=hn.out
 refine wpList_plain hg fun K hK'=>?_
 have hr:=run_make (P:=P) w t 3 i (.int .i64 0) h1 h2 h3 .i64 .i64 n n (by omega) (Int.le_refl _) (by rw [h5];omega) (by omega)
 rw [h4,Nat.mul_one,qrf] at hr
 simp only [Int.toNat_natCast] at hr
 unfold Oper.wp
 simp [execOp,hop,hl,hc,hr,Result.andThen]
 refine hK' _ _ (hK _ ?_ ?_)
 . show (w.heap.push _)[w.heap.size]?=_
   rw [Array.getElem?_push,if_pos rfl]
   simp [zN]
 . exact ⟨rfl,rfl,rfl,by show w.heap.size<=(w.heap.push _).size;simp,fun k hk=>by show (w.heap.push _)[k]?=_;rw [Array.getElem?_push,if_neg (by omega)]⟩
theorem qrA {n j:Nat}(h:j<n):¬n=j:=by omega
theorem qrD {k n j m:Nat}(hk:k=n+1-j)(h:j<n)(hm:0<m):n+1-(j+m)<k:=by omega
theorem qr1 {j m:Nat}(h:1<=j):1<=j+m:=by omega
theorem qsa (n:Nat):n=n+1-1:=by omega
theorem qse {j n:Nat}(h1:1<=j)(h:j<n):∃ m,Hid (∀ c:Int,(List.replicate m (Value.int .i64 c)).length=Nat.min j (n-j))/\m<=j/\0<m/\j+m<=n:=by
 refine ⟨Nat.min j (n-j),fun (_:Int)=>List.length_replicate,Nat.min_le_left _ _,?_,?_⟩
 . exact (Nat.lt_min).2 ⟨h1,by omega⟩
 . have:Nat.min j (n-j)<=n-j:=Nat.min_le_right _ _
   omega
theorem qoJ {wr:World}{g n j m:Nat}{c:Int}(h:Hid (wr.heap[g]?=some (.cells (zN c n j).toArray 3 (0,0))))(hjn:j+m<=n)(hm:m<=j)(i:Nat)(v:Value)(hi:(List.replicate m (Value.int .i64 c))[i]?=some v):wr.cell? ((⟨g,0,none⟩:Addr).add i)=some v:=by
 have him:i<m:=by
  have:=(List.getElem?_eq_some_iff.1 hi).1
  simpa using this
 rw [Addr.add_lit]
 unfold World.cell?
 dsimp only
 rw [h.out]
 dsimp only
 rw [if_neg (by simp),Nat.zero_add]
 show (zN c n j).toArray[i]?=some v
 rw [List.getElem?_toArray]
 unfold zN
 rw [List.getElem?_append_left (by simp;omega),<-hi,List.getElem?_replicate,List.getElem?_replicate,if_pos (by omega),if_pos him]
theorem qos (c:Int){n j m:Nat}(h:j+m<=n):j+(List.replicate m (Value.int .i64 c)).length<=(zN c n j).length:=by rw [wc c (by omega),List.length_replicate];exact h
theorem qpj (c:Int)(m:Nat):∀ v∈List.replicate m (Value.int .i64 c),v.oneCell'=true:=fun v h=>by
 obtain ⟨_,rfl⟩:=List.mem_replicate.1 h
 rfl
theorem qqc {w:World}{xb xo:Nat}{c:Int}(h:w.cell? ⟨xb,xo,none⟩=some (.int .i64 c))(j:Nat)(v:Value)(hj:[Value.int .i64 c][j]?=some v):w.cell? ((⟨xb,xo,none⟩:Addr).add j)=some v:=by
 cases j with
 | zero=>injection hj with hj;subst hj;exact h
 | succ j=>cases hj
theorem qqN (c:Int){n:Nat}(h:1<=n):0+[Value.int .i64 c].length<=(zN c n 0).length:=by rw [wc c (Nat.zero_le _)];exact h
theorem qqY (c:Int):∀ v∈[Value.int .i64 c],v.oneCell'=true:=fun v h=>by
 obtain rfl:=List.mem_singleton.1 h
 rfl
set_option maxHeartbeats 1600000 in
set_option maxRecDepth 1000000 in
theorem qdB (xb xo xc n:Nat)(c:Int)(w:World)(h1:1<=n)(hn:Hid (n<=1000000))(hxb:xb<w.heap.size)(hx:w.cell? ⟨xb,xo,none⟩=some (.int .i64 c))
 (hM:∀ k:Int,k=n->Calls Tryz.prog 108 #[.int .u64 1,.int .u64 k] w fun e w'=>e=.returned (.tuple #[.int .u64 0,.int .u64 n])/\w=w') :
 Calls Tryz.prog 65 #[.slice (some ⟨xb,xo,none⟩) 1 xc,.int .i64 n] w fun e w'=>e=.returned (.slice (some ⟨w.heap.size,0,none⟩) n n)/\w'.heap[w.heap.size]?=some (.cells (zN c n n).toArray 3 (0,0))/\Below w.heap.size w w':=by
 obtain ⟨i0,hi,hz0,hz1,hz2⟩:=info_parts qrX
 go_enter Tryz.func65,Tryz.ntmps65
 have hwu:IntKind.u64.wrap (n:Int)=n:=qrJ hn
 have hwi:wrap64 (n:Int)=n:=qsv hn
 have hn0:¬((n:Int)<0):=qr8 n
 have hng:¬((9223372036854775807:Int)<(n:Int)):=qsm hn
 go_wp2_with (first | (go_at_call 108;refine (hM _ rfl).mono ?_;rintro e w' ⟨rfl,rfl⟩) | (at_make;refine Vk _ rfl _ _ 48 rfl i0 Tryz.underlying48 hi hz0 hz1 hz2 n rfl rfl hn c ?_))
 intro w1 hg1 hb1
 have hx1:w1.cell? ⟨xb,xo,none⟩=some (.int .i64 c):=(World.cell?_of_block (a:=⟨xb,xo,none⟩) (hb1.out.block xb hxb)).trans hx
 have hmin:Nat.min 1 n=1:=Nat.min_eq_left h1
 go_wp2_with ((refine wpList_copy_splice (o:=⟨some 33,_,_,_,_,_⟩) rfl (.tmp 31) (.tmp 32) 48 48 rfl 3 Tryz.underlying48 (by rw [hi];exact congrArg some hz1) (some ⟨w.heap.size,0,none⟩) (some ⟨xb,xo,none⟩) n n 1 xc rfl rfl w.heap.size 0 (zN c n 0) 3 hg1.out [.int .i64 c] hmin.symm (fun _=>⟨rfl,⟨xb,xo,none⟩,rfl,qqc hx1⟩) (qqN c h1) (qqY c) w.heap.size w hb1.out (Nat.le_refl _) ?_))
 intro w2 hg2 hb2
 have e2:splice (zN c n 0) 0 [Value.int .i64 c]=zN c n 1:=WT c (k:=0) (m:=1) (by omega)
 rw [e2] at hg2
 have hb2:Hid (Below w.heap.size w w2):=hb2
 clear e2 hx1 hg1 hb1
 go_wp2
 go_loopg [8] n (fun k b wr=>∃ j,k=n+1-j/\1<=j/\j<=n/\b=.int .i64 j/\Hid (wr.heap[w.heap.size]?=some (.cells (zN c n j).toArray 3 (0,0)))/\Hid (Below w.heap.size w wr))
 case atStart=>exact ⟨1,qsa n,Nat.le_refl _,h1,rfl,hg2,hb2⟩
 case round =>
  obtain ⟨j,hk,hj1,hjn,rfl,hgr,hbr⟩:=hrel
  by_cases hlt:j<n
  . have hlt':=qq7 hlt
    obtain ⟨m,hm,hmj,hm1,hm2⟩:=qse hj1 hlt
    have hnj:¬n=j:=qrA hlt
    have hgd:Hid (wr.drew.heap[w.heap.size]?=some (.cells (zN c n j).toArray 3 (0,0))):=hgr
    go_wp2
    go_region_law (refine step_copy_splice (o:=⟨some 45,_,_,_,_,_⟩) rfl (.tmp 41) (.tmp 44) 48 48 rfl 3 Tryz.underlying48 (by rw [hi];exact congrArg some hz1) (some ⟨w.heap.size,j,none⟩) (some ⟨w.heap.size,0,none⟩) (n-j) (n-j) j n (by simp [Act.eval,Act.put,hnj]) (by simp [Act.eval,Act.put]) w.heap.size j (zN c n j) 3 hgd.out (List.replicate m (.int .i64 c)) (hm.out c) (fun _=>⟨rfl,⟨w.heap.size,0,none⟩,rfl,qoJ hgd hm2 hmj⟩) (qos c hm2) (qpj c m) w.heap.size w hbr.out.drew (Nat.le_refl _) ?_;intro w4 hg4 hb4)
    go_wp2
    go_roundg (n+1-(j+m))
    case measure=>first | exact qrD hk hlt hm1 | exact qrD rfl hlt hm1
    case rel =>
     have e5:splice (zN c n j) j (List.replicate m (.int .i64 c))=zN c n (j+m):=WT c hm2
     rw [e5] at hg4
     exact ⟨j+m,rfl,qr1 hj1,hm2,congrArg _ (qsq hm2 hn),hg4,hb4⟩
  . obtain rfl:=qq5 hjn hlt
    go_wp2
    go_ret
    exact ⟨rfl,hgr.out,hbr.out⟩
theorem qqV {n:Nat}(hn:Hid (n<=1000000)):bits BinOp.and IntKind.u64 (n:Int) 4294967295=n:=by
 have h:=hn.out
 have h1:=bits_and_u64_nat n 4294967295 (by omega) (by omega)
 have h2:n &&& 4294967295=n:=by
  rw [show (4294967295:Nat)=2 ^ 32-1 by decide,Nat.and_two_pow_sub_one_eq_mod]
  exact Nat.mod_eq_of_lt (by omega)
 rw [h2] at h1
 exact h1
theorem qnn (n:Nat)(hn:Hid (n<=1000000))(w:World):Calls Tryz.prog 108 #[.int .u64 1,.int .u64 n] w fun e w'=>e=.returned (.tuple #[.int .u64 0,.int .u64 n])/\w=w':=by
 have hb1:bits BinOp.and IntKind.u64 1 4294967295=1:=by decide +kernel
 have hb0:bits BinOp.and IntKind.u64 0 4294967295=0:=by decide +kernel
 have hb2:bits BinOp.and IntKind.u64 (n:Int) 4294967295=n:=qqV hn
 have hw:IntKind.u64.wrap (n:Int)=n:=qrJ hn
 have hw0:IntKind.u64.wrap 0=0:=by decide +kernel
 have hd:(n:Int) / 4294967296=0:=by have:=hn.out;omega
 go_enter Tryz.func108,Tryz.ntmps108
 go_wp2
 go_ret2
 exact ⟨rfl,rfl⟩
end Go.Proofs.YtfafehnchmelnaaGreat.Ai
namespace Go.Proofs.YtfafehnchmelnaaGreat.Ai
open Go Go.RowKit
set_option maxRecDepth 100000
variable [qf]
theorem qoc {J:qk}{w w':World}{n:Nat}{c:Int}(h1:1<=n)(hn:n<=1000000)(hg:w'.heap[w.heap.size]?=some (.cells (zN c n n).toArray 3 (0,0)))(hb:Below w.heap.size w w'):@ja J w (.v (false,[.osl (qN (List.replicate n c))])) (.slice (some ⟨w.heap.size,0,none⟩) n n) w':=by
 letI:=J
 refine ⟨zJ.of_below hb,?_⟩
 have hlt:w.heap.size<w'.heap.size:=by
  apply Classical.byContradiction
  intro h
  rw [Array.getElem?_eq_none (by omega)] at hg
  cases hg
 have hcl:(qN (List.replicate n c)).length=n:=by simp [qN]
 refine ⟨fun g=>if g=w.heap.size then some ⟨(qy,[(0,0)]),n,n,1⟩ else none,fun g x hx=>?_,fun g g' x y hx hy _=>?_,?_,fun g x hx=>?_⟩
 . dsimp only at hx
   split at hx
   . rename_i e;subst e;exact ⟨Nat.le_refl _,hlt⟩
   . cases hx
 . dsimp only at hx hy
   split at hx
   . split at hy
     . rename_i e1 e2;exact e1.trans e2.symm
     . cases hy
   . cases hx
 . have h9:qq w' (fun g=>if g=w.heap.size then some ⟨(qy,[(0,0)]),n,n,1⟩ else none) (qy,[(0,0)]) (.osl (qN (List.replicate n c))) (.slice (some ⟨w.heap.size,0,none⟩) (qN (List.replicate n c)).length n):=by
    refine qq.osl _ (qN (List.replicate n c)) 3 1 w.heap.size n (zN c n n).toArray (fun _ _=>.int .i64 c) hg ⟨by omega,by omega⟩ (by unfold maxLen;omega) (by rw [List.size_toArray,wc c (Nat.le_refl _)];omega) (fun y hy=>?_) (by rw [if_pos rfl,hcl]) (fun i j y o hi hj=>?_) fun i j y o hi hj=>?_
    . obtain ⟨x,_,rfl⟩:=List.mem_map.1 hy;rfl
    . obtain ⟨x,hx,rfl,rfl⟩:=ZW hi hj
      rw [List.getElem?_replicate] at hx
      split at hx
      . rename_i hin
        rw [show i * 1+0=i by omega,List.getElem?_toArray]
        unfold zN
        rw [List.getElem?_append_left (by simpa using hin),List.getElem?_replicate,if_pos hin]
      . cases hx
    . obtain ⟨x,hx,rfl,rfl⟩:=ZW hi hj
      rw [List.getElem?_replicate] at hx
      split at hx
      . injection hx with hx
        subst hx
        exact .fz _ _ _ (.int _ _)
      . cases hx
   rw [hcl] at h9
   exact h9
 . dsimp only at hx
   split at hx
   . injection hx with hx
     subst hx
     exact ⟨0,0,.osl (qN (List.replicate n c)),[],rfl,by decide,by decide,rfl,⟨hcl,by show 0<n;omega⟩⟩
   . cases hx
theorem qk6 (n:Nat)(c:Int)(h1:1<=n)(hn:n<=1000000):qe Tryz.prog 65 [aIs [c],aI n] (rIs (List.replicate n c)):=by
 have key:zE Tryz.prog 65 [(false,[.sl (rcI [c])]),(false,[.int .i64 n])] (.v (false,[.osl (qN (List.replicate n c))])):=by
  refine ⟨⟨_,_,Tryz.func65,rfl,by kernel_rfl⟩,fun J w vals hfut hold hsz ha=>?_⟩
  letI:=J
  obtain ⟨u,hu,hr⟩:=ha 0 _ rfl
  obtain ⟨u2,hu2,hr2⟩:=ha 1 _ rfl
  have hr:qr w (fun _=>none) (.sl (rcI [c])) u:=hr
  have hr2:qr w (fun _=>none) (.int .i64 n) u2:=hr2
  obtain rfl:vals=#[u,u2]:=by
   apply Array.ext'
   have h2:vals.toList.length=2:=by simpa using hsz
   have h3:vals.toList[0]?=some u:=by simpa using hu
   have h4:vals.toList[1]?=some u2:=by simpa using hu2
   generalize vals.toList=q at h2 h3 h4
   match q,h2 with
   | [x,y],_=>simp at h3 h4;simp [h3,h4]
  cases hr2
  obtain ⟨a,cp,rfl,hc⟩:=qdd hr
  obtain ⟨b,o,rfl,hb,hcl⟩:=hc (by simp)
  refine (qdB b o cp n c w h1 hn hb (hcl 0 (by simp)) (fun k hk=>by subst hk;exact qnn n hn w)).mono ?_
  rintro e w' ⟨rfl,hg,hbl⟩
  exact ⟨_,rfl,qoc h1 hn hg hbl⟩
 have e1:(rIs (List.replicate n c)).er W.erL=.v (false,[.osl (qN (List.replicate n c))]):=by rw [<-Jf];rfl
 unfold qe
 rw [e1]
 exact key
end Go.Proofs.YtfafehnchmelnaaGreat.Ai
namespace Go.Proofs.YtfafehnchmelnaaGreat.Ai
open Go
set_option maxRecDepth 100000
variable [qf]
def qof (l:List Int)(n:Int):List Int:=List.replicate n.toNat (l.getD 0 0)
structure qss (l:List Int)(n:Int):Prop where out:l.length=1/\1<=n/\n<=1000000
def qrr (f:List Int->Int->List Int):Wr:=w2 kx dcI (fun l n=>rUs (f l n)) (fun l n=>[qss l n])
theorem qo4:qA Tryz.prog 65 (qrr qof):=qG fun l n h=>by
 obtain ⟨h0,h1,h2⟩:=(h _ (.head _)).out
 obtain ⟨c,rfl⟩:=List.length_eq_one_iff.1 h0
 have h3:=qk6 n.toNat c (by omega) (by omega)
 rw [Int.toNat_of_nonneg (by omega)] at h3
 exact h3
def ZI (n:Nat):List Int:=(List.replicate n (-1)).set 0 0
def zO (t:qm):qh:=match qO t with | true=>⟨0,ZI t.nodes.length,[0,0,0]⟩ | false=>⟨0,[],[]⟩
theorem qbT (t:qm)(ht:zF t):qe Tryz.prog 32 [qM t] (kD (zO t)):=by
 refine qe.of qc (fn:=Tryz.f32) (c:=Tryz.f32.body.getD .skip) (dr:=fun n=>qa 0 [(3,8)] n) Tryz.func32 rfl (by kernel_rfl) (by kernel_rfl) (by kernel_rfl) ?_
 obtain ⟨f1,hf1⟩:∃ f,f=qO:=⟨_,rfl⟩
 obtain ⟨f2,hf2⟩:∃ f,f=qof:=⟨_,rfl⟩
 have hO:qp Tryz.prog (qK [(21,Q2 f1),(65,qrr f2)]):=by
  subst hf1 hf2
  exact qb Ku (qb qo4 qd)
 have hn:f1 t=true->1<=t.nodes.length/\t.nodes.length<=7:=fun h=>by rw [hf1] at h;exact qF h
 have hl:(f2 [-1] t.nodes.length).length=t.nodes.length:=by rw [hf2];simp [qof]
 have hr0:f1 t=false->zO t=⟨0,[],[]⟩:=fun h=>by rw [hf1] at h;unfold zO;rw [h]
 have hr1:f1 t=true->zO t=⟨0,(f2 [-1] t.nodes.length).set 0 0,[0,0,0]⟩:=fun h=>by rw [hf1] at h;unfold zO;rw [h,hf2];simp [qof,ZI]
 obtain ⟨s,hs⟩:∃ s,s=zO t:=⟨_,rfl⟩
 rw [<-hs] at hr0 hr1 ⊢
 clear hs hf1 hf2
 obtain ⟨ns,ts,hr⟩:=t
 dsimp only at hn hl hr1
 obtain ⟨now,tm,vs⟩:=s
 refine SEx.go (X:=XX) qc (fun n=>qa [] [] n) (fun _=>none) hO 60 ?_
 intro M R L N m0 m1 m2 m3 m4 m5
 cases M
 cbv
 repeat' first | refine m1 _ _ ?_ ?_ | refine m2 _ _ fun h=>?_ | refine m3 _ ?_ | (refine m4 _ _ (Hd.out ?_);try first | rw [hks] | rw [hk2] | rw [hk3]) | (refine m5 _ _ ?_;cbv)
 all_goals (clear m1 m2 m3 m4 m5;cases m0;(try clear hks;try clear hk2;try clear hk3);try dsimp only)
 all_goals try simp only [sm] at *
 all_goals first
  | exact ht
  | exact ⟨⟨rfl,by have:=hn (by assumption);omega,by have:=hn (by assumption);omega⟩⟩
  | (have:=hn (by assumption);omega)
  | (have:=qZ;omega)
  | (have e:=hr0 (by assumption);injection e with e1 e2 e3;subst e1 e2 e3;rfl)
  | (have e:=hr1 (by assumption);injection e with e1 e2 e3;subst e1 e2 e3;rfl)
  | skip
theorem Zs (n:Nat):(ZI n).length=n:=by simp [ZI]
theorem qas {n i:Nat}(h:i<n):(ZI n).take (i+1)=(ZI n).take i++[if i=0 then 0 else -1]:=by
 rw [List.take_add_one,List.getElem?_eq_getElem (by rw [Zs];exact h),Option.toList_some]
 congr 2
 unfold ZI
 rw [List.getElem_set]
 by_cases e:i=0
 . subst e;simp
 . rw [if_neg (by omega),if_neg e];simp
theorem qcO (t:qm)(ht:zF t):qe Tryz.prog 28 [qM t] (kD (zO t)):=by
 refine qe.of qc (fn:=Tryz.f28) (c:=Tryz.f28.body.getD .skip) (dr:=fun n=>qa 0 [] n) Tryz.func28 rfl (by kernel_rfl) (by kernel_rfl) (by kernel_rfl) ?_
 obtain ⟨f1,hf1⟩:∃ f,f=qO:=⟨_,rfl⟩
 have hO:qp Tryz.prog (qK [(26,Q2 f1)]):=by
  subst hf1
  exact qb KW qd
 have hn:f1 t=true->1<=t.nodes.length/\t.nodes.length<=7:=fun h=>by rw [hf1] at h;exact qF h
 have hr0:f1 t=false->zO t=⟨0,[],[]⟩:=fun h=>by rw [hf1] at h;unfold zO;rw [h]
 have hr1:f1 t=true->zO t=⟨0,ZI t.nodes.length,[0,0,0]⟩:=fun h=>by rw [hf1] at h;unfold zO;rw [h]
 obtain ⟨s,hs⟩:∃ s,s=zO t:=⟨_,rfl⟩
 rw [<-hs] at hr0 hr1 ⊢
 clear hs hf1
 obtain ⟨ns,ts,hr⟩:=t
 dsimp only at hn hr1
 obtain ⟨now,tm,vs⟩:=s
 refine SEx.go (X:=XX) qc (fun n=>qa [] [(5,[2,3,14,15])] n) (fun _=>none) hO 60 ?_
 intro M R L N m0 m1 m2 m3 m4 m5
 cases M
 cbv
 repeat' first | refine m1 _ _ ?_ ?_ | refine m2 _ _ fun h=>?_ | refine m3 _ ?_ | (refine m4 _ _ (Hd.out ?_);generalize hks:(List.cons _ _:List K)=ks) | (refine m5 _ _ ?_;cbv)
 all_goals (clear m1 m2 m3 m4 m5;cases m0;try dsimp only)
 all_goals try simp only [sm] at *
 all_goals first
  | exact ht
  | (have:=hn (by assumption);omega)
  | (have:=qZ;omega)
  | (have e:=hr0 (by assumption);injection e with e1 e2 e3;subst e1 e2 e3;rfl)
  | skip
 have hn:=hn (by assumption)
 have e:=hr1 (by assumption)
 injection e with e1 e2 e3
 subst e1 e2 e3
 clear hr0 hr1
 obtain ⟨m,hm⟩:∃ m,m=ns.length:=⟨_,rfl⟩
 rw [<-hm] at hn ⊢
 refine ⟨SEx.same (SEx.idx m (fun i=>⟨28,[(2,bP 8192),(3,bP 12288),(14,bI m),(15,bI i)],[(8192,.obx [.fz (.int .i64 0),.onil,.onil]),(12288,.obx [.fz (.int .i64 0),.osl (.i ((ZI m).take i)),.osl (.i [0,0,0])])]⟩) (fun _=>kD ⟨0,ZI m,[0,0,0]⟩) ?_) rfl rfl⟩
 intro i hi ih
 rw [<-hks]
 obtain ⟨u,hu⟩:∃ u,u=(ZI m).take i:=⟨_,rfl⟩
 have hul:u.length=i:=by rw [hu,List.length_take,Zs];omega
 have h0:i<m->i=0->(ZI m).take (i+1)=u++[0]:=fun h e=>by rw [qas h,hu,if_pos e]
 have h1:i<m->¬i=0->(ZI m).take (i+1)=u++[-1]:=fun h e=>by rw [qas h,hu,if_neg e]
 have h2:i=m->ZI m=u:=fun e=>by rw [hu,e,List.take_of_length_le (by rw [Zs];omega)]
 rw [<-hu]
 clear hu
 obtain ⟨tm,htm⟩:∃ tm,tm=ZI m:=⟨_,rfl⟩
 rw [<-htm] at h0 h1 h2 ih ⊢
 refine SEx.go (X:=XX) qc (fun n=>qa [] [(5,[2,3,14,15])] n) (fun _=>none) hO 60 ?_
 intro M R L N m0 m1 m2 m3 m4 m5
 cases M
 cbv
 repeat' first | refine m1 _ _ ?_ ?_ | refine m2 _ _ fun h=>?_ | refine m3 _ ?_ | (refine m4 _ _ (Hd.out ?_);try first | rw [hks] | rw [hk2] | rw [hk3]) | (refine m5 _ _ ?_;cbv)
 all_goals (clear m1 m2 m3 m4 m5;cases m0;(try clear hks;try clear hk2;try clear hk3);try dsimp only)
 all_goals try simp only [sm] at *
 all_goals try simp only [List.length_append,List.length_cons,List.length_nil,List.length_set] at *
 all_goals (try omega)
 all_goals (try (have:=qZ;omega))
 all_goals (try simp only [qg (show i<9223372036854775807 by omega)])
 all_goals first
  | (have ih':=ih (by omega)
     rw [h0 (by omega) (by omega)] at ih'
     exact ⟨ih'.same rfl rfl⟩)
  | (have ih':=ih (by omega)
     rw [h1 (by omega) (by omega)] at ih'
     exact ⟨ih'.same rfl rfl⟩)
  | (rw [h2 (by omega)];rfl)
  | skip
end Go.Proofs.YtfafehnchmelnaaGreat.Ai
namespace Go.Proofs.YtfafehnchmelnaaGreat.Ai
open Go
set_option maxRecDepth 100000
variable [qf]
theorem qmy {t:qm}(h:qO t=true):(nd t.nodes 0).watch=0:=by
 unfold qO jN Qa at h
 simp only [Bool.and_eq_true,decide_eq_true_eq] at h
 exact h.1.1.2.2
theorem qfB {n i:Nat}(h:i<n):(ZI n).getD i 0=if i=0 then 0 else -1:=by
 rw [List.getD_eq_getElem?_getD,List.getElem?_eq_getElem (by rw [Zs];exact h),Option.getD_some]
 unfold ZI
 rw [List.getElem_set]
 by_cases e:i=0
 . subst e;simp
 . rw [if_neg (by omega),if_neg e];simp
theorem qkH {t:qm}(h:qO t=true):zO t=⟨0,ZI t.nodes.length,[0,0,0]⟩:=by unfold zO;rw [h]
theorem wl {t:qm}(h:qO t=true):StT t (zO t):=by
 have hn:=qF h
 have hh:=zo h
 rw [qkH h]
 refine ⟨h,z8.2 ⟨⟨Int.le_refl _,by show (0:Int)<=t.hor+1;omega,Zs _⟩,(by decide:qW [0,0,0]=true),fun i hi=>?_,fun i hi=>?_⟩⟩
 . have hi:i<t.nodes.length:=by rw [<-Zs t.nodes.length];exact hi
   show ZD 0 i ((ZI t.nodes.length).getD i 0)=true
   unfold ZD
   rw [qfB hi,decide_eq_true_eq]
   split<;>omega
 . have hi:i<3:=hi
   show qbQ t.nodes (ZI t.nodes.length) i (([0,0,0]:List Int).getD i 0)=true
   have e0:([0,0,0]:List Int).getD i 0=0:=by
    have:i=0\/i=1\/i=2:=by omega
    rcases this with rfl | rfl | rfl<;>rfl
   unfold qbQ QV
   rw [e0]
   by_cases hw:0<=zq t.nodes ((i:Int)+1)
   . have h1:=qbl hw
     have h2:=qmy h
     have h3:(zq t.nodes ((i:Int)+1)).toNat<t.nodes.length:=by
      have:=(VC (fun q:qi=>q.watch == ((i:Int)+1)) t.nodes 0).1
      have e:zq t.nodes ((i:Int)+1)=zV (fun q:qi=>q.watch == ((i:Int)+1)) t.nodes 0:=rfl
      omega
     have h4:(zq t.nodes ((i:Int)+1)).toNat≠0:=by
      intro e
      rw [show zq t.nodes ((i:Int)+1)=0 by omega,h2] at h1
      omega
     rw [qfB h3,if_neg h4,decide_eq_true hw]
     decide
   . rw [decide_eq_false hw]
     rfl
def qal (t:qm):Bool:=qO t&&kT t (zO t)
theorem qjx (t:qm)(ht:zF t):kM t (zO t):=by
 refine ⟨ht,?_⟩
 cases h:qO t with
 | true=>exact qgP (wl h)
 | false =>
   have e:zO t=⟨0,[],[]⟩:=by unfold zO;rw [h]
   rw [e]
   exact ⟨by rw [Zb];show -9223372036854775808<=(0:Int)/\(0:Int)<=9223372036854775807;omega,Nat.zero_le _,Nat.zero_le _⟩
theorem ql2 (t:qm):cwB t (zO t)=qal t:=by
 unfold cwB qal
 cases h:qO t with
 | false=>unfold WE;rw [h];rfl
 | true=>unfold WE;rw [h,(wl h).st];rfl
def qci (f:qm->qh):Wr:=w1 qL (fun t=>kD (f t)) (fun t=>[zF t])
theorem qgR:qA Tryz.prog 32 (qci zO):=zf fun t h=>qbT t (h _ (.head _))
theorem qf2:qA Tryz.prog 28 (qci zO):=zf fun t h=>qcO t (h _ (.head _))
theorem qhE (t:qm)(ht:zF t):qe Tryz.prog 12 [qM t] (rB (qal t)):=by
 refine qe.of qc (fn:=Tryz.f12) (c:=Tryz.f12.body.getD .skip) (dr:=fun n=>qa 0 [(1,3)] n) Tryz.func12 rfl (by kernel_rfl) (by kernel_rfl) (by kernel_rfl) ?_
 obtain ⟨f1,hf1⟩:∃ f,f=zO:=⟨_,rfl⟩
 obtain ⟨f2,hf2⟩:∃ f,f=cwB:=⟨_,rfl⟩
 have hO:qp Tryz.prog (qK [(32,qci f1),(31,qif f2)]):=by
  subst hf1 hf2
  exact qb qgR (qb qc4 qd)
 have h1:kM t (f1 t):=by rw [hf1];exact qjx t ht
 rw [<-ql2,<-hf1,<-hf2]
 clear hf1 hf2
 obtain ⟨s,hs⟩:∃ s,s=f1 t:=⟨_,rfl⟩
 rw [<-hs] at h1 ⊢
 obtain ⟨ns,ts,hr⟩:=t
 refine SEx.go (X:=XX) qc (fun n=>qa [] [] n) (fun _=>none) hO 60 ?_
 intro M R L N m0 m1 m2 m3 m4 m5
 cases M
 cbv
 repeat' first | refine m1 _ _ ?_ ?_ | refine m2 _ _ fun h=>?_ | refine m3 _ ?_ | (refine m4 _ _ (Hd.out ?_);try first | rw [hks] | rw [hk2] | rw [hk3]) | (refine m5 _ _ ?_;cbv)
 all_goals (clear m1 m2 m3 m4 m5;cases m0;(try clear hks;try clear hk2;try clear hk3);try dsimp only)
 all_goals try simp only [sm] at *
 all_goals first
  | exact ht
  | (rw [<-hs];exact h1)
  | (rw [<-hs];rfl)
  | skip
theorem qgJ (t:qm)(ht:zF t):qe Tryz.prog 10 [qM t] (rB (qal t)):=by
 refine qe.of qc (fn:=Tryz.f10) (c:=Tryz.f10.body.getD .skip) (dr:=fun n=>qa 0 [(1,6)] n) Tryz.func10 rfl (by kernel_rfl) (by kernel_rfl) (by kernel_rfl) ?_
 obtain ⟨f1,hf1⟩:∃ f,f=zO:=⟨_,rfl⟩
 obtain ⟨f2,hf2⟩:∃ f,f=kT:=⟨_,rfl⟩
 obtain ⟨f0,hf0⟩:∃ f,f=qO:=⟨_,rfl⟩
 have hO:qp Tryz.prog (qK [(26,Q2 f0),(28,qci f1),(27,qoz 12 f2)]):=by
  subst hf0 hf1 hf2
  exact qb KW (qb qf2 (qb (qdR 12) qd))
 have h1:f0 t=true->GmX 12 t (f1 t):=fun h=>by rw [hf0] at h;rw [hf1];exact qms ht (wl h)
 have hr:qal t=(f0 t&&f2 t (f1 t)):=by rw [hf0,hf1,hf2];rfl
 rw [hr]
 clear hf0 hf1 hf2 hr
 obtain ⟨s,hs⟩:∃ s,s=f1 t:=⟨_,rfl⟩
 rw [<-hs] at h1 ⊢
 obtain ⟨ns,ts,hr⟩:=t
 refine SEx.go (X:=XX) qc (fun n=>qa [] [] n) (fun _=>none) hO 60 ?_
 intro M R L N m0 m1 m2 m3 m4 m5
 cases M
 cbv
 repeat' first | refine m1 _ _ ?_ ?_ | refine m2 _ _ fun h=>?_ | refine m3 _ ?_ | (refine m4 _ _ (Hd.out ?_);try first | rw [hks] | rw [hk2] | rw [hk3]) | (refine m5 _ _ ?_;cbv)
 all_goals (clear m1 m2 m3 m4 m5;cases m0;(try clear hks;try clear hk2;try clear hk3);try dsimp only)
 all_goals try simp only [sm] at *
 all_goals first
  | exact ht
  | (rw [<-hs];exact h1 (by assumption))
  | (rw [<-hs];refine qV ?_ _;simp_all;done)
  | (refine qV ?_ _;simp_all;done)
  | skip
def qpG (f:qm->Bool):Wr:=w1 qL (fun t=>rB (f t)) (fun t=>[zF t])
theorem qmh:qA Tryz.prog 12 (qpG qal):=zf fun t h=>qhE t (h _ (.head _))
theorem qmi:qA Tryz.prog 10 (qpG qal):=zf fun t h=>qgJ t (h _ (.head _))
end Go.Proofs.YtfafehnchmelnaaGreat.Ai
namespace Go.Proofs.YtfafehnchmelnaaGreat.Ai
open Go
set_option maxRecDepth 100000
variable [qf]
def jI (p:qm->Bool)(t:qm):Nat->Int->Int
 | 0,_=>-1
 | n+1,h=>match p ⟨t.nodes,t.ties,h⟩ with | true=>h-t.hor | false=>jI p t n (h+1)
def QT (t:qm):Int:=match qO t with | true=>jI qal t (11-t.hor).toNat t.hor | false=>-1
theorem qdh (t:qm)(ht:zF t)(hz:ZP t):qe Tryz.prog 15 [qM t] (rI (QT t)):=by
 refine qe.of qc (fn:=Tryz.f15) (c:=Tryz.f15.body.getD .skip) (dr:=fun n=>qa 0 [] n) Tryz.func15 rfl (by kernel_rfl) (by kernel_rfl) (by kernel_rfl) ?_
 obtain ⟨f1,hf1⟩:∃ f,f=qO:=⟨_,rfl⟩
 obtain ⟨f2,hf2⟩:∃ f,f=qal:=⟨_,rfl⟩
 have hO:qp Tryz.prog (qK [(21,Q2 f1),(36,Jy),(12,qpG f2)]):=by
  subst hf1 hf2
  exact qb Ku (qb qcl (qb qmh qd))
 have hh:f1 t=true->1<=t.hor/\t.hor<=10:=fun h=>by rw [hf1] at h;exact zo h
 have hr0:f1 t=false->QT t=-1:=fun h=>by rw [hf1] at h;unfold QT;rw [h]
 have hr1:f1 t=true->QT t=jI f2 t (11-t.hor).toNat t.hor:=fun h=>by rw [hf1] at h;unfold QT;rw [h,hf2]
 have hs0:∀ h,jI f2 t 0 h=-1:=fun h=>rfl
 have hs1:∀ n h,f2 ⟨t.nodes,t.ties,h⟩=true->jI f2 t (n+1) h=h-t.hor:=fun n h e=>by unfold jI;rw [e]
 have hs2:∀ n h,f2 ⟨t.nodes,t.ties,h⟩=false->jI f2 t (n+1) h=jI f2 t n (h+1):=fun n h e=>by conv=>lhs;unfold jI;rw [e]
 have hle:∀ h,zF ⟨t.nodes,t.ties,h⟩:=fun h=>⟨ht.len,ht.tlen,ht.nodes⟩
 obtain ⟨fm,hfm⟩:∃ f,f=jI f2 t:=⟨_,rfl⟩
 rw [<-hfm] at hr1 hs0 hs1 hs2
 obtain ⟨r,hr⟩:∃ r,r=QT t:=⟨_,rfl⟩
 rw [<-hr] at hr0 hr1 ⊢
 clear hr hf1 hf2 hfm
 obtain ⟨ns,ts,hor⟩:=t
 dsimp only at hh hr1 hs1 hs2 hle
 refine SEx.go (X:=XX) qc (fun n=>qa [] [(4,[1,3])] n) (fun _=>none) hO 60 ?_
 intro M R L N m0 m1 m2 m3 m4 m5
 cases M
 cbv
 repeat' first | refine m1 _ _ ?_ ?_ | refine m2 _ _ fun h=>?_ | refine m3 _ ?_ | (refine m4 _ _ (Hd.out ?_);generalize hks:(List.cons _ _:List K)=ks) | (refine m5 _ _ ?_;cbv)
 all_goals (clear m1 m2 m3 m4 m5;cases m0;try dsimp only)
 all_goals try simp only [sm] at *
 all_goals first
  | exact ht
  | exact hz
  | (rw [hr0 (by assumption)];rfl)
  | skip
 have hb:=hh (by assumption)
 rw [hr1 (by assumption)]
 clear hr0 hr1 hh
 obtain ⟨n,hn⟩:∃ n,n=(11-hor).toNat:=⟨_,rfl⟩
 rw [<-hn]
 refine ⟨SEx.same (SEx.idx n (fun k=>⟨23,[(1,bP 4096),(3,bP 12288)],[(4096,.obx [.fz (.sl (.node false none ns)),.fz (.sl (.tie ts)),.fz (.int .i64 hor)]),(12288,.obx [.osl (.node true none ns),.osl (.tie ts),.fz (.int .i64 (hor+(k:Nat)))])]⟩) (fun k=>rI (fm (n-k) (hor+(k:Nat)))) ?_) (by rw [show hor+((0:Nat):Int)=hor by omega];rfl) (by rw [show hor+((0:Nat):Int)=hor by omega];rfl)⟩
 intro k hk ih
 rw [<-hks]
 obtain ⟨q,hq⟩:∃ q:Int,q=hor+(k:Nat):=⟨_,rfl⟩
 rw [show hor+((k+1:Nat):Int)=q+1 by omega] at ih
 rw [<-hq]
 have hw:IntKind.i64.wrap (q-hor)=q-hor:=qx (by omega) (by omega)
 have hw1:IntKind.i64.wrap (q+1)=q+1:=qx (by omega) (by omega)
 have hn0:¬q<=10->n-k=0:=fun h=>by omega
 have hn1:q<=10->n-k=n-(k+1)+1:=fun h=>by omega
 refine SEx.go (X:=XX) qc (fun n=>qa [] [(4,[1,3])] n) (fun _=>none) hO 60 ?_
 intro M R L N m0 m1 m2 m3 m4 m5
 cases M
 cbv
 repeat' first | refine m1 _ _ ?_ ?_ | refine m2 _ _ fun h=>?_ | refine m3 _ ?_ | (refine m4 _ _ (Hd.out ?_);try first | rw [hks] | rw [hk2] | rw [hk3]) | (refine m5 _ _ ?_;cbv)
 all_goals (clear m1 m2 m3 m4 m5;cases m0;(try clear hks;try clear hk2;try clear hk3);try dsimp only)
 all_goals try simp only [sm] at *
 all_goals (try simp only [hw,hw1])
 all_goals first
  | omega
  | exact hle _
  | (rw [hn1 (by omega),hs1 _ _ (by assumption)];rfl)
  | (rw [hn1 (by omega),hs2 _ _ (by assumption)];exact ⟨(ih (by omega)).same rfl rfl⟩)
  | (rw [hn0 (by omega),hs0];rfl)
  | skip
theorem qeE (t:qm)(ht:zF t)(hz:ZP t):qe Tryz.prog 14 [qM t] (rI (QT t)):=by
 refine qe.of qc (fn:=Tryz.f14) (c:=Tryz.f14.body.getD .skip) (dr:=fun n=>qa 0 [] n) Tryz.func14 rfl (by kernel_rfl) (by kernel_rfl) (by kernel_rfl) ?_
 obtain ⟨f1,hf1⟩:∃ f,f=qO:=⟨_,rfl⟩
 obtain ⟨f2,hf2⟩:∃ f,f=qal:=⟨_,rfl⟩
 have hO:qp Tryz.prog (qK [(26,Q2 f1),(35,Jy),(10,qpG f2)]):=by
  subst hf1 hf2
  exact qb KW (qb qfq (qb qmi qd))
 have hh:f1 t=true->1<=t.hor/\t.hor<=10:=fun h=>by rw [hf1] at h;exact zo h
 have hr0:f1 t=false->QT t=-1:=fun h=>by rw [hf1] at h;unfold QT;rw [h]
 have hr1:f1 t=true->QT t=jI f2 t (11-t.hor).toNat t.hor:=fun h=>by rw [hf1] at h;unfold QT;rw [h,hf2]
 have hs0:∀ h,jI f2 t 0 h=-1:=fun h=>rfl
 have hs1:∀ n h,f2 ⟨t.nodes,t.ties,h⟩=true->jI f2 t (n+1) h=h-t.hor:=fun n h e=>by unfold jI;rw [e]
 have hs2:∀ n h,f2 ⟨t.nodes,t.ties,h⟩=false->jI f2 t (n+1) h=jI f2 t n (h+1):=fun n h e=>by conv=>lhs;unfold jI;rw [e]
 have hle:∀ h,zF ⟨t.nodes,t.ties,h⟩:=fun h=>⟨ht.len,ht.tlen,ht.nodes⟩
 obtain ⟨fm,hfm⟩:∃ f,f=jI f2 t:=⟨_,rfl⟩
 rw [<-hfm] at hr1 hs0 hs1 hs2
 obtain ⟨r,hr⟩:∃ r,r=QT t:=⟨_,rfl⟩
 rw [<-hr] at hr0 hr1 ⊢
 clear hr hf1 hf2 hfm
 obtain ⟨ns,ts,hor⟩:=t
 dsimp only at hh hr1 hs1 hs2 hle
 refine SEx.go (X:=XX) qc (fun n=>qa [] [(4,[1,3])] n) (fun _=>none) hO 60 ?_
 intro M R L N m0 m1 m2 m3 m4 m5
 cases M
 cbv
 repeat' first | refine m1 _ _ ?_ ?_ | refine m2 _ _ fun h=>?_ | refine m3 _ ?_ | (refine m4 _ _ (Hd.out ?_);generalize hks:(List.cons _ _:List K)=ks) | (refine m5 _ _ ?_;cbv)
 all_goals (clear m1 m2 m3 m4 m5;cases m0;try dsimp only)
 all_goals try simp only [sm] at *
 all_goals first
  | exact ht
  | exact hz
  | (rw [hr0 (by assumption)];rfl)
  | skip
 have hb:=hh (by assumption)
 rw [hr1 (by assumption)]
 clear hr0 hr1 hh
 obtain ⟨n,hn⟩:∃ n,n=(11-hor).toNat:=⟨_,rfl⟩
 rw [<-hn]
 refine ⟨SEx.same (SEx.idx n (fun k=>⟨23,[(1,bP 4096),(3,bP 12288)],[(4096,.obx [.fz (.sl (.node false none ns)),.fz (.sl (.tie ts)),.fz (.int .i64 hor)]),(12288,.obx [.osl (.node true none ns),.osl (.tie ts),.fz (.int .i64 (hor+(k:Nat)))])]⟩) (fun k=>rI (fm (n-k) (hor+(k:Nat)))) ?_) (by rw [show hor+((0:Nat):Int)=hor by omega];rfl) (by rw [show hor+((0:Nat):Int)=hor by omega];rfl)⟩
 intro k hk ih
 rw [<-hks]
 obtain ⟨q,hq⟩:∃ q:Int,q=hor+(k:Nat):=⟨_,rfl⟩
 rw [show hor+((k+1:Nat):Int)=q+1 by omega] at ih
 rw [<-hq]
 have hw:IntKind.i64.wrap (q-hor)=q-hor:=qx (by omega) (by omega)
 have hw1:IntKind.i64.wrap (q+1)=q+1:=qx (by omega) (by omega)
 have hn0:¬q<=10->n-k=0:=fun h=>by omega
 have hn1:q<=10->n-k=n-(k+1)+1:=fun h=>by omega
 refine SEx.go (X:=XX) qc (fun n=>qa [] [(4,[1,3])] n) (fun _=>none) hO 60 ?_
 intro M R L N m0 m1 m2 m3 m4 m5
 cases M
 cbv
 repeat' first | refine m1 _ _ ?_ ?_ | refine m2 _ _ fun h=>?_ | refine m3 _ ?_ | (refine m4 _ _ (Hd.out ?_);try first | rw [hks] | rw [hk2] | rw [hk3]) | (refine m5 _ _ ?_;cbv)
 all_goals (clear m1 m2 m3 m4 m5;cases m0;(try clear hks;try clear hk2;try clear hk3);try dsimp only)
 all_goals try simp only [sm] at *
 all_goals (try simp only [hw,hw1])
 all_goals first
  | omega
  | exact hle _
  | (rw [hn1 (by omega),hs1 _ _ (by assumption)];rfl)
  | (rw [hn1 (by omega),hs2 _ _ (by assumption)];exact ⟨(ih (by omega)).same rfl rfl⟩)
  | (rw [hn0 (by omega),hs0];rfl)
  | skip
def qiD (f:qm->Int):Wr:=w1 qL (fun t=>rI (f t)) (fun t=>[zF t,ZP t])
theorem qkg:qA Tryz.prog 15 (qiD QT):=zf fun t h=>qdh t (h _ (.head _)) (h _ (.tail _ (.head _)))
theorem qke:qA Tryz.prog 14 (qiD QT):=zf fun t h=>qeE t (h _ (.head _)) (h _ (.tail _ (.head _)))
end Go.Proofs.YtfafehnchmelnaaGreat.Ai
namespace Go.Proofs.YtfafehnchmelnaaGreat.Ai
open Go
set_option maxRecDepth 100000
variable [qf]
theorem qgX (t:qm)(ht:qcD t):qe Tryz.prog 4 [qM t] (rB true):=by
 refine qe.of qc (fn:=Tryz.f4) (c:=Tryz.f4.body.getD .skip) (dr:=fun n=>qa 0 [(10,3)] n) Tryz.func4 rfl (by kernel_rfl) (by kernel_rfl) (by kernel_rfl) ?_
 obtain ⟨f,hf⟩:∃ f:qm->Int,f=QT:=⟨_,rfl⟩
 obtain ⟨g,hg⟩:∃ g,g=ju:=⟨_,rfl⟩
 have hO:qp Tryz.prog (qK [(9,qiK g),(11,qi0),(14,qiD f),(15,qiD f),(13,qhV)]):=by
  subst hf hg
  exact qb qgI (qb qg5 (qb qke (qb qkg (qb qgB qd))))
 have hA:0<=g t 1048576->qb5 t (g t 1048576):=fun h=>by rw [hg] at h ⊢;exact qqr h
 have h1:=ht.le
 have hn:∀ q∈t.nodes,Wm q maxLen:=fun q hq=>⟨(ht.nodes q hq).name,(ht.nodes q hq).len⟩
 clear ht hf hg
 obtain ⟨ns,ts,hr⟩:=t
 refine SEx.go (X:=XX) qc (fun n=>qa [] [] n) (fun _=>none) hO 60 ?_
 intro M R L N m0 m1 m2 m3 m4 m5
 cases M
 cbv
 repeat' first | refine m1 _ _ ?_ ?_ | refine m2 _ _ fun h=>?_ | refine m3 _ ?_ | (refine m4 _ _ (Hd.out ?_);try first | rw [hks] | rw [hk2] | rw [hk3]) | (refine m5 _ _ ?_;cbv)
 all_goals (clear m1 m2 m3 m4 m5;cases m0;(try clear hks;try clear hk2;try clear hk3);try dsimp only)
 all_goals try simp only [sm] at *
 all_goals (clear hO)
 all_goals first
  | rfl
  | contradiction
  | exact ⟨h1.len⟩
  | exact ⟨h1.tlen⟩
  | exact ⟨hn⟩
  | exact ⟨⟨by decide,by decide⟩⟩
  | exact ⟨(hA (by assumption)).len⟩
  | exact ⟨(hA (by assumption)).tlen⟩
  | exact ⟨(hA (by assumption)).labs⟩
  | exact h1
  | exact (hA (by assumption)).mem
  | exact ⟨h1,(hA (by assumption)).mem⟩
  | exact ⟨rfl⟩
  | exact ⟨fun q hq=>(h1.nodes q hq).len⟩
  | exact absurd trivial (by assumption)
  | exact absurd rfl (by assumption)
  | skip
end Go.Proofs.YtfafehnchmelnaaGreat.Ai
