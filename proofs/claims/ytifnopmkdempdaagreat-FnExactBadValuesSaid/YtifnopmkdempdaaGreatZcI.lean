/- The law's proof, part 9 of 12: what of its author's texts it needs; no condition. -/
import Derived.WalkKit
import Derived.Deep.LoopGhost
import Derived.Test.YtifnopmkdempdaaGreatZcH
set_option linter.unusedSectionVars false
set_option linter.unusedSimpArgs false
set_option linter.unusedVariables false
namespace Go.Proofs.YtifnopmkdempdaaGreat.Ai
open Go Go.RowKit
set_option maxRecDepth 100000
variable [qh]
def QV (l:List Int):List Value:=l.map (Value.int .i64)
def zm (ls:List (List Int)):List Int:=ls.flatten
def qmS (w:World)(v:Value)(l:List Int):Prop:=∃ a c,v=.slice a l.length c/\(l≠[]->∃ b o,a=some ⟨b,o,none⟩/\b<w.heap.size/\∀ i,i<l.length->w.cell? ⟨b,o+i,none⟩=some (.int .i64 (l.getD i 0)))
theorem Ww {a b:Nat}(h:a+b<=9223372036854775807):wrap64 ((a:Int)+(b:Int))=((a+b:Nat):Int):=by unfold wrap64;omega
theorem qnL {ls:List (List Int)}{j:Nat}(h:j<ls.length):zm (ls.take (j+1))=zm (ls.take j)++ls.getD j []:=by
 unfold zm
 rw [List.take_add_one,List.getElem?_eq_getElem h,List.flatten_append,List.getD_eq_getElem?_getD,List.getElem?_eq_getElem h]
 simp
theorem qok {ls:List (List Int)}(j:Nat):(zm (ls.take j)).length<=(zm ls).length:=by
 unfold zm
 conv=>rhs;rw [<-List.take_append_drop j ls,List.flatten_append,List.length_append]
 omega
theorem qq0 {ls:List (List Int)}{j:Nat}(h:j<ls.length):(zm (ls.take j)).length+(ls.getD j []).length<=(zm ls).length:=by
 have h1:=qok (ls:=ls) (j+1)
 rw [qnL h,List.length_append] at h1
 exact h1
theorem qs3 {a b m:Nat}(h:a+b<=m)(hm:Hid (m<=1000000)):wrap64 ((a:Int)+(b:Int))=(a:Int)+(b:Int):=by
 have:=hm.out
 rw [Ww (by omega),Int.natCast_add]
theorem qs1 {a b m:Nat}(h:a+b<=m)(hm:Hid (m<=1000000)):¬(wrap64 ((a:Int)+(b:Int))<0):=by
 have:=hm.out
 rw [Ww (by omega)]
 omega
theorem qsC {j n:Nat}(h:j<n)(hm:Hid (n<=1000000)):wrap64 ((j:Int)+1)=(j:Int)+1:=by
 have:=hm.out
 exact Ww (a:=j) (b:=1) (by omega)
theorem qp1 {k n j:Nat}(hk:k=n-j)(h:j<n):n-(j+1)<k:=by omega
theorem qsE {n j:Nat}(hj:j<=n)(h:¬j<n):j=n:=by omega
theorem qsT {n j:Nat}(h:j<n):(j:Int)<(n:Int):=by omega
theorem qtn {a b m:Nat}(h:a+b<=m)(hm:Hid (m<=1000000)):0+a+b<=maxLen:=by
 have:=hm.out
 unfold maxLen;omega
theorem qtb {a b m:Nat}(h:a+b<=m)(hm:Hid (m<=1000000)):(0+a+b) * 8<=140737488355328:=by
 have:=hm.out
 omega
theorem qtg {ls:List (List Int)}{j:Nat}(h:j<ls.length){q:List Int}(hq:ls.getD j []=q):Value.int .i64 (((zm (ls.take j)).length:Int)+(q.length:Int))=.int .i64 ((zm (ls.take (j+1))).length:Nat):=by
 subst hq
 rw [qnL h,List.length_append,Int.natCast_add]
theorem qr7 {P:Program}{w wr:World}{v:Value}{q:List Int}(hk:P.underlying 26=some (.slice 3))(h:qmS w v q)(hold:∀ b' o',b'<w.heap.size->wr.cell? ⟨b',o',none⟩=w.cell? ⟨b',o',none⟩):Src P 1 26 v q.length (QV q) wr:=by
 obtain ⟨a,c,rfl,hc⟩:=h
 by_cases hz:q=[]
 . subst hz
   cases a with
   | none=>exact Src.ofNil _ hk c
   | some a=>exact Src.ofSlice _ hk _ 0 c [] rfl (fun j u h=>by simp at h) (fun u h=>by cases h)
 . obtain ⟨b,o,rfl,hb,hcl⟩:=hc hz
   refine Src.ofSlice _ hk _ q.length c (QV q) (by simp [QV]) (fun j u h=>?_) (fun u h=>?_)
   . have hj:j<q.length:=by
      have:=(List.getElem?_eq_some_iff.1 h).1
      simpa [QV] using this
     rw [Addr.add_lit]
     rw [hold b _ hb,hcl j hj,<-h]
     unfold QV
     rw [List.getElem?_map,List.getD_eq_getElem?_getD,List.getElem?_eq_getElem hj]
     rfl
   . obtain ⟨x,_,rfl⟩:=List.mem_map.1 h
     rfl
theorem qro {w w1 wr:World}{ao:Option Addr}{b cap m r:Nat}{v:Value}{ks:List Value}(hw1:Below w.heap.size w w1)(hb:0<cap->w.heap.size<=b)(hup:Upon w1 3 1 ao b 0 0 cap [] wr v m ks r)(b' o':Nat)(hb':b'<w.heap.size):wr.cell? ⟨b',o',none⟩=w.cell? ⟨b',o',none⟩:=by
 rw [hup.old (Nat.lt_of_lt_of_le hb' hw1.size) (fun j hj h=>by have:=hb (hup.capPos hj);omega)]
 exact World.cell?_of_block (a:=⟨b',o',none⟩) (hw1.block b' hb')
theorem qbj (b:Nat):∀ (vs:List Value) (o:Nat) (w:World),(w.setCells b o vs).tape=w.tape
 | [],_,_=>rfl
 | v::vs,o,w=>by unfold World.setCells;rw [qbj b vs];rfl
theorem qg6 {P:Program}{W w:World}{e:TypeId}{ao:Option Addr}{b cap m r:Nat}{v:Value}{ks:List Value}(hc:Came W 1 ao b 0 0 cap [])(t tx ty:TypeId)(i:TypeInfo)(ht:P.underlying t=some (.slice e))(hi:P.info? e=some i)(hsize:i.size=1)
 (h:Upon W e 1 ao b 0 0 cap [] w v m ks r) (x:Value) (n:Nat) (news:List Value) (hs:Src P 1 tx x n news w) (hfit:m+n<=cap) {v':Value} {w':World} (he:(Builtin.append_ #[t,tx] ty #[v,x]).run P w=.ok v' w'):w'.tape=w.tape:=by
 have hkl:=h.ksLen
 have hnl:=hs.newsLen
 rcases h.val with ⟨hle,rfl,hr⟩ | ⟨hlt,_⟩
 . rcases Nat.eq_zero_or_pos cap with h0 | hcap
   . subst h0
     obtain rfl:m=0:=by omega
     obtain rfl:n=0:=by omega
     obtain rfl:news=[]:=List.eq_nil_of_length_eq_zero (by omega)
     have hs':Src P i.size tx x 0 [] w:=by rw [hsize];exact hs
     rw [run_append_nothing w t tx ty e i ht hi ao (0+0) 0 (Nat.le_refl _) x hs'] at he
     injection he with h1 h2
     rw [<-h2]
   . have hao:=hc.addr hcap
     subst hao
     have hs':Src P i.size tx x n news w:=by rw [hsize];exact hs
     have hfree:∀ j,j<news.length->w.cell? ⟨b,0+(0+m) * i.size+j,none⟩=W.cell? ⟨b,0+0 * 1+(m+j),none⟩:=fun j _=>by
      rw [hsize,show 0+(0+m) * 1+j=0+0 * 1+(m+j) by omega]
      exact h.old (hc.lt hcap) (fun j' a1 ⟨_,a3⟩=>by omega)
     have hrun:=run_append_room_src w t tx ty e i ht hi b 0 (0+m) cap x n news hs' (by omega) (fun j hj=>by rw [hfree j hj];exact (hc.spare (m+j) (by omega)).1)
      (fun j hj=>by rw [h.frozen _ (hc.lt hcap),hsize,show 0+(0+m) * 1+j=0+0 * 1+(m+j) by omega];exact (hc.spare (m+j) (by omega)).2)
     rw [hrun] at he
     injection he with h1 h2
     rw [<-h2]
     exact qbj _ _ _ _
 . omega
theorem w6 {P:Program}(w:World){ops:Array Oper}{rest:List Oper}{o:Oper}{a:Act}{Q:Exit->Act->World->Prop}(hgd:o.guard=none)(s x:Operand)(t tx:TypeId)
 (ho:o.op=.call { callee:=.builtin .append,args:=#[s,x],argTypes:=#[t,tx] }) {W:World} {e:TypeId} {ao:Option Addr} {b cap:Nat} (hc:Came W 1 ao b 0 0 cap [])
 (i:TypeInfo) (z:Value) (bytes:Nat) (ht:P.underlying t=some (.slice e)) (hi:P.info? e=some i) (hz:i.zero=some z) (hsize:i.size=1) (hby:i.bytes=bytes) (hzs:z.cells.size=1)
 {v:Value} {m:Nat} {ks:List Value} {r:Nat} (hv:a.eval s=v) (h:Upon W e 1 ao b 0 0 cap [] w v m ks r)
 (xv:Value) (n:Nat) (news:List Value) (hx:a.eval x=xv) (hs:Src P 1 tx xv n news w) (h63:0+m+n<=maxLen) (hbytes:(0+m+n) * bytes<=140737488355328) (hfit:m+n<=cap)
 (hK:∀ v' w',Upon W e 1 ao b 0 0 cap [] w' v' (m+n) (ks++news) (Upon.next 0 cap 1 m r n)->w'.tape=w.tape->wpList P ops Q rest (a.put o.dst v') w'):wpList P ops Q (o::rest) a w:=by
 refine wpList_plain hgd fun K hK'=>?_
 obtain ⟨v',w',hrun,r'⟩:=run_append_upon (P:=P) hc t tx o.type i z bytes ht hi hz hsize hby hzs h xv n news hs h63 hbytes
 have htp:=qg6 hc t tx o.type i ht hi hsize h xv n news hs hfit hrun
 unfold Oper.wp
 simp [execOp,ho,resolve,invoke,builtin,hv,hx,hrun,Result.andThen]
 exact hK' _ _ (hK v' w' r' htp)
theorem qqU:(Tryz.prog.info? 3).map (fun i=>(i.zero,i.size,i.bytes))=some (some (.int .i64 0),1,8):=by kernel_rfl
set_option maxHeartbeats 1600000 in
set_option maxRecDepth 1000000 in
theorem qem (xb xo xc:Nat)(vs:Nat->Value)(ls:List (List Int))(w:World)(hm:Hid ((zm ls).length<=1000000))(hll:Hid (ls.length<=1000000))(hxb:xb<w.heap.size)
 (hy:∀ j,j<ls.length->w.cell? ⟨xb,xo+j,none⟩=some (vs j)) (hv:∀ j,j<ls.length->qmS w (vs j) (ls.getD j []))
 (ao:Option Addr) (b cap:Nat) (w1:World) (hG:∀ n,n=(zm ls).length->Calls Tryz.prog 150 #[.slice none 0 0,.int .i64 n] w fun e w'=>e=.returned (.slice ao 0 cap)/\w1=w')
 (hc:Came w1 1 ao b 0 0 cap []) (hcp:(zm ls).length<=cap) (hold:∀ (wr:World) (v:Value) (m:Nat) (ks:List Value) (r:Nat),Upon w1 3 1 ao b 0 0 cap [] wr v m ks r->∀ b' o',b'<w.heap.size->wr.cell? ⟨b',o',none⟩=w.cell? ⟨b',o',none⟩) :
 Calls Tryz.prog 130 #[.slice (some ⟨xb,xo,none⟩) ls.length xc] w fun e w'=>∃ v r,e=.returned v/\Upon w1 3 1 ao b 0 0 cap [] w' v (zm ls).length (QV (zm ls)) r/\w'.tape=w1.tape:=by
 obtain ⟨i0,hi,hz0,hz1,hz2⟩:=info_parts qqU
 go_enter Tryz.func130,Tryz.ntmps130
 go_wp2
 go_loopg [3,5,11] ls.length (fun k s c d wr=>∃ j,k=ls.length-j/\j<=ls.length/\s=.int .i64 ((zm (ls.take j)).length:Nat)/\d=.int .i64 j/\wr=w)
 case atStart=>exact ⟨0,rfl,Nat.zero_le _,by simp [zm],rfl,rfl⟩
 case round =>
  obtain ⟨j,hk,hj,rfl,rfl,rfl⟩:=hrel
  by_cases hlt:j<ls.length
  . have hx:=hy j hlt
    have hlt':=qsT hlt
    obtain ⟨a1,c1,hvj,-⟩:=hv j hlt
    have hle:=qq0 hlt
    obtain ⟨q,hq⟩:∃ q,ls.getD j []=q:=⟨_,rfl⟩
    rw [hq] at hvj hle
    have htk:=qtg hlt hq
    have hww:=qs3 hle hm
    have hw0:=qs1 hle hm
    have hwj:=qsC hlt hll
    clear hq hle
    go_wp2
    go_roundg (ls.length-(j+1))
    case measure=>first | exact qp1 hk hlt | exact qp1 rfl hlt
    case rel=>exact ⟨j+1,rfl,hlt,rfl,rfl,rfl⟩
  . obtain rfl:=qsE hj hlt
    rw [List.take_length]
    go_wp2_with (go_at_call 150;refine (hG _ rfl).mono ?_;rintro e w' ⟨rfl,rfl⟩)
    go_loopg [6,8,27] ls.length (fun k v s d wr=>∃ j r,k=ls.length-j/\j<=ls.length/\d=.int .i64 j/\Upon w1 3 1 ao b 0 0 cap [] wr v (zm (ls.take j)).length (QV (zm (ls.take j))) r/\wr.tape=w1.tape)
    case atStart=>exact ⟨0,0,rfl,Nat.zero_le _,rfl,by simpa [zm,QV] using Upon.start (e:=3) hc,rfl⟩
    case round =>
     obtain ⟨j,r,hk,hj,rfl,hup,htp⟩:=hrel
     by_cases hlt:j<ls.length
     . have hlt':=qsT hlt
       have hx:wr.cell? ⟨xb,xo+j,none⟩=some (vs j):=(hold wr _ _ _ _ hup xb (xo+j) hxb).trans (hy j hlt)
       have hsrc:=qr7 Tryz.underlying26 (hv j hlt) (hold wr _ _ _ _ hup)
       obtain ⟨a1,c1,hvj,-⟩:=hv j hlt
       rw [hvj] at hsrc
       have hle:=qq0 hlt
       have htk:=qnL hlt
       obtain ⟨q,hq⟩:∃ q,ls.getD j []=q:=⟨_,rfl⟩
       rw [hq] at hvj hle hsrc htk
       have hwj:=qsC hlt hll
       have hle1:Hid _:=qtn hle hm
       have hle2:Hid _:=qtb hle hm
       have hle3:=Nat.le_trans hle hcp
       clear hq hle
       go_wp2_with (at_builtin;refine w6 _ rfl (.tmp 31) (.tmp 32) 26 26 rfl hc i0 (.int .i64 0) 8 Tryz.underlying26 hi hz0 hz1 hz2 rfl rfl hup _ q.length (QV q) rfl hsrc hle1.out hle2.out hle3 ?_)
       intro v' w' hup' htp'
       go_wp2
       go_roundg (ls.length-(j+1))
       case measure=>first | exact qp1 hk hlt | exact qp1 rfl hlt
       case rel =>
        refine ⟨j+1,Upon.next 0 cap 1 (zm (ls.take j)).length r q.length,rfl,hlt,congrArg _ hwj,?_,by first | exact htp'.trans htp | exact htp'⟩
        rw [htk,List.length_append,show QV (zm (ls.take j)++q)=QV (zm (ls.take j))++QV q from List.map_append]
        exact hup'
     . obtain rfl:=qsE hj hlt
       rw [List.take_length] at hup
       go_wp2
       go_ret
       exact ⟨_,r,rfl,hup,htp⟩
end Go.Proofs.YtifnopmkdempdaaGreat.Ai
