/- The law's proof, part 10 of 12: what of its author's texts it needs; no condition. -/
import Derived.Shelf.Sort.Plain
import Derived.Shelf.Slices.In.SortNone
import Derived.Shelf.Spec.SlicesGrow
import Derived.Test.YtifnopmkdempdaaGreatZcI
set_option linter.unusedSectionVars false
set_option linter.unusedSimpArgs false
set_option linter.unusedVariables false
namespace Go.Proofs.YtifnopmkdempdaaGreat.Ai
open Go
set_option maxRecDepth 100000
variable [qh]
def qb1:Go.Shelf.Ren:=⟨fun | 189=>113 | 125=>138 | 257=>137 | 128=>164 | 129=>165 | 294=>155 | 295=>156 | 296=>157 | 297=>158 | 298=>159 | 299=>160 | 216=>161 | 300=>162 | 301=>163 | 328=>173 | 329=>174 | 330=>175 | 331=>176 | 332=>177 | 215=>178 | 343=>179 | n=>n,fun | 28=>26 | 3=>3 | 46=>83 | 0=>0 | 51=>143 | 53=>145 | 4=>4 | 183=>136 | 182=>135 | 131=>140 | 5=>5 | 9=>9 | 218=>148 | 222=>152 | 228=>154 | 229=>155 | n=>n,fun n=>n⟩
theorem w7:Go.Proofs.Lays.n189 Tryz.prog qb1:={ mixed:=Eq.refl true,f125:=Eq.trans Tryz.func138 (congrArg some ((by kernel_rfl))),f128:=Eq.trans Tryz.func164 (congrArg some ((by kernel_rfl))),f129:=Eq.trans Tryz.func165 (congrArg some ((by kernel_rfl))),f189:=Eq.trans Tryz.func113 (congrArg some ((by kernel_rfl))),f215:=Eq.trans Tryz.func178 (congrArg some ((by kernel_rfl))),f216:=Eq.trans Tryz.func161 (congrArg some ((by kernel_rfl))),f257:=Eq.trans Tryz.func137 (congrArg some ((by kernel_rfl))),f294:=Eq.trans Tryz.func155 (congrArg some ((by kernel_rfl))),f295:=Eq.trans Tryz.func156 (congrArg some ((by kernel_rfl))),f296:=Eq.trans Tryz.func157 (congrArg some ((by kernel_rfl))),f297:=Eq.trans Tryz.func158 (congrArg some ((by kernel_rfl))),f298:=Eq.trans Tryz.func159 (congrArg some ((by kernel_rfl))),f299:=Eq.trans Tryz.func160 (congrArg some ((by kernel_rfl))),f300:=Eq.trans Tryz.func162 (congrArg some ((by kernel_rfl))),f301:=Eq.trans Tryz.func163 (congrArg some ((by kernel_rfl))),f328:=Eq.trans Tryz.func173 (congrArg some ((by kernel_rfl))),f329:=Eq.trans Tryz.func174 (congrArg some ((by kernel_rfl))),f330:=Eq.trans Tryz.func175 (congrArg some ((by kernel_rfl))),f331:=Eq.trans Tryz.func176 (congrArg some ((by kernel_rfl))),f332:=Eq.trans Tryz.func177 (congrArg some ((by kernel_rfl))),f343:=Eq.trans Tryz.func179 (congrArg some ((by kernel_rfl))),t0:=Tryz.underlying0,a0:=Tryz.isAgg0,z0:=Tryz.sizeOf0,v0:=Tryz.zeroValue0,t3:=Tryz.underlying3,a3:=Tryz.isAgg3,z3:=Tryz.sizeOf3,v3:=Tryz.zeroValue3,t4:=Tryz.underlying4,a4:=Tryz.isAgg4,z4:=Tryz.sizeOf4,v4:=Tryz.zeroValue4,t5:=Tryz.underlying5,a5:=Tryz.isAgg5,z5:=Tryz.sizeOf5,v5:=Tryz.zeroValue5,t9:=Tryz.underlying9,a9:=Tryz.isAgg9,z9:=Tryz.sizeOf9,v9:=Tryz.zeroValue9,t28:=Tryz.underlying26,a28:=Tryz.isAgg26,z28:=Tryz.sizeOf26,v28:=Tryz.zeroValue26,t46:=Tryz.underlying83,a46:=Tryz.isAgg83,z46:=Tryz.sizeOf83,v46:=Tryz.zeroValue83,t51:=Tryz.underlying143,a51:=Tryz.isAgg143,z51:=Tryz.sizeOf143,v51:=Tryz.zeroValue143,t53:=Tryz.underlying145,a53:=Tryz.isAgg145,z53:=Tryz.sizeOf145,v53:=Tryz.zeroValue145,t131:=Tryz.underlying140,a131:=Tryz.isAgg140,z131:=Tryz.sizeOf140,v131:=Tryz.zeroValue140,t182:=Tryz.underlying135,a182:=Tryz.isAgg135,z182:=Tryz.sizeOf135,v182:=Tryz.zeroValue135,t183:=Tryz.underlying136,a183:=Tryz.isAgg136,z183:=Tryz.sizeOf136,v183:=Tryz.zeroValue136,t218:=Tryz.underlying148,a218:=Tryz.isAgg148,z218:=Tryz.sizeOf148,v218:=Tryz.zeroValue148,t222:=Tryz.underlying152,a222:=Tryz.isAgg152,z222:=Tryz.sizeOf152,v222:=Tryz.zeroValue152,t228:=Tryz.underlying154,a228:=Tryz.isAgg154,z228:=Tryz.sizeOf154,v228:=Tryz.zeroValue154,t229:=Tryz.underlying155,a229:=Tryz.isAgg155,z229:=Tryz.sizeOf155,v229:=Tryz.zeroValue155  }
def qcR:Go.Shelf.Ren:=⟨fun | 4=>150 | n=>n,fun | 22=>26 | 25=>3 | 3=>3 | 4=>4 | 9=>9 | 20=>20 | 0=>0 | n=>n,fun n=>n⟩
theorem vn:Go.Proofs.Lays8.n4 Tryz.prog qcR:={ mixed:=Eq.refl true,f4:=⟨Tryz.f150.name,by decide,Eq.trans Tryz.func150 (congrArg some (by kernel_rfl))⟩,t0:=Tryz.underlying0,a0:=Tryz.isAgg0,z0:=Tryz.sizeOf0,v0:=Tryz.zeroValue0,t3:=Tryz.underlying3,a3:=Tryz.isAgg3,z3:=Tryz.sizeOf3,v3:=Tryz.zeroValue3,t4:=Tryz.underlying4,a4:=Tryz.isAgg4,z4:=Tryz.sizeOf4,v4:=Tryz.zeroValue4,t9:=Tryz.underlying9,a9:=Tryz.isAgg9,z9:=Tryz.sizeOf9,v9:=Tryz.zeroValue9,t20:=Tryz.underlying20,a20:=Tryz.isAgg20,z20:=Tryz.sizeOf20,v20:=Tryz.zeroValue20,t22:=Tryz.underlying26,a22:=Tryz.isAgg26,z22:=Tryz.sizeOf26,v22:=Tryz.zeroValue26  }
end Go.Proofs.YtifnopmkdempdaaGreat.Ai
namespace Go.Proofs.YtifnopmkdempdaaGreat.Ai
open Go Go.RowKit
set_option maxRecDepth 100000
variable [qh]
theorem qpw (l:List Int)(h:l.length<4611686018427387904):zY Tryz.prog 113 [wR l.length] [(lrt 0,.osl (.i l))] [.rf (lrt 0,[]) true 0 l.length] (.tup []) [(lrt 0,.osl (.i (jq l)))] [.rf (lrt 0,[]) true 0 l.length] :=
 qgL ⟨_,_,Tryz.func113,rfl,by kernel_rfl⟩ (fun p cap w=>Any.slices_Sort_int_none w7 p cap w) (fun blk off cap zs w hH hb hs=>Any.slices_Sort_int w7 blk off cap zs w hH hb hs) l h
theorem qqC (w:World)(n:Nat)(hn:n<=1000000):∃ ao b cap w1,(∀ m,m=n->Calls Tryz.prog 150 #[.slice none 0 0,.int .i64 m] w fun e w'=>e=.returned (.slice ao 0 cap)/\w1=w')/\Came w1 1 ao b 0 0 cap []/\n<=cap/\cap<=maxLen/\Below w.heap.size w w1 ∧
 (0<cap->w.heap.size<=b/\b<w1.heap.size/\∃ cur,w1.heap[b]?=some (.cells cur 3 (0,0))/\cur.size=cap)/\(n=0->cap=0):=by
 by_cases h0:n=0
 . subst h0
   refine ⟨none,0,0,w,fun m hm=>?_,⟨Nat.le_refl _,fun h=>by omega,fun h=>by omega,rfl,fun j u h=>by simp at h,fun j h=>by omega⟩,Nat.le_refl _,by unfold maxLen;omega,Below.refl _ _,fun h=>by omega,fun _=>rfl⟩
   subst hm
   exact (Any8.slices_Grow_room vn none 0 0 0 w (by omega) (by omega) (by omega) (by omega)).mono fun e w' ⟨h1,h2⟩=>⟨h1,h2.symm⟩
 . obtain ⟨i0,hi,hz0,hz1,hz2⟩:=info_parts qqU
   obtain ⟨cap,hcap⟩:∃ cap,cap=grownCap w (0+n) 0 3:=⟨_,rfl⟩
   have hge:=grownCap_ge w (0+n) 0 3
   have hle:=grownCap_le_maxLen w (0+n) 0 3 (by unfold maxLen;omega)
   rw [<-hcap] at hge hle
   obtain ⟨cur,hcur⟩:∃ cur,cur=([]:List Value).toArray++Builtin.zeroCells (Value.int .i64 0).cells (0+n-0)++Builtin.zeroCells (Value.int .i64 0).cells (cap-(0+n)):=⟨_,rfl⟩
   have hcs:cur.size=cap:=by
    rw [hcur]
    simp only [Array.size_append,size_zeroCells,List.size_toArray,List.length_nil]
    show 0+(0+n-0) * 1+(cap-(0+n)) * 1=cap
    omega
   have hget:(w.drew.alloc (.cells cur 3)).heap[w.heap.size]?=some (.cells cur 3 (0,0)):=by
    show (w.heap.push (.cells cur 3))[w.heap.size]?=_
    rw [Array.getElem?_push,if_pos rfl]
   refine ⟨some ⟨w.heap.size,0,none⟩,w.heap.size,cap,w.drew.alloc (.cells cur 3),fun m hm=>?_,⟨Nat.zero_le _,fun _=>rfl,fun _=>?_,rfl,fun j u h=>by simp at h,fun j hj=>⟨?_,?_⟩⟩,by omega,hle,?_,fun _=>⟨Nat.le_refl _,?_,cur,hget,hcs⟩,fun h=>absurd h h0⟩
   . subst hm
     refine (Any8.slices_Grow_grow vn i0 (.int .i64 0) hi hz0 (by rw [hz1];decide) none 0 0 m [] w (Nat.le_refl _) (by omega) (by rw [hz2];omega) (by omega) (by simp) (fun _=>rfl) (fun a h=>by cases h)).mono fun e w' ⟨h1,h2⟩=>⟨?_,?_⟩
     . rw [h1,hcap];rfl
     . rw [h2,hcur,hcap];rfl
   . show w.heap.size<(w.heap.push (.cells cur 3)).size
     simp
   . unfold World.cell?
     dsimp only
     rw [hget]
     dsimp only
     rw [if_neg (by simp),Array.getElem?_eq_getElem (by omega)]
     rfl
   . unfold World.frozen?
     dsimp only
     rw [hget]
     simp
   . exact ⟨rfl,rfl,rfl,by show w.heap.size<=(w.heap.push (.cells cur 3)).size;simp,fun k hk=>by show (w.heap.push (.cells cur 3))[k]?=_;rw [Array.getElem?_push,if_neg (by omega)]⟩
   . show w.heap.size<(w.heap.push (.cells cur 3)).size
     simp
theorem yR {l:List Int}{i j:Nat}{y:List O}{o:O}(hi:(q7 l)[i]?=some y)(hj:y[j]?=some o):∃ x,l[i]?=some x/\j=0/\o=.fz (.int .i64 x):=by
 unfold q7 at hi
 rw [List.getElem?_map] at hi
 cases hx:l[i]? with
 | none=>rw [hx] at hi;cases hi
 | some x =>
   rw [hx] at hi
   injection hi with hi
   subst hi
   cases j with
   | zero=>injection hj with hj;exact ⟨x,rfl,rfl,hj.symm⟩
   | succ j=>cases hj
theorem qpD {l:List Int}{i:Nat}{x:Int}(hx:l[i]?=some x):(rcI l)[i]?=some [.int .i64 x]:=by
 have:∀ l:List Int,rcI l=l.map fun x=>[.int .i64 x]:=by
  intro l
  induction l with
  | nil=>rfl
  | cons a l ih=>simp only [rcI,List.map_cons,ih]
 rw [this,List.getElem?_map,hx];rfl
theorem qoJ {J:qk}{w:World}{v:Value}{l:List Int}(h:@qt J w (fun _=>none) (.sl (rcI l)) v):qmS w v l:=by
 have hl:=qp4 l
 have hg:∀ (i:Nat) (x:Int),l[i]?=some x->(rcI l)[i]?=some [.int .i64 x]:=fun i x h=>qpD h
 generalize rcI l=xs at h hl hg
 cases h with
 | sl _ sz a cap us hc hs ha hm hr =>
   refine ⟨a,cap,by rw [hl],fun hne=>?_⟩
   have hx:xs≠[]:=fun e=>hne (List.length_eq_zero_iff.1 (by rw [<-hl,e];rfl))
   obtain ⟨⟨b,o,sp⟩,rfl,hsp,hb,_⟩:=ha hx
   have hsp:sp=none:=hsp
   subst hsp
   refine ⟨b,o,rfl,hb,fun i hi=>?_⟩
   have h1:=hg i _ (List.getElem?_eq_getElem hi)
   have hsz:sz=1:=(hs _ (List.mem_of_getElem? h1)).symm
   subst hsz
   have h2:=hm _ rfl i 0 _ _ h1 rfl
   have h3:=hr i 0 _ _ h1 rfl
   rw [Addr.add_lit,show o+(i * 1+0)=o+i by omega] at h2
   rw [h2,List.getD_eq_getElem?_getD,List.getElem?_eq_getElem hi]
   generalize us i 0=q at h3 ⊢
   cases h3
   rfl
theorem qhi {J:qk}{w w1 w':World}{ao:Option Addr}{b cap r:Nat}{v:Value}{l:List Int}(hc:Came w1 1 ao b 0 0 cap [])(hcap:l.length<=cap)(hcm:cap<=maxLen)(hb:Below w.heap.size w w1)
 (hown:0<cap->w.heap.size<=b/\b<w1.heap.size/\∃ cur,w1.heap[b]?=some (.cells cur 3 (0,0))/\cur.size=cap) (h0:l.length=0->cap=0)
 (hup:Upon w1 3 1 ao b 0 0 cap [] w' v l.length (QV l) r) (htp:w'.tape=w1.tape):@jH J w (.v (false,[.osl (q7 l)])) v w':=by
 letI:=J
 have hbel:Below w.heap.size w w':=by
  refine ⟨hup.kept.1.trans hb.os,htp.trans hb.tape,hup.kept.2.1.trans hb.output,Nat.le_trans hb.size hup.kept.size,fun k hk=>?_⟩
  rw [hup.kept.block (Nat.lt_of_lt_of_le hk hb.size) (fun p hp e=>?_),hb.block k hk]
  obtain ⟨j,hj,rfl⟩:=hp
  have:=(hown (hup.capPos hj)).1
  have e:b=k:=e
  omega
 refine ⟨zN.of_below hbel,?_⟩
 rcases hup.val with ⟨hle,rfl,hr⟩ | ⟨hlt,_⟩
 . by_cases hz:l.length=0
   . obtain rfl:l=[]:=List.length_eq_zero_iff.1 hz
     obtain rfl:=h0 rfl
     exact ⟨fun _=>none,⟨(fun _ _ h=>by cases h),(fun _ _ _ _ h=>by cases h),qq.oslz _ _,(fun _ _ h=>by cases h)⟩⟩
   . obtain ⟨hb1,hb2,cur,hcur,hcs⟩:=hown (by omega)
     have hao:=hc.addr (by omega)
     subst hao
     have hk:=hup.kept.2.2 b hb2
     rw [hcur] at hk
     obtain ⟨cur',hcur',hsz⟩:∃ cur',w'.heap[b]?=some (.cells cur' 3 (0,0))/\cur'.size=cap:=by
      cases hw:w'.heap[b]? with
      | none=>rw [hw] at hk;cases hk
      | some o =>
        rw [hw] at hk
        cases o with
        | cells c t f =>
          obtain ⟨rfl,rfl,h3,_⟩:=hk
          exact ⟨c,rfl,h3.trans hcs⟩
        | _=>cases hk
     have hcl:(q7 l).length=l.length:=by simp [q7]
     have hcell:∀ (i:Nat) (x:Int),l[i]?=some x->cur'[i]?=some (Value.int .i64 x):=by
      intro i x hx
      have hi:i<l.length:=(List.getElem?_eq_some_iff.1 hx).1
      have h4:=hup.written i (by rw [hr];simpa [QV] using hi)
      unfold World.cell? at h4
      dsimp only at h4
      rw [hcur'] at h4
      dsimp only at h4
      rw [if_neg (by simp),show 0+0 * 1+i=i by omega] at h4
      rw [h4]
      unfold QV
      rw [List.getElem?_map,hx];rfl
     refine ⟨fun g=>if g=b then some ⟨(qC,[(0,0)]),l.length,cap,1⟩ else none,fun g x hx=>?_,fun g g' x y hx hy _=>?_,?_,fun g x hx=>?_⟩
     . dsimp only at hx
       split at hx
       . rename_i e;subst e;exact ⟨hb1,Nat.lt_of_lt_of_le hb2 hup.kept.size⟩
       . cases hx
     . dsimp only at hx hy
       split at hx
       . split at hy
         . rename_i e1 e2;exact e1.trans e2.symm
         . cases hy
       . cases hx
     . have h9:qq w' (fun g=>if g=b then some ⟨(qC,[(0,0)]),l.length,cap,1⟩ else none) (qC,[(0,0)]) (.osl (q7 l)) (.slice (some ⟨b,0,none⟩) (q7 l).length cap):=by
        refine qq.osl _ (q7 l) 3 1 b cap cur' (fun i _=>.int .i64 (l.getD i 0)) hcur' ⟨by omega,by omega⟩ hcm (by omega) (fun y hy=>?_) (by rw [if_pos rfl,hcl]) (fun i j y o hi hj=>?_) fun i j y o hi hj=>?_
        . obtain ⟨x,_,rfl⟩:=List.mem_map.1 hy;rfl
        . obtain ⟨x,hx,rfl,rfl⟩:=yR hi hj
          rw [show i * 1+0=i by omega,hcell i x hx,List.getD_eq_getElem?_getD,hx];rfl
        . obtain ⟨x,hx,rfl,rfl⟩:=yR hi hj
          dsimp only
          rw [List.getD_eq_getElem?_getD,hx]
          exact .fz _ _ _ (.int _ _)
       rw [hcl] at h9
       rw [show 0+l.length=l.length by omega]
       exact h9
     . dsimp only at hx
       split at hx
       . injection hx with hx
         subst hx
         exact ⟨0,0,.osl (q7 l),[],rfl,by decide,by decide,rfl,⟨hcl,by show 0<l.length;omega⟩⟩
       . cases hx
 . omega
theorem qml (ls:List (List Int))(hne:ls≠[])(h1:ls.length<=1000000)(h2:(zm ls).length<=1000000):qe Tryz.prog 130 [qlc ls] (rIs (zm ls)):=by
 have key:zI Tryz.prog 130 [(false,[.sl (ls.map fun x=>[.sl (rcI x)])])] (.v (false,[.osl (q7 (zm ls))])):=by
  refine ⟨⟨_,_,Tryz.func130,rfl,by kernel_rfl⟩,fun J w vals hfut hold hsz ha=>?_⟩
  letI:=J
  obtain ⟨u,hu,hr⟩:=ha 0 _ rfl
  have hr:qt w (fun _=>none) (.sl (ls.map fun x=>[.sl (rcI x)])) u:=hr
  obtain rfl:vals=#[u]:=by
   apply Array.ext'
   have h2:vals.toList.length=1:=by simpa using hsz
   have h3:vals.toList[0]?=some u:=by simpa using hu
   generalize vals.toList=q at h2 h3
   match q,h2 with
   | [x],_=>simp at h3;simp [h3]
  have hxl:(ls.map fun x=>[C.sl (rcI x)]).length=ls.length:=by simp
  have hxg:∀ j,j<ls.length->(ls.map fun x=>[C.sl (rcI x)])[j]?=some [.sl (rcI (ls.getD j []))]:=fun j hj=>by
   rw [List.getElem?_map,List.getD_eq_getElem?_getD,List.getElem?_eq_getElem hj];rfl
  generalize (ls.map fun x=>[C.sl (rcI x)])=xs at hr hxl hxg
  have hp:0<ls.length:=List.length_pos_iff.2 hne
  cases hr with
  | sl _ sz a cap us hc hs ha2 hm hr8 =>
    obtain ⟨⟨xb,xo,sp⟩,rfl,hsp,hbl,_⟩:=ha2 (fun e=>by rw [e] at hxl;simp at hxl;omega)
    have hsp:sp=none:=hsp
    subst hsp
    have hsz1:sz=1:=(hs _ (List.mem_of_getElem? (hxg 0 hp))).symm
    subst hsz1
    obtain ⟨ao,b,cp,w1,hG,hC,hcp,hcm,hB,hown,h00⟩:=qqC w (zm ls).length h2
    rw [hxl]
    refine (qem xb xo cap (fun j=>us j 0) ls w h2 h1 hbl (fun j hj=>?_) (fun j hj=>qoJ (hr8 j 0 _ _ (hxg j hj) rfl)) ao b cp w1 hG hC hcp (fun wr v m ks r hup=>qro hB (fun h=>(hown h).1) hup)).mono ?_
    . have h5:=hm _ rfl j 0 _ _ (hxg j hj) rfl
      rw [Addr.add_lit,show xo+(j * 1+0)=xo+j by omega] at h5
      exact h5
    . rintro e w' ⟨v,r,rfl,hup,htp⟩
      exact ⟨v,rfl,qhi hC hcp hcm hB hown h00 hup htp⟩
 have e1:(rIs (zm ls)).er W.erL=.v (false,[.osl (q7 (zm ls))]):=by rw [<-W4];rfl
 unfold qe
 rw [e1]
 exact key
end Go.Proofs.YtifnopmkdempdaaGreat.Ai
namespace Go.Proofs.YtifnopmkdempdaaGreat.Ai
open Go
set_option maxRecDepth 100000
variable [qh]
def acQ (ts:List Tie)(times:List Int)(i:Nat):Bool:=(ts.getD i Tie.z).free&&(decide (times.getD (ts.getD i Tie.z).src.toNat 0≠-1)&&decide (times.getD (ts.getD i Tie.z).dst.toNat 0=-1))
def acL (t:ql)(x:qf):List Int:=kA (acQ t.ties x.times) t.ties.length
theorem qaY (t:ql)(x:qf)(hs:kd t x)(h:za t=true)(hl:x.times.length=t.nodes.length):qe Tryz.prog 124 [qQ t,qH x] (rUs (acL t x)):=by
 refine qe.of qc (fn:=Tryz.f124) (c:=Tryz.f124.body.getD .skip) (dr:=fun n=>qa 0 [] n) Tryz.func124 rfl (by kernel_rfl) (by kernel_rfl) (by kernel_rfl) ?_
 have hn:=qI h
 have htl:=zU h
 have hT:∀ q∈t.ties,Zb t q:=fun q hq=>kF h hq
 unfold acL
 obtain ⟨ns,ts,hr⟩:=t
 obtain ⟨now,times,vals⟩:=x
 dsimp only at hl hn htl ⊢
 obtain ⟨q,hq⟩:∃ q,q=acQ ts times:=⟨_,rfl⟩
 have hqd:∀ j:Nat,q j=acQ ts times j:=fun j=>by rw [hq]
 rw [<-hq]
 clear hq hs h
 unfold acQ at hqd
 obtain ⟨m,hm⟩:∃ m,m=ts.length:=⟨_,rfl⟩
 rw [<-hm] at htl ⊢
 refine SEx.go (X:=XX) qc (fun n=>qa [] [(3,[3,5,10,11,12])] n) (fun _=>none) qd 60 ?_
 intro M R L N m0 m1 m2 m3 m4 m5
 cases M
 cbv
 repeat' first | refine m1 _ _ ?_ ?_ | refine m2 _ _ fun h=>?_ | refine m3 _ ?_ | (refine m4 _ _ (Hd.out ?_);generalize hks:(List.cons _ _:List K)=ks) | (refine m5 _ _ ?_;cbv)
 all_goals (clear m1 m2 m3 m4 m5;cases m0;try dsimp only)
 all_goals try simp only [sm] at *
 refine ⟨SEx.same (SEx.idx m (fun i=>⟨43,[(3,bP 12288),(5,bR 20480 (kA q i).length),(10,bL (.tie ts)),(11,bI m),(12,bI i)],[(12288,.obx [.fz (.int .i64 now),.fz (.sl (.i times)),.fz (.sl (.i vals))]),(20480,.osl (.i (kA q i)))]⟩) (fun _=>rUs (kA q m)) ?_) (by rw [hm];rfl) rfl⟩
 intro i hi ih
 rw [<-hks]
 obtain ⟨u,hu⟩:∃ u,u=kA q i:=⟨_,rfl⟩
 have hul:u.length<=i:=by rw [hu];exact QX _ _
 rw [<-hu]
 obtain ⟨n,hnn⟩:∃ n,n=u.length:=⟨_,rfl⟩
 rw [<-hnn] at hul ⊢
 have hTi:i<m->Zb ⟨ns,ts,hr⟩ (ts.getD i Tie.z):=fun hlt=>hT _ (qn (z:=Tie.z) (by omega)).out
 have hqi:=hqd i
 clear hqd hT
 refine SEx.go (X:=XX) qc (fun n=>qa [] [(3,[3,5,10,11,12])] n) (fun _=>none) qd 60 ?_
 intro M R L N m0 m1 m2 m3 m4 m5
 cases M
 cbv
 repeat' first | refine m1 _ _ ?_ ?_ | refine m2 _ _ fun h=>?_ | refine m3 _ ?_ | (refine m4 _ _ (Hd.out ?_);try first | rw [hks] | rw [hk2] | rw [hk3]) | (refine m5 _ _ ?_;cbv)
 all_goals (clear m1 m2 m3 m4 m5;cases m0;(try clear hks;try clear hk2;try clear hk3);try dsimp only)
 all_goals try simp only [sm] at *
 all_goals try simp only [List.length_append,List.length_cons,List.length_nil,List.length_set] at *
 all_goals (try omega)
 all_goals (try (have:=zB;omega))
 all_goals (try simp only [qg (show i<9223372036854775807 by omega)])
 all_goals (try (have b1:=(hTi (by omega)).src;have b2:=(hTi (by omega)).dst;dsimp only at b1 b2))
 all_goals (generalize ts.getD i Tie.z=r at *;obtain ⟨x1,x2,x3,x4,x5⟩:=r;dsimp only at *)
 all_goals (try omega)
 all_goals first
  | (have ih':=ih (by omega)
     rw [vE (by rw [hqi];simp only [Bool.and_eq_true,decide_eq_true_eq];exact ⟨by assumption,by assumption,by assumption⟩),<-hu,List.length_append] at ih'
     exact ⟨ih'.same rfl rfl⟩)
  | (have ih':=ih (by omega)
     rw [Wc (by rw [hqi];simp only [Bool.and_eq_false_iff,decide_eq_false_iff_not];first | (left;assumption) | (right;left;assumption) | (right;right;assumption) | (right;left;omega)),<-hu,<-hnn] at ih'
     exact ⟨ih'.same rfl rfl⟩)
  | (obtain rfl:i=m:=by omega
     rw [hu];rfl)
  | skip
theorem qaz (t:ql)(x:qf)(hs:kd t x)(h:za t=true)(hl:x.times.length=t.nodes.length):qe Tryz.prog 129 [qQ t,qH x] (rUs (acL t x)):=by
 refine qe.of qc (fn:=Tryz.f129) (c:=Tryz.f129.body.getD .skip) (dr:=fun n=>qa 0 [] n) Tryz.func129 rfl (by kernel_rfl) (by kernel_rfl) (by kernel_rfl) ?_
 have hn:=qI h
 have htl:=zU h
 have hT:∀ q∈t.ties,Zb t q:=fun q hq=>kF h hq
 unfold acL
 obtain ⟨ns,ts,hr⟩:=t
 obtain ⟨now,times,vals⟩:=x
 dsimp only at hl hn htl ⊢
 obtain ⟨q,hq⟩:∃ q,q=acQ ts times:=⟨_,rfl⟩
 have hqd:∀ j:Nat,q j=acQ ts times j:=fun j=>by rw [hq]
 rw [<-hq]
 clear hq hs h
 unfold acQ at hqd
 obtain ⟨m,hm⟩:∃ m,m=ts.length:=⟨_,rfl⟩
 rw [<-hm] at htl ⊢
 refine SEx.go (X:=XX) qc (fun n=>qa [] [(3,[3,5,9,10,11])] n) (fun _=>none) qd 60 ?_
 intro M R L N m0 m1 m2 m3 m4 m5
 cases M
 cbv
 repeat' first | refine m1 _ _ ?_ ?_ | refine m2 _ _ fun h=>?_ | refine m3 _ ?_ | (refine m4 _ _ (Hd.out ?_);generalize hks:(List.cons _ _:List K)=ks) | (refine m5 _ _ ?_;cbv)
 all_goals (clear m1 m2 m3 m4 m5;cases m0;try dsimp only)
 all_goals try simp only [sm] at *
 refine ⟨SEx.same (SEx.idx m (fun i=>⟨42,[(3,bP 12288),(5,bR 20480 (kA q i).length),(9,bL (.tie ts)),(10,bI m),(11,bI i)],[(12288,.obx [.fz (.int .i64 now),.fz (.sl (.i times)),.fz (.sl (.i vals))]),(20480,.osl (.i (kA q i)))]⟩) (fun _=>rUs (kA q m)) ?_) (by rw [hm];rfl) rfl⟩
 intro i hi ih
 rw [<-hks]
 obtain ⟨u,hu⟩:∃ u,u=kA q i:=⟨_,rfl⟩
 have hul:u.length<=i:=by rw [hu];exact QX _ _
 rw [<-hu]
 obtain ⟨n,hnn⟩:∃ n,n=u.length:=⟨_,rfl⟩
 rw [<-hnn] at hul ⊢
 have hTi:i<m->Zb ⟨ns,ts,hr⟩ (ts.getD i Tie.z):=fun hlt=>hT _ (qn (z:=Tie.z) (by omega)).out
 have hqi:=hqd i
 clear hqd hT
 refine SEx.go (X:=XX) qc (fun n=>qa [] [(3,[3,5,9,10,11])] n) (fun _=>none) qd 60 ?_
 intro M R L N m0 m1 m2 m3 m4 m5
 cases M
 cbv
 repeat' first | refine m1 _ _ ?_ ?_ | refine m2 _ _ fun h=>?_ | refine m3 _ ?_ | (refine m4 _ _ (Hd.out ?_);try first | rw [hks] | rw [hk2] | rw [hk3]) | (refine m5 _ _ ?_;cbv)
 all_goals (clear m1 m2 m3 m4 m5;cases m0;(try clear hks;try clear hk2;try clear hk3);try dsimp only)
 all_goals try simp only [sm] at *
 all_goals try simp only [List.length_append,List.length_cons,List.length_nil,List.length_set] at *
 all_goals (try omega)
 all_goals (try (have:=zB;omega))
 all_goals (try simp only [qg (show i<9223372036854775807 by omega)])
 all_goals (try (have b1:=(hTi (by omega)).src;have b2:=(hTi (by omega)).dst;dsimp only at b1 b2))
 all_goals (generalize ts.getD i Tie.z=r at *;obtain ⟨x1,x2,x3,x4,x5⟩:=r;dsimp only at *)
 all_goals (try omega)
 all_goals first
  | (have ih':=ih (by omega)
     rw [vE (by rw [hqi];simp only [Bool.and_eq_true,decide_eq_true_eq];exact ⟨by assumption,by assumption,by assumption⟩),<-hu,List.length_append] at ih'
     exact ⟨ih'.same rfl rfl⟩)
  | (have ih':=ih (by omega)
     rw [Wc (by rw [hqi];simp only [Bool.and_eq_false_iff,decide_eq_false_iff_not];first | (left;assumption) | (right;left;assumption) | (right;right;assumption) | (right;left;omega)),<-hu,<-hnn] at ih'
     exact ⟨ih'.same rfl rfl⟩)
  | (obtain rfl:i=m:=by omega
     rw [hu];rfl)
  | skip
end Go.Proofs.YtifnopmkdempdaaGreat.Ai
namespace Go.Proofs.YtifnopmkdempdaaGreat.Ai
open Go
set_option maxRecDepth 100000
variable [qh]
def V9 (f:ql->qf->List Int):Wr:=w2 qN qF (fun t x=>rUs (f t x)) (fun t x=>[kd t x,StT t x])
theorem qnW:qy Tryz.prog 124 (V9 acL):=qE fun t x h=>qaY t x (h _ (.head _)) (h _ (.tail _ (.head _))).sh (h _ (.tail _ (.head _))).now.2.2
theorem qoO:qy Tryz.prog 129 (V9 acL):=qE fun t x h=>qaz t x (h _ (.head _)) (h _ (.tail _ (.head _))).sh (h _ (.tail _ (.head _))).now.2.2
def Yn (ts:List Tie)(now:Int)(times:List Int)(k:Int):Int:=now-times.getD (ts.getD k.toNat Tie.z).src.toNat 0
def qo6 (ts:List Tie)(now:Int)(times:List Int)(k:Int):Bool:=decide ((ts.getD k.toNat Tie.z).high<=Yn ts now times k)
def qri (ts:List Tie)(now:Int)(times:List Int)(k:Int):Bool:=decide (Yn ts now times k<(ts.getD k.toNat Tie.z).high)&&decide ((ts.getD k.toNat Tie.z).low<=Yn ts now times k)
def muL (t:ql)(x:qf):List Int:=(acL t x).filter (qo6 t.ties x.now x.times)
def myL (t:ql)(x:qf):List Int:=(acL t x).filter (qri t.ties x.now x.times)
theorem KZ {p:Int->Bool}{l:List Int}{i:Nat}(h:i<l.length)(hp:p (l.getD i 0)=true):(l.take (i+1)).filter p=(l.take i).filter p++[l.getD i 0]:=by
 rw [List.take_add_one,List.filter_append,zn h,List.getElem?_eq_getElem h,Option.toList_some,List.filter_cons,List.filter_nil]
 rw [zn h] at hp
 rw [if_pos hp]
theorem QK {p:Int->Bool}{l:List Int}{i:Nat}(h:i<l.length)(hp:p (l.getD i 0)=false):(l.take (i+1)).filter p=(l.take i).filter p:=by
 rw [List.take_add_one,List.filter_append,List.getElem?_eq_getElem h,Option.toList_some,List.filter_cons,List.filter_nil]
 rw [zn h] at hp
 rw [if_neg (by rw [hp];decide),List.append_nil]
theorem qcw {t:ql}{x:qf}{k:Int}(h:k∈acL t x):0<=k/\k<t.ties.length:=by
 unfold acL kA at h
 obtain ⟨j,hj,rfl⟩:=List.mem_map.1 h
 have:=List.mem_range.1 (List.mem_filter.1 hj).1
 omega
theorem VX (t:ql)(x:qf):(acL t x).length<=t.ties.length:=QX _ _
theorem qe8 (t:ql)(x:qf)(hs:kd t x)(h:StT t x):qe Tryz.prog 96 [qQ t,qH x] (.tup [(false,[.osl (.i (muL t x))]),(false,[.osl (.i (myL t x))])]):=by
 refine qe.of qc (fn:=Tryz.f96) (c:=Tryz.f96.body.getD .skip) (dr:=fun n=>qa 0 [(6,12)] n) Tryz.func96 rfl (by kernel_rfl) (by kernel_rfl) (by kernel_rfl) ?_
 have htl:=zU h.sh
 have hT:∀ q∈t.ties,Zb t q:=fun q hq=>kF h.sh hq
 have hnw:=h.now
 have hh:=zp h.sh
 have htm:=h.time
 have hk:∀ k∈acL t x,0<=k/\k<t.ties.length:=fun k hk=>qcw hk
 have hll:=VX t x
 unfold muL myL
 obtain ⟨f,hf⟩:∃ f,f=acL:=⟨_,rfl⟩
 have hO:qp Tryz.prog (qJ [(124,V9 f)]):=by subst hf;exact qb qnW qd
 rw [<-hf] at hk hll ⊢
 have h0:=h
 clear hf
 obtain ⟨ns,ts,hr⟩:=t
 obtain ⟨now,times,vals⟩:=x
 dsimp only at hnw hh htl htm hk hll ⊢
 obtain ⟨p,hp⟩:∃ p,p=qo6 ts now times:=⟨_,rfl⟩
 obtain ⟨r,hrr⟩:∃ r,r=qri ts now times:=⟨_,rfl⟩
 rw [<-hp,<-hrr]
 refine SEx.go (X:=XX) qc (fun n=>qa [] [(4,[2,3,6,7,15,16,17])] n) (fun _=>none) hO 60 ?_
 intro M R L N m0 m1 m2 m3 m4 m5
 cases M
 cbv
 repeat' first | refine m1 _ _ ?_ ?_ | refine m2 _ _ fun h=>?_ | refine m3 _ ?_ | (refine m4 _ _ (Hd.out ?_);generalize hks:(List.cons _ _:List K)=ks) | (refine m5 _ _ ?_;cbv)
 all_goals (clear m1 m2 m3 m4 m5;cases m0;try dsimp only)
 all_goals try simp only [sm] at *
 all_goals first
  | exact hs
  | exact h0
  | skip
 clear h0 h hs hO
 obtain ⟨l,hl⟩:∃ l,l=f ⟨ns,ts,hr⟩ ⟨now,times,vals⟩:=⟨_,rfl⟩
 rw [<-hl] at hk hll ⊢
 obtain ⟨m,hm⟩:∃ m,m=l.length:=⟨_,rfl⟩
 rw [<-hm] at hll ⊢
 refine ⟨SEx.same (SEx.idx m (fun i=>⟨63,[(2,bP 8192),(3,bP 12288),(6,bR 24576 ((l.take i).filter p).length),(7,bR 28672 ((l.take i).filter r).length),(15,bR 61440 m),(16,bI m),(17,bI i)],[(8192,.obx [.fz (.sl (.node false none ns)),.fz (.sl (.tie ts)),.fz (.int .i64 hr)]),(12288,.obx [.fz (.int .i64 now),.fz (.sl (.i times)),.fz (.sl (.i vals))]),(24576,.osl (.i ((l.take i).filter p))),(28672,.osl (.i ((l.take i).filter r))),(61440,.osl (.i l))]⟩) (fun _=>.tup [(false,[.osl (.i (l.filter p))]),(false,[.osl (.i (l.filter r))])]) ?_) rfl rfl⟩
 intro i hi ih
 rw [<-hks]
 obtain ⟨u,hu⟩:∃ u,u=(l.take i).filter p:=⟨_,rfl⟩
 obtain ⟨v,hv⟩:∃ v,v=(l.take i).filter r:=⟨_,rfl⟩
 have hul:u.length<=i:=by rw [hu];exact Nat.le_trans (List.length_filter_le _ _) (by rw [List.length_take];omega)
 have hvl:v.length<=i:=by rw [hv];exact Nat.le_trans (List.length_filter_le _ _) (by rw [List.length_take];omega)
 rw [<-hu,<-hv]
 obtain ⟨n1,hn1⟩:∃ n,n=u.length:=⟨_,rfl⟩
 obtain ⟨n2,hn2⟩:∃ n,n=v.length:=⟨_,rfl⟩
 rw [<-hn1] at hul ⊢
 rw [<-hn2] at hvl ⊢
 have hki:i<m->0<=l.getD i 0/\l.getD i 0<ts.length:=fun hlt=>hk _ (qn (z:=(0:Int)) (by omega)).out
 have hTi:i<m->Zb ⟨ns,ts,hr⟩ (ts.getD (l.getD i 0).toNat Tie.z):=fun hlt=>hT _ (qn (z:=Tie.z) (by have:=hki hlt;omega)).out
 have hpi:p (l.getD i 0)=decide ((ts.getD (l.getD i 0).toNat Tie.z).high<=Yn ts now times (l.getD i 0)):=by rw [hp];rfl
 have hri:r (l.getD i 0)=(decide (Yn ts now times (l.getD i 0)<(ts.getD (l.getD i 0).toNat Tie.z).high)&&decide ((ts.getD (l.getD i 0).toNat Tie.z).low<=Yn ts now times (l.getD i 0))):=by rw [hrr];rfl
 have htk:l.take m=l:=by rw [hm,List.take_length]
 have hag:IntKind.i64.wrap (now-times.getD (ts.getD (l.getD i 0).toNat Tie.z).src.toNat 0)=now-times.getD (ts.getD (l.getD i 0).toNat Tie.z).src.toNat 0:=by have:=htm (ts.getD (l.getD i 0).toNat Tie.z).src.toNat;exact qr (by omega) (by omega)
 unfold Yn at hpi hri
 clear hk hT hp hrr htm hl
 refine SEx.go (X:=XX) qc (fun n=>qa [] [(4,[2,3,6,7,15,16,17])] n) (fun _=>none) qd 60 ?_
 intro M R L N m0 m1 m2 m3 m4 m5
 cases M
 cbv
 repeat' first | refine m1 _ _ ?_ ?_ | refine m2 _ _ fun h=>?_ | refine m3 _ ?_ | (refine m4 _ _ (Hd.out ?_);try first | rw [hks] | rw [hk2] | rw [hk3]) | (refine m5 _ _ ?_;cbv)
 all_goals (clear m1 m2 m3 m4 m5;cases m0;(try clear hks;try clear hk2;try clear hk3);try dsimp only)
 all_goals try simp only [sm] at *
 all_goals (try simp only [hag] at *)
 all_goals try simp only [List.length_append,List.length_cons,List.length_nil,List.length_set] at *
 all_goals (try omega)
 all_goals (try (have:=zB;omega))
 all_goals (try simp only [qg (show i<9223372036854775807 by omega)])
 all_goals (try (have b0:=hki (by omega);have b1:=(hTi (by omega)).src;dsimp only at b1))
 all_goals (generalize ts.getD (l.getD i 0).toNat Tie.z=y at *;obtain ⟨x1,x2,x3,x4,x5⟩:=y;dsimp only at *)
 all_goals (try subst hn1)
 all_goals (try subst hn2)
 all_goals (try omega)
 all_goals first
  | (have ih':=ih (by omega)
     rw [KZ (p:=p) (l:=l) (i:=i) (by omega) (by rw [hpi];exact decide_eq_true (by omega)),QK (p:=r) (l:=l) (i:=i) (by omega) (by rw [hri,decide_eq_false (by omega)];rfl),<-hu,<-hv,List.length_append] at ih'
     exact ⟨ih'.same rfl rfl⟩)
  | (have ih':=ih (by omega)
     rw [QK (p:=p) (l:=l) (i:=i) (by omega) (by rw [hpi];exact decide_eq_false (by omega)),KZ (p:=r) (l:=l) (i:=i) (by omega) (by rw [hri,decide_eq_true (by omega),decide_eq_true (by omega)];rfl),<-hu,<-hv,List.length_append] at ih'
     exact ⟨ih'.same rfl rfl⟩)
  | (have ih':=ih (by omega)
     rw [QK (p:=p) (l:=l) (i:=i) (by omega) (by rw [hpi];exact decide_eq_false (by omega)),QK (p:=r) (l:=l) (i:=i) (by omega) (by rw [hri,decide_eq_false (show ¬x3<=_ by omega),Bool.and_false]),<-hu,<-hv] at ih'
     exact ⟨ih'.same rfl rfl⟩)
  | (obtain rfl:i=m:=by omega
     rw [htk] at hu hv
     rw [hu,hv];rfl)
  | (have e:i=m:=by omega
     rw [e,htk] at hu hv
     rw [hu,hv])
  | (have e:i=m:=by omega
     rw [e,htk] at hu hv
     rw [hu,hv];rfl)
  | skip
end Go.Proofs.YtifnopmkdempdaaGreat.Ai
namespace Go.Proofs.YtifnopmkdempdaaGreat.Ai
open Go
set_option maxRecDepth 100000
variable [qh]
def zg:List Int->List Int->List Int
 | [],b=>b
 | a,[]=>a
 | x::a,y::b=>if x<y then x::zg a (y::b) else y::zg (x::a) b
termination_by a b=>a.length+b.length
theorem wK (a:List Int):zg a []=a:=by cases a<;>simp [zg]
theorem kL:∀ a b:List Int,(zg a b).Perm (a++b)
 | [],b=>by simp [zg]
 | x::a,[]=>by simp [zg]
 | x::a,y::b=>by
   unfold zg
   split
   . exact (kL a (y::b)).cons x
   . exact ((kL (x::a) b).cons y).trans (List.perm_middle (l₁:=x::a)).symm
termination_by a b=>a.length+b.length
theorem Zs:∀ {a b:List Int},a.Pairwise (·<=·)->b.Pairwise (·<=·)->(zg a b).Pairwise (·<=·)
 | [],b,_,h=>by simpa [zg] using h
 | x::a,[],h,_=>by simpa [zg] using h
 | x::a,y::b,h1,h2=>by
   have h1':=List.pairwise_cons.1 h1
   have h2':=List.pairwise_cons.1 h2
   unfold zg
   split
   . rename_i hxy
     refine List.pairwise_cons.2 ⟨fun z hz=>?_,Zs h1'.2 h2⟩
     have hz:=(kL a (y::b)).mem_iff.1 hz
     rcases List.mem_append.1 hz with hz | hz
     . exact h1'.1 z hz
     . rcases List.mem_cons.1 hz with rfl | hz
       . omega
       . have:=h2'.1 z hz;omega
   . rename_i hxy
     refine List.pairwise_cons.2 ⟨fun z hz=>?_,Zs h1 h2'.2⟩
     have hz:=(kL (x::a) b).mem_iff.1 hz
     rcases List.mem_append.1 hz with hz | hz
     . rcases List.mem_cons.1 hz with rfl | hz
       . omega
       . have:=h1'.1 z hz;omega
     . exact h2'.1 z hz
termination_by a b=>a.length+b.length
theorem qfB {a b:List Int}(h1:a.Pairwise (·<=·))(h2:b.Pairwise (·<=·)):jq (a++b)=zg a b:=by
 have hs:(jq (a++b)).Pairwise (·<=·):=by
  have:=List.pairwise_mergeSort (le:=fun x y:Int=>decide (x<=y)) (fun a b c h1 h2=>by simp only [decide_eq_true_eq] at *;omega) (fun a b=>by simp only [Bool.or_eq_true,decide_eq_true_eq];omega) (a++b)
  exact this.imp fun h=>by simpa using h
 exact ((List.mergeSort_perm (a++b) _).trans (kL a b).symm).eq_of_pairwise (fun x y _ _ h1 h2=>by omega) hs (Zs h1 h2)
end Go.Proofs.YtifnopmkdempdaaGreat.Ai
namespace Go.Proofs.YtifnopmkdempdaaGreat.Ai
open Go
set_option maxRecDepth 100000
variable [qh]
theorem QM {l:List Int}{i:Nat}(h:i<l.length):l.drop i=l.getD i 0::l.drop (i+1):=by
 rw [List.drop_eq_getElem_cons h,zn h]
theorem mg1 {a b:List Int}{i k:Nat}(hi:i<a.length)(hk:k=b.length):zg (a.drop i) (b.drop k)=a.getD i 0::zg (a.drop (i+1)) (b.drop k):=by
 subst hk
 rw [List.drop_length,wK,wK,QM hi]
theorem mg2 {a b:List Int}{i k:Nat}(hi:i<a.length)(hk:k<b.length)(h:a.getD i 0<b.getD k 0):zg (a.drop i) (b.drop k)=a.getD i 0::zg (a.drop (i+1)) (b.drop k):=by
 rw [QM hi,QM hk]
 conv=>lhs;unfold zg
 rw [if_pos h]
theorem mg3 {a b:List Int}{i k:Nat}(hk:k<b.length)(h:i=a.length\/i<a.length/\¬a.getD i 0<b.getD k 0):zg (a.drop i) (b.drop k)=b.getD k 0::zg (a.drop i) (b.drop (k+1)):=by
 rcases h with rfl | ⟨hi,h⟩
 . rw [List.drop_length,QM hk];simp [zg]
 . rw [QM hi,QM hk]
   conv=>lhs;unfold zg
   rw [if_neg h]
theorem mg4 {a b:List Int}{i k:Nat}(hi:i=a.length)(hk:k=b.length):zg (a.drop i) (b.drop k)=[]:=by
 subst hi hk
 rw [List.drop_length,List.drop_length,wK]
structure MgI (a b:Nat)(x:Nat×Nat×List Int):Prop where
 i:x.1<=a
 k:x.2.1<=b
 len:x.2.2.length=x.1+x.2.1
theorem qcX (a b:List Int)(ha:a.length<=1000)(hb:b.length<=1000):qe Tryz.prog 97 [aIs a,aIs b] (rUs (zg a b)):=by
 refine qe.of qc (fn:=Tryz.f97) (c:=Tryz.f97.body.getD .skip) (dr:=fun n=>qa 0 [(5,18)] n) Tryz.func97 rfl (by kernel_rfl) (by kernel_rfl) (by kernel_rfl) ?_
 refine SEx.go (X:=XX) qc (fun n=>qa [] [(4,[0,1,5,6,7])] n) (fun _=>none) qd 60 ?_
 intro M R L N m0 m1 m2 m3 m4 m5
 cases M
 cbv
 repeat' first | refine m1 _ _ ?_ ?_ | refine m2 _ _ fun h=>?_ | refine m3 _ ?_ | (refine m4 _ _ (Hd.out ?_);generalize hks:(List.cons _ _:List K)=ks) | (refine m5 _ _ ?_;cbv)
 all_goals (clear m1 m2 m3 m4 m5;cases m0;try dsimp only)
 all_goals try simp only [sm] at *
 refine ⟨SEx.same (SEx.ind (α:=Nat×Nat×List Int) (fun x=>⟨59,[(0,bL (.i a)),(1,bL (.i b)),(5,bR 20480 x.2.2.length),(6,bI x.1),(7,bI x.2.1)],[(20480,.osl (.i x.2.2))]⟩) (fun x=>rUs (x.2.2++zg (a.drop x.1) (b.drop x.2.1))) (MgI a.length b.length) (fun x=>a.length+b.length-(x.1+x.2.1)) (0,0,[]) ⟨Nat.zero_le _,Nat.zero_le _,rfl⟩ ?_) rfl rfl⟩
 rintro ⟨i,k,u⟩ ⟨h1,h2,h3⟩ ih
 dsimp only at h1 h2 h3 ih ⊢
 rw [<-hks]
 obtain ⟨n,hn⟩:∃ n,n=u.length:=⟨_,rfl⟩
 rw [<-hn] at h3 ⊢
 have ia:i<a.length->SEx _ _ _ _ _ _ _:=fun h=>ih (i+1,k,u++[a.getD i 0]) ⟨h,h2,by simp only [List.length_append,List.length_cons,List.length_nil];omega⟩ (by dsimp only;omega)
 have ib:k<b.length->SEx _ _ _ _ _ _ _:=fun h=>ih (i,k+1,u++[b.getD k 0]) ⟨h1,h,by simp only [List.length_append,List.length_cons,List.length_nil];omega⟩ (by dsimp only;omega)
 dsimp only at ia ib
 clear ih
 obtain ⟨m,hm⟩:∃ m,m=zg (a.drop i) (b.drop k):=⟨_,rfl⟩
 rw [<-hm]
 refine SEx.go (X:=XX) qc (fun n=>qa [] [(4,[0,1,5,6,7])] n) (fun _=>none) qd 60 ?_
 intro M R L N m0 m1 m2 m3 m4 m5
 cases M
 cbv
 repeat' first | refine m1 _ _ ?_ ?_ | refine m2 _ _ fun h=>?_ | refine m3 _ ?_ | (refine m4 _ _ (Hd.out ?_);try first | rw [hks] | rw [hk2] | rw [hk3]) | (refine m5 _ _ ?_;cbv)
 all_goals (clear m1 m2 m3 m4 m5;cases m0;(try clear hks;try clear hk2;try clear hk3);try dsimp only)
 all_goals try simp only [sm] at *
 all_goals try simp only [List.length_append,List.length_cons,List.length_nil,List.length_set] at *
 all_goals (try omega)
 all_goals (try (have:=zB;omega))
 all_goals (try simp only [qg (show i<9223372036854775807 by omega),qg (show k<9223372036854775807 by omega)])
 all_goals (try subst hn)
 all_goals first
  | (have e:=hm.trans (mg1 (by omega) (by omega))
     have ih':=ia (by omega)
     rw [List.append_assoc,List.singleton_append,<-e] at ih'
     try rw [List.length_append] at ih'
     exact ⟨ih'.same rfl rfl⟩)
  | (have e:=hm.trans (mg2 (by omega) (by omega) (by assumption))
     have ih':=ia (by omega)
     rw [List.append_assoc,List.singleton_append,<-e] at ih'
     try rw [List.length_append] at ih'
     exact ⟨ih'.same rfl rfl⟩)
  | (have e:=hm.trans (mg3 (by omega) (by first | (left;omega) | (right;exact ⟨by omega,by omega⟩)))
     have ih':=ib (by omega)
     rw [List.append_assoc,List.singleton_append,<-e] at ih'
     try rw [List.length_append] at ih'
     exact ⟨ih'.same rfl rfl⟩)
  | (rw [hm,mg4 (by omega) (by omega),List.append_nil];rfl)
  | skip
end Go.Proofs.YtifnopmkdempdaaGreat.Ai
namespace Go.Proofs.YtifnopmkdempdaaGreat.Ai
open Go
set_option maxRecDepth 100000
variable [qh]
def qhE (a b:List Int)(k:Nat):List (List Int):=(List.range k).map fun (j:Nat)=>zg a (QE b (j:Int))
theorem qmR (a b:List Int)(k:Nat):(qhE a b k).length=k:=by simp [qhE]
theorem qq8 {m:Nat}(h:m<=14):IntKind.i64.wrap (1 * 2 ^ min m IntKind.i64.bits)=((2 ^ m:Nat):Int):=by
 have:m=0\/m=1\/m=2\/m=3\/m=4\/m=5\/m=6\/m=7\/m=8\/m=9\/m=10\/m=11\/m=12\/m=13\/m=14:=by omega
 rcases this with rfl | rfl | rfl | rfl | rfl | rfl | rfl | rfl | rfl | rfl | rfl | rfl | rfl | rfl | rfl<;>decide
theorem qgS {m:Nat}(h:m<=14):1<=2 ^ m/\2 ^ m<=16384:=by
 have:m=0\/m=1\/m=2\/m=3\/m=4\/m=5\/m=6\/m=7\/m=8\/m=9\/m=10\/m=11\/m=12\/m=13\/m=14:=by omega
 rcases this with rfl | rfl | rfl | rfl | rfl | rfl | rfl | rfl | rfl | rfl | rfl | rfl | rfl | rfl | rfl<;>decide
theorem qdl {t:ql}(x:qf)(h:za t=true):(muL t x).length<=14:=Nat.le_trans (List.length_filter_le _ _) (Nat.le_trans (VX t x) (zU h))
theorem yn {t:ql}(x:qf)(h:za t=true):(myL t x).length<=14:=Nat.le_trans (List.length_filter_le _ _) (Nat.le_trans (VX t x) (zU h))
def qqP (f g:ql->qf->List Int):Wr:=w2 qN qF (fun t x=>.tup [(false,[.osl (.i (f t x))]),(false,[.osl (.i (g t x))])]) (fun t x=>[kd t x,StT t x])
theorem qkw:qy Tryz.prog 96 (qqP muL myL):=qE fun t x h=>qe8 t x (h _ (.head _)) (h _ (.tail _ (.head _)))
def qn6 (f:List Int->List Int->List Int):Wr:=w2 zX zX (fun a b=>rUs (f a b)) (fun a b=>[LLe a 1000,LLe b 1000])
theorem qls:qy Tryz.prog 97 (qn6 zg):=qE fun a b h=>qcX a b (h _ (.head _)).out (h _ (.tail _ (.head _))).out
end Go.Proofs.YtifnopmkdempdaaGreat.Ai
namespace Go.Proofs.YtifnopmkdempdaaGreat.Ai
open Go
set_option maxRecDepth 100000
variable [qh]
theorem zI.frz {P:Program}{g:FuncId}{args:List (V1 C)}{xs:List (List O)}(h:zI P g args (.v (false,[.osl xs])))(hc:O.cleanLL xs=true):zI P g args (.v (false,[.fz (.fn qaN [.sl (O.frzLL xs)])])):=by
 refine ⟨h.1,fun J w vals hfut hold hsz ha=>(h.2 J w vals hfut hold hsz ha).mono ?_⟩
 rintro e w' ⟨v,rfl,hr⟩
 letI:=J
 obtain ⟨hb,σr,h1,h2,h3,h4⟩:=hr
 refine ⟨v,rfl,⟨hb,fun _=>none,fun g x hx=>by (cases hx),fun g g' x y hx=>by (cases hx),?_,fun g x hx=>by (cases hx)⟩⟩
 have h5:qq w' σr (qC,[(0,0)]) (.osl xs) v:=h3
 exact h5.new (fun g x hx=>(h1 g x hx).1) hc
def rFz (x:LL):TV W:=.v (false,[.fz (.fn qaN [.sl x])])
theorem qe.frz {P:Program}{g:FuncId}{args:List (V1 D)}{x:LL}(h:qe P g args (.v (false,[.osl x])))(hc:x.clean=true):qe P g args (rFz x.thaw):=by
 have h1:=zI.frz h (LL.clean_ro x hc)
 have e:(rFz x.thaw).er W.erL=.v (false,[.fz (.fn qaN [.sl (O.frzLL x.ro)])]):=by
  rw [LL.frz_ro x (YK hc)]
  cases x<;>rfl
 unfold qe
 rw [e]
 exact h1
def qqZ (f:List Int->Int->List Int):Wr:=w2 zX dcI (fun l s=>rFz (.i (f l s))) (fun l _=>[LLe l 1048576])
theorem qnU:qy Tryz.prog 111 (qqZ QE):=qE fun l s h=>(Jr l s (h _ (.head _)).out).frz (x:=.i (QE l s)) rfl
structure qs0 (ls:List (List Int)):Prop where out:ls≠[]/\ls.length<=1000000/\(zm ls).length<=1000000
def qsq (f:List (List Int)->List Int):Wr:=w1 qj7 (fun ls=>rUs (f ls)) (fun ls=>[qs0 ls])
theorem qqE:qy Tryz.prog 130 (qsq zm):=zx fun ls h=>have h0:=(h _ (.head _)).out;qml ls h0.1 h0.2.1 h0.2.2
structure SoS {α:Type}(p:SP)(n m:Nat)(l:List α):Prop where out:p=(lrt 0,[])/\m=n/\l.length=n/\n<4611686018427387904
def vg (f:List Int->List Int):WrW
 | [(false,[.rf p true 0 n])],[(.sl m,.osl (.i l))]=>some ([SoS p n m l],(.tup [],[(lrt 0,.osl (.i (f l)))],[.rf (lrt 0,[]) true 0 n]))
 | _,_=>none
theorem qfX:vF Tryz.prog 113 (vg jq):=by
 intro xs ls
 unfold vg
 split
 . refine R.Sim.mk fun hp=>?_
   obtain ⟨rfl,rfl,rfl,h1⟩:=(hp _ (.head _)).out
   exact qpw _ h1
 . exact R.Sim.none'
def Y3 (a b:List Int)(k:Nat):List (List Int):=(List.range k).map fun (j:Nat)=>jq (zm [a,QE b (j:Int)])
theorem qms (a b:List Int)(k:Nat):Y3 a b (k+1)=Y3 a b k++[jq (zm [a,QE b (k:Int)])]:=by simp [Y3,List.range_succ]
theorem qm0 (a b:List Int)(k:Nat):(Y3 a b k).length=k:=by simp [Y3]
theorem qfz (q:Nat->Bool)(n:Nat):(kA q n).Pairwise (·<=·):=by
 unfold kA
 refine List.pairwise_map.2 ((List.pairwise_lt_range (n:=n)).filter q |>.imp fun h=>?_)
 omega
theorem Ya (t:ql)(x:qf):(acL t x).Pairwise (·<=·):=qfz _ _
theorem qit (t:ql)(x:qf):(muL t x).Pairwise (·<=·):=(Ya t x).filter _
theorem qiz (t:ql)(x:qf):(myL t x).Pairwise (·<=·):=(Ya t x).filter _
theorem qgc {l:List Int}(h:l.Pairwise (·<=·))(s:Int):(QE l s).Pairwise (·<=·):=by
 unfold QE ZJ
 refine List.pairwise_map.2 (((List.pairwise_lt_range (n:=l.length)).filter (btS s)).imp_of_mem fun {a b} ha hb hab=>?_)
 have ha':=List.mem_range.1 (List.mem_filter.1 ha).1
 have hb':=List.mem_range.1 (List.mem_filter.1 hb).1
 rw [zn ha',zn hb']
 exact List.pairwise_iff_getElem.1 h a b ha' hb' hab
theorem qpx {a b:List Int}(ha:a.Pairwise (·<=·))(hb:b.Pairwise (·<=·))(k:Nat):Y3 a b k=qhE a b k:=by
 unfold Y3 qhE
 refine List.map_congr_left fun j _=>?_
 rw [<-qfB ha (qgc hb _)]
 simp [zm]
def Z3 (t:ql)(x:qf):List (List Int):=if t.hor<x.now then [] else qhE (muL t x) (myL t x) (2 ^ (myL t x).length)
theorem qsl (a b:List Int):(zm [a,b]).length=a.length+b.length:=by simp [zm]
theorem qgy (t:ql)(x:qf)(hs:kd t x)(h:StT t x):qe Tryz.prog 101 [qQ t,qH x] (Q0 (Z3 t x)):=by
 refine qe.of qc (fn:=Tryz.f101) (c:=Tryz.f101.body.getD .skip) (dr:=fun n=>qa 0 [(7,12)] n) Tryz.func101 rfl (by kernel_rfl) (by kernel_rfl) (by kernel_rfl) ?_
 have htl:=zU h.sh
 have hT:∀ q∈t.ties,Zb t q:=fun q hq=>kF h.sh hq
 have hnw:=h.now
 have hh:=zp h.sh
 have htm:=h.time
 have hk:∀ k∈acL t x,0<=k/\k<t.ties.length:=fun k hk=>qcw hk
 have hll:=VX t x
 have hmu:t.hor<x.now\/Z3 t x=Y3 (muL t x) (myL t x) (2 ^ (myL t x).length):=by
  by_cases hlt:t.hor<x.now
  . exact .inl hlt
  . right
    unfold Z3
    rw [if_neg hlt,qpx (qit t x) (qiz t x)]
 have hE0:t.hor<x.now->Z3 t x=[]:=fun hlt=>if_pos hlt
 obtain ⟨r,hr⟩:∃ r,r=Z3 t x:=⟨_,rfl⟩
 have hpl:(myL t x).length<=14:=yn x h.sh
 have hul0:(muL t x).length<=14:=qdl x h.sh
 rw [<-hr] at hmu hE0 ⊢
 clear hr
 unfold muL myL at hmu
 unfold myL at hpl
 unfold muL at hul0
 obtain ⟨f,hf⟩:∃ f,f=acL:=⟨_,rfl⟩
 obtain ⟨f1,hf1⟩:∃ f,f=QE:=⟨_,rfl⟩
 obtain ⟨f2,hf2⟩:∃ f,f=zm:=⟨_,rfl⟩
 obtain ⟨f3,hf3⟩:∃ f,f=jq:=⟨_,rfl⟩
 have hO:qp Tryz.prog (qJ [(129,V9 f),(111,qqZ f1),(130,qsq f2)]):=by
  subst hf hf1 hf2
  exact qb qoO (qb qnU (qb qqE qd))
 have hW:q8 Tryz.prog (XX.withW [(113,[(0,0)])] (kH [(113,vg f3)])):=by
  subst hf3
  exact SX.withW_ok (zT qfX jm)
 rw [<-hf] at hk hll hmu hpl hul0
 have h0:=h
 clear hf
 obtain ⟨ns,ts,hr⟩:=t
 obtain ⟨now,times,vals⟩:=x
 dsimp only at hnw hh htl htm hk hll hmu hE0 hpl hul0 ⊢
 obtain ⟨p,hp⟩:∃ p,p=qo6 ts now times:=⟨_,rfl⟩
 obtain ⟨q,hq⟩:∃ r,r=qri ts now times:=⟨_,rfl⟩
 rw [<-hp,<-hq] at hmu
 rw [<-hp] at hul0
 rw [<-hq] at hpl
 refine SEx.go (X:=(XX.withW [(113,[(0,0)])] (kH [(113,vg f3)]))) qc (fun n=>qa [] [(5,[2,3,5,6,20,21,22]),(15,[5,6,10,11])] n) (fun _=>none) hO 60 ?_ hW
 intro M R L N m0 m1 m2 m3 m4 m5
 cases M
 cbv
 repeat' first | refine m1 _ _ ?_ ?_ | refine m2 _ _ fun h=>?_ | refine m3 _ ?_ | (refine m4 _ _ (Hd.out ?_);generalize hks:(List.cons _ _:List K)=ks) | (refine m5 _ _ ?_;cbv)
 all_goals (clear m1 m2 m3 m4 m5;cases m0;try dsimp only)
 all_goals try simp only [sm] at *
 all_goals first
  | exact hs
  | exact h0
  | (rw [hE0 (by omega)];rfl)
  | skip
 have hmu:=hmu.resolve_left (by omega)
 clear h0 h hs
 obtain ⟨l,hl⟩:∃ l,l=f ⟨ns,ts,hr⟩ ⟨now,times,vals⟩:=⟨_,rfl⟩
 rw [<-hl] at hk hll hmu hpl hul0 ⊢
 obtain ⟨m,hm⟩:∃ m,m=l.length:=⟨_,rfl⟩
 rw [<-hm] at hll ⊢
 refine ⟨SEx.same (SEx.idx m (fun i=>⟨86,[(2,bP 8192),(3,bP 12288),(5,bR 20480 ((l.take i).filter p).length),(6,bR 24576 ((l.take i).filter q).length),(20,bR 81920 m),(21,bI m),(22,bI i)],[(8192,.obx [.fz (.sl (.node false none ns)),.fz (.sl (.tie ts)),.fz (.int .i64 hr)]),(12288,.obx [.fz (.int .i64 now),.fz (.sl (.i times)),.fz (.sl (.i vals))]),(20480,.osl (.i ((l.take i).filter p))),(24576,.osl (.i ((l.take i).filter q))),(81920,.osl (.i l))]⟩) (fun _=>Q0 r) ?_) rfl rfl⟩
 intro i hi ih
 rw [<-hks]
 obtain ⟨u,hu⟩:∃ u,u=(l.take i).filter p:=⟨_,rfl⟩
 obtain ⟨v,hv⟩:∃ v,v=(l.take i).filter q:=⟨_,rfl⟩
 have hul:u.length<=i:=by rw [hu];exact Nat.le_trans (List.length_filter_le _ _) (by rw [List.length_take];omega)
 have hvl:v.length<=i:=by rw [hv];exact Nat.le_trans (List.length_filter_le _ _) (by rw [List.length_take];omega)
 rw [<-hu,<-hv]
 obtain ⟨n1,hn1⟩:∃ n,n=u.length:=⟨_,rfl⟩
 obtain ⟨n2,hn2⟩:∃ n,n=v.length:=⟨_,rfl⟩
 rw [<-hn1] at hul ⊢
 rw [<-hn2] at hvl ⊢
 have hki:i<m->0<=l.getD i 0/\l.getD i 0<ts.length:=fun hlt=>hk _ (qn (z:=(0:Int)) (by omega)).out
 have hTi:i<m->Zb ⟨ns,ts,hr⟩ (ts.getD (l.getD i 0).toNat Tie.z):=fun hlt=>hT _ (qn (z:=Tie.z) (by have:=hki hlt;omega)).out
 have hpi:p (l.getD i 0)=decide ((ts.getD (l.getD i 0).toNat Tie.z).high<=Yn ts now times (l.getD i 0)):=by rw [hp];rfl
 have hri:q (l.getD i 0)=(decide (Yn ts now times (l.getD i 0)<(ts.getD (l.getD i 0).toNat Tie.z).high)&&decide ((ts.getD (l.getD i 0).toNat Tie.z).low<=Yn ts now times (l.getD i 0))):=by rw [hq];rfl
 have htk:l.take m=l:=by rw [hm,List.take_length]
 have hag:IntKind.i64.wrap (now-times.getD (ts.getD (l.getD i 0).toNat Tie.z).src.toNat 0)=now-times.getD (ts.getD (l.getD i 0).toNat Tie.z).src.toNat 0:=by have:=htm (ts.getD (l.getD i 0).toNat Tie.z).src.toNat;exact qr (by omega) (by omega)
 unfold Yn at hpi hri
 clear hk hT hp hq htm hl
 refine SEx.go (X:=(XX.withW [(113,[(0,0)])] (kH [(113,vg f3)]))) qc (fun n=>qa [] [(5,[2,3,5,6,20,21,22]),(15,[5,6,10,11])] n) (fun _=>none) hO 60 ?_ hW
 intro M R L N m0 m1 m2 m3 m4 m5
 cases M
 cbv
 repeat' first | refine m1 _ _ ?_ ?_ | refine m2 _ _ fun h=>?_ | refine m3 _ ?_ | (refine m4 _ _ (Hd.out ?_);first | rw [hks] | generalize hk2:(List.cons _ _:List K)=k2) | (refine m5 _ _ ?_;cbv)
 all_goals (clear m1 m2 m3 m4 m5;cases m0;try dsimp only)
 all_goals try simp only [sm] at *
 all_goals (try simp only [hag] at *)
 all_goals try simp only [List.length_append,List.length_cons,List.length_nil,List.length_set] at *
 all_goals (try omega)
 all_goals (try (have:=zB;omega))
 all_goals (try simp only [qg (show i<9223372036854775807 by omega)])
 all_goals (try (have b0:=hki (by omega);have b1:=(hTi (by omega)).src;dsimp only at b1))
 all_goals (generalize ts.getD (l.getD i 0).toNat Tie.z=y at *;obtain ⟨x1,x2,x3,x4,x5⟩:=y;dsimp only at *)
 all_goals (try subst hn1)
 all_goals (try subst hn2)
 all_goals (try omega)
 all_goals first
  | (have ih':=ih (by omega)
     rw [KZ (p:=p) (l:=l) (i:=i) (by omega) (by rw [hpi];exact decide_eq_true (by omega)),QK (p:=q) (l:=l) (i:=i) (by omega) (by rw [hri,decide_eq_false (by omega)];rfl),<-hu,<-hv,List.length_append] at ih'
     exact ⟨ih'.same rfl rfl⟩)
  | (have ih':=ih (by omega)
     rw [QK (p:=p) (l:=l) (i:=i) (by omega) (by rw [hpi];exact decide_eq_false (by omega)),KZ (p:=q) (l:=l) (i:=i) (by omega) (by rw [hri,decide_eq_true (by omega),decide_eq_true (by omega)];rfl),<-hu,<-hv,List.length_append] at ih'
     exact ⟨ih'.same rfl rfl⟩)
  | (have ih':=ih (by omega)
     rw [QK (p:=p) (l:=l) (i:=i) (by omega) (by rw [hpi];exact decide_eq_false (by omega)),QK (p:=q) (l:=l) (i:=i) (by omega) (by rw [hri,decide_eq_false (show ¬x3<=_ by omega),Bool.and_false]),<-hu,<-hv] at ih'
     exact ⟨ih'.same rfl rfl⟩)
  | skip
 have him:i=m:=by omega
 rw [him,htk] at hu hv
 rw [<-hu,<-hv] at hmu
 rw [<-hv] at hpl
 rw [<-hu] at hul0
 clear hki hTi hpi hri hag htk ih
 have hpw:=qgS hpl
 have hsh:=qq8 hpl
 obtain ⟨NN,hN⟩:∃ n,n=2 ^ v.length:=⟨_,rfl⟩
 rw [<-hN] at hmu hpw hsh
 refine ⟨SEx.same (F:=⟨86,_,_⟩) (G:=⟨86,[(5,bR 20480 u.length),(6,bR 24576 v.length),(10,bR 40960 0),(11,bI 0)],[(20480,.osl (.i u)),(24576,.osl (.i v)),(40960,.onil)]⟩) (r':=Q0 r) (SEx.freeze 20480 (x:=.i u) (y:=([u.length],[(5,bL (.i u)),(6,bR 24576 v.length),(10,bR 40960 0),(11,bI 0)])) rfl rfl rfl (fun m hm=>List.mem_singleton.1 hm) ?_) rfl rfl⟩
 refine SEx.freeze 24576 (x:=.i v) (y:=([v.length],[(5,bL (.i u)),(6,bL (.i v)),(10,bR 40960 0),(11,bI 0)])) rfl rfl rfl (fun m hm=>List.mem_singleton.1 hm) ?_
 clear hN hu hv
 refine SEx.same (SEx.idx NN (fun k=>⟨86,[(5,bL (.i u)),(6,bL (.i v)),(10,bR 40960 k),(11,bI k)],[(40960,.osl (.ii true none (Y3 u v k)))]⟩) (fun _=>Q0 r) ?_) rfl rfl
 intro k hk ih
 rw [<-hk2]
 obtain ⟨o,ho⟩:∃ o,o=Y3 u v k:=⟨_,rfl⟩
 have hol:o.length=k:=by rw [ho,qm0]
 rw [<-ho]
 have hfm:(f1 v k).length<=14:=by rw [hf1];exact Nat.le_trans (KO _ _ _) hpl
 have hfl:(f2 [u,f1 v k]).length<=1000:=by rw [hf2,qsl];omega
 have hq:Y3 u v (k+1)=o++[f3 (f2 [u,f1 v k])]:=by rw [ho,hf1,hf2,hf3];exact qms _ _ _
 refine SEx.go (X:=(XX.withW [(113,[(0,0)])] (kH [(113,vg f3)]))) qc (fun n=>qa [] [(5,[2,3,5,6,20,21,22]),(15,[5,6,10,11])] n) (fun _=>none) hO 60 ?_ hW
 intro M R L N m0 m1 m2 m3 m4 m5
 cases M
 cbv
 repeat' first | refine m1 _ _ ?_ ?_ | refine m2 _ _ fun h=>?_ | refine m3 _ ?_ | (refine m4 _ _ (Hd.out ?_);try first | rw [hks] | rw [hk2] | rw [hk3]) | (refine m5 _ _ ?_;cbv)
 all_goals (clear m1 m2 m3 m4 m5;cases m0;(try clear hks;try clear hk2;try clear hk3);try dsimp only)
 all_goals try simp only [sm] at *
 all_goals (try simp only [Int.toNat_natCast,hsh] at *)
 all_goals (try simp only [qg (show k<9223372036854775807 by omega)])
 all_goals first
  | omega
  | rfl
  | (refine ⟨rfl,rfl,rfl,?_⟩;omega;done)
  | (refine ⟨List.cons_ne_nil _ _,?_,?_⟩;(exact (by decide:2<=1000000));rw [<-hf2];omega;done)
  | (refine ⟨?_⟩;omega;done)
  | (rw [hf3];exact (QN _).symm)
  | (have:=zB;simp only [List.length_cons,List.length_nil];omega)
  | (have ih':=ih (by omega)
     rw [hq] at ih'
     simp only [List.length_append,List.length_cons,List.length_nil,hol]
     exact ⟨ih'.same rfl rfl⟩)
  | (have e:k=NN:=by omega
     subst e
     rw [hmu,ho];rfl)
  | (have e:k=NN:=by omega
     rw [e] at ho
     rw [hmu,ho])
  | skip
def qqY (f:ql->qf->List (List Int)):Wr:=w2 qN qF (fun t x=>Q0 (f t x)) (fun t x=>[kd t x,StT t x])
theorem qoZ:qy Tryz.prog 101 (qqY Z3):=qE fun t x h=>qgy t x (h _ (.head _)) (h _ (.tail _ (.head _)))
end Go.Proofs.YtifnopmkdempdaaGreat.Ai
namespace Go.Proofs.YtifnopmkdempdaaGreat.Ai
open Go
set_option maxRecDepth 100000
variable [qh]
def VM (ls:List (List Int))(l:List Int):Bool:=ls.any fun y=>jy l y
theorem Yr {ls:List (List Int)}{l:List Int}:VM ls l=true↔l∈ls:=by
 unfold VM
 rw [List.any_eq_true]
 simp only [KJ,decide_eq_true_eq]
 exact ⟨fun ⟨y,h1,h2⟩=>h2▸h1,fun h=>⟨l,h,rfl⟩⟩
structure LLs (ls:List (List Int))(n:Nat):Prop where out:ls.length<=n/\∀ y∈ls,y.length<=n
theorem qpQ (y l:List Int)(h1:y.length<=maxLen)(h2:l.length<=maxLen):qe Tryz.prog 75 [aIs y,(false,[.ptr [.sl (.i l)]])] (rB (jy l y)):=by
 refine qe.of qc (fn:=Tryz.f75) (c:=Tryz.f75.body.getD .skip) (dr:=fun n=>qa 0 [] n) Tryz.func75 rfl (by kernel_rfl) (by kernel_rfl) (by kernel_rfl) ?_
 obtain ⟨f,hf⟩:∃ f,f=jy:=⟨_,rfl⟩
 have hO:qp Tryz.prog (qJ [(76,WY f)]):=by subst hf;exact qb qa3 qd
 rw [<-hf]
 refine SEx.go (X:=XX) qc (fun n=>qa [] [] n) (fun _=>none) hO 60 ?_
 intro M R L N m0 m1 m2 m3 m4 m5
 cases M
 cbv
 repeat' first | refine m1 _ _ ?_ ?_ | refine m2 _ _ fun h=>?_ | refine m3 _ ?_ | (refine m4 _ _ (Hd.out ?_);try first | rw [hks] | rw [hk2] | rw [hk3]) | (refine m5 _ _ ?_;cbv)
 all_goals (clear m1 m2 m3 m4 m5;cases m0;(try clear hks;try clear hk2;try clear hk3);try dsimp only)
 all_goals try simp only [sm] at *
 all_goals first
  | exact ⟨h1⟩
  | exact ⟨h2⟩
  | rfl
def qtk (k:Nat):Dc (List Int):=qry k false zX fun _=>rfl
theorem qef (ls:List (List Int))(l:List Int)(h1:ls.length<=maxLen)(h2:∀ y∈ls,y.length<=maxLen)(h3:l.length<=maxLen):qe Tryz.prog 38 [qlc ls,aIs l] (rB (VM ls l)):=by
 refine qe.of qc (fn:=Tryz.f38) (c:=Tryz.f38.body.getD .skip) (dr:=fun n=>qa 0 [] n) Tryz.func38 rfl (by kernel_rfl) (by kernel_rfl) (by kernel_rfl) ?_
 obtain ⟨f,hf⟩:∃ f,f=VM:=⟨_,rfl⟩
 have hO:qp Tryz.prog (qJ [(52,w2 qj7 (qtk 75) (fun ls l=>rB (f ls l)) (fun ls l=>[LLs ls maxLen,LLe l maxLen]))]):=by
  subst hf
  exact qb (qE fun ls l h=>qaR ls _ _ _ (fun y hy=>qpQ y l ((h _ (.head _)).out.2 y hy) (h _ (.tail _ (.head _))).out) (h _ (.head _)).out.1) qd
 rw [<-hf]
 refine SEx.go (X:=XX) qc (fun n=>qa [] [] n) (fun _=>none) hO 60 ?_
 intro M R L N m0 m1 m2 m3 m4 m5
 cases M
 cbv
 repeat' first | refine m1 _ _ ?_ ?_ | refine m2 _ _ fun h=>?_ | refine m3 _ ?_ | (refine m4 _ _ (Hd.out ?_);try first | rw [hks] | rw [hk2] | rw [hk3]) | (refine m5 _ _ ?_;cbv)
 all_goals (clear m1 m2 m3 m4 m5;cases m0;(try clear hks;try clear hk2;try clear hk3);try dsimp only)
 all_goals try simp only [sm] at *
 all_goals first
  | exact ⟨h1,h2⟩
  | exact ⟨h3⟩
  | rfl
def qj5 (f:List (List Int)->List Int->Bool):Wr:=w2 qj7 zX (fun ls l=>rB (f ls l)) (fun ls l=>[LLs ls maxLen,LLe l maxLen])
theorem qme:qy Tryz.prog 38 (qj5 VM):=qE fun ls l h=>qef ls l (h _ (.head _)).out.1 (h _ (.head _)).out.2 (h _ (.tail _ (.head _))).out
theorem ql0 (ls:List (List Int))(l:List Int)(h1:ls.length<=maxLen)(h2:∀ y∈ls,y.length<=maxLen)(h3:l.length<=maxLen):qe Tryz.prog 33 [qlc ls,aIs l] (rB (VM ls l)):=by
 refine qe.of qc (fn:=Tryz.f33) (c:=Tryz.f33.body.getD .skip) (dr:=fun n=>qa 0 [] n) Tryz.func33 rfl (by kernel_rfl) (by kernel_rfl) (by kernel_rfl) ?_
 have hE:VM ls l=(ls.drop 0).any fun y=>jy y l:=by
  unfold VM
  rw [List.drop_zero]
  congr 1
  funext y
  rw [KJ,KJ]
  exact decide_eq_decide.2 ⟨Eq.symm,Eq.symm⟩
 rw [hE]
 obtain ⟨f,hf⟩:∃ f,f=jy:=⟨_,rfl⟩
 have hO:qp Tryz.prog (qJ [(68,WY f)]):=by subst hf;exact qb qa2 qd
 rw [<-hf]
 refine SEx.go (X:=XX) qc (fun n=>qa [] [(2,[1,7,8,9])] n) (fun _=>none) hO 60 ?_
 intro M R L N m0 m1 m2 m3 m4 m5
 cases M
 cbv
 repeat' first | refine m1 _ _ ?_ ?_ | refine m2 _ _ fun h=>?_ | refine m3 _ ?_ | (refine m4 _ _ (Hd.out ?_);generalize hks:(List.cons _ _:List K)=ks) | (refine m5 _ _ ?_;cbv)
 all_goals (clear m1 m2 m3 m4 m5;cases m0;try dsimp only)
 all_goals try simp only [sm] at *
 obtain ⟨m,hm⟩:∃ m,m=ls.length:=⟨_,rfl⟩
 have hmx:=h1
 unfold maxLen at hmx
 rw [<-hm] at hmx
 refine ⟨SEx.same (SEx.idx m (fun i=>⟨17,[(1,bL (.i l)),(7,bL (.ii false none ls)),(8,bI m),(9,bI i)],[]⟩) (fun i=>rB ((ls.drop i).any fun y=>f y l)) ?_) (by rw [hm];rfl) rfl⟩
 intro i hi ih
 rw [<-hks]
 have hyi:i<m->(ls.getD i []).length<=maxLen:=fun h=>h2 _ (qn (z:=([]:List Int)) (by omega)).out
 have hd:i<m->(ls.drop i).any (fun y=>f y l)=(f (ls.getD i []) l||(ls.drop (i+1)).any fun y=>f y l):=fun h=>by
  rw [List.drop_eq_getElem_cons (by omega),List.any_cons]
  congr 2
  rw [List.getD_eq_getElem?_getD,List.getElem?_eq_getElem (by omega)];rfl
 refine SEx.go (X:=XX) qc (fun n=>qa [] [(2,[1,7,8,9])] n) (fun _=>none) hO 60 ?_
 intro M R L N m0 m1 m2 m3 m4 m5
 cases M
 cbv
 repeat' first | refine m1 _ _ ?_ ?_ | refine m2 _ _ fun h=>?_ | refine m3 _ ?_ | (refine m4 _ _ (Hd.out ?_);try first | rw [hks] | rw [hk2] | rw [hk3]) | (refine m5 _ _ ?_;cbv)
 all_goals (clear m1 m2 m3 m4 m5;cases m0;(try clear hks;try clear hk2;try clear hk3);try dsimp only)
 all_goals try simp only [sm] at *
 all_goals first
  | omega
  | exact ⟨hyi (by omega)⟩
  | exact ⟨h3⟩
  | (rw [hd (by omega),show f (ls.getD i []) l=true by assumption,Bool.true_or];rfl)
  | (simp only [qg (show i<9223372036854775807 by omega)];exact ⟨(ih (by omega)).same rfl (by rw [hd (by omega),show f (ls.getD i []) l=false by assumption,Bool.false_or])⟩)
  | (rw [List.drop_eq_nil_of_le (by omega)];rfl)
theorem qmt:qy Tryz.prog 33 (qj5 VM):=qE fun ls l h=>ql0 ls l (h _ (.head _)).out.1 (h _ (.head _)).out.2 (h _ (.tail _ (.head _))).out
structure IxT (t:ql)(l:List Int):Prop where out:l.length<=1048576/\∀ k∈l,0<=k/\k<t.ties.length
def JX (ts:List Tie)(now:Int)(times l:List Int):Nat->List Int
 | 0=>times
 | i+1=>(JX ts now times l i).set (ts.getD (l.getD i 0).toNat Tie.z).dst.toNat now
theorem Jn (ts:List Tie)(now:Int)(times l:List Int):∀ i,(JX ts now times l i).length=times.length
 | 0=>rfl
 | i+1=>by simp only [JX,List.length_set,Jn ts now times l i]
def KD (t:ql)(x:qf)(l:List Int):qf:=⟨x.now,JX t.ties x.now x.times l l.length,x.vals⟩
theorem qnT {t:ql}{x:qf}(h:StT t x):Kr x:=by
 have h1:=h.now
 have h2:=qI h.sh
 have h3:=qR h.vals
 exact ⟨by omega,by omega⟩
theorem qaU (t:ql)(x:qf)(l:List Int)(hs:StT t x)(hl:IxT t l):qe Tryz.prog 58 [qQ t,qH x,aIs l] (kV (KD t x l)):=by
 refine qe.of qc (fn:=Tryz.f58) (c:=Tryz.f58.body.getD .skip) (dr:=fun n=>qa 0 [(5,10)] n) Tryz.func58 rfl (by kernel_rfl) (by kernel_rfl) (by kernel_rfl) ?_
 have hO:qp Tryz.prog (qJ [(98,ZZ)]):=qb QI qd
 have hz:=qnT hs
 have htl:=zU hs.sh
 have hT:∀ q∈t.ties,Zb t q:=fun q hq=>kF hs.sh hq
 have hnw:=hs.now
 obtain ⟨hl1,hl2⟩:=hl.out
 clear hs hl
 obtain ⟨ns,ts,hr⟩:=t
 obtain ⟨now,times,vals⟩:=x
 dsimp only at htl hnw hl2
 unfold KD
 dsimp only
 refine SEx.go (X:=XX) qc (fun n=>qa [] [(3,[3,4,6,7,12,13,14])] n) (fun _=>none) hO 60 ?_
 intro M R L N m0 m1 m2 m3 m4 m5
 cases M
 cbv
 repeat' first | refine m1 _ _ ?_ ?_ | refine m2 _ _ fun h=>?_ | refine m3 _ ?_ | (refine m4 _ _ (Hd.out ?_);generalize hks:(List.cons _ _:List K)=ks) | (refine m5 _ _ ?_;cbv)
 all_goals (clear m1 m2 m3 m4 m5;cases m0;try dsimp only)
 all_goals try simp only [sm] at *
 all_goals first
  | exact hz
  | skip
 obtain ⟨m,hm⟩:∃ m,m=l.length:=⟨_,rfl⟩
 rw [<-hm]
 refine ⟨SEx.same (SEx.idx m (fun i=>⟨31,[(3,bP 12288),(4,bP 16384),(6,bP 24576),(7,bP 28672),(12,bL (.i l)),(13,bI m),(14,bI i)],[(12288,.obx [.fz (.sl (.node false none ns)),.fz (.sl (.tie ts)),.fz (.int .i64 hr)]),(16384,.obx [.fz (.int .i64 now),.fz (.sl (.i times)),.fz (.sl (.i vals))]),(24576,.obx [.fz (.int .i64 0),.onil,.onil]),(28672,.obx [.fz (.int .i64 now),.osl (.i (JX ts now times l i)),.osl (.i vals)])]⟩) (fun _=>kV ⟨now,JX ts now times l m,vals⟩) ?_) (by rw [hm];rfl) rfl⟩
 intro i hi ih
 rw [<-hks]
 obtain ⟨c,hc⟩:∃ c,c=JX ts now times l i:=⟨_,rfl⟩
 have hcl:c.length=ns.length:=by rw [hc,Jn];exact hnw.2.2
 have hki:i<m->0<=l.getD i 0/\l.getD i 0<ts.length:=fun hlt=>hl2 _ (qn (z:=(0:Int)) (by omega)).out
 have hTi:i<m->Zb ⟨ns,ts,hr⟩ (ts.getD (l.getD i 0).toNat Tie.z):=fun hlt=>hT _ (qn (z:=Tie.z) (by have:=hki hlt;omega)).out
 have hst:JX ts now times l (i+1)=c.set (ts.getD (l.getD i 0).toNat Tie.z).dst.toNat now:=by rw [hc];rfl
 rw [<-hc]
 clear hT hl2
 refine SEx.go (X:=XX) qc (fun n=>qa [] [(3,[3,4,6,7,12,13,14])] n) (fun _=>none) hO 60 ?_
 intro M R L N m0 m1 m2 m3 m4 m5
 cases M
 cbv
 repeat' first | refine m1 _ _ ?_ ?_ | refine m2 _ _ fun h=>?_ | refine m3 _ ?_ | (refine m4 _ _ (Hd.out ?_);try first | rw [hks] | rw [hk2] | rw [hk3]) | (refine m5 _ _ ?_;cbv)
 all_goals (clear m1 m2 m3 m4 m5;cases m0;(try clear hks;try clear hk2;try clear hk3);try dsimp only)
 all_goals try simp only [sm] at *
 all_goals (try (have b0:=hki (by omega);have b1:=(hTi (by omega)).dst;dsimp only at b1))
 all_goals (generalize ts.getD (l.getD i 0).toNat Tie.z=y at *;obtain ⟨x1,x2,x3,x4,x5⟩:=y;dsimp only at *)
 all_goals (try simp only [qg (show i<9223372036854775807 by omega)])
 all_goals first
  | omega
  | (have ih':=ih (by omega)
     rw [hst] at ih'
     exact ⟨ih'.same rfl rfl⟩)
  | (obtain rfl:i=m:=by omega
     rw [hc];rfl)
  | skip
theorem qc1 (t:ql)(x:qf)(l:List Int)(hs:StT t x)(hl:IxT t l):qe Tryz.prog 103 [qQ t,qH x,aIs l] (kV (KD t x l)):=by
 refine qe.of qc (fn:=Tryz.f103) (c:=Tryz.f103.body.getD .skip) (dr:=fun n=>qa 0 [(5,10)] n) Tryz.func103 rfl (by kernel_rfl) (by kernel_rfl) (by kernel_rfl) ?_
 have hO:qp Tryz.prog (qJ [(112,ye)]):=qb wA qd
 have hz:=qnT hs
 have htl:=zU hs.sh
 have hT:∀ q∈t.ties,Zb t q:=fun q hq=>kF hs.sh hq
 have hnw:=hs.now
 obtain ⟨hl1,hl2⟩:=hl.out
 clear hs hl
 obtain ⟨ns,ts,hr⟩:=t
 obtain ⟨now,times,vals⟩:=x
 dsimp only at htl hnw hl2
 unfold KD
 dsimp only
 refine SEx.go (X:=XX) qc (fun n=>qa [] [(3,[3,4,6,7,12,13,14])] n) (fun _=>none) hO 60 ?_
 intro M R L N m0 m1 m2 m3 m4 m5
 cases M
 cbv
 repeat' first | refine m1 _ _ ?_ ?_ | refine m2 _ _ fun h=>?_ | refine m3 _ ?_ | (refine m4 _ _ (Hd.out ?_);generalize hks:(List.cons _ _:List K)=ks) | (refine m5 _ _ ?_;cbv)
 all_goals (clear m1 m2 m3 m4 m5;cases m0;try dsimp only)
 all_goals try simp only [sm] at *
 all_goals first
  | exact hz
  | skip
 obtain ⟨m,hm⟩:∃ m,m=l.length:=⟨_,rfl⟩
 rw [<-hm]
 refine ⟨SEx.same (SEx.idx m (fun i=>⟨31,[(3,bP 12288),(4,bP 16384),(6,bP 24576),(7,bP 28672),(12,bL (.i l)),(13,bI m),(14,bI i)],[(12288,.obx [.fz (.sl (.node false none ns)),.fz (.sl (.tie ts)),.fz (.int .i64 hr)]),(16384,.obx [.fz (.int .i64 now),.fz (.sl (.i times)),.fz (.sl (.i vals))]),(24576,.obx [.fz (.int .i64 0),.onil,.onil]),(28672,.obx [.fz (.int .i64 now),.osl (.i (JX ts now times l i)),.osl (.i vals)])]⟩) (fun _=>kV ⟨now,JX ts now times l m,vals⟩) ?_) (by rw [hm];rfl) rfl⟩
 intro i hi ih
 rw [<-hks]
 obtain ⟨c,hc⟩:∃ c,c=JX ts now times l i:=⟨_,rfl⟩
 have hcl:c.length=ns.length:=by rw [hc,Jn];exact hnw.2.2
 have hki:i<m->0<=l.getD i 0/\l.getD i 0<ts.length:=fun hlt=>hl2 _ (qn (z:=(0:Int)) (by omega)).out
 have hTi:i<m->Zb ⟨ns,ts,hr⟩ (ts.getD (l.getD i 0).toNat Tie.z):=fun hlt=>hT _ (qn (z:=Tie.z) (by have:=hki hlt;omega)).out
 have hst:JX ts now times l (i+1)=c.set (ts.getD (l.getD i 0).toNat Tie.z).dst.toNat now:=by rw [hc];rfl
 rw [<-hc]
 clear hT hl2
 refine SEx.go (X:=XX) qc (fun n=>qa [] [(3,[3,4,6,7,12,13,14])] n) (fun _=>none) hO 60 ?_
 intro M R L N m0 m1 m2 m3 m4 m5
 cases M
 cbv
 repeat' first | refine m1 _ _ ?_ ?_ | refine m2 _ _ fun h=>?_ | refine m3 _ ?_ | (refine m4 _ _ (Hd.out ?_);try first | rw [hks] | rw [hk2] | rw [hk3]) | (refine m5 _ _ ?_;cbv)
 all_goals (clear m1 m2 m3 m4 m5;cases m0;(try clear hks;try clear hk2;try clear hk3);try dsimp only)
 all_goals try simp only [sm] at *
 all_goals (try (have b0:=hki (by omega);have b1:=(hTi (by omega)).dst;dsimp only at b1))
 all_goals (generalize ts.getD (l.getD i 0).toNat Tie.z=y at *;obtain ⟨x1,x2,x3,x4,x5⟩:=y;dsimp only at *)
 all_goals (try simp only [qg (show i<9223372036854775807 by omega)])
 all_goals first
  | omega
  | (have ih':=ih (by omega)
     rw [hst] at ih'
     exact ⟨ih'.same rfl rfl⟩)
  | (obtain rfl:i=m:=by omega
     rw [hc];rfl)
  | skip
def qiR (f:ql->qf->List Int->qf):Wr:=w3 qN qF zX (fun t x l=>kV (f t x l)) (fun t x l=>[StT t x,IxT t l])
theorem qlh:qy Tryz.prog 58 (qiR KD):=jv fun t x l h=>qaU t x l (h _ (.head _)) (h _ (.tail _ (.head _)))
theorem qkg:qy Tryz.prog 103 (qiR KD):=jv fun t x l h=>qc1 t x l (h _ (.head _)) (h _ (.tail _ (.head _)))
end Go.Proofs.YtifnopmkdempdaaGreat.Ai
namespace Go.Proofs.YtifnopmkdempdaaGreat.Ai
open Go
set_option maxRecDepth 100000
variable [qh]
structure IxN (t:ql)(l:List Int):Prop where
 len:l.length<=1048576
 ix:∀ k∈l,0<=k/\k<t.nodes.length
 asc:l.Pairwise (·<·)
def Za (now:Int)(times l:List Int):Nat->List Int
 | 0=>times
 | i+1=>(Za now times l i).set (l.getD i 0).toNat now
theorem je (now:Int)(times l:List Int):∀ i,(Za now times l i).length=times.length
 | 0=>rfl
 | i+1=>by simp only [Za,List.length_set,je now times l i]
def waL (ns:List qi)(l:List Int):List Int:=(l.filter fun k=>decide (¬(nd ns k).watch=0)).map fun k=>(nd ns k).watch
theorem qqn {ns:List qi}{l:List Int}{i:Nat}(h:i<l.length)(hp:¬(nd ns (l.getD i 0)).watch=0):waL ns (l.take (i+1))=waL ns (l.take i)++[(nd ns (l.getD i 0)).watch]:=by
 unfold waL
 rw [KZ h (decide_eq_true hp),List.map_append]
 rfl
theorem qsa {ns:List qi}{l:List Int}{i:Nat}(h:i<l.length)(hp:(nd ns (l.getD i 0)).watch=0):waL ns (l.take (i+1))=waL ns (l.take i):=by
 unfold waL
 rw [QK h (decide_eq_false (fun hh=>hh hp))]
theorem qpP (ns:List qi)(l:List Int):(waL ns l).length<=l.length:=by
 unfold waL
 rw [List.length_map]
 exact List.length_filter_le _ _
def psL (q:Nat->Bool)(i:Nat):List Int:=((List.range i).filter q).map fun (j:Nat)=>((j+1:Nat):Int)
theorem qpO {q:Nat->Bool}{i:Nat}(h:q i=true):psL q (i+1)=psL q i++[((i+1:Nat):Int)]:=by
 simp only [psL,List.range_succ,List.filter_append,List.map_append,List.filter_cons,List.filter_nil,h,if_true,List.map_cons,List.map_nil]
theorem qrg {q:Nat->Bool}{i:Nat}(h:q i=false):psL q (i+1)=psL q i:=by
 simp only [psL,List.range_succ,List.filter_append,List.map_append,List.filter_cons,List.filter_nil,h,Bool.false_eq_true,if_false,List.map_nil,List.append_nil]
theorem JP (q:Nat->Bool)(i:Nat):(psL q i).length<=i:=by
 simp only [psL,List.length_map]
 exact Nat.le_trans (List.length_filter_le _ _) (by simp)
theorem qiG {q:Nat->Bool}{n:Nat}{x:Int}:x∈psL q n↔∃ j,j<n/\q j=true/\x=((j+1:Nat):Int):=by
 simp only [psL,List.mem_map,List.mem_filter,List.mem_range]
 exact ⟨fun ⟨j,⟨h1,h2⟩,h3⟩=>⟨j,h1,h2,h3.symm⟩,fun ⟨j,h1,h2,h3⟩=>⟨j,⟨h1,h2⟩,h3.symm⟩⟩
theorem qdn (q:Nat->Bool)(n:Nat):(psL q n).Pairwise (·<·):=by
 unfold psL
 refine List.pairwise_map.2 ((List.pairwise_lt_range (n:=n)).filter q |>.imp fun h=>?_)
 omega
def q9 (ns:List qi)(l:List Int):List Int:=psL (fun j=>ZO l (zH ns ((j+1:Nat):Int))) 3
def wJ (x:qf)(l:List Int):qf:=⟨x.now,Za x.now x.times l l.length,x.vals⟩
theorem vk {l:List Int}{v:Int}:ZO l v=true↔v∈l:=by
 unfold ZO
 rw [Jk,List.any_eq_true]
 simp only [beq_iff_eq]
 exact ⟨fun ⟨x,h1,h2⟩=>h2▸h1,fun h=>⟨v,h,rfl⟩⟩
structure WaT (ns:List qi)(k:Int):Prop where
 lo:0<=(nd ns k).watch
 hi:(nd ns k).watch<=3
 at_:¬(nd ns k).watch=0->zH ns (nd ns k).watch=k
theorem Wp {t:ql}(h:za t=true){k:Int}(h0:0<=k)(h1:k<t.nodes.length):WaT t.nodes k:=by
 unfold za Qs at h
 simp only [Bool.and_eq_true] at h
 have hk:k.toNat<t.nodes.length:=by omega
 have h2:=Wn qi.z h.1.2 hk
 rw [Nat.zero_add] at h2
 unfold ndP QS at h2
 simp only [Bool.and_eq_true,Bool.or_eq_true,decide_eq_true_eq] at h2
 obtain ⟨⟨⟨_,_⟩,h3,h4⟩,_,h5⟩:=h2
 refine ⟨h3,h4,fun hne=>?_⟩
 rcases h5 with h5 | h5
 . exact absurd h5 hne
 . unfold nd
   rw [h5]
   omega
theorem qjA {ns:List qi}{p:Int}(h:0<=zH ns p):(nd ns (zH ns p)).watch=p:=by
 unfold zH at h ⊢
 rcases wv (fun q:qi=>q.watch == p) qi.z ns 0 with ⟨h1,_⟩ | ⟨i,h1,h2,h3,_⟩
 . omega
 . rw [h2]
   unfold nd
   rw [show (((0+i:Nat):Int)).toNat=i by omega]
   exact beq_iff_eq.1 h3
theorem qih {t:ql}(h:za t=true){l:List Int}(hl:IxN t l):jq (waL t.nodes l)=q9 t.nodes l:=by
 have hs:(jq (waL t.nodes l)).Pairwise (·<=·):=by
  have:=List.pairwise_mergeSort (le:=fun x y:Int=>decide (x<=y)) (fun a b c h1 h2=>by simp only [decide_eq_true_eq] at *;omega) (fun a b=>by simp only [Bool.or_eq_true,decide_eq_true_eq];omega) (waL t.nodes l)
  exact this.imp fun h=>by simpa using h
 have hp:(q9 t.nodes l).Pairwise (·<=·):=(qdn _ _).imp fun h=>by omega
 have hn1:(q9 t.nodes l).Nodup:=(qdn _ _).imp fun h=>by omega
 have hn2:(waL t.nodes l).Nodup:=by
  unfold waL
  refine List.pairwise_map.2 ((hl.asc.filter _).imp_of_mem fun {a b} ha hb hab e=>?_)
  obtain ⟨ha1,ha2⟩:=List.mem_filter.1 ha
  obtain ⟨hb1,hb2⟩:=List.mem_filter.1 hb
  have wa:=(Wp h (hl.ix a ha1).1 (hl.ix a ha1).2).at_ (of_decide_eq_true ha2)
  have wb:=(Wp h (hl.ix b hb1).1 (hl.ix b hb1).2).at_ (of_decide_eq_true hb2)
  rw [e] at wa
  omega
 have hmem:∀ v,v∈waL t.nodes l↔v∈q9 t.nodes l:=by
  intro v
  unfold waL q9
  rw [qiG,List.mem_map]
  constructor
  . rintro ⟨k,hk,rfl⟩
    obtain ⟨h1,h2⟩:=List.mem_filter.1 hk
    have w:=Wp h (hl.ix k h1).1 (hl.ix k h1).2
    have hne:=of_decide_eq_true h2
    have:=w.lo
    have:=w.hi
    refine ⟨((nd t.nodes k).watch-1).toNat,by omega,?_,by omega⟩
    rw [vk,show ((((nd t.nodes k).watch-1).toNat+1:Nat):Int)=(nd t.nodes k).watch by omega,w.at_ hne]
    exact h1
  . rintro ⟨j,hj,hq,rfl⟩
    rw [vk] at hq
    have h0:=(hl.ix _ hq).1
    have:=qjA h0
    exact ⟨_,List.mem_filter.2 ⟨hq,decide_eq_true (by rw [this];omega)⟩,this⟩
 exact ((List.mergeSort_perm _ _).trans ((List.perm_ext_iff_of_nodup hn2 hn1).2 hmem)).eq_of_pairwise (fun x y _ _ h1 h2=>by omega) hs hp
def qma (s:qf)(ps:List Int):TV W:=.tup [(true,s.w),(false,[.osl (.i ps)])]
theorem qam (t:ql)(x:qf)(l:List Int)(hs:EnT t x)(hl:IxN t l):qe Tryz.prog 78 [qQ t,qH x,aIs l] (qma (wJ x l) (q9 t.nodes l)):=by
 refine qe.of qc (fn:=Tryz.f78) (c:=Tryz.f78.body.getD .skip) (dr:=fun n=>qa 0 [] n) Tryz.func78 rfl (by kernel_rfl) (by kernel_rfl) (by kernel_rfl) ?_
 rw [<-qih hs.v.sh hl]
 obtain ⟨f3,hf3⟩:∃ f,f=jq:=⟨_,rfl⟩
 have hO:qp Tryz.prog (qJ [(112,ye)]):=qb wA qd
 have hW:q8 Tryz.prog (XX.withW [(113,[(0,0)])] (kH [(113,vg f3)])):=by
  subst hf3
  exact SX.withW_ok (zT qfX jm)
 have hz:Kr x:=by
  have h2:=qI hs.v.sh
  have h3:=qR hs.v.vals
  have:=hs.tl
  exact ⟨by omega,by omega⟩
 have hnw:=hs.tl
 have hn7:=(qI hs.v.sh).2
 have hl1:=hl.len
 have hl2:=hl.ix
 have hll:l.length=l.length:=rfl
 clear hs hl
 obtain ⟨ns,ts,hr⟩:=t
 obtain ⟨now,times,vals⟩:=x
 dsimp only at hnw hl2 hn7
 unfold wJ
 dsimp only
 rw [<-hf3]
 refine SEx.go (X:=(XX.withW [(113,[(0,0)])] (kH [(113,vg f3)]))) qc (fun n=>qa [] [(4,[3,4,6,8,9,14,15,16])] n) (fun _=>none) hO 60 ?_ hW
 intro M R L N m0 m1 m2 m3 m4 m5
 cases M
 cbv
 repeat' first | refine m1 _ _ ?_ ?_ | refine m2 _ _ fun h=>?_ | refine m3 _ ?_ | (refine m4 _ _ (Hd.out ?_);generalize hks:(List.cons _ _:List K)=ks) | (refine m5 _ _ ?_;cbv)
 all_goals (clear m1 m2 m3 m4 m5;cases m0;try dsimp only)
 all_goals try simp only [sm] at *
 all_goals first
  | exact hz
  | skip
 obtain ⟨m,hm⟩:∃ m,m=l.length:=⟨_,rfl⟩
 obtain ⟨r,hrr⟩:∃ r,r=qma ⟨now,Za now times l l.length,vals⟩ (f3 (waL ns l)):=⟨_,rfl⟩
 rw [<-hrr]
 rw [<-hm] at hrr
 refine ⟨SEx.same (SEx.idx m (fun i=>⟨47,[(3,bP 12288),(4,bP 16384),(6,bP 24576),(8,bP 32768),(9,bR 36864 (waL ns (l.take i)).length),(14,bL (.i l)),(15,bI m),(16,bI i)],[(12288,.obx [.fz (.sl (.node false none ns)),.fz (.sl (.tie ts)),.fz (.int .i64 hr)]),(16384,.obx [.fz (.int .i64 now),.fz (.sl (.i times)),.fz (.sl (.i vals))]),(24576,.obx [.fz (.int .i64 0),.onil,.onil]),(32768,.obx [.fz (.int .i64 now),.osl (.i (Za now times l i)),.osl (.i vals)]),(36864,.osl (.i (waL ns (l.take i))))]⟩) (fun _=>r) ?_) (by rw [hm];rfl) rfl⟩
 intro i hi ih
 rw [<-hks]
 obtain ⟨c,hc⟩:∃ c,c=Za now times l i:=⟨_,rfl⟩
 have hcl:c.length=ns.length:=by rw [hc,je];exact hnw
 obtain ⟨u,hu⟩:∃ u,u=waL ns (l.take i):=⟨_,rfl⟩
 have hul:u.length<=i:=by rw [hu];exact Nat.le_trans (qpP _ _) (by rw [List.length_take];omega)
 have hki:i<m->0<=l.getD i 0/\l.getD i 0<ns.length:=fun hlt=>hl2 _ (qn (z:=(0:Int)) (by omega)).out
 have hst:Za now times l (i+1)=c.set (l.getD i 0).toNat now:=by rw [hc];rfl
 rw [<-hc,<-hu]
 obtain ⟨n1,hn1⟩:∃ n,n=u.length:=⟨_,rfl⟩
 rw [<-hn1] at hul ⊢
 have hwy:i<m->¬(ns.getD (l.getD i 0).toNat qi.z).watch=0->waL ns (l.take (i+1))=u++[(ns.getD (l.getD i 0).toNat qi.z).watch]:=fun h h2=>by rw [hu];exact qqn (by omega) h2
 have hwn:i<m->(ns.getD (l.getD i 0).toNat qi.z).watch=0->waL ns (l.take (i+1))=u:=fun h h2=>by rw [hu];exact qsa (by omega) h2
 clear hl2
 refine SEx.go (X:=(XX.withW [(113,[(0,0)])] (kH [(113,vg f3)]))) qc (fun n=>qa [] [(4,[3,4,6,8,9,14,15,16])] n) (fun _=>none) hO 60 ?_ hW
 intro M R L N m0 m1 m2 m3 m4 m5
 cases M
 cbv
 repeat' first | refine m1 _ _ ?_ ?_ | refine m2 _ _ fun h=>?_ | refine m3 _ ?_ | (refine m4 _ _ (Hd.out ?_);try first | rw [hks] | rw [hk2] | rw [hk3]) | (refine m5 _ _ ?_;cbv)
 all_goals (clear m1 m2 m3 m4 m5;cases m0;(try clear hks;try clear hk2;try clear hk3);try dsimp only)
 all_goals try simp only [sm] at *
 all_goals (try (have b0:=hki (by omega)))
 all_goals (try simp only [List.length_append,List.length_cons,List.length_nil,List.length_set] at *)
 all_goals (try simp only [qg (show i<9223372036854775807 by omega)])
 all_goals (try subst hn1)
 all_goals first
  | omega
  | (have:=zB;omega)
  | (refine ⟨rfl,rfl,rfl,?_⟩;omega;done)
  | (rw [hf3];exact (QN _).symm)
  | (have ih':=ih (by omega)
     rw [hst,hwy (by omega) (by assumption),List.length_append] at ih'
     exact ⟨ih'.same rfl rfl⟩)
  | (have ih':=ih (by omega)
     rw [hst,hwn (by omega) (by assumption)] at ih'
     exact ⟨ih'.same rfl rfl⟩)
  | (have e:i=m:=by omega
     rw [e,hm,List.take_length] at hu
     rw [e] at hc
     rw [hrr,hu,hc];rfl)
  | skip
theorem qaE (t:ql)(x:qf)(l:List Int)(hs:EnT t x)(hl:IxN t l):qe Tryz.prog 72 [qQ t,qH x,aIs l] (qma (wJ x l) (q9 t.nodes l)):=by
 refine qe.of qc (fn:=Tryz.f72) (c:=Tryz.f72.body.getD .skip) (dr:=fun n=>qa 0 [] n) Tryz.func72 rfl (by kernel_rfl) (by kernel_rfl) (by kernel_rfl) ?_
 obtain ⟨f1,hf1⟩:∃ f,f=zH:=⟨_,rfl⟩
 obtain ⟨f2,hf2⟩:∃ f,f=ZO:=⟨_,rfl⟩
 have hO:qp Tryz.prog (qJ [(98,ZZ),(109,KU f1),(48,qix f2)]):=by
  subst hf1 hf2
  exact qb QI (qb qcV (qb YH qd))
 have hz:Kr x:=by
  have h2:=qI hs.v.sh
  have h3:=qR hs.v.vals
  have:=hs.tl
  exact ⟨by omega,by omega⟩
 have hnw:=hs.tl
 have hn7:=(qI hs.v.sh).2
 have hl1:=hl.len
 have hl2:=hl.ix
 clear hs hl
 obtain ⟨ns,ts,hr⟩:=t
 obtain ⟨now,times,vals⟩:=x
 dsimp only at hnw hl2 hn7
 unfold wJ
 dsimp only
 refine SEx.go (X:=XX) qc (fun n=>qa [] [(3,[2,3,4,6,8,15,16,17]),(9,[2,3,6,8,11,12])] n) (fun _=>none) hO 60 ?_
 intro M R L N m0 m1 m2 m3 m4 m5
 cases M
 cbv
 repeat' first | refine m1 _ _ ?_ ?_ | refine m2 _ _ fun h=>?_ | refine m3 _ ?_ | (refine m4 _ _ (Hd.out ?_);generalize hks:(List.cons _ _:List K)=ks) | (refine m5 _ _ ?_;cbv)
 all_goals (clear m1 m2 m3 m4 m5;cases m0;try dsimp only)
 all_goals try simp only [sm] at *
 all_goals first
  | exact hz
  | skip
 obtain ⟨m,hm⟩:∃ m,m=l.length:=⟨_,rfl⟩
 obtain ⟨r,hrr⟩:∃ r,r=qma ⟨now,Za now times l l.length,vals⟩ (q9 ns l):=⟨_,rfl⟩
 rw [<-hrr]
 rw [<-hm] at hrr
 refine ⟨SEx.same (SEx.idx m (fun i=>⟨44,[(2,bL (.i l)),(3,bP 12288),(4,bP 16384),(6,bP 24576),(8,bP 32768),(15,bL (.i l)),(16,bI m),(17,bI i)],[(12288,.obx [.fz (.sl (.node false none ns)),.fz (.sl (.tie ts)),.fz (.int .i64 hr)]),(16384,.obx [.fz (.int .i64 now),.fz (.sl (.i times)),.fz (.sl (.i vals))]),(24576,.obx [.fz (.int .i64 0),.onil,.onil]),(32768,.obx [.fz (.int .i64 now),.osl (.i (Za now times l i)),.osl (.i vals)])]⟩) (fun _=>r) ?_) (by rw [hm];rfl) rfl⟩
 intro i hi ih
 rw [<-hks]
 obtain ⟨c,hc⟩:∃ c,c=Za now times l i:=⟨_,rfl⟩
 have hcl:c.length=ns.length:=by rw [hc,je];exact hnw
 have hki:i<m->0<=l.getD i 0/\l.getD i 0<ns.length:=fun hlt=>hl2 _ (qn (z:=(0:Int)) (by omega)).out
 have hst:Za now times l (i+1)=c.set (l.getD i 0).toNat now:=by rw [hc];rfl
 rw [<-hc]
 clear hl2
 refine SEx.go (X:=XX) qc (fun n=>qa [] [(3,[2,3,4,6,8,15,16,17]),(9,[2,3,6,8,11,12])] n) (fun _=>none) hO 60 ?_
 intro M R L N m0 m1 m2 m3 m4 m5
 cases M
 cbv
 repeat' first | refine m1 _ _ ?_ ?_ | refine m2 _ _ fun h=>?_ | refine m3 _ ?_ | (refine m4 _ _ (Hd.out ?_);first | rw [hks] | generalize hk2:(List.cons _ _:List K)=k2) | (refine m5 _ _ ?_;cbv)
 all_goals (clear m1 m2 m3 m4 m5;cases m0;try dsimp only)
 all_goals try simp only [sm] at *
 all_goals (try (have b0:=hki (by omega)))
 all_goals (try simp only [qg (show i<9223372036854775807 by omega)])
 all_goals first
  | omega
  | (have ih':=ih (by omega)
     rw [hst] at ih'
     exact ⟨ih'.same rfl rfl⟩)
  | skip
 have e:i=m:=by omega
 rw [e] at hc
 rw [<-hc] at hrr
 clear hki hst ih hc e
 obtain ⟨q,hq⟩:∃ q:Nat->Bool,q=fun j=>f2 l (f1 ns ((j+1:Nat):Int)):=⟨_,rfl⟩
 have hrr:r=qma ⟨now,c,vals⟩ (psL q 3):=by rw [hrr,hq,hf1,hf2];rfl
 have hqj:∀ j:Nat,q j=f2 l (f1 ns ((j+1:Nat):Int)):=fun j=>by rw [hq]
 clear hq
 refine ⟨SEx.same (SEx.idx 3 (fun j=>⟨44,[(2,bL (.i l)),(3,bP 12288),(6,bP 24576),(8,bP 32768),(11,bR 45056 (psL q j).length),(12,bI ((j+1:Nat):Int))],[(12288,.obx [.fz (.sl (.node false none ns)),.fz (.sl (.tie ts)),.fz (.int .i64 hr)]),(24576,.obx [.fz (.int .i64 0),.onil,.onil]),(32768,.obx [.fz (.int .i64 now),.osl (.i c),.osl (.i vals)]),(45056,.osl (.i (psL q j)))]⟩) (fun _=>r) ?_) rfl rfl⟩
 intro j hj ih
 rw [<-hk2]
 obtain ⟨u,hu⟩:∃ u,u=psL q j:=⟨_,rfl⟩
 have hul:u.length<=j:=by rw [hu];exact JP _ _
 rw [<-hu]
 obtain ⟨n1,hn1⟩:∃ n,n=u.length:=⟨_,rfl⟩
 rw [<-hn1] at hul ⊢
 obtain ⟨kk,hkk⟩:∃ kk:Nat,kk=j+1:=⟨_,rfl⟩
 have hqj:=hqj j
 rw [<-hkk] at hqj ⊢
 refine SEx.go (X:=XX) qc (fun n=>qa [] [(3,[2,3,4,6,8,15,16,17]),(9,[2,3,6,8,11,12])] n) (fun _=>none) hO 60 ?_
 intro M R L N m0 m1 m2 m3 m4 m5
 cases M
 cbv
 repeat' first | refine m1 _ _ ?_ ?_ | refine m2 _ _ fun h=>?_ | refine m3 _ ?_ | (refine m4 _ _ (Hd.out ?_);try first | rw [hks] | rw [hk2] | rw [hk3]) | (refine m5 _ _ ?_;cbv)
 all_goals (clear m1 m2 m3 m4 m5;cases m0;(try clear hks;try clear hk2;try clear hk3);try dsimp only)
 all_goals try simp only [sm] at *
 all_goals (try simp only [List.length_append,List.length_cons,List.length_nil,List.length_set] at *)
 all_goals (try simp only [qg (show kk<9223372036854775807 by omega)])
 all_goals (try subst hn1)
 all_goals first
  | omega
  | (have:=zB;omega)
  | (refine ⟨?_⟩;omega;done)
  | (have ih':=ih (by omega)
     rw [qpO (by rw [hqj];assumption),<-hu,List.length_append,<-hkk] at ih'
     exact ⟨ih'.same rfl rfl⟩)
  | (have ih':=ih (by omega)
     rw [qrg (by rw [hqj];assumption),<-hu,<-hkk] at ih'
     exact ⟨ih'.same rfl rfl⟩)
  | (have e:j=3:=by omega
     rw [e] at hu
     rw [hrr,hu];rfl)
  | skip
def qk5 (f:qf->List Int->qf)(g:List qi->List Int->List Int):Wr:=w3 qN qF zX (fun t x l=>qma (f x l) (g t.nodes l)) (fun t x l=>[EnT t x,IxN t l])
theorem qf6:qy Tryz.prog 72 (qk5 wJ q9):=jv fun t x l h=>qaE t x l (h _ (.head _)) (h _ (.tail _ (.head _)))
theorem qeu:qy Tryz.prog 78 (qk5 wJ q9):=jv fun t x l h=>qam t x l (h _ (.head _)) (h _ (.tail _ (.head _)))
end Go.Proofs.YtifnopmkdempdaaGreat.Ai
namespace Go.Proofs.YtifnopmkdempdaaGreat.Ai
open Go
set_option maxRecDepth 100000
variable [qh]
theorem wU {l:List Int}{s:Int}:∀ k∈QE l s,k∈l:=by
 intro k hk
 unfold QE ZJ at hk
 obtain ⟨j,hj,rfl⟩:=List.mem_map.1 hk
 have hj':=List.mem_range.1 (List.mem_filter.1 hj).1
 exact (qn (z:=(0:Int)) hj').out
theorem KF (l:List Int)(s:Int):(QE l s).length<=l.length:=KO _ _ _
theorem qey {l:List Int}(h:l.Pairwise (·<·))(s:Int):(QE l s).Pairwise (·<·):=by
 unfold QE ZJ
 refine List.pairwise_map.2 (((List.pairwise_lt_range (n:=l.length)).filter (btS s)).imp_of_mem fun {a b} ha hb hab=>?_)
 have ha':=List.mem_range.1 (List.mem_filter.1 ha).1
 have hb':=List.mem_range.1 (List.mem_filter.1 hb).1
 rw [zn ha',zn hb']
 exact List.pairwise_iff_getElem.1 h a b ha' hb' hab
theorem qmK (q:Nat->Bool)(n:Nat):(kA q n).Pairwise (·<·):=by
 unfold kA
 refine List.pairwise_map.2 ((List.pairwise_lt_range (n:=n)).filter q |>.imp fun h=>?_)
 omega
theorem qjn (t:ql)(x:qf):(enL t x).Pairwise (·<·):=(qmK _ _).filter _
theorem qoK {t:ql}{x:qf}{k:Int}(h:k∈enL t x):0<=k/\k<t.nodes.length:=by
 have:=vm (List.mem_filter.1 h).1
 exact ⟨this.1,this.2.1⟩
theorem v7 {t:ql}{x:qf}(hs:za t=true){l:List Int}(h:l∈Z3 t x):l.length<=28/\∀ k∈l,k∈acL t x:=by
 unfold Z3 at h
 split at h
 . cases h
 . obtain ⟨j,_,rfl⟩:=List.mem_map.1 h
   have h1:=(kL (muL t x) (QE (myL t x) (j:Int))).length_eq
   have h2:=qdl x hs
   have h3:=yn x hs
   have h4:=KF (myL t x) (j:Int)
   refine ⟨by rw [h1,List.length_append];omega,fun k hk=>?_⟩
   have hk:=(kL _ _).mem_iff.1 hk
   rcases List.mem_append.1 hk with hk | hk
   . exact (List.mem_filter.1 hk).1
   . exact (List.mem_filter.1 (wU k hk)).1
theorem qi0 {t:ql}{x:qf}(hs:za t=true){l:List Int}(h:l∈Z3 t x):IxT t l:=by
 obtain ⟨h1,h2⟩:=v7 hs h
 exact ⟨by omega,fun k hk=>qcw (h2 k hk)⟩
theorem qpl {t:ql}{x:qf}(hs:kd t x){l:List Int}(h:l∈KB t x):EnT t x/\IxN t l:=by
 unfold KB at h
 split at h
 . rename_i hm
   have hv:=qcT hm
   obtain ⟨j,_,rfl⟩:=List.mem_map.1 h
   refine ⟨⟨hs,hv.1,hv.2⟩,⟨?_,fun k hk=>qoK (wU k hk),qey (qjn t x) _⟩⟩
   have h1:=Zn hv.1
   have h2:=KF (enL t x) (((2 ^ (enL t x).length:Nat):Int)-1-(j:Nat))
   omega
 . cases h
def qqx (s:qf)(ps:List Int)(b:Bool):TV W:=.tup [(true,s.w),(false,[.osl (.i ps)]),(false,[.fz (.bool false b)])]
def adR (s:qf)(ps:List Int)(b:Bool):TV W:=match b with | true=>qqx s ps true | false=>qqx ⟨0,[],[]⟩ [] false
def wn (t:ql)(x:qf)(l:List Int):Bool:=VM (KB t x) l
theorem qaV (t:ql)(x:qf)(l:List Int)(hs:kd t x)(hz:Kr x)(hl:l.length<=1048576):qe Tryz.prog 62 [qQ t,qH x,aIs l] (adR (wJ x l) (q9 t.nodes l) (wn t x l)):=by
 refine qe.of qc (fn:=Tryz.f62) (c:=Tryz.f62.body.getD .skip) (dr:=fun n=>qa 0 [] n) Tryz.func62 rfl (by kernel_rfl) (by kernel_rfl) (by kernel_rfl) ?_
 obtain ⟨f1,hf1⟩:∃ f,f=KB:=⟨_,rfl⟩
 obtain ⟨f2,hf2⟩:∃ f,f=VM:=⟨_,rfl⟩
 obtain ⟨f3,hf3⟩:∃ f,f=wJ:=⟨_,rfl⟩
 obtain ⟨f4,hf4⟩:∃ f,f=q9:=⟨_,rfl⟩
 have hO:qp Tryz.prog (qJ [(34,qno f1),(33,qj5 f2),(72,qk5 f3 f4)]):=by
  subst hf1 hf2 hf3 hf4
  exact qb qkp (qb qmt (qb qf6 qd))
 have h1:=qav t x
 have hb:wn t x l=f2 (f1 t x) l:=by rw [hf1,hf2];rfl
 have hin:f2 (f1 t x) l=true->EnT t x/\IxN t l:=fun h=>by rw [hf2,Yr,hf1] at h;exact qpl hs h
 rw [<-hf1] at h1
 rw [<-hf3,<-hf4,hb]
 clear hf1 hf2 hf3 hf4 hb
 obtain ⟨ns,ts,hr⟩:=t
 obtain ⟨now,times,vals⟩:=x
 refine SEx.go (X:=XX) qc (fun n=>qa [] [] n) (fun _=>none) hO 60 ?_
 intro M R L N m0 m1 m2 m3 m4 m5
 cases M
 cbv
 repeat' first | refine m1 _ _ ?_ ?_ | refine m2 _ _ fun h=>?_ | refine m3 _ ?_ | (refine m4 _ _ (Hd.out ?_);try first | rw [hks] | rw [hk2] | rw [hk3]) | (refine m5 _ _ ?_;cbv)
 all_goals (clear m1 m2 m3 m4 m5;cases m0;(try clear hks;try clear hk2;try clear hk3);try dsimp only)
 all_goals try simp only [sm] at *
 all_goals first
  | exact hs
  | exact hz
  | exact ⟨Nat.le_trans h1.1 (by decide),fun y hy=>Nat.le_trans (h1.2 y hy) (by decide)⟩
  | exact ⟨Nat.le_trans hl (by decide)⟩
  | exact (hin (by assumption)).1
  | exact (hin (by assumption)).2
  | (rw [show f2 _ _=false by assumption];rfl)
  | (rw [show f2 _ _=true by assumption];rfl)
  | skip
end Go.Proofs.YtifnopmkdempdaaGreat.Ai
namespace Go.Proofs.YtifnopmkdempdaaGreat.Ai
open Go
set_option maxRecDepth 100000
variable [qh]
structure qrL (t:ql)(x:qf)(l:List Int):Prop where
 le:kd t x
 sz:Kr x
 len:l.length<=1048576
end Go.Proofs.YtifnopmkdempdaaGreat.Ai
namespace Go.Proofs.YtifnopmkdempdaaGreat.Ai
open Go
set_option maxRecDepth 100000
variable [qh]
structure qsG (t:ql)(q:Tie):Prop where
 low:1<=q.low
 dst:¬q.dst=0
 wat:(nd t.nodes q.dst).watch=0
theorem qhg {t:ql}(h:za t=true){q:Tie}(hq:q∈t.ties)(hf:q.free=true):qsG t q:=by
 unfold za J4 at h
 simp only [Bool.and_eq_true] at h
 obtain ⟨i,hi⟩:=QZ h.2.2.1.1 hq
 unfold wH at hi
 rw [hf] at hi
 simp only [Bool.and_eq_true,Bool.not_true,Bool.false_or,decide_eq_true_eq] at hi
 exact ⟨hi.2.1.1.1,hi.2.1.1.2.1,hi.2.1.1.2.2⟩
theorem qiE {v:List Int}(h3:v.length=3)(h:∀ i,i<3->-1<=v.getD i 0/\v.getD i 0<=1):qS v=true:=by
 unfold qS
 rw [WO (0:Int),decide_eq_true h3,Bool.and_true,h3]
 refine ZH fun i hi=>?_
 unfold wV
 rw [decide_eq_true (h i hi).1,decide_eq_true (h i hi).2]
 rfl
theorem kC {t:ql}{x:qf}:Qd t x=true↔(0<=x.now/\x.now<=t.hor+1/\x.times.length=t.nodes.length)/\qS x.vals=true/\(∀ i,i<x.times.length->Q9 x.now i (x.times.getD i 0)=true)/\∀ i,i<x.vals.length->qeb t.nodes x.times i (x.vals.getD i 0)=true:=by
 unfold Qd
 rw [WO (0:Int),WO (0:Int)]
 simp only [Bool.and_eq_true,decide_eq_true_eq]
 exact ⟨fun ⟨h1,h2,h3,h4⟩=>⟨h1,h2,K9 h3,K9 h4⟩,fun ⟨h1,h2,h3,h4⟩=>⟨h1,h2,ZH h3,ZH h4⟩⟩
structure MoT (t:ql)(x y:qf):Prop where
 st:StT t x
 hor:x.now<=t.hor
 now:y.now=x.now
 vals:y.vals=x.vals
 len:y.times.length=x.times.length
 t0:y.times.getD 0 0=0
 tm:∀ i,y.times.getD i 0=x.times.getD i 0\/(x.times.getD i 0=-1/\y.times.getD i 0=x.now)
 wat:∀ p:Int,1<=p->y.times.getD (zH t.nodes p).toNat 0=x.times.getD (zH t.nodes p).toNat 0\/zH t.nodes p<0
theorem qns {t:ql}{x:qf}{k:Int}(h:k∈acL t x):(t.ties.getD k.toNat Tie.z).free=true/\x.times.getD (t.ties.getD k.toNat Tie.z).dst.toNat 0=-1/\0<=k/\k<t.ties.length:=by
 have h1:=vm h
 obtain ⟨h2,h3,h4⟩:=h1
 unfold acQ at h4
 simp only [Bool.and_eq_true,decide_eq_true_eq] at h4
 exact ⟨h4.1,h4.2.2,h2,h3⟩
theorem Zh {l:List Int}{i j:Nat}{v:Int}(h:i≠j):(l.set i v).getD j 0=l.getD j 0:=by
 simp [List.getD_eq_getElem?_getD,h]
theorem jn (l:List Int)(i j:Nat)(v:Int):(l.set i v).getD j 0=l.getD j 0\/(i=j/\i<l.length/\(l.set i v).getD j 0=v):=by
 by_cases h:i=j
 . subst h
   by_cases hl:i<l.length
   . right;simp [List.getD_eq_getElem?_getD,hl]
   . left;rw [List.set_eq_of_length_le (by omega)]
 . left;exact Zh h
theorem qeA (ts:List Tie)(now:Int)(times l:List Int)(i:Nat):∀ k,k<=l.length->(JX ts now times l k).getD i 0=times.getD i 0\/((JX ts now times l k).getD i 0=now/\∃ j,j∈l/\(ts.getD j.toNat Tie.z).dst.toNat=i/\i<times.length)
 | 0,_=>.inl rfl
 | k+1,hk=>by
   simp only [JX]
   rcases jn (JX ts now times l k) (ts.getD (l.getD k 0).toNat Tie.z).dst.toNat i now with h | ⟨h1,h2,h3⟩
   . rw [h];exact qeA ts now times l i k (by omega)
   . right
     rw [Jn] at h2
     exact ⟨h3,_,(qn (z:=(0:Int)) (by omega)).out,h1,by omega⟩
theorem StT.tm0 {t:ql}{x:qf}(h:StT t x):x.times.getD 0 0=0:=by
 have h1:=(kC.1 h.st).2.2.1 0 (by have:=h.now;have:=qI h.sh;omega)
 unfold Q9 at h1
 simpa using h1
theorem StT.tmi {t:ql}{x:qf}(h:StT t x){i:Nat}(h0:0<i)(hi:i<t.nodes.length):-1<=x.times.getD i 0/\x.times.getD i 0<=x.now-1:=by
 have h1:=(kC.1 h.st).2.2.1 i (by have:=h.now;omega)
 unfold Q9 at h1
 rw [decide_eq_true_eq] at h1
 exact h1.2 h0
theorem qcv {t:ql}{x:qf}(h:StT t x)(hh:x.now<=t.hor){l:List Int}(hl:∀ k∈l,k∈acL t x):MoT t x (KD t x l):=by
 have key:∀ i,(KD t x l).times.getD i 0=x.times.getD i 0\/(x.times.getD i 0=-1/\(KD t x l).times.getD i 0=x.now/\∃ q∈t.ties,q.free=true/\q.dst.toNat=i):=by
  intro i
  rcases qeA t.ties x.now x.times l i l.length (Nat.le_refl _) with h1 | ⟨h1,j,h2,h3,h4⟩
  . exact .inl h1
  . obtain ⟨h5,h6,h7,h8⟩:=qns (hl j h2)
    exact .inr ⟨by rw [<-h3];exact h6,h1,_,(qn (z:=Tie.z) (show j.toNat<t.ties.length by omega)).out,h5,h3⟩
 refine ⟨h,hh,rfl,rfl,Jn _ _ _ _ _,?_,fun i=>(key i).imp id fun h=>⟨h.1,h.2.1⟩,fun p hp=>?_⟩
 . rcases key 0 with h1 | ⟨h1,_⟩
   . rw [h1];exact h.tm0
   . rw [h.tm0] at h1;cases h1
 . rcases key (zH t.nodes p).toNat with h1 | ⟨_,_,q,hq,hf,hd⟩
   . exact .inl h1
   . right
     have h2:=qhg h.sh hq hf
     have h3:=kF h.sh hq
     apply Classical.byContradiction
     intro hn
     have h4:=qjA (ns:=t.nodes) (p:=p) (by omega)
     have h5:q.dst=zH t.nodes p:=by have:=h3.dst;omega
     have:=h2.wat
     rw [h5,h4] at this
     omega
theorem MoT.mom {t:ql}{x y:qf}(h:MoT t x y):Qi t y=true:=by
 unfold Qi
 have hn:=h.st.now
 have hh:=h.hor
 rw [h.st.sh,decide_eq_true (show 0<=y.now by rw [h.now];omega),decide_eq_true (show y.now<=t.hor by rw [h.now];exact hh),Bool.true_and,Bool.true_and,Bool.true_and]
 refine kC.2 ⟨⟨?_,?_,?_⟩,?_,fun i hi=>?_,fun i hi=>?_⟩
 . show 0<=y.now+1;rw [h.now];omega
 . show y.now+1<=_;rw [h.now];omega
 . show y.times.length=_;rw [h.len];exact hn.2.2
 . show qS y.vals=true;rw [h.vals];exact h.st.vals
 . show Q9 (y.now+1) i (y.times.getD i 0)=true
   unfold Q9
   rw [decide_eq_true_eq,h.now]
   refine ⟨fun e=>by rw [e];exact h.t0,fun h0=>?_⟩
   have hi:i<t.nodes.length:=by have hi:i<y.times.length:=hi;have:=h.len;omega
   have h2:=h.st.tmi h0 hi
   rcases h.tm i with h1 | ⟨h1,h1'⟩
   . rw [h1];omega
   . rw [h1'];omega
 . show qeb t.nodes y.times i (y.vals.getD i 0)=true
   have h1:=(kC.1 h.st.st).2.2.2 i (by rw [<-h.vals];exact hi)
   unfold qeb at h1 ⊢
   rw [h.vals]
   have e:jM y.times (zH t.nodes ((i:Int)+1))=jM x.times (zH t.nodes ((i:Int)+1)):=by
    unfold jM
    rcases h.wat ((i:Int)+1) (by omega) with h2 | h2
    . rw [h2]
    . rw [decide_eq_false (show ¬0<=zH t.nodes ((i:Int)+1) by omega)]
      rfl
   rw [e]
   exact h1
def okD (t:ql)(y:qf)(d:List Int):Prop:=∀ k∈d,k∈enL t y
theorem qjq {t:ql}{y:qf}{d:List Int}(h:d∈W8 t y):okD t y d:=by
 obtain ⟨j,_,rfl⟩:=List.mem_map.1 h
 exact fun k hk=>wU k hk
theorem yo {t:ql}{y:qf}{k:Int}(h:k∈enL t y):0<k/\k<t.nodes.length/\y.times.getD k.toNat 0=-1/\nsI t y k=1:=by
 obtain ⟨h1,h2⟩:=List.mem_filter.1 h
 obtain ⟨h3,h4,h5⟩:=vm h1
 unfold chQ at h5
 unfold enP at h2
 simp only [Bool.and_eq_true,decide_eq_true_eq] at h5 h2
 exact ⟨by omega,h4,h2.1,h2.2⟩
theorem qd6 (now:Int)(times l:List Int)(i:Nat):∀ k,k<=l.length->(Za now times l k).getD i 0=times.getD i 0\/((Za now times l k).getD i 0=now/\∃ j,j∈l/\j.toNat=i)
 | 0,_=>.inl rfl
 | k+1,hk=>by
   simp only [Za]
   rcases jn (Za now times l k) (l.getD k 0).toNat i now with h | ⟨h1,h2,h3⟩
   . rw [h];exact qd6 now times l i k (by omega)
   . exact .inr ⟨h3,_,(qn (z:=(0:Int)) (by omega)).out,h1⟩
theorem Vy {l:List Int}{i:Nat}{v:Int}(h:i<l.length):(l.set i v).getD i 0=v:=by
 simp [List.getD_eq_getElem?_getD,h]
theorem qj3 (now:Int)(times l:List Int){i:Nat}(hi:i<times.length):∀ k,k<=l.length->(∃ j,j<k/\(l.getD j 0).toNat=i)->(Za now times l k).getD i 0=now
 | 0,_,⟨j,hj,_⟩=>by omega
 | k+1,hk,⟨j,hj,e⟩=>by
   simp only [Za]
   by_cases h:(l.getD k 0).toNat=i
   . rw [h];exact Vy (by rw [je];exact hi)
   . rw [Zh h]
     refine qj3 now times l hi k (by omega) ⟨j,?_,e⟩
     by_cases hjk:j=k
     . subst hjk;exact absurd e h
     . omega
theorem qen {v ps vs:List Int}{i:Nat}:∀ k,(∀ j,j<k->(ps.getD j 0-1).toNat≠i)->(JZ v ps vs k).getD i 0=v.getD i 0
 | 0,_=>rfl
 | k+1,h=>by
   simp only [JZ]
   rw [Zh (h k (by omega))]
   exact qen k fun j hj=>h j (by omega)
theorem qfY {v ps vs:List Int}{i:Nat}(hi:i<v.length):∀ k,(∃ j,j<k/\(ps.getD j 0-1).toNat=i)->∃ j,j<k/\(JZ v ps vs k).getD i 0=vs.getD j 0
 | 0,⟨j,hj,_⟩=>by omega
 | k+1,⟨j,hj,e⟩=>by
   simp only [JZ]
   by_cases h:(ps.getD k 0-1).toNat=i
   . exact ⟨k,by omega,by rw [h];exact Vy (by rw [ZD];exact hi)⟩
   . rw [Zh h]
     obtain ⟨j',h1,h2⟩:=qfY (vs:=vs) hi k ⟨j,by
      by_cases hjk:j=k
      . subst hjk;exact absurd e h
      . omega,e⟩
     exact ⟨j',by omega,h2⟩
theorem qpc (n i:Nat):qkI n i=1\/qkI n i=-1:=by
 unfold qkI
 have h:(BitVec.ofInt IntKind.i64.bits ((n:Int).fdiv (2 ^ min i IntKind.i64.bits)) &&& BitVec.ofInt IntKind.i64.bits 1).toNat<=1:=by
  rw [BitVec.toNat_and]
  have:(BitVec.ofInt IntKind.i64.bits 1).toNat=1:=by decide
  rw [this,Nat.and_one_is_mod]
  omega
 generalize (BitVec.ofInt IntKind.i64.bits ((n:Int).fdiv (2 ^ min i IntKind.i64.bits)) &&& BitVec.ofInt IntKind.i64.bits 1).toNat=b at h
 have:b=0\/b=1:=by omega
 rcases this with rfl | rfl
 . left;decide
 . right;decide
structure VsT (ps vs:List Int):Prop where
 len:vs.length=ps.length
 pm:∀ i,i<vs.length->vs.getD i 0=1\/vs.getD i 0=-1
theorem Ks {ps vs:List Int}(h:vs∈jr ps):VsT ps vs:=by
 unfold jr at h
 split at h
 . unfold vf at h
   obtain ⟨n,_,rfl⟩:=List.mem_map.1 h
   refine ⟨KR _ _,fun i hi=>?_⟩
   rw [KR] at hi
   have:(WK n ps.length).getD i 0=qkI n i:=by
    unfold WK
    simp [List.getD_eq_getElem?_getD,hi]
   rw [this]
   exact qpc n i
 . cases h
theorem Wl {ns:List qi}{d:List Int}{p:Int}:p∈q9 ns d↔∃ j:Nat,j<3/\p=((j+1:Nat):Int)/\zH ns p∈d:=by
 unfold q9
 rw [qiG]
 constructor
 . rintro ⟨j,h1,h2,rfl⟩;exact ⟨j,h1,rfl,vk.1 h2⟩
 . rintro ⟨j,h1,rfl,h2⟩;exact ⟨j,h1,vk.2 h2,rfl⟩
theorem qcY {l:List Int}{p:Int}(h:p∈l):∃ j,j<l.length/\l.getD j 0=p:=by
 obtain ⟨j,hj,rfl⟩:=List.mem_iff_getElem.1 h
 exact ⟨j,hj,by rw [zn hj]⟩
theorem ZQ (ns:List qi)(d:List Int):∀ p∈q9 ns d,1<=p/\p<=3:=by
 intro p hp
 obtain ⟨j,h1,rfl,_⟩:=Wl.1 hp
 omega
def nxS (t:ql)(y:qf)(d vs:List Int):qf:=qhM (wJ y d) (q9 t.nodes d) vs
structure NxT (t:ql)(y:qf)(d vs:List Int):Prop where
 od:okD t y d
 vs:VsT (q9 t.nodes d) vs
structure MoM (t:ql)(y:qf):Prop where
 sh:za t=true
 lo:0<=y.now
 hi:y.now<=t.hor
 st:Qd t ⟨y.now+1,y.times,y.vals⟩=true
theorem JA {t:ql}{y:qf}(h:Qi t y=true):MoM t y:=by
 unfold Qi at h
 simp only [Bool.and_eq_true,decide_eq_true_eq] at h
 exact ⟨h.1,h.2.1,h.2.2.1,h.2.2.2⟩
theorem MoM.len {t:ql}{y:qf}(h:MoM t y):y.times.length=t.nodes.length:=(kC.1 h.st).1.2.2
theorem MoM.vals {t:ql}{y:qf}(h:MoM t y):qS y.vals=true:=(kC.1 h.st).2.1
theorem qb2 {t:ql}{y:qf}(h:MoM t y)(d vs:List Int):(nxS t y d vs).now=y.now+1:=by
 show IntKind.i64.wrap (y.now+1)=_
 have:=h.lo
 have:=h.hi
 have:=zp h.sh
 rw [qr (by omega) (by omega)]
theorem wY (t:ql)(y:qf)(d vs:List Int):(nxS t y d vs).times=Za y.now y.times d d.length:=rfl
theorem yb (t:ql)(y:qf)(d vs:List Int):(nxS t y d vs).vals=JZ y.vals (q9 t.nodes d) vs (q9 t.nodes d).length:=rfl
theorem qkb {t:ql}{y:qf}{d vs:List Int}(hd:okD t y d)(i:Nat):(nxS t y d vs).times.getD i 0=y.times.getD i 0\/(y.times.getD i 0=-1/\(nxS t y d vs).times.getD i 0=y.now/\∃ k∈d,k.toNat=i):=by
 rw [wY]
 rcases qd6 y.now y.times d i d.length (Nat.le_refl _) with h1 | ⟨h1,k,h2,h3⟩
 . exact .inl h1
 . have h4:=yo (hd k h2)
   right
   exact ⟨by rw [<-h3];exact h4.2.2.1,h1,k,h2,h3⟩
theorem wk {t:ql}{y:qf}{d vs:List Int}{i:Nat}(hn:zH t.nodes ((i:Int)+1)∉d):(nxS t y d vs).vals.getD i 0=y.vals.getD i 0:=by
 rw [yb]
 refine qen _ fun j hj e=>?_
 have h1:=(qn (z:=(0:Int)) hj).out
 obtain ⟨j',h2,h3,h4⟩:=Wl.1 h1
 rw [h3] at e h4
 have:j'=i:=by omega
 subst this
 exact hn (by simpa using h4)
theorem qbo {t:ql}{y:qf}{d vs:List Int}{i:Nat}(hv:VsT (q9 t.nodes d) vs)(hi:i<3)(h3:y.vals.length=3)(hn:zH t.nodes ((i:Int)+1)∈d):(nxS t y d vs).vals.getD i 0=1\/(nxS t y d vs).vals.getD i 0=-1:=by
 rw [yb]
 have hp:((i:Int)+1)∈q9 t.nodes d:=Wl.2 ⟨i,hi,by omega,hn⟩
 obtain ⟨j,h1,h2⟩:=qcY hp
 obtain ⟨j',h4,h5⟩:=qfY (v:=y.vals) (ps:=q9 t.nodes d) (vs:=vs) (i:=i) (by omega) (q9 t.nodes d).length ⟨j,h1,by rw [h2];omega⟩
 rw [h5]
 exact hv.pm j' (by rw [hv.len];exact h4)
theorem qn4 {t:ql}{y:qf}(h:MoM t y){d vs:List Int}(hn:NxT t y d vs):StT t (nxS t y d vs):=by
 have hnow:=qb2 h d vs
 have h1:=h.lo
 have hh:=h.hi
 have hlen:=h.len
 have hyv:=qR h.vals
 have hst:=kC.1 h.st
 refine ⟨h.sh,kC.2 ⟨⟨by omega,by omega,?_⟩,?_,fun i hi=>?_,fun i hi=>?_⟩⟩
 . rw [wY,je];exact hlen
 . refine qiE (by rw [yb,ZD];exact hyv) fun i hi=>?_
   by_cases hw:zH t.nodes ((i:Int)+1)∈d
   . have:=qbo hn.vs hi hyv hw;omega
   . rw [wk hw];exact QY h.vals i
 . rw [wY,je] at hi
   have h2:=hst.2.2.1 i hi
   unfold Q9 at h2 ⊢
   rw [decide_eq_true_eq] at h2 ⊢
   rw [hnow]
   have h2:(i=0->y.times.getD i 0=0)/\(0<i->-1<=y.times.getD i 0/\y.times.getD i 0<=y.now+1-1):=h2
   rcases qkb (vs:=vs) hn.od i with h3 | ⟨h3,h4,_⟩
   . rw [h3];exact ⟨h2.1,fun h0=>by have:=h2.2 h0;omega⟩
   . rw [h4]
     exact ⟨fun e=>by have:=h2.1 e;omega,fun h0=>by omega⟩
 . have hi3:i<3:=by rw [yb,ZD] at hi;omega
   have h2:=hst.2.2.2 i (by show i<y.vals.length;omega)
   unfold qeb at h2 ⊢
   by_cases hw:zH t.nodes ((i:Int)+1)∈d
   . have h3:=qbo hn.vs hi3 hyv hw
     have h4:=yo (hn.od _ hw)
     have h5:(nxS t y d vs).times.getD (zH t.nodes ((i:Int)+1)).toNat 0=y.now:=by
      obtain ⟨j,h6,h7⟩:=qcY hw
      rw [wY,qj3 _ _ _ (by omega) d.length (Nat.le_refl _) ⟨j,h6,by rw [h7]⟩]
     unfold jM
     rw [h5,decide_eq_true (show ¬(nxS t y d vs).vals.getD i 0=0 by omega),decide_eq_true (show 0<=zH t.nodes ((i:Int)+1) by omega),decide_eq_true (show ¬y.now=-1 by omega)]
     rfl
   . rw [wk hw]
     have e:jM (nxS t y d vs).times (zH t.nodes ((i:Int)+1))=jM y.times (zH t.nodes ((i:Int)+1)):=by
      unfold jM
      by_cases h0:0<=zH t.nodes ((i:Int)+1)
      . rcases qkb (vs:=vs) hn.od (zH t.nodes ((i:Int)+1)).toNat with h3 | ⟨_,_,k,hk,hk2⟩
        . rw [h3]
        . exfalso
          have:=yo (hn.od k hk)
          have hkk:k=zH t.nodes ((i:Int)+1):=by omega
          exact hw (hkk▸hk)
      . rw [decide_eq_false h0]
        rfl
     rw [e]
     exact h2
def qeU (t:ql):Nat->qf->Bool
 | 0,x=>!z6 t x&&jD t x
 | n+1,x=>!z6 t x&&(jD t x||(Z3 t x).all fun es=>(W8 t (KD t x es)).any fun d=>(jr (q9 t.nodes d)).all fun vs=>qeU t n (nxS t (KD t x es) d vs))
def kW (t:ql)(x:qf):Bool:=qeU t (t.hor+1-x.now).toNat x
def QP (t:ql)(y:qf)(d:List Int):Bool:=(jr (q9 t.nodes d)).all fun vs=>kW t (nxS t y d vs)
def w4 (t:ql)(y:qf):Bool:=(W8 t y).any fun d=>QP t y d
theorem Jd {t:ql}{x:qf}(hb:z6 t x=false)(ho:jD t x=false):x.now<=t.hor:=by
 unfold z6 at hb
 rw [ho,Bool.or_false,Bool.not_eq_false',Bool.and_eq_true,decide_eq_true_eq] at hb
 exact hb.2
theorem qj9 {t:ql}{x:qf}(h:StT t x):kW t x=(!z6 t x&&(jD t x||(Z3 t x).all fun es=>w4 t (KD t x es))):=by
 unfold kW
 by_cases hh:x.now<=t.hor
 . rw [show (t.hor+1-x.now).toNat=(t.hor-x.now).toNat+1 by omega]
   unfold qeU
   congr 2
   rw [Bool.eq_iff_iff,List.all_eq_true,List.all_eq_true]
   refine forall_congr' fun es=>imp_congr_right fun hes=>?_
   have hm:=qcv h hh (fun k hk=>(v7 h.sh hes).2 k hk)
   unfold w4 QP
   have e:∀ d vs,qeU t (t.hor-x.now).toNat (nxS t (KD t x es) d vs)=kW t (nxS t (KD t x es) d vs):=by
    intro d vs
    unfold kW
    rw [qb2 (JA hm.mom),hm.now]
    congr 1
    omega
   simp only [e]
 . have:(t.hor+1-x.now).toNat=0:=by omega
   rw [this]
   unfold qeU
   cases hb:z6 t x with
   | true=>rfl
   | false =>
     cases ho:jD t x with
     | true=>rfl
     | false=>exact absurd (Jd hb ho) hh
end Go.Proofs.YtifnopmkdempdaaGreat.Ai
namespace Go.Proofs.YtifnopmkdempdaaGreat.Ai
open Go
set_option maxRecDepth 100000
variable [qh]
structure qgg (t:ql)(x z:qf):Prop where
 tm:∀ i,z.times.getD i 0=x.times.getD i 0\/(x.times.getD i 0=-1/\x.now<=z.times.getD i 0/\z.times.getD i 0<=t.hor)
 val:∀ i,¬x.vals.getD i 0=0->z.vals.getD i 0=x.vals.getD i 0
theorem qgg.refl (t:ql)(x:qf):qgg t x x:=⟨fun _=>.inl rfl,fun _ _=>rfl⟩
theorem qrw {t:ql}{x y z:qf}(h:MoT t x y){d vs:List Int}(hn:NxT t y d vs)(hz:qgg t (nxS t y d vs) z):qgg t x z:=by
 have h1:=h.st.now
 have h0:=h.now
 have hh:=h.hor
 have h2:=qb2 (JA h.mom) d vs
 rw [h.now] at h2
 refine ⟨fun i=>?_,fun i hi=>?_⟩
 . rcases hz.tm i with h3 | ⟨h3,h4,h5⟩
   . rcases qkb (vs:=vs) hn.od i with h6 | ⟨h6,h7,_⟩
     . rcases h.tm i with h8 | ⟨h8,h9⟩
       . left;rw [h3,h6,h8]
       . right;rw [h3,h6,h9];exact ⟨h8,by omega,hh⟩
     . right
       rcases h.tm i with h8 | ⟨h8,h9⟩
       . rw [h3,h7,h.now];exact ⟨by rw [<-h8];exact h6,by omega,hh⟩
       . omega
   . right
     rcases qkb (vs:=vs) hn.od i with h6 | ⟨h6,h7,_⟩
     . rcases h.tm i with h8 | ⟨h8,h9⟩
       . exact ⟨by rw [<-h8,<-h6];exact h3,by omega,h5⟩
       . omega
     . omega
 . have h3:i<3:=by
    have hv:=qR h.st.vals
    apply Classical.byContradiction
    intro hn
    rw [List.getD_eq_getElem?_getD,List.getElem?_eq_none (by omega)] at hi
    exact hi rfl
   have hw:zH t.nodes ((i:Int)+1)∉d:=by
    intro hw
    have h4:=yo (hn.od _ hw)
    have hp:=(kC.1 h.st.st).2.2.2 i (by rw [qR h.st.vals];exact h3)
    unfold qeb jM at hp
    rw [decide_eq_true hi] at hp
    have hp:(decide (0<=zH t.nodes ((i:Int)+1))&&decide (¬x.times.getD (zH t.nodes ((i:Int)+1)).toNat 0=-1))=true:=by
     rw [beq_iff_eq] at hp;exact hp.symm
    rw [Bool.and_eq_true,decide_eq_true_eq,decide_eq_true_eq] at hp
    rcases h.wat ((i:Int)+1) (by omega) with h5 | h5
    . rw [h4.2.2.1] at h5;exact hp.2 h5.symm
    . omega
   have h4:=wk (y:=y) (vs:=vs) hw
   rw [h.vals] at h4
   rw [hz.val i (by rw [h4];exact hi),h4]
theorem qne (ns:List qi)(d:List Int):okP (q9 ns d)=true:=by
 refine qc3 fun j hj=>?_
 have h1:=ZQ ns d _ (qn (z:=(0:Int)) hj).out
 unfold pI
 have ha:(q9 ns d).Pairwise (·<·):=qdn _ _
 have h3:0<j->(q9 ns d).getD (j-1) 0<(q9 ns d).getD j 0:=by
  intro h0
  rw [zn hj,zn (show j-1<(q9 ns d).length by omega)]
  exact List.pairwise_iff_getElem.1 ha (j-1) j (by omega) hj (by omega)
 rw [decide_eq_true_eq]
 exact ⟨h1.1,h1.2,h3⟩
theorem qk7 (ns:List qi)(d:List Int):∃ vs,vs∈jr (q9 ns d):=by
 unfold jr
 rw [if_pos (qne ns d)]
 exact ⟨_,List.mem_map.2 ⟨0,List.mem_range.2 (Nat.pos_of_ne_zero (by simp)),rfl⟩⟩
theorem ql5 {t:ql}{x:qf}(h:x.now<=t.hor):∃ es,es∈Z3 t x:=by
 unfold Z3
 rw [if_neg (by omega)]
 exact ⟨_,List.mem_map.2 ⟨0,List.mem_range.2 (Nat.pos_of_ne_zero (by simp)),rfl⟩⟩
structure qsX (t:ql)(x z:qf):Prop where
 st:StT t z
 ov:jD t z=true
 nb:z6 t z=false
 ext:qgg t x z
theorem qjC {t:ql}:∀ (n:Nat) {x:qf},StT t x->qeU t n x=true->∃ z,qsX t x z
 | 0,x,h,hw=>by
   unfold qeU at hw
   simp only [Bool.and_eq_true,Bool.not_eq_true'] at hw
   exact ⟨x,h,hw.2,hw.1,qgg.refl t x⟩
 | n+1,x,h,hw=>by
   unfold qeU at hw
   simp only [Bool.and_eq_true,Bool.not_eq_true',Bool.or_eq_true] at hw
   obtain ⟨hb,hw⟩:=hw
   cases ho:jD t x with
   | true=>exact ⟨x,h,ho,hb,qgg.refl t x⟩
   | false =>
     rcases hw with hw | hw
     . rw [ho] at hw;cases hw
     . have hh:=Jd hb ho
       obtain ⟨es,hes⟩:=ql5 hh
       have hm:=qcv h hh (fun k hk=>(v7 h.sh hes).2 k hk)
       have h1:=List.all_eq_true.1 hw es hes
       obtain ⟨d,hd,h2⟩:=List.any_eq_true.1 h1
       obtain ⟨vs,hvs⟩:=qk7 t.nodes d
       have h3:=List.all_eq_true.1 h2 vs hvs
       have hn:NxT t (KD t x es) d vs:=⟨qjq hd,Ks hvs⟩
       obtain ⟨z,hz⟩:=qjC n (qn4 (JA hm.mom) hn) h3
       exact ⟨z,hz.st,hz.ov,hz.nb,qrw hm hn hz.ext⟩
theorem qfL {v:List Int}:∀ (l:List Int) (s:Int),ZP v l s=1->s<=1->(∀ x∈l,Jf v x<=1)->s=1/\∀ x∈l,Jf v x=1
 | [],s,h,_,_=>⟨h,fun x hx=>by cases hx⟩
 | a::r,s,h,hs,hl=>by
   have h1:=hl a List.mem_cons_self
   obtain ⟨h2,h3⟩:=qfL r (min s (Jf v a)) h (by omega) (fun x hx=>hl x (List.mem_cons_of_mem _ hx))
   refine ⟨by omega,fun x hx=>?_⟩
   rcases List.mem_cons.1 hx with rfl | hx
   . omega
   . exact h3 x hx
theorem qga {v:List Int}:∀ (l:List Int),(∀ x∈l,Jf v x=1)->ZP v l 1=1
 | [],_=>rfl
 | a::r,h=>by
   unfold ZP
   rw [h a List.mem_cons_self]
   exact qga r fun x hx=>h x (List.mem_cons_of_mem _ hx)
theorem qrR {t:ql}{x z:qf}(h:StT t x)(he:qgg t x z){i:Int}(hs:nsI t x i=1):nsI t z i=1:=by
 unfold nsI at hs ⊢
 refine qga _ fun l hl=>?_
 have h1:=(qfL _ 1 hs (Int.le_refl _) (fun y _=>(qi1 h.vals y).2)).2 l hl
 unfold Jf at h1 ⊢
 have hne:¬x.vals.getD (zG l-1).toNat 0=0:=by
  intro e
  rw [e] at h1
  split at h1<;>omega
 rw [he.val _ hne]
 exact h1
def suB (t:ql)(x:qf)(i:Nat):Bool:=decide (nsI t x i=1)
def loI (x:qf)(i:Nat):Int:=if x.times.getD i 0=-1 then x.now else x.times.getD i 0
def hiI (t:ql)(x:qf)(i:Nat):Int:=if x.times.getD i 0=-1 then t.hor else x.times.getD i 0
def upL {α:Type}(f:Nat->α)(n:Nat):List α:=(List.range n).map f
theorem Yz {α:Type}(f:Nat->α)(n:Nat):upL f (n+1)=upL f n++[f n]:=by simp [upL,List.range_succ]
theorem QA {α:Type}(f:Nat->α)(n:Nat):(upL f n).length=n:=by simp [upL]
theorem w8 {α:Type}(f:Nat->α)(n:Nat)(z:α){i:Nat}(h:i<n):(upL f n).getD i z=f i:=by simp [upL,List.getD_eq_getElem?_getD,h]
abbrev LH:=List Int×List Int
def Jo (su:List Bool)(s:LH)(q:Tie):LH :=
 if (!su.getD q.src.toNat false||!su.getD q.dst.toNat false)=true then s else
 let lo1:=s.1.set q.dst.toNat (max (s.1.getD q.dst.toNat 0) (IntKind.i64.wrap (s.1.getD q.src.toNat 0+q.low)))
 let hi1:=s.2.set q.dst.toNat (min (s.2.getD q.dst.toNat 0) (IntKind.i64.wrap (s.2.getD q.src.toNat 0+q.high)))
 (lo1.set q.src.toNat (max (lo1.getD q.src.toNat 0) (IntKind.i64.wrap (lo1.getD q.dst.toNat 0-q.high))),
  hi1.set q.src.toNat (min (hi1.getD q.src.toNat 0) (IntKind.i64.wrap (hi1.getD q.dst.toNat 0-q.low))))
def J3 (su:List Bool)(ts:List Tie)(s:LH):Nat->LH
 | 0=>s
 | k+1=>Jo su (J3 su ts s k) (ts.getD k Tie.z)
def WC (su:List Bool)(ts:List Tie)(s:LH):Nat->LH
 | 0=>s
 | r+1=>J3 su ts (WC su ts s r) ts.length
def yZ (su:List Bool)(s:LH)(i:Nat):Bool:=su.getD i false&&decide (s.2.getD i 0<s.1.getD i 0)
def qbO (t:ql)(x:qf):Bool:=(List.range t.nodes.length).any (yZ (upL (suB t x) t.nodes.length) (WC (upL (suB t x) t.nodes.length) t.ties (upL (loI x) t.nodes.length,upL (hiI t x) t.nodes.length) t.nodes.length))
theorem qlb (su:List Bool)(s:LH)(q:Tie):(Jo su s q).1.length=s.1.length/\(Jo su s q).2.length=s.2.length:=by
 unfold Jo
 split
 . exact ⟨rfl,rfl⟩
 . simp
theorem WB (su:List Bool)(ts:List Tie)(s:LH):∀ k,(J3 su ts s k).1.length=s.1.length/\(J3 su ts s k).2.length=s.2.length
 | 0=>⟨rfl,rfl⟩
 | k+1=>by
   have h1:=qlb su (J3 su ts s k) (ts.getD k Tie.z)
   have h2:=WB su ts s k
   exact ⟨h1.1.trans h2.1,h1.2.trans h2.2⟩
theorem qfs (su:List Bool)(ts:List Tie)(s:LH):∀ k,(WC su ts s k).1.length=s.1.length/\(WC su ts s k).2.length=s.2.length
 | 0=>⟨rfl,rfl⟩
 | k+1=>by
   have h1:=WB su ts (WC su ts s k) ts.length
   have h2:=qfs su ts s k
   exact ⟨h1.1.trans h2.1,h1.2.trans h2.2⟩
structure BdH (su:List Bool)(T:Nat->Int)(c:Int)(s:LH):Prop where
 c:∀ i,(-c<=s.1.getD i 0/\s.1.getD i 0<=c)/\-c<=s.2.getD i 0/\s.2.getD i 0<=c
 ok:∀ i,su.getD i false=true->s.1.getD i 0<=T i/\T i<=s.2.getD i 0
structure qqB (T:Nat->Int)(q:Tie):Prop where
 lo:-20<=q.low/\q.low<=20
 hi:-20<=q.high/\q.high<=20
 t1:q.low<=T q.dst.toNat-T q.src.toNat
 t2:T q.dst.toNat-T q.src.toNat<=q.high
theorem qm9 {su:List Bool}{T:Nat->Int}{c:Int}{s:LH}(h:BdH su T c s)(hc:0<=c){i:Nat}{v:Int}(hv:-(c+20)<=v/\v<=c+20) :
 (∀ j,(s.1.set i v).getD j 0<=c+20/\-(c+20)<=(s.1.set i v).getD j 0)/\∀ j,(s.2.set i v).getD j 0<=c+20/\-(c+20)<=(s.2.set i v).getD j 0:=by
 refine ⟨fun j=>?_,fun j=>?_⟩
 . have:=h.c j
   rcases jn s.1 i j v with h1 | ⟨_,_,h1⟩<;>rw [h1]<;>omega
 . have:=h.c j
   rcases jn s.2 i j v with h1 | ⟨_,_,h1⟩<;>rw [h1]<;>omega
theorem BdH.half {su:List Bool}{T:Nat->Int}{c:Int}{s:LH}(h:BdH su T c s)(hc:0<=c/\c<=1000000000){a b:Nat}{x y:Int}(hx:-20<=x/\x<=20)(hy:-20<=y/\y<=20)(ha:su.getD a false=true)
 (h1:x<=T b-T a) (h2:T b-T a<=y):BdH su T (c+20) (s.1.set b (max (s.1.getD b 0) (IntKind.i64.wrap (s.1.getD a 0+x))),s.2.set b (min (s.2.getD b 0) (IntKind.i64.wrap (s.2.getD a 0+y)))):=by
 have ca:=h.c a
 have cb:=h.c b
 have oa:=h.ok a ha
 rw [qr (n:=s.1.getD a 0+x) (by omega) (by omega),qr (n:=s.2.getD a 0+y) (by omega) (by omega)]
 refine ⟨fun i=>?_,fun i hi=>?_⟩
 . have k1:=(qm9 h hc.1 (i:=b) (v:=max (s.1.getD b 0) (s.1.getD a 0+x)) (by omega)).1 i
   have k2:=(qm9 h hc.1 (i:=b) (v:=min (s.2.getD b 0) (s.2.getD a 0+y)) (by omega)).2 i
   exact ⟨⟨k1.2,k1.1⟩,k2.2,k2.1⟩
 . have oi:=h.ok i hi
   refine ⟨?_,?_⟩
   . show (s.1.set b _).getD i 0<=_
     rcases jn s.1 b i (max (s.1.getD b 0) (s.1.getD a 0+x)) with h3 | ⟨h3,_,h4⟩
     . rw [h3];exact oi.1
     . rw [h4];subst h3;omega
   . show _<=(s.2.set b _).getD i 0
     rcases jn s.2 b i (min (s.2.getD b 0) (s.2.getD a 0+y)) with h3 | ⟨h3,_,h4⟩
     . rw [h3];exact oi.2
     . rw [h4];subst h3;omega
theorem BdH.step {su:List Bool}{T:Nat->Int}{c:Int}{s:LH}(h:BdH su T c s)(hc:0<=c/\c<=100000000){q:Tie}(hq:su.getD q.src.toNat false=true->su.getD q.dst.toNat false=true->qqB T q):BdH su T (c+40) (Jo su s q):=by
 unfold Jo
 split
 . exact ⟨fun i=>by have:=h.c i;omega,h.ok⟩
 . rename_i hn
   simp only [Bool.or_eq_true,Bool.not_eq_true',not_or,Bool.not_eq_false] at hn
   have hk:=hq hn.1 hn.2
   have h1:=h.half ⟨hc.1,by omega⟩ (a:=q.src.toNat) (b:=q.dst.toNat) hk.lo hk.hi hn.1 hk.t1 hk.t2
   have h2:=h1.half ⟨by omega,by omega⟩ (a:=q.dst.toNat) (b:=q.src.toNat) (x:=-q.high) (y:=-q.low) (by have:=hk.hi;omega) (by have:=hk.lo;omega) hn.2 (by have:=hk.t2;omega) (by have:=hk.t1;omega)
   rw [show c+20+20=c+40 by omega] at h2
   simp only [Int.sub_eq_add_neg]
   exact h2
theorem BdH.mono {su:List Bool}{T:Nat->Int}{c c':Int}{s:LH}(h:BdH su T c s)(hc:c<=c'):BdH su T c' s:=⟨fun i=>by have:=h.c i;omega,h.ok⟩
theorem BdH.ties {su:List Bool}{T:Nat->Int}{ts:List Tie}(hq:∀ q∈ts,su.getD q.src.toNat false=true->su.getD q.dst.toNat false=true->qqB T q){c:Int}{s:LH}(h:BdH su T c s)(hc:0<=c/\c+40 * ts.length<=100000000):∀ k,k<=ts.length->BdH su T (c+40 * k) (J3 su ts s k)
 | 0,_=>by simpa [J3] using h
 | k+1,hk=>by
   have h1:=(BdH.ties hq h hc k (by omega)).step ⟨by omega,by omega⟩ (q:=ts.getD k Tie.z) (hq _ (qn (z:=Tie.z) (by omega)).out)
   exact h1.mono (by omega)
theorem BdH.rounds {su:List Bool}{T:Nat->Int}{ts:List Tie}(h14:ts.length<=14)(hq:∀ q∈ts,su.getD q.src.toNat false=true->su.getD q.dst.toNat false=true->qqB T q){s:LH}(h:BdH su T 100 s):∀ r:Nat,r<=7->BdH su T (100+560 * r) (WC su ts s r)
 | 0,_=>by simpa [WC] using h
 | r+1,hr=>by
   have h1:=BdH.ties hq (BdH.rounds h14 hq h r (by omega)) ⟨by omega,by omega⟩ ts.length (Nat.le_refl _)
   exact h1.mono (by omega)
theorem qpU {t:ql}(h:za t=true){q:Tie}(hq:q∈t.ties):-20<=q.low/\q.high<=20/\q.low<=q.high:=by
 unfold za J4 at h
 simp only [Bool.and_eq_true] at h
 obtain ⟨i,hi⟩:=QZ h.2.2.1.1 hq
 unfold wH at hi
 rw [Bool.and_eq_true,decide_eq_true_eq] at hi
 exact ⟨by omega,by omega,by omega⟩
theorem qmd {n i:Nat}{f:Nat->Bool}(h:(upL f n).getD i false=true):i<n/\f i=true:=by
 by_cases hi:i<n
 . rw [w8 f n false hi] at h;exact ⟨hi,h⟩
 . rw [List.getD_eq_getElem?_getD,List.getElem?_eq_none (by rw [QA];omega)] at h;cases h
theorem qna {t:ql}{x:qf}(h:StT t x)(hw:kW t x=true):qbO t x=false:=by
 obtain ⟨z,hz⟩:=qjC _ h hw
 have hn:=qI h.sh
 have h14:=zU h.sh
 have hnow:=h.now
 have hh:=zp h.sh
 have hsu:∀ i,(upL (suB t x) t.nodes.length).getD i false=true->i<t.nodes.length/\¬z.times.getD i 0=-1:=by
  intro i hi
  obtain ⟨h1,h2⟩:=qmd hi
  refine ⟨h1,fun e=>?_⟩
  have h3:=K9 hz.ov i h1
  unfold qn2 at h3
  have h4:=qrR h hz.ext (of_decide_eq_true h2)
  rw [decide_eq_true e,h4] at h3
  simp at h3
 have hq:∀ q∈t.ties,(upL (suB t x) t.nodes.length).getD q.src.toNat false=true->(upL (suB t x) t.nodes.length).getD q.dst.toNat false=true->qqB (fun i=>z.times.getD i 0) q:=by
  intro q hq h1 h2
  have s1:=(hsu _ h1).2
  have s2:=(hsu _ h2).2
  have hb:=hz.nb
  unfold z6 at hb
  rw [Bool.not_eq_false',Bool.and_eq_true] at hb
  obtain ⟨j,hj⟩:=QZ hb.1 hq
  unfold KY at hj
  rw [if_pos ⟨s1,s2⟩] at hj
  simp only [Bool.not_not,Bool.and_eq_true,decide_eq_true_eq] at hj
  have hsp:=qpU h.sh hq
  exact ⟨by omega,by omega,hj.1,hj.2⟩
 have h0:BdH (upL (suB t x) t.nodes.length) (fun i=>z.times.getD i 0) 100 (upL (loI x) t.nodes.length,upL (hiI t x) t.nodes.length):=by
  refine ⟨fun i=>?_,fun i hi=>?_⟩
  . show (-100<=(upL (loI x) t.nodes.length).getD i 0/\_)/\-100<=(upL (hiI t x) t.nodes.length).getD i 0/\_
    by_cases hi:i<t.nodes.length
    . have h2:=h.time i
      show (-100<=(upL (loI x) t.nodes.length).getD i 0/\(upL (loI x) t.nodes.length).getD i 0<=100)/\-100<=(upL (hiI t x) t.nodes.length).getD i 0/\(upL (hiI t x) t.nodes.length).getD i 0<=100
      rw [w8 _ _ _ hi,w8 _ _ _ hi]
      unfold loI hiI
      refine ⟨?_,?_⟩<;>split<;>omega
    . show (-100<=(upL (loI x) t.nodes.length).getD i 0/\(upL (loI x) t.nodes.length).getD i 0<=100)/\-100<=(upL (hiI t x) t.nodes.length).getD i 0/\(upL (hiI t x) t.nodes.length).getD i 0<=100
      rw [List.getD_eq_getElem?_getD,List.getElem?_eq_none (by rw [QA];omega),List.getD_eq_getElem?_getD,List.getElem?_eq_none (by rw [QA];omega)]
      simp
  . obtain ⟨h1,h2⟩:=hsu i hi
    show (upL (loI x) t.nodes.length).getD i 0<=z.times.getD i 0/\z.times.getD i 0<=(upL (hiI t x) t.nodes.length).getD i 0
    rw [w8 _ _ _ h1,w8 _ _ _ h1]
    unfold loI hiI
    rcases hz.ext.tm i with h3 | ⟨h3,h4,h5⟩
    . rw [h3] at h2 ⊢
      rw [if_neg h2,if_neg h2]
      omega
    . rw [if_pos h3,if_pos h3]
      exact ⟨h4,h5⟩
 have h7:=BdH.rounds h14 hq h0 t.nodes.length hn.2
 unfold qbO
 rw [List.any_eq_false]
 intro i _
 unfold yZ
 cases hs:(upL (suB t x) t.nodes.length).getD i false with
 | false=>simp
 | true =>
   have:=h7.ok i hs
   rw [Bool.true_and,decide_eq_true_eq]
   omega
end Go.Proofs.YtifnopmkdempdaaGreat.Ai
namespace Go.Proofs.YtifnopmkdempdaaGreat.Ai
open Go
set_option maxRecDepth 100000
variable [qh]
def qrW (lo hi:List Int)(su:List Bool):TV W:=.tup [(false,[.osl (.i lo)]),(false,[.osl (.i hi)]),(false,[.osl (.b su)])]
theorem qaI (t:ql)(x:qf)(hs:kd t x)(h:StT t x):qe Tryz.prog 131 [qQ t,qH x] (qrW (upL (loI x) t.nodes.length) (upL (hiI t x) t.nodes.length) (upL (suB t x) t.nodes.length)):=by
 refine qe.of qc (fn:=Tryz.f131) (c:=Tryz.f131.body.getD .skip) (dr:=fun n=>qa 0 [] n) Tryz.func131 rfl (by kernel_rfl) (by kernel_rfl) (by kernel_rfl) ?_
 obtain ⟨f,hf⟩:∃ f,f=qkB:=⟨_,rfl⟩
 have hO:qp Tryz.prog (qJ [(108,QO f)]):=by subst hf;exact qb jI qd
 have hn:=qI h.sh
 have hnw:=h.now
 have hlab:∀ q∈t.nodes,qW q.label=true:=fun q hq=>kM h.sh hq
 have hv:=h.vals
 obtain ⟨g1,hg1⟩:∃ g,g=loI x:=⟨_,rfl⟩
 obtain ⟨g2,hg2⟩:∃ g,g=hiI t x:=⟨_,rfl⟩
 obtain ⟨g3,hg3⟩:∃ g,g=suB t x:=⟨_,rfl⟩
 rw [<-hg1,<-hg2,<-hg3]
 have e1:∀ i:Nat,g1 i=if x.times.getD i 0=-1 then x.now else x.times.getD i 0:=fun i=>by rw [hg1];rfl
 have e2:∀ i:Nat,g2 i=if x.times.getD i 0=-1 then t.hor else x.times.getD i 0:=fun i=>by rw [hg2];rfl
 have e3:∀ i:Nat,i<t.nodes.length->g3 i=decide (f (t.nodes.getD i qi.z).label x.vals=1):=fun i hi=>by
  rw [hg3,hf]
  unfold suB nsI nd
  rw [show ((i:Nat):Int).toNat=i by omega]
  rfl
 clear hg1 hg2 hg3 hf hs h
 obtain ⟨ns,ts,hr⟩:=t
 obtain ⟨now,times,vals⟩:=x
 dsimp only at hn hnw hlab hv e1 e2 e3 ⊢
 refine SEx.go (X:=XX) qc (fun n=>qa [] [(5,[2,3,7,8,9,17,18,19])] n) (fun _=>none) hO 60 ?_
 intro M R L N m0 m1 m2 m3 m4 m5
 cases M
 cbv
 repeat' first | refine m1 _ _ ?_ ?_ | refine m2 _ _ fun h=>?_ | refine m3 _ ?_ | (refine m4 _ _ (Hd.out ?_);generalize hks:(List.cons _ _:List K)=ks) | (refine m5 _ _ ?_;cbv)
 all_goals (clear m1 m2 m3 m4 m5;cases m0;try dsimp only)
 all_goals try simp only [sm] at *
 obtain ⟨m,hm⟩:∃ m,m=ns.length:=⟨_,rfl⟩
 rw [<-hm] at hn hnw e3 ⊢
 refine ⟨SEx.same (SEx.idx m (fun i=>⟨62,[(2,bP 8192),(3,bP 12288),(7,bR 28672 (upL g1 i).length),(8,bR 32768 (upL g2 i).length),(9,bR 36864 (upL g3 i).length),(17,bL (.node false none ns)),(18,bI m),(19,bI i)],[(8192,.obx [.fz (.sl (.node false none ns)),.fz (.sl (.tie ts)),.fz (.int .i64 hr)]),(12288,.obx [.fz (.int .i64 now),.fz (.sl (.i times)),.fz (.sl (.i vals))]),(28672,.osl (.i (upL g1 i))),(32768,.osl (.i (upL g2 i))),(36864,.osl (.b (upL g3 i)))]⟩) (fun _=>qrW (upL g1 m) (upL g2 m) (upL g3 m)) ?_) rfl rfl⟩
 intro i hi ih
 rw [<-hks]
 have h1:=Yz g1 i
 have h2:=Yz g2 i
 have h3:=Yz g3 i
 have k1:=QA g1 i
 have k2:=QA g2 i
 have k3:=QA g3 i
 have e1:=e1 i
 have e2:=e2 i
 have e3:=e3 i
 have hli:i<m->qW (ns.getD i qi.z).label=true:=fun h=>hlab _ (qn (z:=qi.z) (by omega)).out
 obtain ⟨u1,hu1⟩:∃ u,u=upL g1 i:=⟨_,rfl⟩
 obtain ⟨u2,hu2⟩:∃ u,u=upL g2 i:=⟨_,rfl⟩
 obtain ⟨u3,hu3⟩:∃ u,u=upL g3 i:=⟨_,rfl⟩
 rw [<-hu1] at h1 k1 ⊢
 rw [<-hu2] at h2 k2 ⊢
 rw [<-hu3] at h3 k3 ⊢
 obtain ⟨n1,hn1⟩:∃ n,n=u1.length:=⟨_,rfl⟩
 obtain ⟨n2,hn2⟩:∃ n,n=u2.length:=⟨_,rfl⟩
 obtain ⟨n3,hn3⟩:∃ n,n=u3.length:=⟨_,rfl⟩
 rw [<-hn1] at k1 ⊢
 rw [<-hn2] at k2 ⊢
 rw [<-hn3] at k3 ⊢
 refine SEx.go (X:=XX) qc (fun n=>qa [] [(5,[2,3,7,8,9,17,18,19])] n) (fun _=>none) hO 90 ?_
 intro M R L N m0 m1 m2 m3 m4 m5
 cases M
 cbv
 repeat' first | refine m1 _ _ ?_ ?_ | refine m2 _ _ fun h=>?_ | refine m3 _ ?_ | (refine m4 _ _ (Hd.out ?_);try first | rw [hks] | rw [hk2] | rw [hk3]) | (refine m5 _ _ ?_;cbv)
 all_goals (clear m1 m2 m3 m4 m5;cases m0;(try clear hks;try clear hk2;try clear hk3);try dsimp only)
 all_goals try simp only [sm] at *
 all_goals (try simp only [List.length_append,List.length_cons,List.length_nil,List.length_set] at *)
 all_goals (try simp only [qg (show i<9223372036854775807 by omega)])
 all_goals (try subst hn1)
 all_goals (try subst hn2)
 all_goals (try subst hn3)
 all_goals first
  | omega
  | (have:=zB;omega)
  | exact ⟨hv⟩
  | exact ⟨hli (by omega)⟩
  | (have ih':=ih (by omega)
     rw [h1,h2,h3,e1,e2,e3 (by omega),if_pos (by assumption),if_pos (by assumption)] at ih'
     simp only [List.length_append,List.length_cons,List.length_nil] at ih'
     exact ⟨ih'.same rfl rfl⟩)
  | (have ih':=ih (by omega)
     rw [h1,h2,h3,e1,e2,e3 (by omega),if_neg (by assumption),if_neg (by assumption)] at ih'
     simp only [List.length_append,List.length_cons,List.length_nil] at ih'
     exact ⟨ih'.same rfl rfl⟩)
  | (obtain rfl:i=m:=by omega
     rw [hu1,hu2,hu3];rfl)
  | skip
theorem qmZ {su:List Bool}{s:LH}{q:Tie}(h:su.getD q.src.toNat false=false\/su.getD q.dst.toNat false=false):Jo su s q=s:=by
 unfold Jo
 rw [if_pos]
 rcases h with h | h<;>rw [h]<;>simp
theorem qkW {su:List Bool}{lo hi:List Int}{q:Tie}(h1:su.getD q.src.toNat false=true)(h2:su.getD q.dst.toNat false=true):Jo su (lo,hi) q =
 ((lo.set q.dst.toNat (max (lo.getD q.dst.toNat 0) (IntKind.i64.wrap (lo.getD q.src.toNat 0+q.low)))).set q.src.toNat (max ((lo.set q.dst.toNat (max (lo.getD q.dst.toNat 0) (IntKind.i64.wrap (lo.getD q.src.toNat 0+q.low)))).getD q.src.toNat 0) (IntKind.i64.wrap ((lo.set q.dst.toNat (max (lo.getD q.dst.toNat 0) (IntKind.i64.wrap (lo.getD q.src.toNat 0+q.low)))).getD q.dst.toNat 0-q.high))),
  (hi.set q.dst.toNat (min (hi.getD q.dst.toNat 0) (IntKind.i64.wrap (hi.getD q.src.toNat 0+q.high)))).set q.src.toNat (min ((hi.set q.dst.toNat (min (hi.getD q.dst.toNat 0) (IntKind.i64.wrap (hi.getD q.src.toNat 0+q.high)))).getD q.src.toNat 0) (IntKind.i64.wrap ((hi.set q.dst.toNat (min (hi.getD q.dst.toNat 0) (IntKind.i64.wrap (hi.getD q.src.toNat 0+q.high)))).getD q.dst.toNat 0-q.low)))):=by
 unfold Jo
 rw [h1,h2,if_neg (by simp)]
def qsK (f g:ql->qf->List Int)(k:ql->qf->List Bool):Wr:=w2 qN qF (fun t x=>qrW (f t x) (g t x) (k t x)) (fun t x=>[kd t x,StT t x])
def loL (t:ql)(x:qf):List Int:=upL (loI x) t.nodes.length
def hiL (t:ql)(x:qf):List Int:=upL (hiI t x) t.nodes.length
def suL (t:ql)(x:qf):List Bool:=upL (suB t x) t.nodes.length
theorem qpC:qy Tryz.prog 131 (qsK loL hiL suL):=qE fun t x h=>qaI t x (h _ (.head _)) (h _ (.tail _ (.head _)))
theorem qbD {p:Nat->Bool}{n i:Nat}:i<n->(((List.range n).drop i).any p)=(p i||((List.range n).drop (i+1)).any p):=fun h=>by
 rw [List.drop_eq_getElem_cons (by simpa using h),List.any_cons,List.getElem_range]
theorem qtj (a b:Int):(if a<b then b else a)=max a b:=by rw [Int.max_def];split<;>split<;>omega
theorem qtd (a b:Int):(if b<a then b else a)=min a b:=by rw [Int.min_def];split<;>split<;>omega
set_option maxHeartbeats 2000000 in
theorem qfr (t:ql)(x:qf)(hs:kd t x)(h:StT t x):qe Tryz.prog 105 [qQ t,qH x] (rB (qbO t x)):=by
 refine qe.of qc (fn:=Tryz.f105) (c:=Tryz.f105.body.getD .skip) (dr:=fun n=>qa 0 [(9,17),(10,17),(11,17),(12,17),(17,13)] n) Tryz.func105 rfl (by kernel_rfl) (by kernel_rfl) (by kernel_rfl) ?_
 obtain ⟨f1,hf1⟩:∃ f,f=loL:=⟨_,rfl⟩
 obtain ⟨f2,hf2⟩:∃ f,f=hiL:=⟨_,rfl⟩
 obtain ⟨f3,hf3⟩:∃ f,f=suL:=⟨_,rfl⟩
 have hO:qp Tryz.prog (qJ [(131,qsK f1 f2 f3)]):=by subst hf1 hf2 hf3;exact qb qpC qd
 have hn:=qI h.sh
 have h14:=zU h.sh
 have hT:∀ q∈t.ties,Zb t q:=fun q hq=>kF h.sh hq
 have hr:qbO t x=((List.range t.nodes.length).drop 0).any (yZ (f3 t x) (WC (f3 t x) t.ties (f1 t x,f2 t x) t.nodes.length)):=by rw [hf1,hf2,hf3,List.drop_zero];rfl
 have l1:(f1 t x).length=t.nodes.length:=by rw [hf1];exact QA _ _
 have l2:(f2 t x).length=t.nodes.length:=by rw [hf2];exact QA _ _
 have l3:(f3 t x).length=t.nodes.length:=by rw [hf3];exact QA _ _
 rw [hr]
 clear hr hf1 hf2 hf3
 have h0:=h
 clear h
 obtain ⟨ns,ts,hr⟩:=t
 obtain ⟨now,times,vals⟩:=x
 dsimp only at hn h14 l1 l2 l3 ⊢
 refine SEx.go (X:=XX) qc (fun n=>qa [] [(3,[2,5,6,7,8]),(6,[2,5,6,7,8,27,28,29]),(15,[5,6,7,121,122])] n) (fun _=>none) hO 60 ?_
 intro M R L N m0 m1 m2 m3 m4 m5
 cases M
 cbv
 repeat' first | refine m1 _ _ ?_ ?_ | refine m2 _ _ fun h=>?_ | refine m3 _ ?_ | (refine m4 _ _ (Hd.out ?_);generalize hks:(List.cons _ _:List K)=ks) | (refine m5 _ _ ?_;cbv)
 all_goals (clear m1 m2 m3 m4 m5;cases m0;try dsimp only)
 all_goals try simp only [sm] at *
 all_goals first
  | exact hs
  | exact h0
  | skip
 clear hs h0 hO
 obtain ⟨lo0,hlo⟩:∃ l,l=f1 ⟨ns,ts,hr⟩ ⟨now,times,vals⟩:=⟨_,rfl⟩
 obtain ⟨hi0,hhi⟩:∃ l,l=f2 ⟨ns,ts,hr⟩ ⟨now,times,vals⟩:=⟨_,rfl⟩
 obtain ⟨su,hsu⟩:∃ l,l=f3 ⟨ns,ts,hr⟩ ⟨now,times,vals⟩:=⟨_,rfl⟩
 rw [<-hlo] at l1 ⊢
 rw [<-hhi] at l2 ⊢
 rw [<-hsu] at l3 ⊢
 clear hlo hhi hsu
 obtain ⟨n,hnn⟩:∃ n,n=ns.length:=⟨_,rfl⟩
 rw [<-hnn] at hn l1 l2 l3 ⊢
 have hT:∀ q∈ts,(0<=q.src/\q.src<n)/\0<=q.dst/\q.dst<n:=fun q hq=>by have h1:=(hT q hq).src;have h2:=(hT q hq).dst;dsimp only at h1 h2;rw [hnn];exact ⟨h1,h2⟩
 obtain ⟨m,hm⟩:∃ m,m=ts.length:=⟨_,rfl⟩
 rw [<-hm] at h14
 obtain ⟨b,hb⟩:∃ b,b=(List.range n).any (yZ su (WC su ts (lo0,hi0) n)):=⟨_,rfl⟩
 rw [<-hb]
 rw [l1,l2,l3]
 refine ⟨SEx.same (SEx.idx n (fun r=>⟨141,[(2,bP 8192),(5,bR 20480 n),(6,bR 24576 n),(7,bR 28672 n),(8,bI r)],[(8192,.obx [.fz (.sl (.node false none ns)),.fz (.sl (.tie ts)),.fz (.int .i64 hr)]),(20480,.osl (.i (WC su ts (lo0,hi0) r).1)),(24576,.osl (.i (WC su ts (lo0,hi0) r).2)),(28672,.osl (.b su))]⟩) (fun _=>rB b) ?_) rfl rfl⟩
 intro r hrn ih
 rw [<-hks]
 obtain ⟨s,hsd⟩:∃ s,s=WC su ts (lo0,hi0) r:=⟨_,rfl⟩
 have hsl:=qfs su ts (lo0,hi0) r
 have hnx:WC su ts (lo0,hi0) (r+1)=J3 su ts s m:=by rw [hsd,hm];rfl
 rw [hnx] at ih
 rw [<-hsd] at hsl ⊢
 dsimp only at hsl
 obtain ⟨s1,s2⟩:=s
 dsimp only at hsl
 refine SEx.go (X:=XX) qc (fun n=>qa [] [(3,[2,5,6,7,8]),(6,[2,5,6,7,8,27,28,29]),(15,[5,6,7,121,122])] n) (fun _=>none) qd 60 ?_
 intro M R L N m0 m1 m2 m3 m4 m5
 cases M
 cbv
 repeat' first | refine m1 _ _ ?_ ?_ | refine m2 _ _ fun h=>?_ | refine m3 _ ?_ | (refine m4 _ _ (Hd.out ?_);first | rw [hks] | generalize hk2:(List.cons _ _:List K)=k2) | (refine m5 _ _ ?_;cbv)
 all_goals (clear m1 m2 m3 m4 m5;cases m0;try dsimp only)
 all_goals try simp only [sm] at *
 all_goals (try simp only [qg (show r<9223372036854775807 by omega)])
 ·
  have hlt:r<n:=by omega
  have ih:=ih hlt
  obtain ⟨g,hg⟩:∃ g,g=J3 su ts (s1,s2):=⟨_,rfl⟩
  rw [<-hg] at ih
  have hg0:g 0=(s1,s2):=by rw [hg];rfl
  have hgs:∀ k,g (k+1)=Jo su (g k) (ts.getD k Tie.z):=fun k=>by simp only [hg,J3]
  have hgl:∀ k,(g k).1.length=n/\(g k).2.length=n:=fun k=>by have h1:=WB su ts (s1,s2) k;rw [hg];exact ⟨h1.1.trans (hsl.1.trans l1),h1.2.trans (hsl.2.trans l2)⟩
  clear hg
  refine ⟨SEx.same (SEx.idx m (fun k=>⟨141,[(2,bP 8192),(5,bR 20480 n),(6,bR 24576 n),(7,bR 28672 n),(8,bI r),(27,bL (.tie ts)),(28,bI m),(29,bI k)],[(8192,.obx [.fz (.sl (.node false none ns)),.fz (.sl (.tie ts)),.fz (.int .i64 hr)]),(20480,.osl (.i (g k).1)),(24576,.osl (.i (g k).2)),(28672,.osl (.b su))]⟩) (fun _=>rB b) ?_) (by rw [hg0,hm];rfl) rfl⟩
  intro k hkm ihk
  rw [<-hk2]
  have hgk:=hgs k
  replace hgl:=hgl k
  have hend:k=m->SEx _ _ _ _ _ _ _:=fun e=>by rw [<-e] at ih;exact ih
  clear hgs hg0
  obtain ⟨c,hc⟩:∃ c,c=g k:=⟨_,rfl⟩
  rw [<-hc] at hgk hgl hend ⊢
  obtain ⟨c1,c2⟩:=c
  dsimp only at hgl hend ⊢
  have hno:su.getD (ts.getD k Tie.z).src.toNat false=false\/su.getD (ts.getD k Tie.z).dst.toNat false=false->g (k+1)=(c1,c2):=fun h=>by rw [hgk];exact qmZ h
  have hyes:=fun (h1:su.getD (ts.getD k Tie.z).src.toNat false=true) (h2:su.getD (ts.getD k Tie.z).dst.toNat false=true)=>hgk.trans (qkW (lo:=c1) (hi:=c2) h1 h2)
  have hTk:k<m->_:=fun h=>hT _ (qn (z:=Tie.z) (show k<ts.length by omega)).out
  clear hgk ih
  refine SEx.go (X:=XX) qc (fun n=>qa [] [(3,[2,5,6,7,8]),(6,[2,5,6,7,8,27,28,29]),(15,[5,6,7,121,122])] n) (fun _=>none) qd 120 ?_
  intro M R L N m0 m1 m2 m3 m4 m5
  cases M
  cbv
  repeat' first | refine m1 _ _ ?_ ?_ | refine m2 _ _ fun h=>?_ | refine m3 _ ?_ | (refine m4 _ _ (Hd.out ?_);try first | rw [hks] | rw [hk2] | rw [hk3]) | (refine m5 _ _ ?_;cbv)
  all_goals (clear m1 m2 m3 m4 m5;cases m0;(try clear hks;try clear hk2;try clear hk3);try dsimp only)
  all_goals try simp only [sm] at *
  all_goals (try simp only [qg (show k<9223372036854775807 by omega),qg (show r<9223372036854775807 by omega)])
  all_goals (try simp only [qtj,qtd,gt_iff_lt])
  all_goals (try have hTk:=hTk (by omega))
  all_goals (try (generalize ts.getD k Tie.z=y at *;obtain ⟨x1,x2,x3,x4,x5⟩:=y;dsimp only at *))
  all_goals (try simp only [List.length_set] at *)
  all_goals first
   | omega
   | (have ih':=ihk (by omega)
      rw [hno (.inl (by assumption))] at ih'
      exact ⟨ih'.same rfl rfl⟩)
   | (have ih':=ihk (by omega)
      rw [hno (.inr (by assumption))] at ih'
      exact ⟨ih'.same rfl rfl⟩)
   | (have ih':=ihk (by omega)
      rw [hyes (by assumption) (by assumption)] at ih'
      exact ⟨ih'.same rfl rfl⟩)
   | exact ⟨(hend (by omega)).same rfl rfl⟩
   | skip
 ·
  have e:r=n:=by omega
  subst e
  rw [<-hsd] at hb
  have hbd:b=((List.range r).drop 0).any (yZ su (s1,s2)):=by rw [hb,List.drop_zero]
  rw [hbd]
  clear hbd hb ih hnx
  refine ⟨SEx.same (SEx.idx r (fun i=>⟨141,[(5,bR 20480 r),(6,bR 24576 r),(7,bR 28672 r),(121,bI r),(122,bI i)],[(20480,.osl (.i s1)),(24576,.osl (.i s2)),(28672,.osl (.b su))]⟩) (fun i=>rB (((List.range r).drop i).any (yZ su (s1,s2)))) ?_) rfl rfl⟩
  intro i hi ih
  rw [<-hk2]
  have hd:i<r->((List.range r).drop i).any (yZ su (s1,s2))=(yZ su (s1,s2) i||((List.range r).drop (i+1)).any (yZ su (s1,s2))):=fun h=>qbD h
  have hbi:yZ su (s1,s2) i=(su.getD i false&&decide (s2.getD i 0<s1.getD i 0)):=rfl
  obtain ⟨q,hq⟩:∃ q,q=yZ su (s1,s2):=⟨_,rfl⟩
  rw [<-hq] at hd hbi ⊢
  simp only [<-hq] at ih
  clear hq hsd
  refine SEx.go (X:=XX) qc (fun n=>qa [] [(3,[2,5,6,7,8]),(6,[2,5,6,7,8,27,28,29]),(15,[5,6,7,121,122])] n) (fun _=>none) qd 60 ?_
  intro M R L N m0 m1 m2 m3 m4 m5
  cases M
  cbv
  repeat' first | refine m1 _ _ ?_ ?_ | refine m2 _ _ fun h=>?_ | refine m3 _ ?_ | (refine m4 _ _ (Hd.out ?_);try first | rw [hks] | rw [hk2] | rw [hk3]) | (refine m5 _ _ ?_;cbv)
  all_goals (clear m1 m2 m3 m4 m5;cases m0;(try clear hks;try clear hk2;try clear hk3);try dsimp only)
  all_goals try simp only [sm] at *
  all_goals first
   | omega
   | (rw [hd (by omega),hbi,show su.getD i false=true by assumption,decide_eq_true (show s2.getD i 0<s1.getD i 0 by omega)];rfl)
   | (simp only [qg (show i<9223372036854775807 by omega)];exact ⟨(ih (by omega)).same rfl (by rw [hd (by omega),hbi,show su.getD i false=false by assumption];simp only [Bool.false_and,Bool.false_or])⟩)
   | (simp only [qg (show i<9223372036854775807 by omega)];exact ⟨(ih (by omega)).same rfl (by rw [hd (by omega),hbi,decide_eq_false (show ¬s2.getD i 0<s1.getD i 0 by omega),Bool.and_false,Bool.false_or])⟩)
   | (rw [List.drop_eq_nil_of_le (by rw [List.length_range];omega)];rfl)
   | skip
end Go.Proofs.YtifnopmkdempdaaGreat.Ai
namespace Go.Proofs.YtifnopmkdempdaaGreat.Ai
open Go
set_option maxRecDepth 100000
variable [qh]
theorem qoI {t:ql}{x:qf}(h:StT t x):Zd x:=by
 have h1:=h.now
 have h2:=qI h.sh
 have h3:=zp h.sh
 have h4:=qR h.vals
 exact ⟨by rw [jf];omega,by unfold maxLen;omega,by unfold maxLen;omega⟩
structure GmX (n:Nat)(t:ql)(x:qf):Prop where
 sh:jw t
 st:StT t x
 fu:t.hor+1-x.now<n
structure GmY (n:Nat)(t:ql)(y:qf):Prop where
 sh:jw t
 mo:Qi t y=true
 fu:t.hor-y.now<n
theorem MoM.stLe {t:ql}{y:qf}(h:MoM t y)(hs:jw t):kd t y:=by
 have h1:=h.lo
 have h2:=h.hi
 have h3:=zp h.sh
 have h4:=qI h.sh
 have h5:=h.len
 have h6:=qR h.vals
 exact ⟨hs,⟨by rw [jf];omega,by unfold maxLen;omega,by unfold maxLen;omega⟩⟩
theorem GmY.en {n:Nat}{t:ql}{y:qf}(h:GmY n t y):EnT t y:=by
 have hm:=JA h.mo
 exact ⟨hm.stLe h.sh,⟨hm.sh,hm.vals⟩,hm.len⟩
structure DcT (t:ql)(y:qf)(d:List Int):Prop where
 ok:okD t y d
 ix:IxN t d
theorem qg2 {t:ql}{y:qf}(h:EnT t y){d:List Int}(hd:d∈W8 t y):DcT t y d:=by
 refine ⟨qjq hd,?_⟩
 obtain ⟨j,_,rfl⟩:=List.mem_map.1 hd
 have h1:=Zn h.v
 have h2:=KF (enL t y) (((2 ^ (enL t y).length:Nat):Int)-1-(j:Nat))
 exact ⟨by omega,fun k hk=>qoK (wU k hk),qey (qjn t y) _⟩
theorem GmY.next {n:Nat}{t:ql}{y:qf}(h:GmY n t y){d:List Int}(hd:okD t y d){vs:List Int}(hv:vs∈jr (q9 t.nodes d)):GmX n t (nxS t y d vs):=by
 have hm:=JA h.mo
 have h1:=qn4 hm ⟨hd,Ks hv⟩
 have h2:=qb2 hm d vs
 have h3:=h.fu
 refine ⟨h.sh,h1,?_⟩
 rw [h2]
 omega
theorem GmX.ends {n:Nat}{t:ql}{x:qf}(h:GmX (n+1) t x)(hh:x.now<=t.hor){es:List Int}(he:es∈Z3 t x):GmY n t (KD t x es):=by
 have hm:=qcv h.st hh (fun k hk=>(v7 h.st.sh he).2 k hk)
 have:=h.fu
 refine ⟨h.sh,hm.mom,?_⟩
 rw [hm.now]
 omega
def qpF (n:Nat)(f:ql->qf->Bool):Wr:=w2 qN qF (fun t x=>rB (f t x)) (fun t x=>[GmX n t x])
def qrD (n:Nat)(f:ql->qf->Bool):Wr:=w2 qN qF (fun t x=>rB (f t x)) (fun t x=>[GmY n t x])
structure GmD (n:Nat)(t:ql)(y:qf)(d:List Int):Prop where
 gy:GmY n t y
 gd:DcT t y d
def qo3 (n:Nat)(f:ql->qf->List Int->Bool):Wr:=w3 qN qF zX (fun t x d=>rB (f t x d)) (fun t x d=>[GmD n t x d])
theorem Wh {α:Type}{p:α->Bool}{l:List α}{i:Nat}(z:α)(h:i<l.length):(l.drop i).all p=(p (l.getD i z)&&(l.drop (i+1)).all p):=by
 rw [List.drop_eq_getElem_cons h,List.all_cons,List.getD_eq_getElem?_getD,List.getElem?_eq_getElem h];rfl
theorem qfx {n:Nat}(hw:qy Tryz.prog 64 (qpF n kW))(t:ql)(y:qf)(d:List Int)(h:GmD n t y d):qe Tryz.prog 35 [qQ t,qH y,aIs d] (rB (QP t y d)):=by
 refine qe.of qc (fn:=Tryz.f35) (c:=Tryz.f35.body.getD .skip) (dr:=fun n=>qa 0 [(5,5)] n) Tryz.func35 rfl (by kernel_rfl) (by kernel_rfl) (by kernel_rfl) ?_
 obtain ⟨f1,hf1⟩:∃ f,f=wJ:=⟨_,rfl⟩
 obtain ⟨f2,hf2⟩:∃ f,f=q9:=⟨_,rfl⟩
 obtain ⟨f3,hf3⟩:∃ f,f=jr:=⟨_,rfl⟩
 obtain ⟨f4,hf4⟩:∃ f,f=obF:=⟨_,rfl⟩
 obtain ⟨f5,hf5⟩:∃ f,f=kW:=⟨_,rfl⟩
 obtain ⟨g1,hg1⟩:∃ f,f=nxI:=⟨_,rfl⟩
 have hO:qp Tryz.prog (qJ [(72,qk5 f1 f2),(63,qke f3),(65,qkR g1 f4),(64,qpF n f5)]):=by
  subst hf1 hf2 hf3 hf4 hf5 hg1
  exact qb qf6 (qb qer (qb qeF (qb hw qd)))
 have hX:q8 Tryz.prog (XX.withF [10]):=SX.withF_ok fun _ _ _=>R.Sim.none'
 have hen:=h.gy.en
 have hix:=h.gd.ix
 have hsl:=qI hen.v.sh
 have hy3:=qR hen.v.vals
 have hytl:=hen.tl
 obtain ⟨ps,hps⟩:∃ ps,ps=f2 t.nodes d:=⟨_,rfl⟩
 obtain ⟨yd,hyd⟩:∃ z,z=f1 y d:=⟨_,rfl⟩
 obtain ⟨vl,hvl⟩:∃ vl,vl=f3 ps:=⟨_,rfl⟩
 have hpl:ps.length<=3:=by rw [hps,hf2];exact JP _ _
 have hpt:∀ p∈ps,1<=p/\p<=3:=by rw [hps,hf2];exact ZQ _ _
 have hsm:=Ko ps
 rw [<-hf3,<-hvl] at hsm
 have hz:Kr yd:=by rw [hyd,hf1];exact ⟨by show (Za _ _ _ _).length<=_;rw [je];omega,by show y.vals.length<=_;omega⟩
 have hz3:yd.vals.length=3:=by rw [hyd,hf1];exact hy3
 have hvs:∀ vs∈vl,vs.length=ps.length/\GmX n t ⟨g1 yd.now,yd.times,f4 yd.vals ps vs⟩:=by
  intro vs hv
  rw [hvl,hf3] at hv
  refine ⟨(Ks hv).len,?_⟩
  have h2:vs∈jr (q9 t.nodes d):=by rw [hps,hf2] at hv;exact hv
  have h1:=h.gy.next h.gd.ok h2
  rw [hg1,hf4,hyd,hf1,hps,hf2]
  exact h1
 have hr:QP t y d=(vl.drop 0).all fun vs=>f5 t ⟨g1 yd.now,yd.times,f4 yd.vals ps vs⟩:=by
  rw [List.drop_zero,hvl,hyd,hps,hf1,hf2,hf3,hf4,hf5,hg1];rfl
 rw [hr]
 clear hr hf1 hf2 hf3 hf4 hf5 hg1 h hw
 obtain ⟨ns,ts,hr⟩:=t
 obtain ⟨now,times,vals⟩:=y
 refine SEx.go (X:=(XX.withF [10])) qc (fun n=>qa [] [(3,[3,7,8,19,20,21])] n) (fun _=>none) hO 60 ?_ hX
 intro M R L N m0 m1 m2 m3 m4 m5
 cases M
 cbv
 repeat' first | refine m1 _ _ ?_ ?_ | refine m2 _ _ fun h=>?_ | refine m3 _ ?_ | (refine m4 _ _ (Hd.out ?_);generalize hks:(List.cons _ _:List K)=ks) | (refine m5 _ _ ?_;cbv)
 all_goals (clear m1 m2 m3 m4 m5;cases m0;try dsimp only)
 all_goals try simp only [sm] at *
 all_goals first
  | exact hen
  | exact hix
  | (refine ⟨?_⟩;rw [<-hps];omega;done)
  | skip
 rw [<-hps,<-hyd]
 rw [<-hvl]
 clear hen hix
 obtain ⟨m,hm⟩:∃ m,m=vl.length:=⟨_,rfl⟩
 rw [<-hm] at hsm ⊢
 obtain ⟨ydn,ydt,ydv⟩:=yd
 dsimp only at hz3 hvs ⊢
 obtain ⟨np,hnp⟩:∃ np,np=ps.length:=⟨_,rfl⟩
 rw [<-hnp]
 refine ⟨SEx.same (SEx.idx m (fun i=>⟨33,[(3,bP 12288),(7,bP 28672),(8,bR 32768 np),(19,bR 77824 m),(20,bI m),(21,bI i)],[(12288,.obx [.fz (.sl (.node false none ns)),.fz (.sl (.tie ts)),.fz (.int .i64 hr)]),(28672,.obx [.fz (.int .i64 ydn),.osl (.i ydt),.osl (.i ydv)]),(32768,.osl (.i ps)),(77824,.osl (.ii true none vl))]⟩) (fun i=>rB ((vl.drop i).all fun vs=>f5 ⟨ns,ts,hr⟩ ⟨g1 ydn,ydt,f4 ydv ps vs⟩)) ?_) rfl rfl⟩
 intro i hi ih
 rw [<-hks]
 have hvi:i<m->(vl.getD i []).length=ps.length/\GmX n ⟨ns,ts,hr⟩ ⟨g1 ydn,ydt,f4 ydv ps (vl.getD i [])⟩:=fun h=>hvs _ (qn (z:=([]:List Int)) (by omega)).out
 have hd:i<m->(vl.drop i).all (fun vs=>f5 ⟨ns,ts,hr⟩ ⟨g1 ydn,ydt,f4 ydv ps vs⟩)=(f5 ⟨ns,ts,hr⟩ ⟨g1 ydn,ydt,f4 ydv ps (vl.getD i [])⟩&&(vl.drop (i+1)).all fun vs=>f5 ⟨ns,ts,hr⟩ ⟨g1 ydn,ydt,f4 ydv ps vs⟩):=fun h=>Wh [] (by omega)
 obtain ⟨vi,hvd⟩:∃ v,v=vl.getD i []:=⟨_,rfl⟩
 rw [<-hvd] at hvi hd
 clear hvs
 refine SEx.go (X:=(XX.withF [10])) qc (fun n=>qa [] [(3,[3,7,8,19,20,21])] n) (fun _=>none) hO 60 ?_ hX
 intro M R L N m0 m1 m2 m3 m4 m5
 cases M
 cbv
 repeat' first | refine m1 _ _ ?_ ?_ | refine m2 _ _ fun h=>?_ | refine m3 _ ?_ | (refine m4 _ _ (Hd.out ?_);try first | rw [hks] | rw [hk2] | rw [hk3]) | (refine m5 _ _ ?_;cbv)
 all_goals (clear m1 m2 m3 m4 m5;cases m0;(try clear hks;try clear hk2;try clear hk3);try dsimp only)
 all_goals try simp only [sm] at *
 all_goals (try rw [<-hvd])
 all_goals (try simp only [<-hvd] at *)
 all_goals first
  | omega
  | exact hz
  | exact ⟨hz3⟩
  | exact ⟨(hvi (by omega)).1⟩
  | exact ⟨hpt⟩
  | exact (hvi (by omega)).2
  | (refine ⟨?_⟩;omega;done)
  | (rw [hd (by omega),show f5 _ _=false by assumption,Bool.false_and];rfl)
  | (simp only [qg (show i<9223372036854775807 by omega)];exact ⟨(ih (by omega)).same rfl (by rw [hd (by omega),show f5 _ _=true by assumption,Bool.true_and])⟩)
  | (rw [List.drop_eq_nil_of_le (by omega)];rfl)
  | skip
theorem qhT {n:Nat}(hw:qy Tryz.prog 35 (qo3 n QP))(t:ql)(y:qf)(h:GmY n t y):qe Tryz.prog 57 [qQ t,qH y] (rB (w4 t y)):=by
 refine qe.of qc (fn:=Tryz.f57) (c:=Tryz.f57.body.getD .skip) (dr:=fun n=>qa 0 [(5,5)] n) Tryz.func57 rfl (by kernel_rfl) (by kernel_rfl) (by kernel_rfl) ?_
 obtain ⟨f1,hf1⟩:∃ f,f=enL:=⟨_,rfl⟩
 obtain ⟨f2,hf2⟩:∃ f,f=QE:=⟨_,rfl⟩
 obtain ⟨f5,hf5⟩:∃ f,f=QP:=⟨_,rfl⟩
 have hO:qp Tryz.prog (qJ [(70,qrM f1),(71,qh8 f2),(35,qo3 n f5)]):=by
  subst hf1 hf2 hf5
  exact qb qjV (qb yP (qb hw qd))
 have hen:=h.en
 obtain ⟨l,hl⟩:∃ l,l=f1 t y:=⟨_,rfl⟩
 have hl7:l.length<=7:=by rw [hl,hf1];exact Zn hen.v
 obtain ⟨NN,hN⟩:∃ NN,NN=2 ^ l.length:=⟨_,rfl⟩
 have hNb:=ZI hl7
 have hs:=yW hl7
 rw [<-hN] at hNb hs
 have hs1:IntKind.i64.wrap ((NN:Int)-1)=(NN:Int)-1:=qr (by omega) (by omega)
 have hdc:∀ k,k<NN->GmD n t y (f2 l ((NN:Int)-1-(k:Nat))):=fun k hk=>by
  refine ⟨h,qg2 hen ?_⟩
  rw [hf2]
  unfold W8 qhA ZE
  rw [hN] at hk
  rw [hl,hf1] at hk hN ⊢
  exact List.mem_map.2 ⟨k,List.mem_range.2 hk,by rw [hN]⟩
 obtain ⟨p,hp⟩:∃ p:Nat->Bool,p=fun k=>f5 t y (f2 l ((NN:Int)-1-(k:Nat))):=⟨_,rfl⟩
 have hr:w4 t y=((List.range NN).drop 0).any p:=by
  rw [hp,List.drop_zero]
  unfold w4 W8 qhA ZE
  rw [List.any_map,hN,hl,hf1,hf2,hf5]
  rfl
 have hpk:∀ k:Nat,p k=f5 t y (f2 l ((NN:Int)-1-(k:Nat))):=fun k=>by rw [hp]
 rw [hr]
 clear hr hf1 hf2 hf5 h hw hN hp
 obtain ⟨ns,ts,hr⟩:=t
 obtain ⟨now,times,vals⟩:=y
 refine SEx.go (X:=XX) qc (fun n=>qa [] [(3,[2,3,5,6])] n) (fun _=>none) hO 60 ?_
 intro M R L N m0 m1 m2 m3 m4 m5
 cases M
 cbv
 repeat' first | refine m1 _ _ ?_ ?_ | refine m2 _ _ fun h=>?_ | refine m3 _ ?_ | (refine m4 _ _ (Hd.out ?_);generalize hks:(List.cons _ _:List K)=ks) | (refine m5 _ _ ?_;cbv)
 all_goals (clear m1 m2 m3 m4 m5;cases m0;try dsimp only)
 all_goals try simp only [sm] at *
 all_goals first
  | exact hen
  | (rw [<-hl,Qg (by omega)];omega)
  | skip
 rw [<-hl,Qg (by omega),Int.toNat_natCast,hs,hs1]
 clear hen hl
 obtain ⟨m,hm⟩:∃ m,m=l.length:=⟨_,rfl⟩
 refine ⟨SEx.same (SEx.idx NN (fun k=>⟨25,[(2,bP 8192),(3,bP 12288),(5,bR 20480 m),(6,bI ((NN:Int)-1-(k:Nat)))],[(8192,.obx [.fz (.sl (.node false none ns)),.fz (.sl (.tie ts)),.fz (.int .i64 hr)]),(12288,.obx [.fz (.int .i64 now),.fz (.sl (.i times)),.fz (.sl (.i vals))]),(20480,.osl (.i l))]⟩) (fun k=>rB (((List.range NN).drop k).any p)) ?_) (by rw [hm,show (NN:Int)-1-((0:Nat):Int)=(NN:Int)-1 by omega];rfl) rfl⟩
 intro k hk ih
 rw [<-hks]
 have hd:k<NN->((List.range NN).drop k).any p=(p k||((List.range NN).drop (k+1)).any p):=fun h=>qbD h
 replace hpk:=hpk k
 have hdk:=hdc k
 clear hdc
 obtain ⟨q,hq⟩:∃ q:Int,q=(NN:Int)-1-(k:Nat):=⟨_,rfl⟩
 rw [<-hq] at hpk hdk ⊢
 clear hs
 refine SEx.go (X:=XX) qc (fun n=>qa [] [(3,[2,3,5,6])] n) (fun _=>none) hO 60 ?_
 intro M R L N m0 m1 m2 m3 m4 m5
 cases M
 cbv
 repeat' first | refine m1 _ _ ?_ ?_ | refine m2 _ _ fun h=>?_ | refine m3 _ ?_ | (refine m4 _ _ (Hd.out ?_);try first | rw [hks] | rw [hk2] | rw [hk3]) | (refine m5 _ _ ?_;cbv)
 all_goals (clear m1 m2 m3 m4 m5;cases m0;(try clear hks;try clear hk2;try clear hk3);try dsimp only)
 all_goals try simp only [sm] at *
 all_goals (try rw [qr (n:=q-1) (by omega) (by omega)])
 all_goals first
  | omega
  | exact hdk (by omega)
  | (refine ⟨?_⟩;omega;done)
  | (rw [hd (by omega),hpk,show f5 _ _ _=true by assumption,Bool.true_or];rfl)
  | (have ih':=ih (by omega)
     rw [show (NN:Int)-1-((k+1:Nat):Int)=q-1 by omega] at ih'
     exact ⟨ih'.same rfl (by rw [hd (by omega),hpk,show f5 _ _ _=false by assumption,Bool.false_or])⟩)
  | (rw [List.drop_eq_nil_of_le (by rw [List.length_range];omega)];rfl)
  | skip
def qqV (f:ql->qf->Bool):Wr:=w2 qN qF (fun t x=>rB (f t x)) (fun t x=>[kd t x,StT t x])
theorem qnb:qy Tryz.prog 105 (qqV qbO):=qE fun t x h=>qfr t x (h _ (.head _)) (h _ (.tail _ (.head _)))
theorem qis {n:Nat}(hw:qy Tryz.prog 57 (qrD n w4))(t:ql)(x:qf)(h:GmX (n+1) t x):qe Tryz.prog 64 [qQ t,qH x] (rB (kW t x)):=by
 refine qe.of qc (fn:=Tryz.f64) (c:=Tryz.f64.body.getD .skip) (dr:=fun n=>qa 0 [(11,9)] n) Tryz.func64 rfl (by kernel_rfl) (by kernel_rfl) (by kernel_rfl) ?_
 obtain ⟨f0,hf0⟩:∃ f,f=z6:=⟨_,rfl⟩
 obtain ⟨f1,hf1⟩:∃ f,f=jD:=⟨_,rfl⟩
 obtain ⟨f2,hf2⟩:∃ f,f=qbO:=⟨_,rfl⟩
 obtain ⟨f3,hf3⟩:∃ f,f=muL:=⟨_,rfl⟩
 obtain ⟨f4,hf4⟩:∃ f,f=myL:=⟨_,rfl⟩
 obtain ⟨f5,hf5⟩:∃ f,f=QE:=⟨_,rfl⟩
 obtain ⟨f6,hf6⟩:∃ f,f=zg:=⟨_,rfl⟩
 obtain ⟨f7,hf7⟩:∃ f,f=KD:=⟨_,rfl⟩
 obtain ⟨f8,hf8⟩:∃ f,f=w4:=⟨_,rfl⟩
 have hO:qp Tryz.prog (qJ [(94,jt f0),(95,jt f1),(105,qqV f2),(96,qqP f3 f4),(71,qh8 f5),(97,qn6 f6),(58,qiR f7),(57,qrD n f8)]):=by
  subst hf0 hf1 hf2 hf3 hf4 hf5 hf6 hf7 hf8
  exact qb qf3 (qb qoX (qb qnb (qb qkw (qb yP (qb qls (qb qlh (qb hw qd)))))))
 have hst:=h.st
 have hsl:kd t x:=⟨h.sh,qoI h.st⟩
 have hW:=qj9 h.st
 have hhp:f2 t x=true->kW t x=false:=fun hh=>by
  cases hc:kW t x with
  | false=>rfl
  | true=>have:=qna h.st hc;rw [hf2,this] at hh;cases hh
 obtain ⟨a,ha⟩:∃ l,l=f3 t x:=⟨_,rfl⟩
 obtain ⟨b,hb⟩:∃ l,l=f4 t x:=⟨_,rfl⟩
 have ha7:a.length<=14:=by rw [ha,hf3];exact qdl x hst.sh
 have hb7:b.length<=14:=by rw [hb,hf4];exact yn x hst.sh
 obtain ⟨NN,hN⟩:∃ n,n=2 ^ b.length:=⟨_,rfl⟩
 have hNb:=qgS hb7
 have hs:=qq8 hb7
 rw [<-hN] at hNb hs
 have hml:∀ k:Nat,(f5 b k).length<=14:=fun k=>by rw [hf5];exact Nat.le_trans (KF _ _) hb7
 have hx0:f0 t x=false->f1 t x=false->Z3 t x=qhE a b NN:=fun h1 h2=>by
  rw [hf0] at h1
  rw [hf1] at h2
  have:=Jd h1 h2
  unfold Z3
  rw [if_neg (by omega),hN,ha,hb,hf3,hf4]
 have hix:f0 t x=false->f1 t x=false->∀ k,k<NN->IxT t (f6 a (f5 b k))/\GmY n t (f7 t x (f6 a (f5 b k))):=fun h1 h2 k hk=>by
  have he:f6 a (f5 b k)∈Z3 t x:=by
   rw [hx0 h1 h2,hf6,hf5]
   exact List.mem_map.2 ⟨k,List.mem_range.2 hk,rfl⟩
  rw [hf0] at h1
  rw [hf1] at h2
  exact ⟨qi0 hst.sh he,by rw [hf7];exact h.ends (Jd h1 h2) he⟩
 obtain ⟨p,hp⟩:∃ p:Nat->Bool,p=fun (k:Nat)=>f8 t (f7 t x (f6 a (f5 b (k:Int)))):=⟨_,rfl⟩
 have hpk:∀ k:Nat,p k=f8 t (f7 t x (f6 a (f5 b (k:Int)))):=fun k=>by rw [hp]
 have hall:f0 t x=false->f1 t x=false->kW t x=((List.range NN).drop 0).all p:=fun h1 h2=>by
  have h3:=hx0 h1 h2
  rw [hf0] at h1
  rw [hf1] at h2
  rw [hW,h1,h2,h3,hp,List.drop_zero,hf8,hf7,hf6,hf5]
  unfold qhE
  rw [List.all_map]
  rfl
 have hw0:f0 t x=true->kW t x=false:=fun h1=>by rw [hf0] at h1;rw [hW,h1];rfl
 have hw1:f0 t x=false->f1 t x=true->kW t x=true:=fun h1 h2=>by rw [hf0] at h1;rw [hf1] at h2;rw [hW,h1,h2];rfl
 obtain ⟨r,hrd⟩:∃ r,r=kW t x:=⟨_,rfl⟩
 rw [<-hrd] at hhp hall hw0 hw1 ⊢
 clear hW hw h hf0 hf1 hf2 hf3 hf4 hf5 hf6 hf7 hf8 hp hrd hN hx0
 obtain ⟨ns,ts,hr⟩:=t
 obtain ⟨now,times,vals⟩:=x
 refine SEx.go (X:=XX) qc (fun n=>qa [] [(9,[2,3,5,6,7])] n) (fun _=>none) hO 60 ?_
 intro M R L N m0 m1 m2 m3 m4 m5
 cases M
 cbv
 repeat' first | refine m1 _ _ ?_ ?_ | refine m2 _ _ fun h=>?_ | refine m3 _ ?_ | (refine m4 _ _ (Hd.out ?_);generalize hks:(List.cons _ _:List K)=ks) | (refine m5 _ _ ?_;cbv)
 all_goals (clear m1 m2 m3 m4 m5;cases m0;try dsimp only)
 all_goals try simp only [sm] at *
 all_goals first
  | exact hst
  | exact hsl
  | (rw [hw0 (by assumption)];rfl)
  | (rw [hw1 (by assumption) (by assumption)];rfl)
  | (rw [hhp (by assumption)];rfl)
  | skip
 have hq0:f0 ⟨ns,ts,hr⟩ ⟨now,times,vals⟩=false:=by assumption
 have hq1:f1 ⟨ns,ts,hr⟩ ⟨now,times,vals⟩=false:=by assumption
 replace hall:=hall hq0 hq1
 replace hix:=hix hq0 hq1
 clear hw0 hw1 hhp
 rw [hall]
 clear hall
 rw [<-ha,<-hb]
 clear ha hb
 obtain ⟨na,hna⟩:∃ n,n=a.length:=⟨_,rfl⟩
 obtain ⟨nb,hnb⟩:∃ n,n=b.length:=⟨_,rfl⟩
 rw [<-hna,<-hnb]
 rw [<-hnb] at hs hb7
 refine ⟨SEx.same (SEx.idx NN (fun k=>⟨42,[(2,bP 8192),(3,bP 12288),(5,bR 20480 na),(6,bR 24576 nb),(7,bI k)],[(8192,.obx [.fz (.sl (.node false none ns)),.fz (.sl (.tie ts)),.fz (.int .i64 hr)]),(12288,.obx [.fz (.int .i64 now),.fz (.sl (.i times)),.fz (.sl (.i vals))]),(20480,.osl (.i a)),(24576,.osl (.i b))]⟩) (fun k=>rB (((List.range NN).drop k).all p)) ?_) rfl rfl⟩
 intro k hk ih
 rw [<-hks]
 have hd:k<NN->((List.range NN).drop k).all p=(p k&&((List.range NN).drop (k+1)).all p):=fun h=>by
  rw [List.drop_eq_getElem_cons (by simpa using h),List.all_cons,List.getElem_range]
 replace hpk:=hpk k
 replace hix:=hix k
 replace hml:=hml k
 have hu:IntKind.u64.wrap (nb:Int)=nb:=Qg (by omega)
 refine SEx.go (X:=XX) qc (fun n=>qa [] [(9,[2,3,5,6,7])] n) (fun _=>none) hO 60 ?_
 intro M R L N m0 m1 m2 m3 m4 m5
 cases M
 cbv
 repeat' first | refine m1 _ _ ?_ ?_ | refine m2 _ _ fun h=>?_ | refine m3 _ ?_ | (refine m4 _ _ (Hd.out ?_);try first | rw [hks] | rw [hk2] | rw [hk3]) | (refine m5 _ _ ?_;cbv)
 all_goals (clear m1 m2 m3 m4 m5;cases m0;(try clear hks;try clear hk2;try clear hk3);try dsimp only)
 all_goals try simp only [sm] at *
 all_goals (try simp only [hu,Int.toNat_natCast,hs] at *)
 all_goals (try simp only [qg (show k<9223372036854775807 by omega)])
 all_goals first
  | omega
  | exact hst
  | (rw [hu];omega)
  | exact (hix (by omega)).1
  | exact (hix (by omega)).2
  | (refine ⟨?_⟩;omega;done)
  | (rw [hd (by omega),hpk,show f8 _ _=false by assumption,Bool.false_and];rfl)
  | exact ⟨(ih (by omega)).same rfl (by rw [hd (by omega),hpk,show f8 _ _=true by assumption,Bool.true_and])⟩
  | (rw [List.drop_eq_nil_of_le (by rw [List.length_range];omega)];rfl)
  | skip
theorem qeh:∀ n:Nat,qy Tryz.prog 64 (qpF n kW)
 | 0=>qE fun t x h=>by
   have h0:=h _ (.head _)
   have:=h0.st.now
   have:=h0.fu
   omega
 | n+1=>by
   have h1:=qeh n
   have h2:qy Tryz.prog 35 (qo3 n QP):=jv fun t y d h=>qfx h1 t y d (h _ (.head _))
   have h3:qy Tryz.prog 57 (qrD n w4):=qE fun t y h=>qhT h2 t y (h _ (.head _))
   exact qE fun t x h=>qis h3 t x (h _ (.head _))
end Go.Proofs.YtifnopmkdempdaaGreat.Ai
namespace Go.Proofs.YtifnopmkdempdaaGreat.Ai
open Go
set_option maxRecDepth 100000
variable [qh]
def by1 (n:Int):Int:=IntKind.u8.wrap (IntKind.i64.wrap (n+1))
def qdh (x:qf):List Int:=IntKind.u8.wrap x.now::(x.times.map by1++x.vals.map by1)
def qpE (l:List Int):ByteArray:=⟨(l.map fun n=>UInt8.ofNat n.toNat).toArray⟩
def YX (x:qf):ByteArray:=qpE (qdh x)
theorem qa9 {f:Int->Int}{l:List Int}{i:Nat}(h:i<l.length):(l.take (i+1)).map f=(l.take i).map f++[f (l.getD i 0)]:=by
 rw [List.take_add_one,List.map_append,zn h,List.getElem?_eq_getElem h]
 rfl
theorem qgk (n:Int):0<=IntKind.u8.wrap n/\IntKind.u8.wrap n<256:=by
 simp only [IntKind.wrap,IntKind.bits,IntKind.signed]
 simp
 omega
theorem qn8 (n:Int):0<=by1 n/\by1 n<256:=qgk _
theorem qc4 (x:qf):∀ n∈qdh x,0<=n/\n<256:=by
 intro n hn
 unfold qdh at hn
 rcases List.mem_cons.1 hn with rfl | hn
 . exact qgk _
 . rcases List.mem_append.1 hn with hn | hn
   . obtain ⟨m,_,rfl⟩:=List.mem_map.1 hn;exact qn8 m
   . obtain ⟨m,_,rfl⟩:=List.mem_map.1 hn;exact qn8 m
theorem qrr (x:qf)(h1:x.times.length<=1000)(h2:x.vals.length<=1000):qe Tryz.prog 114 [qH x] (rS (YX x)):=by
 refine qe.of qc (fn:=Tryz.f114) (c:=Tryz.f114.body.getD .skip) (dr:=fun n=>qa 0 [] n) Tryz.func114 rfl (by kernel_rfl) (by kernel_rfl) (by kernel_rfl) ?_
 have hk:=qc4 x
 unfold YX
 unfold qdh at hk ⊢
 obtain ⟨now,times,vals⟩:=x
 dsimp only at h1 h2 hk ⊢
 obtain ⟨b0,hb0⟩:∃ b,b=IntKind.u8.wrap now:=⟨_,rfl⟩
 obtain ⟨g,hg⟩:∃ g,g=by1:=⟨_,rfl⟩
 have hgd:∀ n,IntKind.u8.wrap (IntKind.i64.wrap (n+1))=g n:=fun n=>by rw [hg];rfl
 rw [<-hb0,<-hg] at hk ⊢
 refine SEx.go (X:=XX) qc (fun n=>qa [] [(3,[1,3,13,14,15]),(8,[3,27,28,29])] n) (fun _=>none) qd 60 ?_
 intro M R L N m0 m1 m2 m3 m4 m5
 cases M
 cbv
 repeat' first | refine m1 _ _ ?_ ?_ | refine m2 _ _ fun h=>?_ | refine m3 _ ?_ | (refine m4 _ _ (Hd.out ?_);generalize hks:(List.cons _ _:List K)=ks) | (refine m5 _ _ ?_;cbv)
 all_goals (clear m1 m2 m3 m4 m5;cases m0;try dsimp only)
 all_goals try simp only [sm] at *
 all_goals (try rw [<-hb0])
 . rfl
 clear hb0 hg
 obtain ⟨m,hm⟩:∃ m,m=times.length:=⟨_,rfl⟩
 rw [<-hm] at h1
 obtain ⟨r,hr⟩:∃ r,r=qpE (b0::(times.map g++vals.map g)):=⟨_,rfl⟩
 rw [<-hr]
 obtain ⟨kp,hkp⟩:∃ f:Nat->List Int,f=fun i=>b0::(times.take i).map g:=⟨_,rfl⟩
 refine ⟨SEx.same (SEx.idx m (fun i=>⟨42,[(1,bP 4096),(3,bR 12288 (kp i).length),(13,bL (.i times)),(14,bI m),(15,bI i)],[(4096,.obx [.fz (.int .i64 now),.fz (.sl (.i times)),.fz (.sl (.i vals))]),(12288,.osl (.u (kp i)))]⟩) (fun _=>rS r) ?_) (by rw [hm,hkp];rfl) rfl⟩
 intro i hi ih
 rw [<-hks]
 have hst:i<m->kp (i+1)=kp i++[g (times.getD i 0)]:=fun h=>by rw [hkp];show b0::_=_;rw [qa9 (by omega),List.cons_append]
 have hul:(kp i).length<=i+1:=by rw [hkp];simp only [List.length_cons,List.length_map,List.length_take];omega
 have hkm:kp m=b0::times.map g:=by rw [hkp];show b0::_=_;rw [hm,List.take_length]
 clear hkp
 obtain ⟨u,hu⟩:∃ u,u=kp i:=⟨_,rfl⟩
 rw [<-hu] at hst hul ⊢
 obtain ⟨n,hn⟩:∃ n,n=u.length:=⟨_,rfl⟩
 rw [<-hn] at hul ⊢
 refine SEx.go (X:=XX) qc (fun n=>qa [] [(3,[1,3,13,14,15]),(8,[3,27,28,29])] n) (fun _=>none) qd 60 ?_
 intro M R L N m0 m1 m2 m3 m4 m5
 cases M
 cbv
 repeat' first | refine m1 _ _ ?_ ?_ | refine m2 _ _ fun h=>?_ | refine m3 _ ?_ | (refine m4 _ _ (Hd.out ?_);first | rw [hks] | generalize hk2:(List.cons _ _:List K)=k2) | (refine m5 _ _ ?_;cbv)
 all_goals (clear m1 m2 m3 m4 m5;cases m0;try dsimp only)
 all_goals try simp only [sm] at *
 all_goals try simp only [List.length_append,List.length_cons,List.length_nil] at *
 all_goals (try simp only [hgd])
 all_goals (try simp only [qg (show i<9223372036854775807 by omega)])
 all_goals (try subst hn)
 all_goals first
  | omega
  | (have:=zB;omega)
  | (have ih':=ih (by omega)
     rw [hst (by omega),List.length_append] at ih'
     exact ⟨ih'.same rfl rfl⟩)
  | skip
 have him:i=m:=by omega
 rw [him,hkm] at hu
 clear hst ih hul
 obtain ⟨n,hn⟩:∃ n,n=vals.length:=⟨_,rfl⟩
 rw [<-hn] at h2
 have hul:u.length<=1001:=by rw [hu];simp only [List.length_cons,List.length_map];omega
 obtain ⟨kq,hkq⟩:∃ f:Nat->List Int,f=fun j=>u++(vals.take j).map g:=⟨_,rfl⟩
 have hk0:kq 0=u:=by rw [hkq];simp
 refine ⟨SEx.same (SEx.idx n (fun j=>⟨42,[(3,bR 12288 (kq j).length),(27,bL (.i vals)),(28,bI n),(29,bI j)],[(12288,.osl (.u (kq j)))]⟩) (fun _=>rS r) ?_) (by rw [hn,hk0];rfl) rfl⟩
 intro j hj ih
 rw [<-hk2]
 have hst:j<n->kq (j+1)=kq j++[g (vals.getD j 0)]:=fun h=>by rw [hkq];show u++_=_;rw [qa9 (by omega),List.append_assoc]
 have hwl:(kq j).length<=1001+j:=by rw [hkq];simp only [List.length_append,List.length_map,List.length_take];omega
 have hkn:kq n=b0::(times.map g++vals.map g):=by rw [hkq];show u++_=_;rw [hn,List.take_length,hu,List.cons_append]
 clear hkq hk0
 obtain ⟨w,hw⟩:∃ w,w=kq j:=⟨_,rfl⟩
 have hend:j=n->qpE w=r:=fun e=>by
  rw [hw,e,hkn,hr]
 have hin:j=n->∀ x∈w,0<=x/\x<256:=fun e=>by
  rw [hw,e,hkn]
  exact hk
 rw [<-hw] at hst hwl ⊢
 obtain ⟨k,hkk⟩:∃ k,k=w.length:=⟨_,rfl⟩
 rw [<-hkk] at hwl ⊢
 clear hr hk hkn
 refine SEx.go (X:=XX) qc (fun n=>qa [] [(3,[1,3,13,14,15]),(8,[3,27,28,29])] n) (fun _=>none) qd 60 ?_
 intro M R L N m0 m1 m2 m3 m4 m5
 cases M
 cbv
 repeat' first | refine m1 _ _ ?_ ?_ | refine m2 _ _ fun h=>?_ | refine m3 _ ?_ | (refine m4 _ _ (Hd.out ?_);try first | rw [hks] | rw [hk2] | rw [hk3]) | (refine m5 _ _ ?_;cbv)
 all_goals (clear m1 m2 m3 m4 m5;cases m0;(try clear hks;try clear hk2;try clear hk3);try dsimp only)
 all_goals try simp only [sm] at *
 all_goals try simp only [List.length_append,List.length_cons,List.length_nil] at *
 all_goals (try simp only [hgd])
 all_goals (try simp only [qg (show j<9223372036854775807 by omega)])
 all_goals (try subst hkk)
 all_goals first
  | omega
  | (have:=zB;omega)
  | exact hin (by omega)
  | (have ih':=ih (by omega)
     rw [hst (by omega),List.length_append] at ih'
     exact ⟨ih'.same rfl rfl⟩)
  | (rw [<-hend (by omega)];rfl)
  | skip
end Go.Proofs.YtifnopmkdempdaaGreat.Ai
namespace Go.Proofs.YtifnopmkdempdaaGreat.Ai
open Go
set_option maxRecDepth 100000
variable [qh]
theorem qjm {n:Int}(h:-1<=n/\n<=20):by1 n=n+1:=by
 unfold by1
 rw [qr (by omega) (by omega)]
 simp only [IntKind.wrap,IntKind.bits,IntKind.signed]
 simp
 omega
theorem qa8 {n:Int}(h:0<=n/\n<=20):IntKind.u8.wrap n=n:=by
 simp only [IntKind.wrap,IntKind.bits,IntKind.signed]
 simp
 omega
theorem qrP {a b:Int}(ha:0<=a/\a<256)(hb:0<=b/\b<256)(h:UInt8.ofNat a.toNat=UInt8.ofNat b.toNat):a=b:=by
 have:=congrArg UInt8.toNat h
 simp only [UInt8.toNat_ofNat'] at this
 omega
theorem wu {α β:Type}{f:α->β}{P:α->Prop}(hf:∀ a b,P a->P b->f a=f b->a=b):∀ {l m:List α},(∀ x∈l,P x)->(∀ x∈m,P x)->l.map f=m.map f->l=m
 | [],[],_,_,_=>rfl
 | [],_::_,_,_,h=>by simp at h
 | _::_,[],_,_,h=>by simp at h
 | a::l,b::m,h1,h2,h=>by
   simp only [List.map_cons,List.cons.injEq] at h
   rw [hf a b (h1 a List.mem_cons_self) (h2 b List.mem_cons_self) h.1,wu hf (fun x hx=>h1 x (List.mem_cons_of_mem _ hx)) (fun x hx=>h2 x (List.mem_cons_of_mem _ hx)) h.2]
theorem qnM {t:ql}{x z:qf}(hx:StT t x)(hz:StT t z)(h:YX x=YX z):x=z:=by
 have h1:(qdh x).map (fun n=>UInt8.ofNat n.toNat)=(qdh z).map fun n=>UInt8.ofNat n.toNat:=by
  unfold YX qpE at h
  simpa using h
 have h2:qdh x=qdh z:=wu (P:=fun n:Int=>0<=n/\n<256) (fun a b=>qrP) (qc4 x) (qc4 z) h1
 unfold qdh at h2
 simp only [List.cons.injEq] at h2
 have hxn:=hx.now
 have hzn:=hz.now
 have hh:=zp hx.sh
 rw [qa8 (by omega),qa8 (by omega)] at h2
 have h3:=List.append_inj h2.2 (by rw [List.length_map,List.length_map,hxn.2.2,hzn.2.2])
 have inj:∀ {l m:List Int},(∀ n∈l,-1<=n/\n<=20)->(∀ n∈m,-1<=n/\n<=20)->l.map by1=m.map by1->l=m:=fun hl hm=>wu (P:=fun n:Int=>-1<=n/\n<=20) (fun a b ha hb e=>by rw [qjm ha,qjm hb] at e;omega) hl hm
 have tin:∀ {x:qf},StT t x->∀ n∈x.times,-1<=n/\n<=20:=fun hx n hn=>by
  obtain ⟨i,hi,rfl⟩:=qcY hn
  have:=hx.time i
  omega
 have vin:∀ {x:qf},StT t x->∀ n∈x.vals,-1<=n/\n<=20:=fun hx n hn=>by
  obtain ⟨i,hi,rfl⟩:=qcY hn
  have:=QY hx.vals i
  omega
 have e1:=h2.1
 have e2:=inj (tin hx) (tin hz) h3.1
 have e3:=inj (vin hx) (vin hz) h3.2
 obtain ⟨a,b,c⟩:=x
 obtain ⟨a',b',c'⟩:=z
 dsimp only at e1 e2 e3
 rw [e1,e2,e3]
noncomputable def gT (t:ql):Qc:=fun k=>Classical.epsilon fun b:Bool=>∀ x,StT t x->YX x=k->b=kW t x
theorem qsL {t:ql}{x:qf}(h:StT t x):gT t (YX x)=kW t x:=by
 have hex:∃ b:Bool,∀ z,StT t z->YX z=YX x->b=kW t z:=⟨kW t x,fun z hz e=>by rw [qnM hz h e]⟩
 exact Classical.epsilon_spec hex x h rfl
structure Gm where
 t:ql
 g:Qc
def aGm (q:Gm):V1 D:=(false,[.ptr [.sl (.node false none q.t.nodes),.sl (.tie q.t.ties),.int .i64 q.t.hor,.mp q.g]])
def qp7:Dc Gm:=⟨aGm,fun
 | (false,[.ptr [d,e,.int .i64 x3,.mp g]])=>(match V2 d,qcJ e with | some x1,some x2=>some ⟨⟨x1,x2,x3⟩,g⟩ | _,_=>none)
 | _=>none,by
   intro x a h
   split at h
   . split at h
     . rename_i hd he
       simp only [Option.some.injEq] at h;subst h;simp only [ke,D.erL,D.er,Ye hd,qbL he,aGm];rfl
     . cases h
   . cases h⟩
structure GmM (q:Gm):Prop where out:q.g=gT q.t
def qjF (n:Nat)(f:ql->qf->Bool):Wr:=w2 qp7 qF (fun q x=>rB (f q.t x)) (fun q x=>[GmX n q.t x,GmM q])
def qgH (n:Nat)(f:ql->qf->List Int->Bool):Wr:=w3 qp7 qF zX (fun q x d=>rB (f q.t x d)) (fun q x d=>[GmD n q.t x d,GmM q])
def wO (l:List Int)(b:Bool):TV W:=.tup [(false,[.osl (.i l)]),(false,[.fz (.bool false b)])]
def qg5 (o:Option (List Int)):TV W:=match o with | some l=>wO l true | none=>wO [] false
def qpv (t:ql)(y:qf):Option (List Int):=(W8 t y).find? (QP t y)
def qkj (t:ql)(y:qf):List Int:=(qpv t y).getD []
theorem qrO (t:ql)(y:qf):qg5 (qpv t y)=wO (qkj t y) (w4 t y):=by
 unfold qkj w4
 cases h:qpv t y with
 | none =>
   have h1:(W8 t y).any (fun d=>QP t y d)=false:=by
    rw [List.any_eq_false]
    intro d hd
    have:=List.find?_eq_none.1 h d hd
    simpa using this
   rw [h1];rfl
 | some d =>
   have h1:(W8 t y).any (fun d=>QP t y d)=true:=List.any_eq_true.2 ⟨d,List.mem_of_find?_eq_some h,List.find?_some h⟩
   rw [h1];rfl
def qoV (n:Nat)(f:ql->qf->List Int)(b:ql->qf->Bool):Wr:=w2 qp7 qF (fun q x=>wO (f q.t x) (b q.t x)) (fun q x=>[GmY n q.t x,GmM q])
theorem wl {α:Type}{p:α->Bool}{l:List α}{i:Nat}(z:α)(h:i<l.length):(l.drop i).find? p=if p (l.getD i z)=true then some (l.getD i z) else (l.drop (i+1)).find? p:=by
 rw [List.drop_eq_getElem_cons h,List.find?_cons,List.getD_eq_getElem?_getD,List.getElem?_eq_getElem h,Option.getD_some]
 cases p l[i]<;>rfl
theorem qdY {n:Nat}(hw:qy Tryz.prog 80 (qjF n kW))(t:ql)(y:qf)(d:List Int)(h:GmD n t y d):qe Tryz.prog 41 [aGm ⟨t,gT t⟩,qH y,aIs d] (rB (QP t y d)):=by
 refine qe.of qc (fn:=Tryz.f41) (c:=Tryz.f41.body.getD .skip) (dr:=fun n=>qa 0 [(1,655371)] n) Tryz.func41 rfl (by kernel_rfl) (by kernel_rfl) (by kernel_rfl) ?_
 obtain ⟨f1,hf1⟩:∃ f,f=wJ:=⟨_,rfl⟩
 obtain ⟨f2,hf2⟩:∃ f,f=q9:=⟨_,rfl⟩
 obtain ⟨f3,hf3⟩:∃ f,f=jr:=⟨_,rfl⟩
 obtain ⟨f4,hf4⟩:∃ f,f=obF:=⟨_,rfl⟩
 obtain ⟨f5,hf5⟩:∃ f,f=kW:=⟨_,rfl⟩
 obtain ⟨g1,hg1⟩:∃ f,f=nxI:=⟨_,rfl⟩
 have hO:qp Tryz.prog (qJ [(78,qk5 f1 f2),(79,qke f3),(81,qkR g1 f4),(80,qjF n f5)]):=by
  subst hf1 hf2 hf3 hf4 hf5 hg1
  exact qb qeu (qb qdK (qb qdP (qb hw qd)))
 have hX:q8 Tryz.prog (XX.withF [10]):=SX.withF_ok fun _ _ _=>R.Sim.none'
 have hen:=h.gy.en
 have hix:=h.gd.ix
 have hsl:=qI hen.v.sh
 have hy3:=qR hen.v.vals
 have hytl:=hen.tl
 obtain ⟨ps,hps⟩:∃ ps,ps=f2 t.nodes d:=⟨_,rfl⟩
 obtain ⟨yd,hyd⟩:∃ z,z=f1 y d:=⟨_,rfl⟩
 obtain ⟨vl,hvl⟩:∃ vl,vl=f3 ps:=⟨_,rfl⟩
 have hpl:ps.length<=3:=by rw [hps,hf2];exact JP _ _
 have hpt:∀ p∈ps,1<=p/\p<=3:=by rw [hps,hf2];exact ZQ _ _
 have hsm:=Ko ps
 rw [<-hf3,<-hvl] at hsm
 have hz:Kr yd:=by rw [hyd,hf1];exact ⟨by show (Za _ _ _ _).length<=_;rw [je];omega,by show y.vals.length<=_;omega⟩
 have hz3:yd.vals.length=3:=by rw [hyd,hf1];exact hy3
 have hvs:∀ vs∈vl,vs.length=ps.length/\GmX n t ⟨g1 yd.now,yd.times,f4 yd.vals ps vs⟩:=by
  intro vs hv
  rw [hvl,hf3] at hv
  refine ⟨(Ks hv).len,?_⟩
  have h2:vs∈jr (q9 t.nodes d):=by rw [hps,hf2] at hv;exact hv
  have h1:=h.gy.next h.gd.ok h2
  rw [hg1,hf4,hyd,hf1,hps,hf2]
  exact h1
 have hr:QP t y d=(vl.drop 0).all fun vs=>f5 t ⟨g1 yd.now,yd.times,f4 yd.vals ps vs⟩:=by
  rw [List.drop_zero,hvl,hyd,hps,hf1,hf2,hf3,hf4,hf5,hg1];rfl
 rw [hr]
 obtain ⟨mg,hmg⟩:∃ g,g=gT t:=⟨_,rfl⟩
 rw [<-hmg]
 clear hr hf1 hf2 hf3 hf4 hf5 hg1 h hw
 obtain ⟨ns,ts,hr⟩:=t
 obtain ⟨now,times,vals⟩:=y
 refine SEx.go (X:=(XX.withF [10])) qc (fun n=>qa [] [(3,[0,7,8,22,23,24])] n) (fun _=>none) hO 60 ?_ hX
 intro M R L N m0 m1 m2 m3 m4 m5
 cases M
 cbv
 repeat' first | refine m1 _ _ ?_ ?_ | refine m2 _ _ fun h=>?_ | refine m3 _ ?_ | (refine m4 _ _ (Hd.out ?_);generalize hks:(List.cons _ _:List K)=ks) | (refine m5 _ _ ?_;cbv)
 all_goals (clear m1 m2 m3 m4 m5;cases m0;try dsimp only)
 all_goals try simp only [sm] at *
 all_goals first
  | exact hen
  | exact hix
  | (refine ⟨?_⟩;rw [<-hps];omega;done)
  | skip
 . rw [<-hps,<-hyd]
   rw [<-hvl]
   clear hen hix
   obtain ⟨m,hm⟩:∃ m,m=vl.length:=⟨_,rfl⟩
   rw [<-hm] at hsm ⊢
   obtain ⟨ydn,ydt,ydv⟩:=yd
   dsimp only at hz3 hvs ⊢
   obtain ⟨np,hnp⟩:∃ np,np=ps.length:=⟨_,rfl⟩
   rw [<-hnp]
   refine ⟨SEx.same (SEx.idx m (fun i=>⟨36,[(0,.v (false,[.fz (.ptr [.sl (.node false none ns),.sl (.tie ts),.int .i64 hr,.mp mg])])),(7,bP 28672),(8,bR 32768 np),(22,bR 90112 m),(23,bI m),(24,bI i)],[(28672,.obx [.fz (.int .i64 ydn),.osl (.i ydt),.osl (.i ydv)]),(32768,.osl (.i ps)),(90112,.osl (.ii true none vl))]⟩) (fun i=>rB ((vl.drop i).all fun vs=>f5 ⟨ns,ts,hr⟩ ⟨g1 ydn,ydt,f4 ydv ps vs⟩)) ?_) rfl rfl⟩
   intro i hi ih
   rw [<-hks]
   have hvi:i<m->(vl.getD i []).length=ps.length/\GmX n ⟨ns,ts,hr⟩ ⟨g1 ydn,ydt,f4 ydv ps (vl.getD i [])⟩:=fun h=>hvs _ (qn (z:=([]:List Int)) (by omega)).out
   have hd:i<m->(vl.drop i).all (fun vs=>f5 ⟨ns,ts,hr⟩ ⟨g1 ydn,ydt,f4 ydv ps vs⟩)=(f5 ⟨ns,ts,hr⟩ ⟨g1 ydn,ydt,f4 ydv ps (vl.getD i [])⟩&&(vl.drop (i+1)).all fun vs=>f5 ⟨ns,ts,hr⟩ ⟨g1 ydn,ydt,f4 ydv ps vs⟩):=fun h=>Wh [] (by omega)
   obtain ⟨vi,hvd⟩:∃ v,v=vl.getD i []:=⟨_,rfl⟩
   rw [<-hvd] at hvi hd
   clear hvs
   refine SEx.go (X:=(XX.withF [10])) qc (fun n=>qa [] [(3,[0,7,8,22,23,24])] n) (fun _=>none) hO 60 ?_ hX
   intro M R L N m0 m1 m2 m3 m4 m5
   cases M
   cbv
   repeat' first | refine m1 _ _ ?_ ?_ | refine m2 _ _ fun h=>?_ | refine m3 _ ?_ | (refine m4 _ _ (Hd.out ?_);try first | rw [hks] | rw [hk2] | rw [hk3]) | (refine m5 _ _ ?_;cbv)
   all_goals (clear m1 m2 m3 m4 m5;cases m0;(try clear hks;try clear hk2;try clear hk3);try dsimp only)
   all_goals try simp only [sm] at *
   all_goals (try rw [<-hvd])
   all_goals (try simp only [<-hvd] at *)
   all_goals first
    | omega
    | exact hz
    | exact ⟨hmg⟩
    | exact ⟨hz3⟩
    | exact ⟨(hvi (by omega)).1⟩
    | exact ⟨hpt⟩
    | exact (hvi (by omega)).2
    | (refine ⟨?_⟩;omega;done)
    | (rw [hd (by omega),show f5 _ _=false by assumption,Bool.false_and];rfl)
    | (simp only [qg (show i<9223372036854775807 by omega)];exact ⟨(ih (by omega)).same rfl (by rw [hd (by omega),show f5 _ _=true by assumption,Bool.true_and])⟩)
    | (rw [List.drop_eq_nil_of_le (by omega)];rfl)
    | skip
 . rw [<-hps,<-hyd]
   rw [<-hvl]
   clear hen hix
   obtain ⟨m,hm⟩:∃ m,m=vl.length:=⟨_,rfl⟩
   rw [<-hm] at hsm ⊢
   obtain ⟨ydn,ydt,ydv⟩:=yd
   dsimp only at hz3 hvs ⊢
   obtain ⟨np,hnp⟩:∃ np,np=ps.length:=⟨_,rfl⟩
   rw [<-hnp]
   refine ⟨SEx.same (SEx.idx m (fun i=>⟨36,[(0,.v (false,[.fz (.ptr [.sl (.node false none ns),.sl (.tie ts),.int .i64 hr,.mp mg])])),(7,bP 28672),(8,bR 32768 np),(22,bR 90112 m),(23,bI m),(24,bI i)],[(28672,.obx [.fz (.int .i64 ydn),.osl (.i ydt),.osl (.i ydv)]),(32768,.osl (.i ps)),(90112,.osl (.ii true none vl))]⟩) (fun i=>rB ((vl.drop i).all fun vs=>f5 ⟨ns,ts,hr⟩ ⟨g1 ydn,ydt,f4 ydv ps vs⟩)) ?_) rfl rfl⟩
   intro i hi ih
   rw [<-hks]
   have hvi:i<m->(vl.getD i []).length=ps.length/\GmX n ⟨ns,ts,hr⟩ ⟨g1 ydn,ydt,f4 ydv ps (vl.getD i [])⟩:=fun h=>hvs _ (qn (z:=([]:List Int)) (by omega)).out
   have hd:i<m->(vl.drop i).all (fun vs=>f5 ⟨ns,ts,hr⟩ ⟨g1 ydn,ydt,f4 ydv ps vs⟩)=(f5 ⟨ns,ts,hr⟩ ⟨g1 ydn,ydt,f4 ydv ps (vl.getD i [])⟩&&(vl.drop (i+1)).all fun vs=>f5 ⟨ns,ts,hr⟩ ⟨g1 ydn,ydt,f4 ydv ps vs⟩):=fun h=>Wh [] (by omega)
   obtain ⟨vi,hvd⟩:∃ v,v=vl.getD i []:=⟨_,rfl⟩
   rw [<-hvd] at hvi hd
   clear hvs
   refine SEx.go (X:=(XX.withF [10])) qc (fun n=>qa [] [(3,[0,7,8,22,23,24])] n) (fun _=>none) hO 60 ?_ hX
   intro M R L N m0 m1 m2 m3 m4 m5
   cases M
   cbv
   repeat' first | refine m1 _ _ ?_ ?_ | refine m2 _ _ fun h=>?_ | refine m3 _ ?_ | (refine m4 _ _ (Hd.out ?_);try first | rw [hks] | rw [hk2] | rw [hk3]) | (refine m5 _ _ ?_;cbv)
   all_goals (clear m1 m2 m3 m4 m5;cases m0;(try clear hks;try clear hk2;try clear hk3);try dsimp only)
   all_goals try simp only [sm] at *
   all_goals (try rw [<-hvd])
   all_goals (try simp only [<-hvd] at *)
   all_goals first
    | omega
    | exact hz
    | exact ⟨hmg⟩
    | exact ⟨hz3⟩
    | exact ⟨(hvi (by omega)).1⟩
    | exact ⟨hpt⟩
    | exact (hvi (by omega)).2
    | (refine ⟨?_⟩;omega;done)
    | (rw [hd (by omega),show f5 _ _=false by assumption,Bool.false_and];rfl)
    | (simp only [qg (show i<9223372036854775807 by omega)];exact ⟨(ih (by omega)).same rfl (by rw [hd (by omega),show f5 _ _=true by assumption,Bool.true_and])⟩)
    | (rw [List.drop_eq_nil_of_le (by omega)];rfl)
    | skip
end Go.Proofs.YtifnopmkdempdaaGreat.Ai
namespace Go.Proofs.YtifnopmkdempdaaGreat.Ai
open Go
set_option maxRecDepth 100000
variable [qh]
theorem qbV {n:Nat}(hw:qy Tryz.prog 41 (qgH n QP))(t:ql)(y:qf)(h:GmY n t y):qe Tryz.prog 102 [aGm ⟨t,gT t⟩,qH y] (wO (qkj t y) (w4 t y)):=by
 refine qe.of qc (fn:=Tryz.f102) (c:=Tryz.f102.body.getD .skip) (dr:=fun n=>qa 0 [(1,8)] n) Tryz.func102 rfl (by kernel_rfl) (by kernel_rfl) (by kernel_rfl) ?_
 rw [<-qrO]
 obtain ⟨f1,hf1⟩:∃ f,f=W8:=⟨_,rfl⟩
 obtain ⟨f5,hf5⟩:∃ f,f=QP:=⟨_,rfl⟩
 have hO:qp Tryz.prog (qJ [(77,qmM f1),(41,qgH n f5)]):=by
  subst hf1 hf5
  exact qb qeR (qb hw qd)
 have hX:q8 Tryz.prog (XX.withF [7]):=SX.withF_ok fun _ _ _=>R.Sim.none'
 have hen:=h.en
 obtain ⟨l,hl⟩:∃ l,l=f1 t y:=⟨_,rfl⟩
 have hlm:l.length<=128:=by
  rw [hl,hf1]
  unfold W8 qhA
  rw [Jh]
  exact (ZI (Zn hen.v)).2
 have hdc:∀ d∈l,GmD n t y d/\d.length<=7:=fun d hd=>by
  rw [hl,hf1] at hd
  have h1:=qg2 hen hd
  refine ⟨⟨h,h1⟩,?_⟩
  obtain ⟨j,_,rfl⟩:=List.mem_map.1 hd
  exact Nat.le_trans (KF _ _) (Zn hen.v)
 have hr:qpv t y=(l.drop 0).find? (f5 t y):=by rw [List.drop_zero,hl,hf1,hf5];rfl
 rw [hr]
 obtain ⟨mg,hmg⟩:∃ g,g=gT t:=⟨_,rfl⟩
 rw [<-hmg]
 clear hr hf1 hf5 h hw
 obtain ⟨ns,ts,hr⟩:=t
 obtain ⟨now,times,vals⟩:=y
 obtain ⟨p,hp⟩:∃ p,p=f5 ⟨ns,ts,hr⟩ ⟨now,times,vals⟩:=⟨_,rfl⟩
 rw [<-hp]
 have hpd:∀ d,f5 ⟨ns,ts,hr⟩ ⟨now,times,vals⟩ d=p d:=fun d=>by rw [hp]
 clear hp
 refine SEx.go (X:=(XX.withF [7])) qc (fun n=>qa [] [(2,[0,3,13,14,15])] n) (fun _=>none) hO 60 ?_ hX
 intro M R L N m0 m1 m2 m3 m4 m5
 cases M
 cbv
 repeat' first | refine m1 _ _ ?_ ?_ | refine m2 _ _ fun h=>?_ | refine m3 _ ?_ | (refine m4 _ _ (Hd.out ?_);generalize hks:(List.cons _ _:List K)=ks) | (refine m5 _ _ ?_;cbv)
 all_goals (clear m1 m2 m3 m4 m5;cases m0;try dsimp only)
 all_goals try simp only [sm] at *
 all_goals first
  | exact hen
  | skip
 rw [<-hl]
 clear hen hl
 obtain ⟨m,hm⟩:∃ m,m=l.length:=⟨_,rfl⟩
 rw [<-hm] at hlm ⊢
 refine ⟨SEx.same (SEx.idx m (fun i=>⟨25,[(0,.v (false,[.fz (.ptr [.sl (.node false none ns),.sl (.tie ts),.int .i64 hr,.mp mg])])),(3,bP 12288),(13,bR 53248 m),(14,bI m),(15,bI i)],[(12288,.obx [.fz (.int .i64 now),.fz (.sl (.i times)),.fz (.sl (.i vals))]),(53248,.osl (.ii true none l))]⟩) (fun i=>qg5 ((l.drop i).find? p)) ?_) rfl rfl⟩
 intro i hi ih
 rw [<-hks]
 have hdi:i<m->GmD n ⟨ns,ts,hr⟩ ⟨now,times,vals⟩ (l.getD i [])/\(l.getD i []).length<=7:=fun h=>hdc _ (qn (z:=([]:List Int)) (by omega)).out
 have hd:i<m->(l.drop i).find? p=if p (l.getD i [])=true then some (l.getD i []) else (l.drop (i+1)).find? p:=fun h=>wl [] (by omega)
 have hpi:=hpd (l.getD i [])
 clear hdc hpd
 refine SEx.go (X:=(XX.withF [7])) qc (fun n=>qa [] [(2,[0,3,13,14,15])] n) (fun _=>none) hO 60 ?_ hX
 intro M R L N m0 m1 m2 m3 m4 m5
 cases M
 cbv
 repeat' first | refine m1 _ _ ?_ ?_ | refine m2 _ _ fun h=>?_ | refine m3 _ ?_ | (refine m4 _ _ (Hd.out ?_);try first | rw [hks] | rw [hk2] | rw [hk3]) | (refine m5 _ _ ?_;cbv)
 all_goals (clear m1 m2 m3 m4 m5;cases m0;(try clear hks;try clear hk2;try clear hk3);try dsimp only)
 all_goals try simp only [sm] at *
 all_goals first
  | omega
  | exact (hdi (by omega)).1
  | exact ⟨hmg⟩
  | (rw [hd (by omega),if_pos (by rw [<-hpi];assumption)];rfl)
  | (simp only [qg (show i<9223372036854775807 by omega)];exact ⟨(ih (by omega)).same rfl (by rw [hd (by omega),if_neg (by rw [<-hpi,show f5 _ _ _=false by assumption];simp)])⟩)
  | (rw [List.drop_eq_nil_of_le (by omega)];rfl)
  | skip
def qsB (f:qf->ByteArray):Wr:=w1 qF (fun x=>rS (f x)) (fun x=>[LLe x.times 1000,LLe x.vals 1000])
theorem qqg:qy Tryz.prog 114 (qsB YX):=zx fun x h=>qrr x (h _ (.head _)).out (h _ (.tail _ (.head _))).out
theorem qfD {n:Nat}(hw:qy Tryz.prog 102 (qoV n qkj w4))(t:ql)(x:qf)(h:GmX (n+1) t x):qe Tryz.prog 80 [aGm ⟨t,gT t⟩,qH x] (rB (kW t x)):=by
 refine qe.of qc (fn:=Tryz.f80) (c:=Tryz.f80.body.getD .skip) (dr:=fun n=>qa 0 [(1,5),(3,5),(10,8),(13,786444)] n) Tryz.func80 rfl (by kernel_rfl) (by kernel_rfl) (by kernel_rfl) ?_
 obtain ⟨f0,hf0⟩:∃ f,f=z6:=⟨_,rfl⟩
 obtain ⟨f1,hf1⟩:∃ f,f=jD:=⟨_,rfl⟩
 obtain ⟨f2,hf2⟩:∃ f,f=Z3:=⟨_,rfl⟩
 obtain ⟨f3,hf3⟩:∃ f,f=KD:=⟨_,rfl⟩
 obtain ⟨f4,hf4⟩:∃ f,f=qkj:=⟨_,rfl⟩
 obtain ⟨f5,hf5⟩:∃ f,f=w4:=⟨_,rfl⟩
 obtain ⟨f6,hf6⟩:∃ f,f=YX:=⟨_,rfl⟩
 have hO:qp Tryz.prog (qJ [(99,jt f0),(100,jt f1),(114,qsB f6),(101,qqY f2),(103,qiR f3),(102,qoV n f4 f5)]):=by
  subst hf0 hf1 hf2 hf3 hf4 hf5 hf6
  exact qb qd2 (qb Vg (qb qqg (qb qoZ (qb qkg (qb hw qd)))))
 have hX:q8 Tryz.prog (XX.withF [10]):=SX.withF_ok fun _ _ _=>R.Sim.none'
 have hst:=h.st
 have hsl:kd t x:=⟨h.sh,qoI h.st⟩
 have hW:=qj9 h.st
 have hsz:x.times.length<=1000/\x.vals.length<=1000:=by
  have h1:=qI hst.sh
  have h2:=hst.now
  have h3:=qR hst.vals
  exact ⟨by omega,by omega⟩
 obtain ⟨l,hl⟩:∃ l,l=f2 t x:=⟨_,rfl⟩
 have hlm:l.length<=16384:=by
  rw [hl,hf2]
  unfold Z3
  split
  . exact Nat.zero_le _
  . rw [qmR];exact (qgS (yn x hst.sh)).2
 have hix:f0 t x=false->f1 t x=false->∀ e∈l,IxT t e/\GmY n t (f3 t x e):=fun h1 h2 e he=>by
  rw [hf0] at h1
  rw [hf1] at h2
  rw [hl,hf2] at he
  exact ⟨qi0 hst.sh he,by rw [hf3];exact h.ends (Jd h1 h2) he⟩
 obtain ⟨p,hp⟩:∃ p:List Int->Bool,p=fun e=>f5 t (f3 t x e):=⟨_,rfl⟩
 have hpk:∀ e,f5 t (f3 t x e)=p e:=fun e=>by rw [hp]
 have hall:f0 t x=false->f1 t x=false->kW t x=(l.drop 0).all p:=fun h1 h2=>by
  rw [hf0] at h1
  rw [hf1] at h2
  rw [hW,h1,h2,hp,List.drop_zero,hl,hf2,hf3,hf5]
  rfl
 have hw0:f0 t x=true->kW t x=false:=fun h1=>by rw [hf0] at h1;rw [hW,h1];rfl
 have hw1:f0 t x=false->f1 t x=true->kW t x=true:=fun h1 h2=>by rw [hf0] at h1;rw [hf1] at h2;rw [hW,h1,h2];rfl
 have hg:gT t (f6 x)=kW t x:=by rw [hf6];exact qsL h.st
 obtain ⟨r,hrd⟩:∃ r,r=kW t x:=⟨_,rfl⟩
 obtain ⟨mg,hmg⟩:∃ g,g=gT t:=⟨_,rfl⟩
 rw [<-hmg,<-hrd] at hg
 rw [<-hrd] at hall hw0 hw1 ⊢
 rw [<-hmg]
 clear hW hw h hf0 hf1 hf2 hf3 hf4 hf5 hf6 hp hrd
 obtain ⟨ns,ts,hr⟩:=t
 obtain ⟨now,times,vals⟩:=x
 refine SEx.go (X:=(XX.withF [10])) qc (fun n=>qa [] [(11,[0,3,5,8,45,46,47])] n) (fun _=>none) hO 100 ?_ hX
 intro M R L N m0 m1 m2 m3 m4 m5
 cases M
 cbv
 repeat' first | refine m1 _ _ ?_ ?_ | refine m2 _ _ fun h=>?_ | refine m3 _ ?_ | (refine m4 _ _ (Hd.out ?_);generalize hks:(List.cons _ _:List K)=ks) | (refine m5 _ _ ?_;cbv)
 all_goals (clear m1 m2 m3 m4 m5;cases m0;try dsimp only)
 all_goals try simp only [sm] at *
 all_goals first
  | exact hst
  | exact hsl
  | exact ⟨hsz.1⟩
  | exact ⟨hsz.2⟩
  | (rw [hw0 (by assumption)];rfl)
  | (rw [hw1 (by assumption) (by assumption)];rfl)
  | (rw [hg];rfl)
  | skip
 have hq0:f0 ⟨ns,ts,hr⟩ ⟨now,times,vals⟩=false:=by assumption
 have hq1:f1 ⟨ns,ts,hr⟩ ⟨now,times,vals⟩=false:=by assumption
 replace hall:=hall hq0 hq1
 replace hix:=hix hq0 hq1
 clear hw0 hw1
 rw [<-hl]
 clear hl
 obtain ⟨m,hm⟩:∃ m,m=l.length:=⟨_,rfl⟩
 rw [<-hm] at hlm ⊢
 have hbad:∀ i,i<m->p (l.getD i [])=false->r=false:=fun i h h2=>by
  rw [hall,List.all_eq_false]
  exact ⟨_,(qn (l:=l) (i:=i) (z:=([]:List Int)) (by omega)).out,by rw [h2];simp⟩
 have hgood:(∀ j,j<m->p (l.getD j [])=true)->r=true:=fun h=>by
  rw [hall,List.all_eq_true]
  intro e he
  obtain ⟨j,hj,rfl⟩:=List.mem_iff_getElem.1 he
  have:=h j (by omega)
  rwa [List.getD_eq_getElem?_getD,List.getElem?_eq_getElem hj] at this
 clear hall
 obtain ⟨ky,hky⟩:∃ k,k=f6 ⟨now,times,vals⟩:=⟨_,rfl⟩
 rw [<-hky] at hg ⊢
 clear hky
 refine ⟨SEx.same (SEx.ind (α:=Nat) (fun i=>⟨73,[(0,.v (false,[.fz (.ptr [.sl (.node false none ns),.sl (.tie ts),.int .i64 hr,.mp mg])])),(3,bP 12288),(5,.v (false,[.fz (.str ky)])),(8,.v (false,[.fz (.bool true true)])),(45,bR 184320 m),(46,bI m),(47,bI i)],[(12288,.obx [.fz (.int .i64 now),.fz (.sl (.i times)),.fz (.sl (.i vals))]),(184320,.osl (.ii true none l))]⟩) (fun _=>rB r) (fun i=>i<=m/\∀ j,j<i->p (l.getD j [])=true) (fun i=>m-i) 0 ⟨Nat.zero_le _,fun j hj=>by omega⟩ ?_) rfl rfl⟩
 rintro i ⟨hi,hpre⟩ ih
 rw [<-hks]
 have hii:i<m->IxT ⟨ns,ts,hr⟩ (l.getD i [])/\GmY n ⟨ns,ts,hr⟩ (f3 ⟨ns,ts,hr⟩ ⟨now,times,vals⟩ (l.getD i [])):=fun h=>hix _ (qn (z:=([]:List Int)) (by omega)).out
 have hpi:=hpk (l.getD i [])
 have hbi:=hbad i
 have hge:i=m->r=true:=fun e=>hgood (by rw [<-e];exact hpre)
 have hst1:i<m->p (l.getD i [])=true->∀ j,j<i+1->p (l.getD j [])=true:=fun _ h j hj=>by
  by_cases e:j=i
  . rw [e];exact h
  . exact hpre j (by omega)
 clear hpk hbad hgood hix
 refine SEx.go (X:=(XX.withF [10])) qc (fun n=>qa [] [(11,[0,3,5,8,45,46,47])] n) (fun _=>none) hO 100 ?_ hX
 intro M R L N m0 m1 m2 m3 m4 m5
 cases M
 cbv
 repeat' first | refine m1 _ _ ?_ ?_ | refine m2 _ _ fun h=>?_ | refine m3 _ ?_ | (refine m4 _ _ (Hd.out ?_);try first | rw [hks] | rw [hk2] | rw [hk3]) | (refine m5 _ _ ?_;cbv)
 all_goals (clear m1 m2 m3 m4 m5;cases m0;(try clear hks;try clear hk2;try clear hk3);try dsimp only)
 all_goals try simp only [sm] at *
 all_goals (try simp only [qg (show i<9223372036854775807 by omega)])
 all_goals first
  | omega
  | exact hst
  | exact (hii (by omega)).1
  | exact (hii (by omega)).2
  | exact ⟨hmg⟩
  | exact ⟨(ih (i+1) ⟨by omega,hst1 (by omega) (by rw [<-hpi];assumption)⟩ (by omega)).same rfl rfl⟩
  | (rw [hg,hbi (by omega) (by rw [<-hpi];assumption)];done)
  | (rw [hbi (by omega) (by rw [<-hpi];assumption)];rfl)
  | (rw [hg,hge (by omega)];done)
  | (rw [hge (by omega)];rfl)
  | skip
theorem Ve:∀ n:Nat,qy Tryz.prog 80 (qjF n kW)
 | 0=>qE fun q x h=>by
   have h0:=h _ (.head _)
   have:=h0.st.now
   have:=h0.fu
   omega
 | n+1=>by
   have h1:=Ve n
   have h2:qy Tryz.prog 41 (qgH n QP):=jv fun q y d h=>by
    have h3:=(h _ (.tail _ (.head _))).out
    obtain ⟨t,g⟩:=q
    dsimp only at h3
    subst h3
    exact qdY h1 t y d (h _ (.head _))
   have h3:qy Tryz.prog 102 (qoV n qkj w4):=qE fun q y h=>by
    have h3:=(h _ (.tail _ (.head _))).out
    obtain ⟨t,g⟩:=q
    dsimp only at h3
    subst h3
    exact qbV h2 t y (h _ (.head _))
   exact qE fun q x h=>by
    have h4:=(h _ (.tail _ (.head _))).out
    obtain ⟨t,g⟩:=q
    dsimp only at h4
    subst h4
    exact qfD h3 t x (h _ (.head _))
end Go.Proofs.YtifnopmkdempdaaGreat.Ai
namespace Go.Proofs.YtifnopmkdempdaaGreat.Ai
open Go
set_option maxRecDepth 100000
variable [qh]
theorem qq.swapCl {J1 J2:qk}{w:World}{σ:Gh}{p:qj}{o:O}{v:Value}(h:@qq J1 w σ p o v):o.clean=true->@qq J2 w σ p o v:=by
 induction h with
 | un p v h=>exact fun _=>@qq.un J2 _ _ p v h
 | fz p c v h=>exact fun hf=>@qq.fz J2 _ _ p c v (h.swapFlat hf)
 | oslz p a=>exact fun _=>@qq.oslz J2 _ _ p a
 | osl p xs e sz g cap cur us hh hc hcm hl hs hg hm hr ih =>
   intro hf
   simp only [O.clean,O.cleanLL_eq,List.all_eq_true] at hf
   exact @qq.osl J2 _ _ p xs e sz g cap cur us hh hc hcm hl hs hg hm fun i j y o hi hj=>ih i j y o hi hj (hf y (List.mem_of_getElem? hi) o (List.mem_of_getElem? hj))
 | obx p cs g e cells us n cap sz hh hl hg hm hr ih =>
   intro hf
   simp only [O.clean,O.cleanL_eq,List.all_eq_true] at hf
   exact @qq.obx J2 _ _ p cs g e cells us n cap sz hh hl hg hm fun j o hj=>ih j o hj (hf o (List.mem_of_getElem? hj))
theorem qU.sw {R S:Nat->O->Value->Prop}{x:V1 O}{v:Value}(h:qU R x v)(hc:∀ j o,x.2[j]?=some o->∀ u,R j o u->S j o u):qU S x v:=by
 obtain ⟨g,cs0⟩:=x
 cases g with
 | true =>
   obtain ⟨cs,h1,h2,h3⟩:=h
   exact ⟨cs,h1,h2,fun j a hj=>by obtain ⟨u,h4,h5⟩:=h3 j a hj;exact ⟨u,h4,hc j a hj u h5⟩⟩
 | false =>
   match cs0,h,hc with
   | [a],h,hc=>exact hc 0 a rfl v h
theorem qV.sw {R S:Nat->Nat->O->Value->Prop}{r:TV O}{v:Value}(h:qV R r v)(hc:∀ k j o,r.cell k j=some o->∀ u,R k j o u->S k j o u):qV S r v:=by
 cases r with
 | v x=>exact qU.sw h fun j o hj u hu=>hc 0 j o (by obtain ⟨g,cs0⟩:=x;simpa [TV.cell] using hj) u hu
 | tup xs =>
   obtain ⟨vs,h1,h2,h3⟩:=h
   refine ⟨vs,h1,h2,fun k x hk=>?_⟩
   obtain ⟨u,h4,h5⟩:=h3 k x hk
   exact ⟨u,h4,qU.sw h5 fun j o hj u hu=>hc k j o (by simp [TV.cell,hk,hj]) u hu⟩
def qhu (r:TV O):Prop:=∀ k j o,r.cell k j=some o->nzO o=none/\o.clean=true
theorem zI.switch {P:Program}{g:FuncId}{args:List (V1 C)}{r:TV O}(g0:Qc)(h:@zI ⟨some g0⟩ P g args r)(hr:qhu r):zI P g args r:=by
 refine ⟨h.1,fun J w vals hfut hold hsz ha=>?_⟩
 let J':qk:=⟨J.J,J.ph,w.heap.size,fun b=>@qk.memo J b,some g0⟩
 have hme:∀ b,b<w.heap.size->@qk.memo J b=@qk.memo J' b:=fun b hb=>by
  show _=(if b<w.heap.size then @qk.memo J b else some g0)
  rw [if_pos hb]
 have hold':@KE J' w:=@KE.mk J' _ (fun b hb=>@KE.lt J _ hold b hb) (Nat.le_refl _)
 refine (h.2 J' w vals rfl hold' hsz fun k x hk=>?_).mono ?_
 . obtain ⟨u,h1,h2⟩:=ha k x hk
   exact ⟨u,h1,qU.imp (fun j a v hv=>hv.swap (J2:=J') (fun b _ hb=>⟨hb.1,hb.2⟩) hme) h2⟩
 . rintro e w' ⟨v,rfl,hres⟩
   refine ⟨v,rfl,?_⟩
   obtain ⟨σr,h1,h2,h3,h4⟩:=@jH.rep J' _ _ _ _ hres
   have hb:=@jH.below J' _ _ _ _ hres
   refine @jH.mk J _ _ _ _ (@zN.mk J _ _ (@zN.os J' _ _ hb) (@zN.tape J' _ _ hb) (@zN.output J' _ _ hb) (@zN.size J' _ _ hb) fun b hlt=>?_) ⟨σr,h1,h2,?_,h4⟩
   . rcases @zN.heap J' _ _ hb b hlt with h5 | ⟨m,x,x',h5,h6⟩
     . exact .inl h5
     . exact .inr ⟨m,x,x',by rw [hme b hlt];exact h5,h6⟩
   . refine qV.sw h3 fun k j o ho u hu=>?_
     obtain ⟨h5,h6⟩:=hr k j o ho
     unfold vY at hu ⊢
     rw [h5] at hu ⊢
     exact qq.swapCl hu h6
theorem qe.switch {P:Program}{g:FuncId}{args:List (V1 D)}{r:TV W}(g0:Qc)(h:@qe ⟨some g0⟩ P g args r)(hr:qhu (r.er W.erL)):qe P g args r:=zI.switch g0 h hr
def rGm (t:ql)(g:Qc):TV W:=.v (false,[.fz (.ptr [.sl (.node false none t.nodes),.sl (.tie t.ties),.int .i64 t.hor,.mp g])])
theorem qhG (g:Qc)(t:ql):@qe ⟨some g⟩ Tryz.prog 40 [qQ t] (rGm t g):=by
 letI:qh:=⟨some g⟩
 refine qe.of qc (fn:=Tryz.f40) (c:=Tryz.f40.body.getD .skip) (dr:=fun n=>qa 0 [] n) Tryz.func40 rfl (by kernel_rfl) (by kernel_rfl) (by kernel_rfl) ?_
 have hX:q8 Tryz.prog (XX.withF [2,6]):=SX.withF_ok fun _ _ _=>R.Sim.none'
 obtain ⟨ns,ts,hr⟩:=t
 refine SEx.go (X:=(XX.withF [2,6])) qc (fun n=>qa [] [] n) (fun _=>none) qd 60 ?_ hX
 intro M R L N m0 m1 m2 m3 m4 m5
 cases M
 cbv
 repeat' first | refine m1 _ _ ?_ ?_ | refine m2 _ _ fun h=>?_ | refine m3 _ ?_ | (refine m4 _ _ (Hd.out ?_);try first | rw [hks] | rw [hk2] | rw [hk3]) | (refine m5 _ _ ?_;cbv)
 all_goals (clear m1 m2 m3 m4 m5;cases m0;(try clear hks;try clear hk2;try clear hk3);try dsimp only)
 all_goals try simp only [sm] at *
 all_goals rfl
def qsD (g:Qc):Wr:=w1 qN (fun t=>rGm t g) (fun _=>[])
theorem qpq (g:Qc):@qy ⟨some g⟩ Tryz.prog 40 (qsD g):=@zx ⟨some g⟩ _ _ _ _ _ _ fun t _=>qhG g t
end Go.Proofs.YtifnopmkdempdaaGreat.Ai
namespace Go.Proofs.YtifnopmkdempdaaGreat.Ai
open Go
set_option maxRecDepth 100000
variable [qh]
theorem qkO (l:List Int)(b:Bool):qhu ((wO l b).er W.erL):=by
 intro k j o h
 match k,j,h with
 | 0,0,h =>
   have h:some (W.osl (.i l)).er=some o:=h
   injection h with h
   subst h
   exact ⟨rfl,LL.clean_ro (.i l) rfl⟩
 | 0,j+1,h=>have h:(none:Option O)=some o:=h;cases h
 | 1,0,h =>
   have h:some (W.fz (.bool false b)).er=some o:=h
   injection h with h
   subst h
   exact ⟨rfl,rfl⟩
 | 1,j+1,h=>have h:(none:Option O)=some o:=h;cases h
 | k+2,j,h=>have h:(none:Option O)=some o:=h;cases h
theorem qr2 {t:ql}{y:qf}(hs:jw t)(h:Qi t y=true):GmY 12 t y:=by
 have hm:=JA h
 have h1:=hm.lo
 have h2:=zp hm.sh
 exact ⟨hs,h,by omega⟩
end Go.Proofs.YtifnopmkdempdaaGreat.Ai
namespace Go.Proofs.YtifnopmkdempdaaGreat.Ai
open Go
set_option maxRecDepth 100000
variable [qh]
theorem qjr {t:ql}{y:qf}(hs:jw t){d:List Int}(h:d∈KB t y):GmD 12 t y d:=by
 unfold KB at h
 cases hm:Qi t y with
 | false=>rw [hm] at h;cases h
 | true =>
   rw [hm] at h
   have hy:=qr2 hs hm
   exact ⟨hy,qg2 hy.en h⟩
end Go.Proofs.YtifnopmkdempdaaGreat.Ai
namespace Go.Proofs.YtifnopmkdempdaaGreat.Ai
open Go
set_option maxRecDepth 100000
variable [qh]
theorem qjj (o:Option (List Int)):qg5 o=wO (o.getD []) o.isSome:=by cases o<;>rfl
end Go.Proofs.YtifnopmkdempdaaGreat.Ai
namespace Go.Proofs.YtifnopmkdempdaaGreat.Ai
open Go
set_option maxRecDepth 100000
variable [qh]
def adS (t:ql)(x:qf)(l:List Int):qf:=match wn t x l with | true=>wJ x l | false=>⟨0,[],[]⟩
def adP (t:ql)(x:qf)(l:List Int):List Int:=match wn t x l with | true=>q9 t.nodes l | false=>[]
theorem qrp (t:ql)(x:qf)(l:List Int):adR (wJ x l) (q9 t.nodes l) (wn t x l)=qqx (adS t x l) (adP t x l) (wn t x l):=by
 unfold adS adP adR
 cases wn t x l<;>rfl
theorem qpa (t:ql)(x:qf)(l:List Int):(adP t x l).length<=3:=by
 unfold adP
 cases wn t x l
 . exact Nat.zero_le _
 . exact JP _ _
def qsk (fs:ql->qf->List Int->qf)(fp:ql->qf->List Int->List Int)(f:ql->qf->List Int->Bool):Wr:=w3 qN qF zX (fun t x l=>qqx (fs t x l) (fp t x l) (f t x l)) (fun t x l=>[qrL t x l])
theorem qoS:qy Tryz.prog 62 (qsk adS adP wn):=jv fun t x l h=>by
 have h:=h _ (.head _)
 rw [<-qrp]
 exact qaV t x l h.le h.sz h.len
end Go.Proofs.YtifnopmkdempdaaGreat.Ai
namespace Go.Proofs.YtifnopmkdempdaaGreat.Ai
open Go
set_option maxRecDepth 100000
variable [qh]
def bvO (t:ql)(y:qf)(d:List Int):Option (List Int):=(jr (q9 t.nodes d)).find? fun vs=>!kW t (nxS t y d vs)
def bvF (t:ql)(y:qf)(d:List Int):Option (List Int):=match wn t y d with | true=>bvO t y d | false=>none
def bvL (t:ql)(y:qf)(d:List Int):List Int:=(bvF t y d).getD []
def bvB (t:ql)(y:qf)(d:List Int):Bool:=(bvF t y d).isSome
theorem qee (t:ql)(y:qf)(d:List Int)(h:GmD 12 t y d):qe Tryz.prog 66 [aGm ⟨t,gT t⟩,qH y,aIs d] (qg5 (bvO t y d)):=by
 refine qe.of qc (fn:=Tryz.f66) (c:=Tryz.f66.body.getD .skip) (dr:=fun n=>qa 0 [(1,655371)] n) Tryz.func66 rfl (by kernel_rfl) (by kernel_rfl) (by kernel_rfl) ?_
 obtain ⟨f1,hf1⟩:∃ f,f=wJ:=⟨_,rfl⟩
 obtain ⟨f2,hf2⟩:∃ f,f=q9:=⟨_,rfl⟩
 obtain ⟨f3,hf3⟩:∃ f,f=jr:=⟨_,rfl⟩
 obtain ⟨f4,hf4⟩:∃ f,f=obF:=⟨_,rfl⟩
 obtain ⟨f5,hf5⟩:∃ f,f=kW:=⟨_,rfl⟩
 obtain ⟨g1,hg1⟩:∃ f,f=nxI:=⟨_,rfl⟩
 have hO:qp Tryz.prog (qJ [(78,qk5 f1 f2),(79,qke f3),(81,qkR g1 f4),(80,qjF 12 f5)]):=by
  subst hf1 hf2 hf3 hf4 hf5 hg1
  exact qb qeu (qb qdK (qb qdP (qb (Ve 12) qd)))
 have hX:q8 Tryz.prog (XX.withF [11]):=SX.withF_ok fun _ _ _=>R.Sim.none'
 have hen:=h.gy.en
 have hix:=h.gd.ix
 have hsl:=qI hen.v.sh
 have hy3:=qR hen.v.vals
 have hytl:=hen.tl
 obtain ⟨ps,hps⟩:∃ ps,ps=f2 t.nodes d:=⟨_,rfl⟩
 obtain ⟨yd,hyd⟩:∃ z,z=f1 y d:=⟨_,rfl⟩
 obtain ⟨vl,hvl⟩:∃ vl,vl=f3 ps:=⟨_,rfl⟩
 have hpl:ps.length<=3:=by rw [hps,hf2];exact JP _ _
 have hpt:∀ p∈ps,1<=p/\p<=3:=by rw [hps,hf2];exact ZQ _ _
 have hsm:=Ko ps
 rw [<-hf3,<-hvl] at hsm
 have hz:Kr yd:=by rw [hyd,hf1];exact ⟨by show (Za _ _ _ _).length<=_;rw [je];omega,by show y.vals.length<=_;omega⟩
 have hz3:yd.vals.length=3:=by rw [hyd,hf1];exact hy3
 have hvs:∀ vs∈vl,vs.length=ps.length/\GmX 12 t ⟨g1 yd.now,yd.times,f4 yd.vals ps vs⟩:=by
  intro vs hv
  rw [hvl,hf3] at hv
  refine ⟨(Ks hv).len,?_⟩
  have h2:vs∈jr (q9 t.nodes d):=by rw [hps,hf2] at hv;exact hv
  have h1:=h.gy.next h.gd.ok h2
  rw [hg1,hf4,hyd,hf1,hps,hf2]
  exact h1
 obtain ⟨p,hp⟩:∃ p:List Int->Bool,p=fun vs=>!f5 t ⟨g1 yd.now,yd.times,f4 yd.vals ps vs⟩:=⟨_,rfl⟩
 have hpk:∀ vs,p vs=!f5 t ⟨g1 yd.now,yd.times,f4 yd.vals ps vs⟩:=fun vs=>by rw [hp]
 have hr:bvO t y d=(vl.drop 0).find? p:=by
  rw [hp,List.drop_zero,hvl,hyd,hps,hf1,hf2,hf3,hf4,hf5,hg1];rfl
 rw [hr]
 obtain ⟨mg,hmg⟩:∃ g,g=gT t:=⟨_,rfl⟩
 rw [<-hmg]
 clear hr hf1 hf2 hf3 hf4 hf5 hg1 h hp
 obtain ⟨ns,ts,hr⟩:=t
 obtain ⟨now,times,vals⟩:=y
 refine SEx.go (X:=(XX.withF [11])) qc (fun n=>qa [] [(3,[0,8,9,23,24,25])] n) (fun _=>none) hO 60 ?_ hX
 intro M R L N m0 m1 m2 m3 m4 m5
 cases M
 cbv
 repeat' first | refine m1 _ _ ?_ ?_ | refine m2 _ _ fun h=>?_ | refine m3 _ ?_ | (refine m4 _ _ (Hd.out ?_);generalize hks:(List.cons _ _:List K)=ks) | (refine m5 _ _ ?_;cbv)
 all_goals (clear m1 m2 m3 m4 m5;cases m0;try dsimp only)
 all_goals try simp only [sm] at *
 all_goals first
  | exact hen
  | exact hix
  | (refine ⟨?_⟩;rw [<-hps];omega;done)
  | skip
 all_goals
  rw [<-hps,<-hyd]
  rw [<-hvl]
  clear hen hix
  obtain ⟨m,hm⟩:∃ m,m=vl.length:=⟨_,rfl⟩
  rw [<-hm] at hsm ⊢
  obtain ⟨ydn,ydt,ydv⟩:=yd
  dsimp only at hz3 hvs hpk ⊢
  obtain ⟨np,hnp⟩:∃ np,np=ps.length:=⟨_,rfl⟩
  rw [<-hnp]
  refine ⟨SEx.same (SEx.idx m (fun i=>⟨38,[(0,.v (false,[.fz (.ptr [.sl (.node false none ns),.sl (.tie ts),.int .i64 hr,.mp mg])])),(8,bP 32768),(9,bR 36864 np),(23,bR 94208 m),(24,bI m),(25,bI i)],[(32768,.obx [.fz (.int .i64 ydn),.osl (.i ydt),.osl (.i ydv)]),(36864,.osl (.i ps)),(94208,.osl (.ii true none vl))]⟩) (fun i=>qg5 ((vl.drop i).find? p)) ?_) rfl rfl⟩
  intro i hi ih
  rw [<-hks]
  have hvi:i<m->(vl.getD i []).length=ps.length/\GmX 12 ⟨ns,ts,hr⟩ ⟨g1 ydn,ydt,f4 ydv ps (vl.getD i [])⟩:=fun h=>hvs _ (qn (z:=([]:List Int)) (by omega)).out
  have hd:i<m->(vl.drop i).find? p=if p (vl.getD i [])=true then some (vl.getD i []) else (vl.drop (i+1)).find? p:=fun h=>wl [] (by omega)
  have hpi:=hpk (vl.getD i [])
  clear hvs hpk
  refine SEx.go (X:=(XX.withF [11])) qc (fun n=>qa [] [(3,[0,8,9,23,24,25])] n) (fun _=>none) hO 60 ?_ hX
  intro M R L N m0 m1 m2 m3 m4 m5
  cases M
  cbv
  repeat' first | refine m1 _ _ ?_ ?_ | refine m2 _ _ fun h=>?_ | refine m3 _ ?_ | (refine m4 _ _ (Hd.out ?_);try first | rw [hks] | rw [hk2] | rw [hk3]) | (refine m5 _ _ ?_;cbv)
  all_goals (clear m1 m2 m3 m4 m5;cases m0;(try clear hks;try clear hk2;try clear hk3);try dsimp only)
  all_goals try simp only [sm] at *
  all_goals first
   | omega
   | exact hz
   | exact ⟨hmg⟩
   | exact ⟨hz3⟩
   | exact ⟨(hvi (by omega)).1⟩
   | exact ⟨hpt⟩
   | exact (hvi (by omega)).2
   | (refine ⟨?_⟩;omega;done)
   | (rw [hd (by omega),if_pos (by rw [hpi,show f5 _ _=false by assumption];rfl)];rfl)
   | (simp only [qg (show i<9223372036854775807 by omega)];exact ⟨(ih (by omega)).same rfl (by rw [hd (by omega),if_neg (by rw [hpi,show f5 _ _=true by assumption];decide)])⟩)
   | (rw [List.drop_eq_nil_of_le (by omega)];rfl)
   | skip
def qsg (o:ql->qf->List Int->Option (List Int)):Wr:=w3 qp7 qF zX (fun q x d=>wO ((o q.t x d).getD []) (o q.t x d).isSome) (fun q x d=>[GmD 12 q.t x d,GmM q])
theorem qp8:qy Tryz.prog 66 (qsg bvO):=jv fun q x d h=>by
 have h4:=(h _ (.tail _ (.head _))).out
 obtain ⟨t,g⟩:=q
 dsimp only at h4
 subst h4
 rw [<-qjj]
 exact qee t x d (h _ (.head _))
theorem qg4 (t:ql)(y:qf)(d:List Int)(hs:kd t y)(hl:d.length<=1048576):@qe ⟨some (gT t)⟩ Tryz.prog 29 [qQ t,qH y,aIs d] (wO (bvL t y d) (bvB t y d)):=by
 letI:qh:=⟨some (gT t)⟩
 refine qe.of qc (fn:=Tryz.f29) (c:=Tryz.f29.body.getD .skip) (dr:=fun n=>qa 0 [(3,7)] n) Tryz.func29 rfl (by kernel_rfl) (by kernel_rfl) (by kernel_rfl) ?_
 obtain ⟨f1,hf1⟩:∃ f,f=KB:=⟨_,rfl⟩
 obtain ⟨f2,hf2⟩:∃ f,f=VM:=⟨_,rfl⟩
 obtain ⟨f3,hf3⟩:∃ f,f=bvO:=⟨_,rfl⟩
 obtain ⟨mg,hmg⟩:∃ g,g=gT t:=⟨_,rfl⟩
 have hO:qp Tryz.prog (qJ [(39,qo2 f1),(38,qj5 f2),(40,qsD mg),(66,qsg f3)]):=by
  subst hf1 hf2 hf3 hmg
  exact qb qlA (qb qme (qb (qpq (gT t)) (qb qp8 qd)))
 have h1:=qav t y
 have hin:f2 (f1 t y) d=true->GmD 12 t y d:=fun h=>by rw [hf2,Yr,hf1] at h;exact qjr hs.sh h
 have hr0:f2 (f1 t y) d=false->bvF t y d=none:=fun h=>by
  rw [hf1,hf2] at h
  unfold bvF
  rw [show wn t y d=false from h]
 have hr1:f2 (f1 t y) d=true->bvF t y d=f3 t y d:=fun h=>by
  rw [hf1,hf2] at h
  unfold bvF
  rw [show wn t y d=true from h,hf3]
 rw [<-hf1] at h1
 have hr:wO (bvL t y d) (bvB t y d)=wO ((bvF t y d).getD []) (bvF t y d).isSome:=rfl
 rw [hr]
 obtain ⟨o,ho⟩:∃ o,o=bvF t y d:=⟨_,rfl⟩
 rw [<-ho] at hr0 hr1 ⊢
 clear hf1 hf2 hf3 ho hr
 obtain ⟨a,ha⟩:∃ a,a=o.getD []:=⟨_,rfl⟩
 obtain ⟨b,hb⟩:∃ b,b=o.isSome:=⟨_,rfl⟩
 rw [<-ha,<-hb]
 obtain ⟨ns,ts,hr⟩:=t
 obtain ⟨now,times,vals⟩:=y
 refine SEx.go (X:=XX) qc (fun n=>qa [] [] n) (fun _=>none) hO 60 ?_
 intro M R L N m0 m1 m2 m3 m4 m5
 cases M
 cbv
 repeat' first | refine m1 _ _ ?_ ?_ | refine m2 _ _ fun h=>?_ | refine m3 _ ?_ | (refine m4 _ _ (Hd.out ?_);try first | rw [hks] | rw [hk2] | rw [hk3]) | (refine m5 _ _ ?_;cbv)
 all_goals (clear m1 m2 m3 m4 m5;cases m0;(try clear hks;try clear hk2;try clear hk3);try dsimp only)
 all_goals try simp only [sm] at *
 all_goals first
  | exact hs
  | exact ⟨hmg⟩
  | exact ⟨Nat.le_trans h1.1 (by decide),fun y hy=>Nat.le_trans (h1.2 y hy) (by decide)⟩
  | exact ⟨Nat.le_trans hl (by decide)⟩
  | exact hin (by assumption)
  | (rw [ha,hb,hr0 (by assumption)];rfl)
  | (rw [ha,hb,hr1 (by assumption)];rfl)
  | skip
theorem qkh (t:ql)(y:qf)(d:List Int)(hs:kd t y)(hl:d.length<=1048576):qe Tryz.prog 29 [qQ t,qH y,aIs d] (wO (bvL t y d) (bvB t y d)):=qe.switch (gT t) (qg4 t y d hs hl) (qkO _ _)
theorem qkq (t:ql)(y:qf)(d:List Int)(hq:qrL t y d):qe Tryz.prog 28 [qQ t,qH y,aIs d] (wO (bvL t y d) (bvB t y d)):=by
 refine qe.of qc (fn:=Tryz.f28) (c:=Tryz.f28.body.getD .skip) (dr:=fun n=>qa 0 [(7,5)] n) Tryz.func28 rfl (by kernel_rfl) (by kernel_rfl) (by kernel_rfl) ?_
 obtain ⟨f1,hf1⟩:∃ f,f=adS:=⟨_,rfl⟩
 obtain ⟨f2,hf2⟩:∃ f,f=adP:=⟨_,rfl⟩
 obtain ⟨f0,hf0⟩:∃ f,f=wn:=⟨_,rfl⟩
 obtain ⟨f3,hf3⟩:∃ f,f=jr:=⟨_,rfl⟩
 obtain ⟨f4,hf4⟩:∃ f,f=obF:=⟨_,rfl⟩
 obtain ⟨f5,hf5⟩:∃ f,f=kW:=⟨_,rfl⟩
 obtain ⟨g1,hg1⟩:∃ f,f=nxI:=⟨_,rfl⟩
 have hO:qp Tryz.prog (qJ [(62,qsk f1 f2 f0),(63,qke f3),(65,qkR g1 f4),(64,qpF 12 f5)]):=by
  subst hf1 hf2 hf0 hf3 hf4 hf5 hg1
  exact qb qoS (qb qer (qb qeF (qb (qeh 12) qd)))
 have hX:q8 Tryz.prog (XX.withF [12]):=SX.withF_ok fun _ _ _=>R.Sim.none'
 obtain ⟨ps,hps⟩:∃ ps,ps=f2 t y d:=⟨_,rfl⟩
 obtain ⟨yd,hyd⟩:∃ z,z=f1 t y d:=⟨_,rfl⟩
 obtain ⟨vl,hvl⟩:∃ vl,vl=f3 ps:=⟨_,rfl⟩
 have hpl:ps.length<=3:=by rw [hps,hf2];exact qpa _ _ _
 have hsm:=Ko ps
 rw [<-hf3,<-hvl] at hsm
 obtain ⟨p,hp⟩:∃ p:List Int->Bool,p=fun vs=>!f5 t ⟨g1 yd.now,yd.times,f4 yd.vals ps vs⟩:=⟨_,rfl⟩
 have hpk:∀ vs,p vs=!f5 t ⟨g1 yd.now,yd.times,f4 yd.vals ps vs⟩:=fun vs=>by rw [hp]
 have hr0:f0 t y d=false->bvF t y d=none:=fun h=>by
  rw [hf0] at h
  unfold bvF
  rw [h]
 have hon:f0 t y d=true->(∀ p∈ps,1<=p/\p<=3)/\Kr yd/\yd.vals.length=3/\(∀ vs∈vl,vs.length=ps.length/\GmX 12 t ⟨g1 yd.now,yd.times,f4 yd.vals ps vs⟩)/\bvF t y d=(vl.drop 0).find? p:=fun h=>by
  rw [hf0] at h
  have e1:ps=q9 t.nodes d:=by rw [hps,hf2];unfold adP;rw [h]
  have e2:yd=wJ y d:=by rw [hyd,hf1];unfold adS;rw [h]
  have h':GmD 12 t y d:=by unfold wn at h;rw [Yr] at h;exact qjr hq.le.sh h
  have hen:=h'.gy.en
  have hsl:=qI hen.v.sh
  have hy3:=qR hen.v.vals
  have hytl:=hen.tl
  refine ⟨by rw [e1];exact ZQ _ _,by rw [e2];exact ⟨by show (Za _ _ _ _).length<=_;rw [je];omega,by show y.vals.length<=_;omega⟩,by rw [e2];exact hy3,fun vs hv=>?_,?_⟩
  . rw [hvl,hf3] at hv
    refine ⟨(Ks hv).len,?_⟩
    rw [e1] at hv
    have h1:=h'.gy.next h'.gd.ok hv
    rw [hg1,hf4,e2,e1]
    exact h1
  . unfold bvF
    rw [h]
    show bvO t y d=_
    rw [hp,List.drop_zero,hvl,e2,e1,hf3,hf4,hf5,hg1];rfl
 have hr:wO (bvL t y d) (bvB t y d)=qg5 (bvF t y d):=(qjj _).symm
 rw [hr]
 obtain ⟨o,ho⟩:∃ o,o=bvF t y d:=⟨_,rfl⟩
 rw [<-ho] at hr0 hon ⊢
 clear hr hf0 hf1 hf2 hf3 hf4 hf5 hg1 hp ho
 obtain ⟨ns,ts,hr⟩:=t
 obtain ⟨now,times,vals⟩:=y
 refine SEx.go (X:=(XX.withF [12])) qc (fun n=>qa [] [(5,[3,8,9,24,25,26])] n) (fun _=>none) hO 60 ?_ hX
 intro M R L N m0 m1 m2 m3 m4 m5
 cases M
 cbv
 repeat' first | refine m1 _ _ ?_ ?_ | refine m2 _ _ fun h=>?_ | refine m3 _ ?_ | (refine m4 _ _ (Hd.out ?_);generalize hks:(List.cons _ _:List K)=ks) | (refine m5 _ _ ?_;cbv)
 all_goals (clear m1 m2 m3 m4 m5;cases m0;try dsimp only)
 all_goals try simp only [sm] at *
 all_goals first
  | exact hq
  | (rw [hr0 (by assumption)];rfl)
  | (refine ⟨?_⟩;rw [<-hps];omega;done)
  | skip
 all_goals
  obtain ⟨hpt,hz,hz3,hvs,hro⟩:=hon (by assumption)
  rw [hro]
  clear hr0
  rw [<-hps,<-hyd]
  rw [<-hvl]
  obtain ⟨m,hm⟩:∃ m,m=vl.length:=⟨_,rfl⟩
  rw [<-hm] at hsm ⊢
  obtain ⟨ydn,ydt,ydv⟩:=yd
  dsimp only at hz3 hvs hpk ⊢
  obtain ⟨np,hnp⟩:∃ np,np=ps.length:=⟨_,rfl⟩
  rw [<-hnp]
  refine ⟨SEx.same (SEx.idx m (fun i=>⟨39,[(3,bP 12288),(8,bP 32768),(9,bR 36864 np),(24,bR 98304 m),(25,bI m),(26,bI i)],[(12288,.obx [.fz (.sl (.node false none ns)),.fz (.sl (.tie ts)),.fz (.int .i64 hr)]),(32768,.obx [.fz (.int .i64 ydn),.osl (.i ydt),.osl (.i ydv)]),(36864,.osl (.i ps)),(98304,.osl (.ii true none vl))]⟩) (fun i=>qg5 ((vl.drop i).find? p)) ?_) rfl rfl⟩
  intro i hi ih
  rw [<-hks]
  have hvi:i<m->(vl.getD i []).length=ps.length/\GmX 12 ⟨ns,ts,hr⟩ ⟨g1 ydn,ydt,f4 ydv ps (vl.getD i [])⟩:=fun h=>hvs _ (qn (z:=([]:List Int)) (by omega)).out
  have hd:i<m->(vl.drop i).find? p=if p (vl.getD i [])=true then some (vl.getD i []) else (vl.drop (i+1)).find? p:=fun h=>wl [] (by omega)
  have hpi:=hpk (vl.getD i [])
  clear hvs hpk hon
  refine SEx.go (X:=(XX.withF [12])) qc (fun n=>qa [] [(5,[3,8,9,24,25,26])] n) (fun _=>none) hO 60 ?_ hX
  intro M R L N m0 m1 m2 m3 m4 m5
  cases M
  cbv
  repeat' first | refine m1 _ _ ?_ ?_ | refine m2 _ _ fun h=>?_ | refine m3 _ ?_ | (refine m4 _ _ (Hd.out ?_);try first | rw [hks] | rw [hk2] | rw [hk3]) | (refine m5 _ _ ?_;cbv)
  all_goals (clear m1 m2 m3 m4 m5;cases m0;(try clear hks;try clear hk2;try clear hk3);try dsimp only)
  all_goals try simp only [sm] at *
  all_goals first
   | omega
   | exact hz
   | exact ⟨hz3⟩
   | exact ⟨(hvi (by omega)).1⟩
   | exact ⟨hpt⟩
   | exact (hvi (by omega)).2
   | (refine ⟨?_⟩;omega;done)
   | (rw [hd (by omega),if_pos (by rw [hpi,show f5 _ _=false by assumption];rfl)];rfl)
   | (simp only [qg (show i<9223372036854775807 by omega)];exact ⟨(ih (by omega)).same rfl (by rw [hd (by omega),if_neg (by rw [hpi,show f5 _ _=true by assumption];decide)])⟩)
   | (rw [List.drop_eq_nil_of_le (by omega)];rfl)
   | skip
theorem qqc (t:ql)(y:qf)(d:List Int):(bvL t y d).length<=3:=by
 unfold bvL bvF
 cases wn t y d with
 | false=>exact Nat.zero_le _
 | true =>
   show ((bvO t y d).getD []).length<=3
   unfold bvO
   cases h2:(jr (q9 t.nodes d)).find? fun vs=>!kW t (nxS t y d vs) with
   | none=>exact Nat.zero_le _
   | some v=>exact Nat.le_trans (Nat.le_of_eq (Ks (List.mem_of_find?_eq_some h2)).len) (JP _ _)
def wBV (a:ql->qf->List Int->List Int)(b:ql->qf->List Int->Bool):Wr:=w3 qN qF zX (fun t y d=>wO (a t y d) (b t y d)) (fun t y d=>[qrL t y d])
theorem qpK:qy Tryz.prog 29 (wBV bvL bvB):=jv fun t y d h=>by
 have h:=h _ (.head _)
 exact qkh t y d h.le h.len
theorem qpp:qy Tryz.prog 28 (wBV bvL bvB):=jv fun t y d h=>qkq t y d (h _ (.head _))
end Go.Proofs.YtifnopmkdempdaaGreat.Ai
namespace Go.Proofs.YtifnopmkdempdaaGreat.Ai
open Go
set_option maxRecDepth 100000
variable [qh]
end Go.Proofs.YtifnopmkdempdaaGreat.Ai
