/- The law's proof, part 8 of 10: what of its author's texts it needs; no condition. -/
import Derived.Sort.Grow
import Derived.Sort.Row
import Derived.Test.YtececadpjelanaaGreatZeG
set_option linter.unusedSectionVars false
set_option linter.unusedSimpArgs false
set_option linter.unusedVariables false
namespace Go.Proofs.YtececadpjelanaaGreat.Ai
open Go
set_option maxRecDepth 100000
variable [qh]
def zF (l:List Int):List (List O):=l.map fun x=>[.fz (.int .i64 x)]
theorem Yc:∀ l:List Int,roI l=zF l
 | []=>rfl
 | x::l=>by unfold zF;simp only [roI,List.map_cons];try (rw [Yc l])
theorem J0 (o:O)(id:Nat):qa .un [(lrt 0,o)] id=if id=lrt 0 then o else .un:=by
 by_cases h:id=lrt 0
 . subst h;rw [qp,if_pos rfl,if_pos rfl]
 . rw [qp,if_neg (Ne.symm h),if_neg h];rfl
theorem qiH {J:qi}{w w':World}{σ:Gh}{l l':List Int}(hin:@kK J w σ [(lrt 0,.osl (zF l))] [.rf (lrt 0,[]) 0 l.length])(hl:l'.length=l.length)
 {g cap:Nat} {e:TypeId} {cur':Array Value} (hg:σ g=some ⟨(lrt 0,[]),l.length,cap,1⟩) (hpos:0<l.length) (hh':w'.heap[g]?=some (.cells cur' e (0,0))) (hc:l.length<=cap) (hcm:cap<=maxLen) (hs:cur'.size=cap)
 (hv:∀ (i:Nat) (x:Int),l'[i]?=some x->cur'[i]?=some (Value.int .i64 x)) (hsz:w.heap.size<=w'.heap.size) (hos:w'.os=w.os) (ht:w'.tape=w.tape) (ho:w'.output=w.output) (hb:∀ b,b<w.heap.size->b≠g->w'.heap[b]?=w.heap[b]?) :
 (@qF J w σ w' σ)/\@kK J w' σ [(lrt 0,.osl (zF l'))] [.rf (lrt 0,[]) 0 l.length]:=by
 letI:=J
 have hlen:(zF l').length=l.length:=by simp [zF,hl]
 refine ⟨⟨⟨fun b _ h=>h,fun b hb1 h0=>.inl (hb b hb1 (fun e=>by subst e;rw [hg] at h0;cases h0))⟩,hsz,hos,ht,ho⟩,⟨hin.inj,fun g' x hx=>Nat.lt_of_lt_of_le (hin.lt g' x hx) hsz,fun id=>?_,fun i x hi=>?_,?_⟩⟩
 . rw [J0]
   by_cases h:id=lrt 0
   . subst h
     rw [if_pos rfl]
     refine ⟨_,qo.osl (lrt 0,[]) (zF l') e 1 g cap cur' (fun i _=>.int .i64 (l'.getD i 0)) hh' ⟨by omega,by omega⟩ hcm (by omega) (fun y hy=>?_) (by rw [hlen];exact hg) (fun i j y o hi hj=>?_) fun i j y o hi hj=>?_⟩
     . obtain ⟨x,_,rfl⟩:=List.mem_map.1 hy;rfl
     . unfold zF at hi
       rw [List.getElem?_map] at hi
       cases hx:l'[i]? with
       | none=>rw [hx] at hi;cases hi
       | some x =>
         rw [hx] at hi
         injection hi with hi
         subst hi
         cases j with
         | zero=>rw [show i * 1+0=i by omega,hv i x hx,List.getD_eq_getElem?_getD,hx];rfl
         | succ j=>cases hj
     . unfold zF at hi
       rw [List.getElem?_map] at hi
       cases hx:l'[i]? with
       | none=>rw [hx] at hi;cases hi
       | some x =>
         rw [hx] at hi
         injection hi with hi
         subst hi
         cases j with
         | zero =>
           injection hj with hj
           subst hj
           dsimp only
           rw [List.getD_eq_getElem?_getD,hx]
           exact .fz _ _ _ (.int _ _)
         | succ j=>cases hj
   . rw [if_neg h]
     obtain ⟨v,hv⟩:=hin.tbl id
     rw [J0,if_neg h] at hv
     cases hv with
     | un _ _ hv=>exact ⟨v,.un _ v hv⟩
 . have h1:=hin.ph i x hi
   have hx:x=.rf (lrt 0,[]) 0 l.length:=by
    cases i with
    | zero=>injection hi with hi;exact hi.symm
    | succ i=>cases hi
   subst hx
   generalize qi.ph i=v at h1 ⊢
   generalize hn:l.length=n at h1
   cases h1 with
   | rf _ _ _ g n cap sz h2 h3 h4=>exact .rf _ _ _ g n cap sz h2 h3 h4
   | rz=>omega
 . intro g' x hx
   left
   have hd:=hin.dom g' x hx
   rcases hd with hd | ⟨q,o,s,hm,_⟩
   . obtain ⟨p,n,c,z⟩:=x
     obtain ⟨r,s⟩:=p
     unfold Fr.at at hd ⊢
     dsimp only at hd ⊢
     rw [J0] at hd ⊢
     by_cases h:r=lrt 0
     . rw [if_pos h] at hd ⊢
       cases s with
       | nil =>
         have hd:(zF l).length=n/\0<n:=hd
         show (zF l').length=n/\0<n
         rw [hlen]
         simp [zF] at hd
         exact hd
       | cons a s =>
         exfalso
         obtain ⟨i,j⟩:=a
         unfold O.at at hd
         split at hd
         . rename_i y hy
           have hy:(zF l)[i]?=some y:=hy
           unfold zF at hy
           rw [List.getElem?_map] at hy
           cases hq:l[i]? with
           | none=>rw [hq] at hy;cases hy
           | some q =>
             rw [hq] at hy
             injection hy with hy
             subst hy
             split at hd
             . rename_i o ho
               cases j with
               | zero =>
                 injection ho with ho
                 subst ho
                 cases s<;>exact hd
               | succ j=>cases ho
             . exact hd
         . exact hd
     . rw [if_neg h] at hd
       exfalso
       cases s<;>exact hd
   . cases hm
def Qk (l:List Int):List Int:=l.mergeSort fun x y=>decide (x<=y)
theorem Q4 (l:List Int):(Qk l).length=l.length:=by unfold Qk;simp
theorem qea {P : Program} {f : FuncId} (hf : ∃ fn c, P.funcs[f]? = some fn ∧ fn.body = some c ∧ (fn.name == "runtime.NumGoroutine") = false)
 (h0:∀ (p:Option Addr) (cap:Nat) (w:World),Calls P f #[.slice p 0 cap] w fun e w'=>e=.returned (.tuple #[])/\w'=w)
 (h1:∀ (blk off cap:Nat) (zs:List Int) (w:World),Sort.Holds (Value.int .i64) w blk off zs.toArray->blk<w.heap.size->zs.length<4611686018427387904 →
   Calls P f #[.slice (some ⟨blk,off,none⟩) zs.length cap] w fun e w'=>e=.returned (.tuple #[])/\∃ n os,w'=Sort.grow (Sort.putRow (Value.int .i64) (Sort.ahead w n) blk off (Qk zs).toArray) os)
 (l:List Int) (hl:l.length<4611686018427387904):zG P f [wR l.length] [(lrt 0,.osl (.i l))] [.rf (lrt 0,[]) true 0 l.length] (.tup []) [(lrt 0,.osl (.i (Qk l)))] [.rf (lrt 0,[]) true 0 l.length]:=by
 have key:vM P f [(false,[.rf (lrt 0,[]) 0 l.length])] [(lrt 0,.osl (zF l))] [.rf (lrt 0,[]) 0 l.length] (.tup []) [(lrt 0,.osl (zF (Qk l)))] [.rf (lrt 0,[]) 0 l.length]:=by
  refine ⟨hf,fun J w σ vals hfut hold hsz ha hin=>?_⟩
  letI:=J
  obtain ⟨u,hu,hr⟩:=ha 0 _ rfl
  have hr:qj w σ (.rf (lrt 0,[]) 0 l.length) u:=hr
  obtain ⟨v0,hv0⟩:=hin.tbl (lrt 0)
  rw [J0,if_pos rfl] at hv0
  obtain rfl:vals=#[u]:=by
   apply Array.ext'
   have h2:vals.toList.length=1:=by simpa using hsz
   have h3:vals.toList[0]?=some u:=by simpa using hu
   generalize vals.toList=q at h2 h3
   match q,h2 with
   | [x],_=>simp at h3;simp [h3]
  have ht:∀ w,qN (fun _ _=>qj w σ) (.tup []) (.tuple #[]):=fun w=>⟨#[],rfl,rfl,fun k x h=>by cases h⟩
  by_cases hz:l=[]
  . subst hz
    have hs:Qk []=[]:=by unfold Qk;simp
    rw [hs]
    have:∃ p cap,u=.slice p 0 cap:=by
     generalize hn:([]:List Int).length=n at hr
     cases hr with
     | rz _ _ b=>exact ⟨b,0,rfl⟩
     | rf _ _ _ g n cap sz=>subst hn;exact ⟨_,_,rfl⟩
    obtain ⟨p,cap,rfl⟩:=this
    refine (h0 p cap w).mono ?_
    rintro e w' ⟨rfl,rfl⟩
    exact ⟨_,σ,rfl,qF.refl _ _,hin,ht _⟩
  . have hpos:0<l.length:=List.length_pos_iff.2 hz
    generalize hn:l.length=n at hr
    cases hr with
    | rz=>omega
    | rf _ _ _ g n' cap sz hg h2 h3 =>
      have hlc:(zF l).length=l.length:=by simp [zF]
      generalize hxs:zF l=xs at hv0
      cases hv0 with
      | oslz=>rw [hxs] at hlc;simp at hlc;omega
      | osl _ _ e sz' g' cap' cur us hh hc hcm hl2 hs hg' hm hr8 =>
        obtain rfl:=hin.inj _ _ _ _ hg hg' rfl
        rw [hg] at hg'
        simp only [Option.some.injEq,Own.mk.injEq] at hg'
        obtain ⟨_,rfl,rfl,rfl⟩:=hg'
        subst hxs
        rw [hlc] at hc hg
        have hsz1:sz=1:=by
         obtain ⟨x,r,rfl⟩:=List.exists_cons_of_ne_nil hz
         exact (hs _ (.head _)).symm
        subst hsz1
        have hcell:∀ (i:Nat) (x:Int),l[i]?=some x->cur[i]?=some (Value.int .i64 x):=by
         intro i x hx
         have h4:(zF l)[i]?=some [.fz (.int .i64 x)]:=by unfold zF;rw [List.getElem?_map,hx];rfl
         have h5:=hm i 0 _ _ h4 rfl
         have h6:=hr8 i 0 _ _ h4 rfl
         rw [show i * 1+0=i by omega] at h5
         rw [h5]
         generalize us i 0=q at h6 ⊢
         cases h6 with
         | fz _ _ _ h7=>cases h7;rfl
        have hgs:g<w.heap.size:=hin.lt _ _ hg
        have hH:Sort.Holds (Value.int .i64) w g 0 l.toArray:=by
         intro j hj
         have hj:j<l.length:=by simpa using hj
         refine ⟨?_,?_⟩
         . unfold World.cell?
           dsimp only
           rw [hh]
           dsimp only
           rw [if_neg (by simp),Nat.zero_add,hcell j (l[j]) (List.getElem?_eq_getElem hj)]
           congr 2
           simp [getElem!_pos,hj]
         . unfold World.frozen?
           dsimp only
           rw [hh]
           simp
        subst hn
        refine (h1 g 0 (cap-0) l w hH hgs hl).mono ?_
        rintro e2 w' ⟨rfl,n,os,rfl⟩
        have kk:=qiH (w':=Sort.grow (Sort.putRow (Value.int .i64) (Sort.ahead w n) g 0 (Qk l).toArray) os) (cur':=Sort.putCells (Value.int .i64) 0 (Qk l).toArray cur) (e:=e) hin (Q4 l) hg hpos ?_ hc.2 hcm ?_ ?_ ?_ rfl rfl rfl ?_
        . exact ⟨_,σ,rfl,kk.1,kk.2,ht _⟩
        . unfold Sort.putRow Sort.mapBlock Sort.grow Sort.ahead
          dsimp only
          rw [Array.getElem?_append_left (by simpa using hgs),Array.getElem?_modify,if_pos rfl,hh]
          rfl
        . unfold Sort.putCells;simp;omega
        . intro i x hx
          have hi:i<(Qk l).length:=(List.getElem?_eq_some_iff.1 hx).1
          rw [Q4] at hi
          unfold Sort.putCells
          rw [Array.getElem?_mapIdx,hcell i _ (List.getElem?_eq_getElem hi),Option.map_some,if_pos ⟨Nat.zero_le _,by simp [Q4];omega⟩]
          congr 2
          rw [Nat.sub_zero,getElem!_pos _ i (by simp [Q4];omega)]
          simpa using (List.getElem?_eq_some_iff.1 hx).2
        . unfold Sort.putRow Sort.mapBlock Sort.grow Sort.ahead
          simp
        . intro b hb1 hb2
          unfold Sort.putRow Sort.mapBlock Sort.grow Sort.ahead
          dsimp only
          rw [Array.getElem?_append_left (by simpa using hb1),Array.getElem?_modify,if_neg (Ne.symm hb2)]
 have e1:∀ m:List Int,zr [(lrt 0,.osl (.i m))]=[(lrt 0,.osl (zF m))]:=fun m=>by rw [<-Yc];rfl
 unfold zG
 rw [e1,e1]
 exact key
end Go.Proofs.YtececadpjelanaaGreat.Ai
