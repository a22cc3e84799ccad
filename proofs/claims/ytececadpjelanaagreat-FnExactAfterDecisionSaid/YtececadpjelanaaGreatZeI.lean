/- The law's proof, part 9 of 10: what of its author's texts it needs; no condition. -/
import Derived.Shelf.Sort.Plain
import Derived.Shelf.Slices.In.SortNone
import Derived.Shelf.Spec.SlicesGrow
import Derived.Test.YtececadpjelanaaGreatZeH
set_option linter.unusedSectionVars false
set_option linter.unusedSimpArgs false
set_option linter.unusedVariables false
namespace Go.Proofs.YtececadpjelanaaGreat.Ai
open Go
set_option maxRecDepth 100000
variable [qh]
def qaA:Go.Shelf.Ren:=⟨fun | 189=>81 | 125=>118 | 257=>117 | 128=>157 | 129=>158 | 294=>148 | 295=>149 | 296=>150 | 297=>151 | 298=>152 | 299=>153 | 216=>154 | 300=>155 | 301=>156 | 328=>172 | 329=>173 | 330=>174 | 331=>175 | 332=>176 | 215=>177 | 343=>180 | n=>n,fun | 28=>26 | 3=>3 | 46=>64 | 0=>0 | 51=>144 | 53=>146 | 4=>4 | 183=>137 | 182=>136 | 131=>141 | 5=>5 | 9=>9 | 218=>155 | 222=>159 | 228=>162 | 229=>163 | n=>n,fun n=>n⟩
theorem Jz:Go.Proofs.Lays.n189 Tryz.prog qaA:={ mixed:=Eq.refl true,f125:=Eq.trans Tryz.func118 (congrArg some ((by kernel_rfl))),f128:=Eq.trans Tryz.func157 (congrArg some ((by kernel_rfl))),f129:=Eq.trans Tryz.func158 (congrArg some ((by kernel_rfl))),f189:=Eq.trans Tryz.func81 (congrArg some ((by kernel_rfl))),f215:=Eq.trans Tryz.func177 (congrArg some ((by kernel_rfl))),f216:=Eq.trans Tryz.func154 (congrArg some ((by kernel_rfl))),f257:=Eq.trans Tryz.func117 (congrArg some ((by kernel_rfl))),f294:=Eq.trans Tryz.func148 (congrArg some ((by kernel_rfl))),f295:=Eq.trans Tryz.func149 (congrArg some ((by kernel_rfl))),f296:=Eq.trans Tryz.func150 (congrArg some ((by kernel_rfl))),f297:=Eq.trans Tryz.func151 (congrArg some ((by kernel_rfl))),f298:=Eq.trans Tryz.func152 (congrArg some ((by kernel_rfl))),f299:=Eq.trans Tryz.func153 (congrArg some ((by kernel_rfl))),f300:=Eq.trans Tryz.func155 (congrArg some ((by kernel_rfl))),f301:=Eq.trans Tryz.func156 (congrArg some ((by kernel_rfl))),f328:=Eq.trans Tryz.func172 (congrArg some ((by kernel_rfl))),f329:=Eq.trans Tryz.func173 (congrArg some ((by kernel_rfl))),f330:=Eq.trans Tryz.func174 (congrArg some ((by kernel_rfl))),f331:=Eq.trans Tryz.func175 (congrArg some ((by kernel_rfl))),f332:=Eq.trans Tryz.func176 (congrArg some ((by kernel_rfl))),f343:=Eq.trans Tryz.func180 (congrArg some ((by kernel_rfl))),t0:=Tryz.underlying0,a0:=Tryz.isAgg0,z0:=Tryz.sizeOf0,v0:=Tryz.zeroValue0,t3:=Tryz.underlying3,a3:=Tryz.isAgg3,z3:=Tryz.sizeOf3,v3:=Tryz.zeroValue3,t4:=Tryz.underlying4,a4:=Tryz.isAgg4,z4:=Tryz.sizeOf4,v4:=Tryz.zeroValue4,t5:=Tryz.underlying5,a5:=Tryz.isAgg5,z5:=Tryz.sizeOf5,v5:=Tryz.zeroValue5,t9:=Tryz.underlying9,a9:=Tryz.isAgg9,z9:=Tryz.sizeOf9,v9:=Tryz.zeroValue9,t28:=Tryz.underlying26,a28:=Tryz.isAgg26,z28:=Tryz.sizeOf26,v28:=Tryz.zeroValue26,t46:=Tryz.underlying64,a46:=Tryz.isAgg64,z46:=Tryz.sizeOf64,v46:=Tryz.zeroValue64,t51:=Tryz.underlying144,a51:=Tryz.isAgg144,z51:=Tryz.sizeOf144,v51:=Tryz.zeroValue144,t53:=Tryz.underlying146,a53:=Tryz.isAgg146,z53:=Tryz.sizeOf146,v53:=Tryz.zeroValue146,t131:=Tryz.underlying141,a131:=Tryz.isAgg141,z131:=Tryz.sizeOf141,v131:=Tryz.zeroValue141,t182:=Tryz.underlying136,a182:=Tryz.isAgg136,z182:=Tryz.sizeOf136,v182:=Tryz.zeroValue136,t183:=Tryz.underlying137,a183:=Tryz.isAgg137,z183:=Tryz.sizeOf137,v183:=Tryz.zeroValue137,t218:=Tryz.underlying155,a218:=Tryz.isAgg155,z218:=Tryz.sizeOf155,v218:=Tryz.zeroValue155,t222:=Tryz.underlying159,a222:=Tryz.isAgg159,z222:=Tryz.sizeOf159,v222:=Tryz.zeroValue159,t228:=Tryz.underlying162,a228:=Tryz.isAgg162,z228:=Tryz.sizeOf162,v228:=Tryz.zeroValue162,t229:=Tryz.underlying163,a229:=Tryz.isAgg163,z229:=Tryz.sizeOf163,v229:=Tryz.zeroValue163  }
end Go.Proofs.YtececadpjelanaaGreat.Ai
namespace Go.Proofs.YtececadpjelanaaGreat.Ai
open Go Go.RowKit
set_option maxRecDepth 100000
variable [qh]
theorem qmA (l:List Int)(h:l.length<4611686018427387904):zG Tryz.prog 81 [wR l.length] [(lrt 0,.osl (.i l))] [.rf (lrt 0,[]) true 0 l.length] (.tup []) [(lrt 0,.osl (.i (Qk l)))] [.rf (lrt 0,[]) true 0 l.length] :=
 qea ⟨_,_,Tryz.func81,rfl,by kernel_rfl⟩ (fun p cap w=>Any.slices_Sort_int_none Jz p cap w) (fun blk off cap zs w hH hb hs=>Any.slices_Sort_int Jz blk off cap zs w hH hb hs) l h
end Go.Proofs.YtececadpjelanaaGreat.Ai
namespace Go.Proofs.YtececadpjelanaaGreat.Ai
open Go
set_option maxRecDepth 100000
variable [qh]
theorem qj5 {p:Int->Bool}{l:List Int}{i:Nat}(h:i<l.length)(hp:p (l.getD i 0)=true):(l.take (i+1)).filter p=(l.take i).filter p++[l.getD i 0]:=by
 rw [List.take_add_one,List.filter_append,km h,List.getElem?_eq_getElem h,Option.toList_some,List.filter_cons,List.filter_nil]
 rw [km h] at hp
 rw [if_pos hp]
theorem qln {p:Int->Bool}{l:List Int}{i:Nat}(h:i<l.length)(hp:p (l.getD i 0)=false):(l.take (i+1)).filter p=(l.take i).filter p:=by
 rw [List.take_add_one,List.filter_append,List.getElem?_eq_getElem h,Option.toList_some,List.filter_cons,List.filter_nil]
 rw [km h] at hp
 rw [if_neg (by rw [hp];decide),List.append_nil]
end Go.Proofs.YtececadpjelanaaGreat.Ai
namespace Go.Proofs.YtececadpjelanaaGreat.Ai
open Go
set_option maxRecDepth 100000
variable [qh]
structure SoS {α:Type}(p:SP)(n m:Nat)(l:List α):Prop where out:p=(lrt 0,[])/\m=n/\l.length=n/\n<4611686018427387904
def qcJ (f:List Int->List Int):WrW
 | [(false,[.rf p true 0 n])],[(.sl m,.osl (.i l))]=>some ([SoS p n m l],(.tup [],[(lrt 0,.osl (.i (f l)))],[.rf (lrt 0,[]) true 0 n]))
 | _,_=>none
theorem qk8:JE Tryz.prog 81 (qcJ Qk):=by
 intro xs ls
 unfold qcJ
 split
 . refine R.Sim.mk fun hp=>?_
   obtain ⟨rfl,rfl,rfl,h1⟩:=(hp _ (.head _)).out
   exact qmA _ h1
 . exact R.Sim.none'
end Go.Proofs.YtececadpjelanaaGreat.Ai
namespace Go.Proofs.YtececadpjelanaaGreat.Ai
open Go
set_option maxRecDepth 100000
variable [qh]
def Wk (ls:List (List Int))(l:List Int):Bool:=ls.any fun y=>jd l y
theorem qdH {ls:List (List Int)}{l:List Int}:Wk ls l=true↔l∈ls:=by
 unfold Wk
 rw [List.any_eq_true]
 simp only [Kc,decide_eq_true_eq]
 exact ⟨fun ⟨y,h1,h2⟩=>h2▸h1,fun h=>⟨l,h,rfl⟩⟩
structure LLs (ls:List (List Int))(n:Nat):Prop where out:ls.length<=n/\∀ y∈ls,y.length<=n
theorem qlj (y l:List Int)(h1:y.length<=maxLen)(h2:l.length<=maxLen):qe Tryz.prog 88 [aIs y,(false,[.ptr [.sl (.i l)]])] (rB (jd l y)):=by
 refine qe.of qc (fn:=Tryz.f88) (c:=Tryz.f88.body.getD .skip) (dr:=fun n=>qa 0 [] n) Tryz.func88 rfl (by kernel_rfl) (by kernel_rfl) (by kernel_rfl) ?_
 obtain ⟨f,hf⟩:∃ f,f=jd:=⟨_,rfl⟩
 have hO:qm Tryz.prog (qL [(89,w9 f)]):=by subst hf;exact qb YH qd
 rw [<-hf]
 refine SEx.go (X:=XX) qc (fun n=>qa [] [] n) (fun _=>none) hO 60 ?_
 intro M R L N m0 m1 m2 m3 m4 m5
 cases M
 cbv
 repeat' first | refine m1 _ _ ?_ ?_ | refine m2 _ _ fun h=>?_ | refine m3 _ ?_ | (refine m4 _ _ (Hd.out ?_);try first | rw [hks] | rw [hk2] | rw [hk3]) | (refine m5 _ _ ?_;cbv)
 all_goals (clear m1 m2 m3 m4 m5;cases m0;(try clear hks;try clear hk2;try clear hk3);try dsimp only)
 all_goals try simp only [sm] at *
 all_goals first
  | exact ⟨h1⟩
  | exact ⟨h2⟩
  | rfl
def qox (k:Nat):Dc (List Int):=qne k false kB fun _=>rfl
theorem qcC (ls:List (List Int))(l:List Int)(h1:ls.length<=maxLen)(h2:∀ y∈ls,y.length<=maxLen)(h3:l.length<=maxLen):qe Tryz.prog 54 [qjJ ls,aIs l] (rB (Wk ls l)):=by
 refine qe.of qc (fn:=Tryz.f54) (c:=Tryz.f54.body.getD .skip) (dr:=fun n=>qa 0 [] n) Tryz.func54 rfl (by kernel_rfl) (by kernel_rfl) (by kernel_rfl) ?_
 obtain ⟨f,hf⟩:∃ f,f=Wk:=⟨_,rfl⟩
 have hO:qm Tryz.prog (qL [(87,w2 qkv (qox 88) (fun ls l=>rB (f ls l)) (fun ls l=>[LLs ls maxLen,LLe l maxLen]))]):=by
  subst hf
  exact qb (qI fun ls l h=>yC ls _ _ _ (fun y hy=>qlj y l ((h _ (.head _)).out.2 y hy) (h _ (.tail _ (.head _))).out) (h _ (.head _)).out.1) qd
 rw [<-hf]
 refine SEx.go (X:=XX) qc (fun n=>qa [] [] n) (fun _=>none) hO 60 ?_
 intro M R L N m0 m1 m2 m3 m4 m5
 cases M
 cbv
 repeat' first | refine m1 _ _ ?_ ?_ | refine m2 _ _ fun h=>?_ | refine m3 _ ?_ | (refine m4 _ _ (Hd.out ?_);try first | rw [hks] | rw [hk2] | rw [hk3]) | (refine m5 _ _ ?_;cbv)
 all_goals (clear m1 m2 m3 m4 m5;cases m0;(try clear hks;try clear hk2;try clear hk3);try dsimp only)
 all_goals try simp only [sm] at *
 all_goals first
  | exact ⟨h1,h2⟩
  | exact ⟨h3⟩
  | rfl
def qg6 (f:List (List Int)->List Int->Bool):Wr:=w2 qkv kB (fun ls l=>rB (f ls l)) (fun ls l=>[LLs ls maxLen,LLe l maxLen])
theorem qiD:qH Tryz.prog 54 (qg6 Wk):=qI fun ls l h=>qcC ls l (h _ (.head _)).out.1 (h _ (.head _)).out.2 (h _ (.tail _ (.head _))).out
theorem qis (ls:List (List Int))(l:List Int)(h1:ls.length<=maxLen)(h2:∀ y∈ls,y.length<=maxLen)(h3:l.length<=maxLen):qe Tryz.prog 52 [qjJ ls,aIs l] (rB (Wk ls l)):=by
 refine qe.of qc (fn:=Tryz.f52) (c:=Tryz.f52.body.getD .skip) (dr:=fun n=>qa 0 [] n) Tryz.func52 rfl (by kernel_rfl) (by kernel_rfl) (by kernel_rfl) ?_
 have hE:Wk ls l=(ls.drop 0).any fun y=>jd y l:=by
  unfold Wk
  rw [List.drop_zero]
  congr 1
  funext y
  rw [Kc,Kc]
  exact decide_eq_decide.2 ⟨Eq.symm,Eq.symm⟩
 rw [hE]
 obtain ⟨f,hf⟩:∃ f,f=jd:=⟨_,rfl⟩
 have hO:qm Tryz.prog (qL [(85,w9 f)]):=by subst hf;exact qb YM qd
 rw [<-hf]
 refine SEx.go (X:=XX) qc (fun n=>qa [] [(2,[1,7,8,9])] n) (fun _=>none) hO 60 ?_
 intro M R L N m0 m1 m2 m3 m4 m5
 cases M
 cbv
 repeat' first | refine m1 _ _ ?_ ?_ | refine m2 _ _ fun h=>?_ | refine m3 _ ?_ | (refine m4 _ _ (Hd.out ?_);generalize hks:(List.cons _ _:List K)=ks) | (refine m5 _ _ ?_;cbv)
 all_goals (clear m1 m2 m3 m4 m5;cases m0;try dsimp only)
 all_goals try simp only [sm] at *
 obtain ⟨m,hm⟩:∃ m,m=ls.length:=⟨_,rfl⟩
 have hmx:=h1
 unfold maxLen at hmx
 rw [<-hm] at hmx
 refine ⟨SEx.same (SEx.idx m (fun i=>⟨17,[(1,bL (.i l)),(7,bL (.ii false none ls)),(8,bI m),(9,bI i)],[]⟩) (fun i=>rB ((ls.drop i).any fun y=>f y l)) ?_) (by rw [hm];rfl) rfl⟩
 intro i hi ih
 rw [<-hks]
 have hyi:i<m->(ls.getD i []).length<=maxLen:=fun h=>h2 _ (qu (z:=([]:List Int)) (by omega)).out
 have hd:i<m->(ls.drop i).any (fun y=>f y l)=(f (ls.getD i []) l||(ls.drop (i+1)).any fun y=>f y l):=fun h=>by
  rw [List.drop_eq_getElem_cons (by omega),List.any_cons]
  congr 2
  rw [List.getD_eq_getElem?_getD,List.getElem?_eq_getElem (by omega)];rfl
 refine SEx.go (X:=XX) qc (fun n=>qa [] [(2,[1,7,8,9])] n) (fun _=>none) hO 60 ?_
 intro M R L N m0 m1 m2 m3 m4 m5
 cases M
 cbv
 repeat' first | refine m1 _ _ ?_ ?_ | refine m2 _ _ fun h=>?_ | refine m3 _ ?_ | (refine m4 _ _ (Hd.out ?_);try first | rw [hks] | rw [hk2] | rw [hk3]) | (refine m5 _ _ ?_;cbv)
 all_goals (clear m1 m2 m3 m4 m5;cases m0;(try clear hks;try clear hk2;try clear hk3);try dsimp only)
 all_goals try simp only [sm] at *
 all_goals first
  | omega
  | exact ⟨hyi (by omega)⟩
  | exact ⟨h3⟩
  | (rw [hd (by omega),show f (ls.getD i []) l=true by assumption,Bool.true_or];rfl)
  | (simp only [ql (show i<9223372036854775807 by omega)];exact ⟨(ih (by omega)).same rfl (by rw [hd (by omega),show f (ls.getD i []) l=false by assumption,Bool.false_or])⟩)
  | (rw [List.drop_eq_nil_of_le (by omega)];rfl)
theorem qiP:qH Tryz.prog 52 (qg6 Wk):=qI fun ls l h=>qis ls l (h _ (.head _)).out.1 (h _ (.head _)).out.2 (h _ (.tail _ (.head _))).out
end Go.Proofs.YtececadpjelanaaGreat.Ai
namespace Go.Proofs.YtececadpjelanaaGreat.Ai
open Go
set_option maxRecDepth 100000
variable [qh]
structure IxN (t:qx)(l:List Int):Prop where
 len:l.length<=1048576
 ix:∀ k∈l,0<=k/\k<t.nodes.length
 asc:l.Pairwise (·<·)
def Wd (now:Int)(times l:List Int):Nat->List Int
 | 0=>times
 | i+1=>(Wd now times l i).set (l.getD i 0).toNat now
theorem JC (now:Int)(times l:List Int):∀ i,(Wd now times l i).length=times.length
 | 0=>rfl
 | i+1=>by simp only [Wd,List.length_set,JC now times l i]
def waL (ns:List qf)(l:List Int):List Int:=(l.filter fun k=>decide (¬(nd ns k).watch=0)).map fun k=>(nd ns k).watch
theorem qlW {ns:List qf}{l:List Int}{i:Nat}(h:i<l.length)(hp:¬(nd ns (l.getD i 0)).watch=0):waL ns (l.take (i+1))=waL ns (l.take i)++[(nd ns (l.getD i 0)).watch]:=by
 unfold waL
 rw [qj5 h (decide_eq_true hp),List.map_append]
 rfl
theorem qnh {ns:List qf}{l:List Int}{i:Nat}(h:i<l.length)(hp:(nd ns (l.getD i 0)).watch=0):waL ns (l.take (i+1))=waL ns (l.take i):=by
 unfold waL
 rw [qln h (decide_eq_false (fun hh=>hh hp))]
theorem qmx (ns:List qf)(l:List Int):(waL ns l).length<=l.length:=by
 unfold waL
 rw [List.length_map]
 exact List.length_filter_le _ _
def psL (q:Nat->Bool)(i:Nat):List Int:=((List.range i).filter q).map fun (j:Nat)=>((j+1:Nat):Int)
theorem qlw {q:Nat->Bool}{i:Nat}(h:q i=true):psL q (i+1)=psL q i++[((i+1:Nat):Int)]:=by
 simp only [psL,List.range_succ,List.filter_append,List.map_append,List.filter_cons,List.filter_nil,h,if_true,List.map_cons,List.map_nil]
theorem qnI {q:Nat->Bool}{i:Nat}(h:q i=false):psL q (i+1)=psL q i:=by
 simp only [psL,List.range_succ,List.filter_append,List.map_append,List.filter_cons,List.filter_nil,h,Bool.false_eq_true,if_false,List.map_nil,List.append_nil]
theorem qf4 (q:Nat->Bool)(i:Nat):(psL q i).length<=i:=by
 simp only [psL,List.length_map]
 exact Nat.le_trans (List.length_filter_le _ _) (by simp)
theorem qmb {q:Nat->Bool}{n:Nat}{x:Int}:x∈psL q n↔∃ j,j<n/\q j=true/\x=((j+1:Nat):Int):=by
 simp only [psL,List.mem_map,List.mem_filter,List.mem_range]
 exact ⟨fun ⟨j,⟨h1,h2⟩,h3⟩=>⟨j,h1,h2,h3.symm⟩,fun ⟨j,h1,h2,h3⟩=>⟨j,⟨h1,h2⟩,h3.symm⟩⟩
theorem qgi (q:Nat->Bool)(n:Nat):(psL q n).Pairwise (·<·):=by
 unfold psL
 refine List.pairwise_map.2 ((List.pairwise_lt_range (n:=n)).filter q |>.imp fun h=>?_)
 omega
def jY (ns:List qf)(l:List Int):List Int:=psL (fun j=>QZ l (jz ns ((j+1:Nat):Int))) 3
def Wi (x:qn)(l:List Int):qn:=⟨x.now,Wd x.now x.times l l.length,x.vals⟩
theorem qcY {l:List Int}{v:Int}:QZ l v=true↔v∈l:=by
 unfold QZ
 rw [Z9,List.any_eq_true]
 simp only [beq_iff_eq]
 exact ⟨fun ⟨x,h1,h2⟩=>h2▸h1,fun h=>⟨v,h,rfl⟩⟩
structure WaT (ns:List qf)(k:Int):Prop where
 lo:0<=(nd ns k).watch
 hi:(nd ns k).watch<=3
 at_:¬(nd ns k).watch=0->jz ns (nd ns k).watch=k
theorem vg {t:qx}(h:z6 t=true){k:Int}(h0:0<=k)(h1:k<t.nodes.length):WaT t.nodes k:=by
 unfold z6 jN at h
 simp only [Bool.and_eq_true] at h
 have hk:k.toNat<t.nodes.length:=by omega
 have h2:=Ye qf.z h.1.2 hk
 rw [Nat.zero_add] at h2
 unfold ndP Qg at h2
 simp only [Bool.and_eq_true,Bool.or_eq_true,decide_eq_true_eq] at h2
 obtain ⟨⟨⟨_,_⟩,h3,h4⟩,_,h5⟩:=h2
 refine ⟨h3,h4,fun hne=>?_⟩
 rcases h5 with h5 | h5
 . exact absurd h5 hne
 . unfold nd
   rw [h5]
   omega
theorem ql4 {ns:List qf}{p:Int}(h:0<=jz ns p):(nd ns (jz ns p)).watch=p:=by
 unfold jz at h ⊢
 rcases K8 (fun q:qf=>q.watch == p) qf.z ns 0 with ⟨h1,_⟩ | ⟨i,h1,h2,h3,_⟩
 . omega
 . rw [h2]
   unfold nd
   rw [show (((0+i:Nat):Int)).toNat=i by omega]
   exact beq_iff_eq.1 h3
theorem qdT {t:qx}(h:z6 t=true){l:List Int}(hl:IxN t l):Qk (waL t.nodes l)=jY t.nodes l:=by
 have hs:(Qk (waL t.nodes l)).Pairwise (·<=·):=by
  have:=List.pairwise_mergeSort (le:=fun x y:Int=>decide (x<=y)) (fun a b c h1 h2=>by simp only [decide_eq_true_eq] at *;omega) (fun a b=>by simp only [Bool.or_eq_true,decide_eq_true_eq];omega) (waL t.nodes l)
  exact this.imp fun h=>by simpa using h
 have hp:(jY t.nodes l).Pairwise (·<=·):=(qgi _ _).imp fun h=>by omega
 have hn1:(jY t.nodes l).Nodup:=(qgi _ _).imp fun h=>by omega
 have hn2:(waL t.nodes l).Nodup:=by
  unfold waL
  refine List.pairwise_map.2 ((hl.asc.filter _).imp_of_mem fun {a b} ha hb hab e=>?_)
  obtain ⟨ha1,ha2⟩:=List.mem_filter.1 ha
  obtain ⟨hb1,hb2⟩:=List.mem_filter.1 hb
  have wa:=(vg h (hl.ix a ha1).1 (hl.ix a ha1).2).at_ (of_decide_eq_true ha2)
  have wb:=(vg h (hl.ix b hb1).1 (hl.ix b hb1).2).at_ (of_decide_eq_true hb2)
  rw [e] at wa
  omega
 have hmem:∀ v,v∈waL t.nodes l↔v∈jY t.nodes l:=by
  intro v
  unfold waL jY
  rw [qmb,List.mem_map]
  constructor
  . rintro ⟨k,hk,rfl⟩
    obtain ⟨h1,h2⟩:=List.mem_filter.1 hk
    have w:=vg h (hl.ix k h1).1 (hl.ix k h1).2
    have hne:=of_decide_eq_true h2
    have:=w.lo
    have:=w.hi
    refine ⟨((nd t.nodes k).watch-1).toNat,by omega,?_,by omega⟩
    rw [qcY,show ((((nd t.nodes k).watch-1).toNat+1:Nat):Int)=(nd t.nodes k).watch by omega,w.at_ hne]
    exact h1
  . rintro ⟨j,hj,hq,rfl⟩
    rw [qcY] at hq
    have h0:=(hl.ix _ hq).1
    have:=ql4 h0
    exact ⟨_,List.mem_filter.2 ⟨hq,decide_eq_true (by rw [this];omega)⟩,this⟩
 exact ((List.mergeSort_perm _ _).trans ((List.perm_ext_iff_of_nodup hn2 hn1).2 hmem)).eq_of_pairwise (fun x y _ _ h1 h2=>by omega) hs hp
def qi3 (s:qn)(ps:List Int):TV W:=.tup [(true,s.w),(false,[.osl (.i ps)])]
theorem yu (t:qx)(x:qn)(l:List Int)(hs:EnT t x)(hl:IxN t l):qe Tryz.prog 59 [zk t,zB x,aIs l] (qi3 (Wi x l) (jY t.nodes l)):=by
 refine qe.of qc (fn:=Tryz.f59) (c:=Tryz.f59.body.getD .skip) (dr:=fun n=>qa 0 [] n) Tryz.func59 rfl (by kernel_rfl) (by kernel_rfl) (by kernel_rfl) ?_
 rw [<-qdT hs.v.sh hl]
 obtain ⟨f3,hf3⟩:∃ f,f=Qk:=⟨_,rfl⟩
 have hO:qm Tryz.prog (qL [(90,qgq)]):=qb qe7 qd
 have hW:zR Tryz.prog (XX.withW [(81,[(0,0)])] (kw [(81,qcJ f3)])):=by
  subst hf3
  exact SX.withW_ok (zM qk8 jA)
 have hz:We x:=by
  have h2:=kp hs.v.sh
  have h3:=kO hs.v.vals
  have:=hs.tl
  exact ⟨by omega,by omega⟩
 have hnw:=hs.tl
 have hn7:=(kp hs.v.sh).2
 have hl1:=hl.len
 have hl2:=hl.ix
 have hll:l.length=l.length:=rfl
 clear hs hl
 obtain ⟨ns,ts,hr⟩:=t
 obtain ⟨now,times,vals⟩:=x
 dsimp only at hnw hl2 hn7
 unfold Wi
 dsimp only
 rw [<-hf3]
 refine SEx.go (X:=(XX.withW [(81,[(0,0)])] (kw [(81,qcJ f3)]))) qc (fun n=>qa [] [(4,[3,4,6,8,9,14,15,16])] n) (fun _=>none) hO 60 ?_ hW
 intro M R L N m0 m1 m2 m3 m4 m5
 cases M
 cbv
 repeat' first | refine m1 _ _ ?_ ?_ | refine m2 _ _ fun h=>?_ | refine m3 _ ?_ | (refine m4 _ _ (Hd.out ?_);generalize hks:(List.cons _ _:List K)=ks) | (refine m5 _ _ ?_;cbv)
 all_goals (clear m1 m2 m3 m4 m5;cases m0;try dsimp only)
 all_goals try simp only [sm] at *
 all_goals first
  | exact hz
  | skip
 obtain ⟨m,hm⟩:∃ m,m=l.length:=⟨_,rfl⟩
 obtain ⟨r,hrr⟩:∃ r,r=qi3 ⟨now,Wd now times l l.length,vals⟩ (f3 (waL ns l)):=⟨_,rfl⟩
 rw [<-hrr]
 rw [<-hm] at hrr
 refine ⟨SEx.same (SEx.idx m (fun i=>⟨47,[(3,bP 12288),(4,bP 16384),(6,bP 24576),(8,bP 32768),(9,bR 36864 (waL ns (l.take i)).length),(14,bL (.i l)),(15,bI m),(16,bI i)],[(12288,.obx [.fz (.sl (.node false none ns)),.fz (.sl (.tie ts)),.fz (.int .i64 hr)]),(16384,.obx [.fz (.int .i64 now),.fz (.sl (.i times)),.fz (.sl (.i vals))]),(24576,.obx [.fz (.int .i64 0),.onil,.onil]),(32768,.obx [.fz (.int .i64 now),.osl (.i (Wd now times l i)),.osl (.i vals)]),(36864,.osl (.i (waL ns (l.take i))))]⟩) (fun _=>r) ?_) (by rw [hm];rfl) rfl⟩
 intro i hi ih
 rw [<-hks]
 obtain ⟨c,hc⟩:∃ c,c=Wd now times l i:=⟨_,rfl⟩
 have hcl:c.length=ns.length:=by rw [hc,JC];exact hnw
 obtain ⟨u,hu⟩:∃ u,u=waL ns (l.take i):=⟨_,rfl⟩
 have hul:u.length<=i:=by rw [hu];exact Nat.le_trans (qmx _ _) (by rw [List.length_take];omega)
 have hki:i<m->0<=l.getD i 0/\l.getD i 0<ns.length:=fun hlt=>hl2 _ (qu (z:=(0:Int)) (by omega)).out
 have hst:Wd now times l (i+1)=c.set (l.getD i 0).toNat now:=by rw [hc];rfl
 rw [<-hc,<-hu]
 obtain ⟨n1,hn1⟩:∃ n,n=u.length:=⟨_,rfl⟩
 rw [<-hn1] at hul ⊢
 have hwy:i<m->¬(ns.getD (l.getD i 0).toNat qf.z).watch=0->waL ns (l.take (i+1))=u++[(ns.getD (l.getD i 0).toNat qf.z).watch]:=fun h h2=>by rw [hu];exact qlW (by omega) h2
 have hwn:i<m->(ns.getD (l.getD i 0).toNat qf.z).watch=0->waL ns (l.take (i+1))=u:=fun h h2=>by rw [hu];exact qnh (by omega) h2
 clear hl2
 refine SEx.go (X:=(XX.withW [(81,[(0,0)])] (kw [(81,qcJ f3)]))) qc (fun n=>qa [] [(4,[3,4,6,8,9,14,15,16])] n) (fun _=>none) hO 60 ?_ hW
 intro M R L N m0 m1 m2 m3 m4 m5
 cases M
 cbv
 repeat' first | refine m1 _ _ ?_ ?_ | refine m2 _ _ fun h=>?_ | refine m3 _ ?_ | (refine m4 _ _ (Hd.out ?_);try first | rw [hks] | rw [hk2] | rw [hk3]) | (refine m5 _ _ ?_;cbv)
 all_goals (clear m1 m2 m3 m4 m5;cases m0;(try clear hks;try clear hk2;try clear hk3);try dsimp only)
 all_goals try simp only [sm] at *
 all_goals (try (have b0:=hki (by omega)))
 all_goals (try simp only [List.length_append,List.length_cons,List.length_nil,List.length_set] at *)
 all_goals (try simp only [ql (show i<9223372036854775807 by omega)])
 all_goals (try subst hn1)
 all_goals first
  | omega
  | (have:=kT;omega)
  | (refine ⟨rfl,rfl,rfl,?_⟩;omega;done)
  | (rw [hf3];exact (Q4 _).symm)
  | (have ih':=ih (by omega)
     rw [hst,hwy (by omega) (by assumption),List.length_append] at ih'
     exact ⟨ih'.same rfl rfl⟩)
  | (have ih':=ih (by omega)
     rw [hst,hwn (by omega) (by assumption)] at ih'
     exact ⟨ih'.same rfl rfl⟩)
  | (have e:i=m:=by omega
     rw [e,hm,List.take_length] at hu
     rw [e] at hc
     rw [hrr,hu,hc];rfl)
  | skip
theorem yJ (t:qx)(x:qn)(l:List Int)(hs:EnT t x)(hl:IxN t l):qe Tryz.prog 57 [zk t,zB x,aIs l] (qi3 (Wi x l) (jY t.nodes l)):=by
 refine qe.of qc (fn:=Tryz.f57) (c:=Tryz.f57.body.getD .skip) (dr:=fun n=>qa 0 [] n) Tryz.func57 rfl (by kernel_rfl) (by kernel_rfl) (by kernel_rfl) ?_
 obtain ⟨f1,hf1⟩:∃ f,f=jz:=⟨_,rfl⟩
 obtain ⟨f2,hf2⟩:∃ f,f=QZ:=⟨_,rfl⟩
 have hO:qm Tryz.prog (qL [(86,wZ),(72,ZQ f1),(93,qeL f2)]):=by
  subst hf1 hf2
  exact qb JU (qb qaF (qb Vf qd))
 have hz:We x:=by
  have h2:=kp hs.v.sh
  have h3:=kO hs.v.vals
  have:=hs.tl
  exact ⟨by omega,by omega⟩
 have hnw:=hs.tl
 have hn7:=(kp hs.v.sh).2
 have hl1:=hl.len
 have hl2:=hl.ix
 clear hs hl
 obtain ⟨ns,ts,hr⟩:=t
 obtain ⟨now,times,vals⟩:=x
 dsimp only at hnw hl2 hn7
 unfold Wi
 dsimp only
 refine SEx.go (X:=XX) qc (fun n=>qa [] [(3,[2,3,4,6,8,15,16,17]),(9,[2,3,6,8,11,12])] n) (fun _=>none) hO 60 ?_
 intro M R L N m0 m1 m2 m3 m4 m5
 cases M
 cbv
 repeat' first | refine m1 _ _ ?_ ?_ | refine m2 _ _ fun h=>?_ | refine m3 _ ?_ | (refine m4 _ _ (Hd.out ?_);generalize hks:(List.cons _ _:List K)=ks) | (refine m5 _ _ ?_;cbv)
 all_goals (clear m1 m2 m3 m4 m5;cases m0;try dsimp only)
 all_goals try simp only [sm] at *
 all_goals first
  | exact hz
  | skip
 obtain ⟨m,hm⟩:∃ m,m=l.length:=⟨_,rfl⟩
 obtain ⟨r,hrr⟩:∃ r,r=qi3 ⟨now,Wd now times l l.length,vals⟩ (jY ns l):=⟨_,rfl⟩
 rw [<-hrr]
 rw [<-hm] at hrr
 refine ⟨SEx.same (SEx.idx m (fun i=>⟨44,[(2,bL (.i l)),(3,bP 12288),(4,bP 16384),(6,bP 24576),(8,bP 32768),(15,bL (.i l)),(16,bI m),(17,bI i)],[(12288,.obx [.fz (.sl (.node false none ns)),.fz (.sl (.tie ts)),.fz (.int .i64 hr)]),(16384,.obx [.fz (.int .i64 now),.fz (.sl (.i times)),.fz (.sl (.i vals))]),(24576,.obx [.fz (.int .i64 0),.onil,.onil]),(32768,.obx [.fz (.int .i64 now),.osl (.i (Wd now times l i)),.osl (.i vals)])]⟩) (fun _=>r) ?_) (by rw [hm];rfl) rfl⟩
 intro i hi ih
 rw [<-hks]
 obtain ⟨c,hc⟩:∃ c,c=Wd now times l i:=⟨_,rfl⟩
 have hcl:c.length=ns.length:=by rw [hc,JC];exact hnw
 have hki:i<m->0<=l.getD i 0/\l.getD i 0<ns.length:=fun hlt=>hl2 _ (qu (z:=(0:Int)) (by omega)).out
 have hst:Wd now times l (i+1)=c.set (l.getD i 0).toNat now:=by rw [hc];rfl
 rw [<-hc]
 clear hl2
 refine SEx.go (X:=XX) qc (fun n=>qa [] [(3,[2,3,4,6,8,15,16,17]),(9,[2,3,6,8,11,12])] n) (fun _=>none) hO 60 ?_
 intro M R L N m0 m1 m2 m3 m4 m5
 cases M
 cbv
 repeat' first | refine m1 _ _ ?_ ?_ | refine m2 _ _ fun h=>?_ | refine m3 _ ?_ | (refine m4 _ _ (Hd.out ?_);first | rw [hks] | generalize hk2:(List.cons _ _:List K)=k2) | (refine m5 _ _ ?_;cbv)
 all_goals (clear m1 m2 m3 m4 m5;cases m0;try dsimp only)
 all_goals try simp only [sm] at *
 all_goals (try (have b0:=hki (by omega)))
 all_goals (try simp only [ql (show i<9223372036854775807 by omega)])
 all_goals first
  | omega
  | (have ih':=ih (by omega)
     rw [hst] at ih'
     exact ⟨ih'.same rfl rfl⟩)
  | skip
 have e:i=m:=by omega
 rw [e] at hc
 rw [<-hc] at hrr
 clear hki hst ih hc e
 obtain ⟨q,hq⟩:∃ q:Nat->Bool,q=fun j=>f2 l (f1 ns ((j+1:Nat):Int)):=⟨_,rfl⟩
 have hrr:r=qi3 ⟨now,c,vals⟩ (psL q 3):=by rw [hrr,hq,hf1,hf2];rfl
 have hqj:∀ j:Nat,q j=f2 l (f1 ns ((j+1:Nat):Int)):=fun j=>by rw [hq]
 clear hq
 refine ⟨SEx.same (SEx.idx 3 (fun j=>⟨44,[(2,bL (.i l)),(3,bP 12288),(6,bP 24576),(8,bP 32768),(11,bR 45056 (psL q j).length),(12,bI ((j+1:Nat):Int))],[(12288,.obx [.fz (.sl (.node false none ns)),.fz (.sl (.tie ts)),.fz (.int .i64 hr)]),(24576,.obx [.fz (.int .i64 0),.onil,.onil]),(32768,.obx [.fz (.int .i64 now),.osl (.i c),.osl (.i vals)]),(45056,.osl (.i (psL q j)))]⟩) (fun _=>r) ?_) rfl rfl⟩
 intro j hj ih
 rw [<-hk2]
 obtain ⟨u,hu⟩:∃ u,u=psL q j:=⟨_,rfl⟩
 have hul:u.length<=j:=by rw [hu];exact qf4 _ _
 rw [<-hu]
 obtain ⟨n1,hn1⟩:∃ n,n=u.length:=⟨_,rfl⟩
 rw [<-hn1] at hul ⊢
 obtain ⟨kk,hkk⟩:∃ kk:Nat,kk=j+1:=⟨_,rfl⟩
 have hqj:=hqj j
 rw [<-hkk] at hqj ⊢
 refine SEx.go (X:=XX) qc (fun n=>qa [] [(3,[2,3,4,6,8,15,16,17]),(9,[2,3,6,8,11,12])] n) (fun _=>none) hO 60 ?_
 intro M R L N m0 m1 m2 m3 m4 m5
 cases M
 cbv
 repeat' first | refine m1 _ _ ?_ ?_ | refine m2 _ _ fun h=>?_ | refine m3 _ ?_ | (refine m4 _ _ (Hd.out ?_);try first | rw [hks] | rw [hk2] | rw [hk3]) | (refine m5 _ _ ?_;cbv)
 all_goals (clear m1 m2 m3 m4 m5;cases m0;(try clear hks;try clear hk2;try clear hk3);try dsimp only)
 all_goals try simp only [sm] at *
 all_goals (try simp only [List.length_append,List.length_cons,List.length_nil,List.length_set] at *)
 all_goals (try simp only [ql (show kk<9223372036854775807 by omega)])
 all_goals (try subst hn1)
 all_goals first
  | omega
  | (have:=kT;omega)
  | (refine ⟨?_⟩;omega;done)
  | (have ih':=ih (by omega)
     rw [qlw (by rw [hqj];assumption),<-hu,List.length_append,<-hkk] at ih'
     exact ⟨ih'.same rfl rfl⟩)
  | (have ih':=ih (by omega)
     rw [qnI (by rw [hqj];assumption),<-hu,<-hkk] at ih'
     exact ⟨ih'.same rfl rfl⟩)
  | (have e:j=3:=by omega
     rw [e] at hu
     rw [hrr,hu];rfl)
  | skip
def qlT (f:qn->List Int->qn)(g:List qf->List Int->List Int):Wr:=w3 q7 zj kB (fun t x l=>qi3 (f x l) (g t.nodes l)) (fun t x l=>[EnT t x,IxN t l])
theorem qkJ:qH Tryz.prog 57 (qlT Wi jY):=vq fun t x l h=>yJ t x l (h _ (.head _)) (h _ (.tail _ (.head _)))
theorem qkl:qH Tryz.prog 59 (qlT Wi jY):=vq fun t x l h=>yu t x l (h _ (.head _)) (h _ (.tail _ (.head _)))
end Go.Proofs.YtececadpjelanaaGreat.Ai
namespace Go.Proofs.YtececadpjelanaaGreat.Ai
open Go
set_option maxRecDepth 100000
variable [qh]
theorem qkA {l:List Int}{s:Int}:∀ k∈wt l s,k∈l:=by
 intro k hk
 unfold wt Zk at hk
 obtain ⟨j,hj,rfl⟩:=List.mem_map.1 hk
 have hj':=List.mem_range.1 (List.mem_filter.1 hj).1
 exact (qu (z:=(0:Int)) hj').out
theorem qjn (l:List Int)(s:Int):(wt l s).length<=l.length:=JQ _ _ _
theorem qk2 {l:List Int}(h:l.Pairwise (·<·))(s:Int):(wt l s).Pairwise (·<·):=by
 unfold wt Zk
 refine List.pairwise_map.2 (((List.pairwise_lt_range (n:=l.length)).filter (btS s)).imp_of_mem fun {a b} ha hb hab=>?_)
 have ha':=List.mem_range.1 (List.mem_filter.1 ha).1
 have hb':=List.mem_range.1 (List.mem_filter.1 hb).1
 rw [km ha',km hb']
 exact List.pairwise_iff_getElem.1 h a b ha' hb' hab
theorem qk7 (q:Nat->Bool)(n:Nat):(jx q n).Pairwise (·<·):=by
 unfold jx
 refine List.pairwise_map.2 ((List.pairwise_lt_range (n:=n)).filter q |>.imp fun h=>?_)
 omega
theorem qlp (t:qx)(x:qn):(enL t x).Pairwise (·<·):=(qk7 _ _).filter _
theorem qnp {t:qx}{x:qn}{k:Int}(h:k∈enL t x):0<=k/\k<t.nodes.length:=by
 have:=qcn (List.mem_filter.1 h).1
 exact ⟨this.1,this.2.1⟩
theorem qgV {t:qx}{x:qn}(hs:ZK t x){l:List Int}(h:l∈KL t x):EnT t x/\IxN t l:=by
 unfold KL at h
 split at h
 . rename_i hm
   have hv:=qaN hm
   obtain ⟨j,_,rfl⟩:=List.mem_map.1 h
   refine ⟨⟨hs,hv.1,hv.2⟩,⟨?_,fun k hk=>qnp (qkA k hk),qk2 (qlp t x) _⟩⟩
   have h1:=WA hv.1
   have h2:=qjn (enL t x) (((2 ^ (enL t x).length:Nat):Int)-1-(j:Nat))
   omega
 . cases h
def qmo (s:qn)(ps:List Int)(b:Bool):TV W:=.tup [(true,s.w),(false,[.osl (.i ps)]),(false,[.fz (.bool false b)])]
def adR (s:qn)(ps:List Int)(b:Bool):TV W:=match b with | true=>qmo s ps true | false=>qmo ⟨0,[],[]⟩ [] false
def Jp (t:qx)(x:qn)(l:List Int):Bool:=Wk (KL t x) l
theorem yQ (t:qx)(x:qn)(l:List Int)(hs:ZK t x)(hz:We x)(hl:l.length<=1048576):qe Tryz.prog 28 [zk t,zB x,aIs l] (adR (Wi x l) (jY t.nodes l) (Jp t x l)):=by
 refine qe.of qc (fn:=Tryz.f28) (c:=Tryz.f28.body.getD .skip) (dr:=fun n=>qa 0 [] n) Tryz.func28 rfl (by kernel_rfl) (by kernel_rfl) (by kernel_rfl) ?_
 obtain ⟨f1,hf1⟩:∃ f,f=KL:=⟨_,rfl⟩
 obtain ⟨f2,hf2⟩:∃ f,f=Wk:=⟨_,rfl⟩
 obtain ⟨f3,hf3⟩:∃ f,f=Wi:=⟨_,rfl⟩
 obtain ⟨f4,hf4⟩:∃ f,f=jY:=⟨_,rfl⟩
 have hO:qm Tryz.prog (qL [(56,qjv f1),(52,qg6 f2),(57,qlT f3 f4)]):=by
  subst hf1 hf2 hf3 hf4
  exact qb qhM (qb qiP (qb qkJ qd))
 have h1:=yp t x
 have hb:Jp t x l=f2 (f1 t x) l:=by rw [hf1,hf2];rfl
 have hin:f2 (f1 t x) l=true->EnT t x/\IxN t l:=fun h=>by rw [hf2,qdH,hf1] at h;exact qgV hs h
 rw [<-hf1] at h1
 rw [<-hf3,<-hf4,hb]
 clear hf1 hf2 hf3 hf4 hb
 obtain ⟨ns,ts,hr⟩:=t
 obtain ⟨now,times,vals⟩:=x
 refine SEx.go (X:=XX) qc (fun n=>qa [] [] n) (fun _=>none) hO 60 ?_
 intro M R L N m0 m1 m2 m3 m4 m5
 cases M
 cbv
 repeat' first | refine m1 _ _ ?_ ?_ | refine m2 _ _ fun h=>?_ | refine m3 _ ?_ | (refine m4 _ _ (Hd.out ?_);try first | rw [hks] | rw [hk2] | rw [hk3]) | (refine m5 _ _ ?_;cbv)
 all_goals (clear m1 m2 m3 m4 m5;cases m0;(try clear hks;try clear hk2;try clear hk3);try dsimp only)
 all_goals try simp only [sm] at *
 all_goals first
  | exact hs
  | exact hz
  | exact ⟨Nat.le_trans h1.1 (by decide),fun y hy=>Nat.le_trans (h1.2 y hy) (by decide)⟩
  | exact ⟨Nat.le_trans hl (by decide)⟩
  | exact (hin (by assumption)).1
  | exact (hin (by assumption)).2
  | (rw [show f2 _ _=false by assumption];rfl)
  | (rw [show f2 _ _=true by assumption];rfl)
  | skip
theorem yU (t:qx)(x:qn)(l:List Int)(hs:ZK t x)(hz:We x)(hl:l.length<=1048576):qe Tryz.prog 29 [zk t,zB x,aIs l] (adR (Wi x l) (jY t.nodes l) (Jp t x l)):=by
 refine qe.of qc (fn:=Tryz.f29) (c:=Tryz.f29.body.getD .skip) (dr:=fun n=>qa 0 [] n) Tryz.func29 rfl (by kernel_rfl) (by kernel_rfl) (by kernel_rfl) ?_
 obtain ⟨f1,hf1⟩:∃ f,f=KL:=⟨_,rfl⟩
 obtain ⟨f2,hf2⟩:∃ f,f=Wk:=⟨_,rfl⟩
 obtain ⟨f3,hf3⟩:∃ f,f=Wi:=⟨_,rfl⟩
 obtain ⟨f4,hf4⟩:∃ f,f=jY:=⟨_,rfl⟩
 have hO:qm Tryz.prog (qL [(58,qju f1),(54,qg6 f2),(59,qlT f3 f4)]):=by
  subst hf1 hf2 hf3 hf4
  exact qb qic (qb qiD (qb qkl qd))
 have h1:=yp t x
 have hb:Jp t x l=f2 (f1 t x) l:=by rw [hf1,hf2];rfl
 have hin:f2 (f1 t x) l=true->EnT t x/\IxN t l:=fun h=>by rw [hf2,qdH,hf1] at h;exact qgV hs h
 rw [<-hf1] at h1
 rw [<-hf3,<-hf4,hb]
 clear hf1 hf2 hf3 hf4 hb
 obtain ⟨ns,ts,hr⟩:=t
 obtain ⟨now,times,vals⟩:=x
 refine SEx.go (X:=XX) qc (fun n=>qa [] [] n) (fun _=>none) hO 60 ?_
 intro M R L N m0 m1 m2 m3 m4 m5
 cases M
 cbv
 repeat' first | refine m1 _ _ ?_ ?_ | refine m2 _ _ fun h=>?_ | refine m3 _ ?_ | (refine m4 _ _ (Hd.out ?_);try first | rw [hks] | rw [hk2] | rw [hk3]) | (refine m5 _ _ ?_;cbv)
 all_goals (clear m1 m2 m3 m4 m5;cases m0;(try clear hks;try clear hk2;try clear hk3);try dsimp only)
 all_goals try simp only [sm] at *
 all_goals first
  | exact hs
  | exact hz
  | exact ⟨Nat.le_trans h1.1 (by decide),fun y hy=>Nat.le_trans (h1.2 y hy) (by decide)⟩
  | exact ⟨Nat.le_trans hl (by decide)⟩
  | exact (hin (by assumption)).1
  | exact (hin (by assumption)).2
  | (rw [show f2 _ _=false by assumption];rfl)
  | (rw [show f2 _ _=true by assumption];rfl)
  | skip
end Go.Proofs.YtececadpjelanaaGreat.Ai
namespace Go.Proofs.YtececadpjelanaaGreat.Ai
open Go
set_option maxRecDepth 100000
variable [qh]
structure qoC (t:qx)(x:qn)(l:List Int):Prop where
 le:ZK t x
 sz:We x
 len:l.length<=1048576
end Go.Proofs.YtececadpjelanaaGreat.Ai
namespace Go.Proofs.YtececadpjelanaaGreat.Ai
open Go
set_option maxRecDepth 100000
variable [qh]
def adS (t:qx)(x:qn)(l:List Int):qn:=match Jp t x l with | true=>Wi x l | false=>⟨0,[],[]⟩
def adP (t:qx)(x:qn)(l:List Int):List Int:=match Jp t x l with | true=>jY t.nodes l | false=>[]
theorem qky (t:qx)(x:qn)(l:List Int):adR (Wi x l) (jY t.nodes l) (Jp t x l)=qmo (adS t x l) (adP t x l) (Jp t x l):=by
 unfold adS adP adR
 cases Jp t x l<;>rfl
theorem qiN (t:qx)(x:qn)(l:List Int):(adS t x l).times.length<=x.times.length:=by
 unfold adS
 cases Jp t x l
 . exact Nat.zero_le _
 . exact Nat.le_of_eq (JC _ _ _ _)
theorem qk4 (t:qx)(x:qn)(l:List Int):(adS t x l).vals.length<=x.vals.length:=by
 unfold adS
 cases Jp t x l
 . exact Nat.zero_le _
 . exact Nat.le_refl _
theorem qlS (t:qx)(x:qn)(l:List Int):(adP t x l).length<=3:=by
 unfold adP
 cases Jp t x l
 . exact Nat.zero_le _
 . exact qf4 _ _
def qlG (fs:qx->qn->List Int->qn)(fp:qx->qn->List Int->List Int)(f:qx->qn->List Int->Bool):Wr:=w3 q7 zj kB (fun t x l=>qmo (fs t x l) (fp t x l) (f t x l)) (fun t x l=>[qoC t x l])
theorem qjw:qH Tryz.prog 28 (qlG adS adP Jp):=vq fun t x l h=>by
 have h:=h _ (.head _)
 rw [<-qky]
 exact yQ t x l h.le h.sz h.len
theorem qjr:qH Tryz.prog 29 (qlG adS adP Jp):=vq fun t x l h=>by
 have h:=h _ (.head _)
 rw [<-qky]
 exact yU t x l h.le h.sz h.len
end Go.Proofs.YtececadpjelanaaGreat.Ai
namespace Go.Proofs.YtececadpjelanaaGreat.Ai
open Go
set_option maxRecDepth 100000
variable [qh]
theorem SEx.cut {G H:Prop}{P:Program}{T:Nat->Option Ty}{F:SF}{r:TV W}(h:∃ dr:Nat->Nat,∃ rs:Array ResultVar,∃ ks:List K,(Hd (H->SEx P T dr rs ks F r)->G)/\(H->SEx P T dr rs ks F r)):G:=by
 obtain ⟨dr,rs,ks,h1,h2⟩:=h
 exact h1 ⟨h2⟩
def qn5 (fs:qx->qn->List Int->qn)(fp:qx->qn->List Int->List Int)(f:qx->qn->List Int->Bool)(ns:List qf)(ts:List Tie)(hr now:Int)(times vals l:List Int):SF:=⟨177,[(2,.v (false,[.fz (.sl (.i l))])),(3,bP 12288),(4,bP 16384),(8,bP 32768),(9,bR 36864 (fp ⟨ns,ts,hr⟩ ⟨now,times,vals⟩ l).length),(10,.v (false,[.fz (.bool false (f ⟨ns,ts,hr⟩ ⟨now,times,vals⟩ l))]))],[(12288,.obx [.fz (.sl (.node false none ns)),.fz (.sl (.tie ts)),.fz (.int .i64 hr)]),(16384,.obx [.fz (.int .i64 now),.fz (.sl (.i times)),.fz (.sl (.i vals))]),(32768,.obx [.fz (.int .i64 (fs ⟨ns,ts,hr⟩ ⟨now,times,vals⟩ l).now),.osl (.i (fs ⟨ns,ts,hr⟩ ⟨now,times,vals⟩ l).times),.osl (.i (fs ⟨ns,ts,hr⟩ ⟨now,times,vals⟩ l).vals)]),(36864,.osl (.i (fp ⟨ns,ts,hr⟩ ⟨now,times,vals⟩ l)))]⟩
def qn9 (fs:qx->qn->List Int->qn)(fp:qx->qn->List Int->List Int)(f:qx->qn->List Int->Bool)(ns:List qf)(ts:List Tie)(hr now:Int)(times vals l:List Int)(f3:Int->Nat->List Int)(f4:Int->Nat->Nat->List Int)(g4:Int->Nat->Nat->Int)(g5:Int->Nat->Int):SF:=⟨177,[(8,bP 32768),(9,bR 36864 (fp ⟨ns,ts,hr⟩ ⟨now,times,vals⟩ l).length),(10,.v (false,[.fz (.bool false (f ⟨ns,ts,hr⟩ ⟨now,times,vals⟩ l))])),(14,bP 57344),(15,bR 61440 (fp ⟨ns,ts,hr⟩ ⟨now,times,vals⟩ l).length),(18,bI (g5 (g4 1 (fs ⟨ns,ts,hr⟩ ⟨now,times,vals⟩ l).times.length (fs ⟨ns,ts,hr⟩ ⟨now,times,vals⟩ l).vals.length) (fp ⟨ns,ts,hr⟩ ⟨now,times,vals⟩ l).length)),(20,bP 81920),(21,bR 86016 (fp ⟨ns,ts,hr⟩ ⟨now,times,vals⟩ l).length),(22,.v (false,[.fz (.bool false (f ⟨ns,ts,hr⟩ ⟨now,times,vals⟩ l))]))],[(32768,.obx [.fz (.int .i64 (fs ⟨ns,ts,hr⟩ ⟨now,times,vals⟩ l).now),.osl (.i (fs ⟨ns,ts,hr⟩ ⟨now,times,vals⟩ l).times),.osl (.i (fs ⟨ns,ts,hr⟩ ⟨now,times,vals⟩ l).vals)]),(36864,.osl (.i (fp ⟨ns,ts,hr⟩ ⟨now,times,vals⟩ l))),(57344,.obx [.fz (.int .i64 (fs ⟨ns,ts,hr⟩ ⟨now,times,vals⟩ l).now),.osl (.i (f3 1 (fs ⟨ns,ts,hr⟩ ⟨now,times,vals⟩ l).times.length)),.osl (.i (f4 1 (fs ⟨ns,ts,hr⟩ ⟨now,times,vals⟩ l).times.length (fs ⟨ns,ts,hr⟩ ⟨now,times,vals⟩ l).vals.length))]),(61440,.osl (.i (f3 (g4 1 (fs ⟨ns,ts,hr⟩ ⟨now,times,vals⟩ l).times.length (fs ⟨ns,ts,hr⟩ ⟨now,times,vals⟩ l).vals.length) (fp ⟨ns,ts,hr⟩ ⟨now,times,vals⟩ l).length))),(81920,.obx [.fz (.int .i64 (fs ⟨ns,ts,hr⟩ ⟨now,times,vals⟩ l).now),.osl (.i (fs ⟨ns,ts,hr⟩ ⟨now,times,vals⟩ l).times),.osl (.i (fs ⟨ns,ts,hr⟩ ⟨now,times,vals⟩ l).vals)]),(86016,.osl (.i (fp ⟨ns,ts,hr⟩ ⟨now,times,vals⟩ l)))]⟩
set_option maxHeartbeats 8000000 in
theorem qaY (t:qx)(x:qn)(l:List Int)(ht:Y3 t)(hx:Ww x)(hp:qkd l):qe Tryz.prog 5 [zk t,zB x,aIs l] (rB true):=by
 refine qe.of qc (fn:=Tryz.f5) (c:=Tryz.f5.body.getD .skip) (dr:=fun n=>qa 0 [(10,185204748),(17,3),(19,3),(41,185204748)] n) Tryz.func5 rfl (by kernel_rfl) (by kernel_rfl) (by kernel_rfl) ?_
 obtain ⟨fs,hfs⟩:∃ f,f=adS:=⟨_,rfl⟩
 obtain ⟨f,hf⟩:∃ f,f=Jp:=⟨_,rfl⟩
 obtain ⟨fp,hfp⟩:∃ f,f=adP:=⟨_,rfl⟩
 obtain ⟨g,hg⟩:∃ g,g=jk:=⟨_,rfl⟩
 obtain ⟨k,hk⟩:∃ g,g=kS:=⟨_,rfl⟩
 obtain ⟨f1,hf1⟩:∃ f,f=fN:=⟨_,rfl⟩
 obtain ⟨f2,hf2⟩:∃ f,f=shT:=⟨_,rfl⟩
 obtain ⟨g1,hg1⟩:∃ f,f=shG:=⟨_,rfl⟩
 obtain ⟨f3,hf3⟩:∃ f,f=zC:=⟨_,rfl⟩
 obtain ⟨f4,hf4⟩:∃ f,f=stF:=⟨_,rfl⟩
 obtain ⟨g4,hg4⟩:∃ f,f=stG:=⟨_,rfl⟩
 obtain ⟨g5,hg5⟩:∃ f,f=jO:=⟨_,rfl⟩
 obtain ⟨ln,hln⟩:∃ f,f=@List.length Int:=⟨_,rfl⟩
 have hO:qm Tryz.prog (qL [(9,qfZ g),(10,qb2 k),(12,qfV),(13,qdI),(23,Wv),(28,qlG fs fp f),(29,qlG fs fp f),(16,qgz),(17,qcw),(25,WD),(27,qgk g4 ln),(30,qfO g5 f3 ln)]):=by
  subst hfs hf hfp hg hk hg4 hg5 hf3 hln
  exact qb qeX (qb qcS (qb qfD (qb qbz (qb K6 (qb qjw (qb qjr (qb qdP (qb qdw (qb K4 (qb qeg (qb y8 qd)))))))))))
 have hW:zR Tryz.prog (XX.withW [(18,[(0,0),(0,1)]),(19,[(0,1),(0,2)]),(26,[(0,0)])] (kw [(18,Qf f1 f2 g1),(19,jy f3 f4 g4),(26,QO f3 g5)])):=by
  subst hf1 hf2 hg1 hf3 hf4 hg4 hg5
  exact SX.withW_ok (zM qaK (zM yS (zM wO jA)))
 have hA:0<=g t 1048576->qdV t (g t 1048576):=fun h=>by rw [hg] at h ⊢;exact qns h
 have hB:0<=g t 1048576->0<=k x (g t 1048576)->qgg x:=fun h h2=>by rw [hk] at h2;exact qlu h (hA h).le h2
 have hG:0<=g t 1048576->qnR (g t 1048576) (g1 1 t.nodes t.ties.length):=fun h=>by rw [hg1];exact (qno (hA h)).1
 have hS1:(fs t x l).times.length<=x.times.length:=by rw [hfs];exact qiN ..
 have hS2:(fs t x l).vals.length<=x.vals.length:=by rw [hfs];exact qk4 ..
 have hS3:(fp t x l).length<=3:=by rw [hfp];exact qlS ..
 have h1:=ht.le
 have h2:=hx.le
 have h3:=hp.len
 have hn:∀ q∈t.nodes,wL q maxLen:=fun q hq=>⟨(ht.nodes q hq).name,(ht.nodes q hq).len⟩
 clear ht hx hfs hf hfp hg hk
 obtain ⟨ns,ts,hr⟩:=t
 obtain ⟨now,times,vals⟩:=x
 dsimp only at hG hS1 hS2
 have hT1:=hS1
 have hT2:=hS2
 delta qn.times qn.vals at hS1 hS2
 refine SEx.cut (H:=0<=g ⟨ns,ts,hr⟩ 1048576/\0<=k ⟨now,times,vals⟩ (g ⟨ns,ts,hr⟩ 1048576)/\(l.length:Int)<=1048576) (P:=Tryz.prog) (T:=XX.T) (F:=qn5 fs fp f ns ts hr now times vals l) (r:=rB true) ?_
 apply Exists.intro
 apply Exists.intro
 apply Exists.intro
 apply And.intro
 case h.h.h.left =>
  intro key
  refine SEx.go (X:=(SX.withS (XX.withW [(18,[(0,0),(0,1)]),(19,[(0,1),(0,2)]),(26,[(0,0)])] (kw [(18,Qf f1 f2 g1),(19,jy f3 f4 g4),(26,QO f3 g5)])) [(11,[2,3,4,8,9,10])])) qc (fun n=>qa [] [] n) (fun _=>none) hO 60 ?_ hW
  intro M R L N m0 m1 m2 m3 m4 m5
  cases M
  cbv
  repeat' first | refine m1 _ _ ?_ ?_ | refine m2 _ _ fun h=>?_ | refine m3 _ ?_ | (refine m4 _ _ (Hd.out ?_);generalize hks:(List.cons _ _:List K)=ks) | (refine m5 _ _ ?_;cbv)
  all_goals (clear m1 m2 m3 m4 m5;cases m0;try dsimp only)
  all_goals try simp only [sm] at *
  all_goals (try simp only [hf1,hf2,hf3,hf4,hg4,hg5,hln,jO,stG,qT,YT] at *)
  all_goals (try (have G:=hG (by assumption);have G1:=G.lo;have G2:=G.hi))
  all_goals (try (have b:=hB (by assumption) (by assumption);have b1:=b.tlen;have b2:=b.vlen;dsimp only at b1 b2))
  all_goals first
   | (rw [<-hks];exact ⟨(key.out ⟨by assumption,by assumption,by assumption⟩).same rfl rfl⟩)
   | rfl
   | contradiction
   | exact ⟨h1.len⟩
   | exact ⟨h1.tlen⟩
   | exact ⟨hn⟩
   | exact ⟨⟨by decide,by decide⟩⟩
   | exact ⟨h2.tlen⟩
   | exact ⟨h2.vlen⟩
   | exact ⟨⟨by assumption,by have:=(hA (by assumption)).le;omega⟩⟩
   | exact ⟨(hA (by assumption)).len⟩
   | exact ⟨(hA (by assumption)).tlen⟩
   | exact ⟨(hA (by assumption)).labs⟩
   | exact ⟨b1⟩
   | exact ⟨b2⟩
   | exact ⟨⟨h1,h2⟩,⟨b1,b2⟩,by omega⟩
   | exact ⟨rfl⟩
   | exact ⟨by omega⟩
   | exact ⟨Nat.le_trans hT1 h2.tlen⟩
   | exact ⟨Nat.le_trans hT2 h2.vlen⟩
   | exact ⟨Nat.le_trans hT1 b1⟩
   | exact ⟨Nat.le_trans hT2 b2⟩
   | exact ⟨fun q hq=>(h1.nodes q hq).len⟩
   | exact absurd trivial (by assumption)
   | exact absurd rfl (by assumption)
   | exact (qar _ _).symm
   | exact (kL _ _).symm
   | exact ⟨⟨rfl,rfl,rfl,rfl⟩,rfl,rfl,h1.len,h1.tlen,fun q hq=>(h1.nodes q hq).len,by decide,by omega⟩
   | exact ⟨⟨rfl,rfl,rfl,rfl⟩,rfl,rfl,h2.tlen,h2.vlen,by omega,by omega⟩
   | exact ⟨⟨rfl,rfl,rfl,rfl⟩,rfl,rfl,Nat.le_trans hT1 h2.tlen,Nat.le_trans hT2 h2.vlen,by omega,by omega⟩
   | exact ⟨rfl,rfl,rfl,by unfold maxLen;omega,by omega,by omega⟩
   | exact yv (fs ⟨ns,ts,hr⟩ ⟨now,times,vals⟩ l) (Nat.le_trans hT1 b1) (Nat.le_trans hT2 b2)
   | exact qa6 (fs ⟨ns,ts,hr⟩ ⟨now,times,vals⟩ l) (Nat.le_trans hT1 b1) (Nat.le_trans hT2 b2)
   | (exfalso;omega)
   | skip
 case h.h.h.right =>
  rintro ⟨hg0,hk0,hl0⟩
  delta qn5
  obtain ⟨pn,hpn⟩:∃ pn,pn=(fp ⟨ns,ts,hr⟩ ⟨now,times,vals⟩ l).length:=⟨_,rfl⟩
  rw [<-hpn]
  refine SEx.cut (H:=0<=g ⟨ns,ts,hr⟩ 1048576/\0<=k ⟨now,times,vals⟩ (g ⟨ns,ts,hr⟩ 1048576)/\(l.length:Int)<=1048576) (P:=Tryz.prog) (T:=XX.T) (F:=qn9 fs fp f ns ts hr now times vals l zC stF stG jO) (r:=rB true) ?_
  apply Exists.intro
  apply Exists.intro
  apply Exists.intro
  apply And.intro
  case h.h.h.left =>
   intro key
   refine SEx.go (X:=(SX.withS (XX.withW [(18,[(0,0),(0,1)]),(19,[(0,1),(0,2)]),(26,[(0,0)])] (kw [(18,Qf f1 f2 g1),(19,jy f3 f4 g4),(26,QO f3 g5)])) [(42,[8,9,10,14,15,18,20,21,22])])) qc (fun n=>qa [] [] n) (fun _=>none) hO 100 ?_ hW
   intro M R L N m0 m1 m2 m3 m4 m5
   cases M
   cbv
   repeat' first | refine m1 _ _ ?_ ?_ | refine m2 _ _ fun h=>?_ | refine m3 _ ?_ | (refine m4 _ _ (Hd.out ?_);generalize hks:(List.cons _ _:List K)=ks) | (refine m5 _ _ ?_;cbv)
   all_goals (clear m1 m2 m3 m4 m5;cases m0;try dsimp only)
   all_goals try simp only [sm] at *
   all_goals (try simp only [hpn,hf1,hf2,hf3,hf4,hg4,hg5,hln,jO,stG,qT,YT] at *)
   all_goals (try (have G:=hG (by assumption);have G1:=G.lo;have G2:=G.hi))
   all_goals (try (have b:=hB (by assumption) (by assumption);have b1:=b.tlen;have b2:=b.vlen;dsimp only at b1 b2))
   all_goals first
    | (rw [<-hks];exact ⟨(key.out ⟨by assumption,by assumption,by assumption⟩).same rfl rfl⟩)
    | rfl
    | contradiction
    | exact ⟨h1.len⟩
    | exact ⟨h1.tlen⟩
    | exact ⟨hn⟩
    | exact ⟨⟨by decide,by decide⟩⟩
    | exact ⟨h2.tlen⟩
    | exact ⟨h2.vlen⟩
    | exact ⟨⟨by assumption,by have:=(hA (by assumption)).le;omega⟩⟩
    | exact ⟨(hA (by assumption)).len⟩
    | exact ⟨(hA (by assumption)).tlen⟩
    | exact ⟨(hA (by assumption)).labs⟩
    | exact ⟨b1⟩
    | exact ⟨b2⟩
    | exact ⟨⟨h1,h2⟩,⟨b1,b2⟩,by omega⟩
    | exact ⟨rfl⟩
    | exact ⟨by omega⟩
    | exact ⟨Nat.le_trans hT1 h2.tlen⟩
    | exact ⟨Nat.le_trans hT2 h2.vlen⟩
    | exact ⟨Nat.le_trans hT1 b1⟩
    | exact ⟨Nat.le_trans hT2 b2⟩
    | exact ⟨fun q hq=>(h1.nodes q hq).len⟩
    | exact absurd trivial (by assumption)
    | exact absurd rfl (by assumption)
    | exact (qar _ _).symm
    | exact (kL _ _).symm
    | exact ⟨⟨rfl,rfl,rfl,rfl⟩,rfl,rfl,h1.len,h1.tlen,fun q hq=>(h1.nodes q hq).len,by decide,by omega⟩
    | exact ⟨⟨rfl,rfl,rfl,rfl⟩,rfl,rfl,h2.tlen,h2.vlen,by omega,by omega⟩
    | exact ⟨⟨rfl,rfl,rfl,rfl⟩,rfl,rfl,Nat.le_trans hT1 h2.tlen,Nat.le_trans hT2 h2.vlen,by omega,by omega⟩
    | exact ⟨rfl,rfl,rfl,by unfold maxLen;omega,by omega,by omega⟩
    | exact yv (fs ⟨ns,ts,hr⟩ ⟨now,times,vals⟩ l) (Nat.le_trans hT1 b1) (Nat.le_trans hT2 b2)
    | exact qa6 (fs ⟨ns,ts,hr⟩ ⟨now,times,vals⟩ l) (Nat.le_trans hT1 b1) (Nat.le_trans hT2 b2)
    | (cases fp ⟨ns,ts,hr⟩ ⟨now,times,vals⟩ l<;>rfl)
    | (show MkI _ _ _ (fp ⟨ns,ts,hr⟩ ⟨now,times,vals⟩ l) (1+((fs ⟨ns,ts,hr⟩ ⟨now,times,vals⟩ l).times.length:Int)+((fs ⟨ns,ts,hr⟩ ⟨now,times,vals⟩ l).vals.length:Int));exact ⟨rfl,rfl,rfl,by unfold maxLen;omega,by omega,by omega⟩)
    | (refine ⟨?_⟩;rw [qT];omega)
    | (show qnb (1+((fs ⟨ns,ts,hr⟩ ⟨now,times,vals⟩ l).times.length:Int)+((fs ⟨ns,ts,hr⟩ ⟨now,times,vals⟩ l).vals.length:Int)) _;exact ⟨⟨by omega,by omega⟩⟩)
    | (exfalso;omega)
    | skip
  case h.h.h.right =>
   rintro ⟨hg0,hk0,hl0⟩
   delta qn9
   obtain ⟨tn,htn⟩:∃ tn,tn=(fs ⟨ns,ts,hr⟩ ⟨now,times,vals⟩ l).times.length:=⟨_,rfl⟩
   obtain ⟨vn,hvn⟩:∃ vn,vn=(fs ⟨ns,ts,hr⟩ ⟨now,times,vals⟩ l).vals.length:=⟨_,rfl⟩
   rw [<-hf3,<-hf4,<-hg4,<-hg5,<-hpn,<-htn,<-hvn]
   refine SEx.go (X:=(XX.withW [(18,[(0,0),(0,1)]),(19,[(0,1),(0,2)]),(26,[(0,0)])] (kw [(18,Qf f1 f2 g1),(19,jy f3 f4 g4),(26,QO f3 g5)]))) qc (fun n=>qa [] [] n) (fun _=>none) hO 60 ?_ hW
   intro M R L N m0 m1 m2 m3 m4 m5
   cases M
   cbv
   repeat' first | refine m1 _ _ ?_ ?_ | refine m2 _ _ fun h=>?_ | refine m3 _ ?_ | (refine m4 _ _ (Hd.out ?_);try first | rw [hks] | rw [hk2] | rw [hk3]) | (refine m5 _ _ ?_;cbv)
   all_goals (clear m1 m2 m3 m4 m5;cases m0;(try clear hks;try clear hk2;try clear hk3);try dsimp only)
   all_goals try simp only [sm] at *
   all_goals (try simp only [hpn,htn,hvn,hf1,hf2,hf3,hf4,hg4,hg5,hln,jO,stG,qT,YT] at *)
   all_goals (try (have G:=hG (by assumption);have G1:=G.lo;have G2:=G.hi))
   all_goals (try (have b:=hB (by assumption) (by assumption);have b1:=b.tlen;have b2:=b.vlen;dsimp only at b1 b2))
   all_goals first
    | rfl
    | contradiction
    | exact ⟨h1.len⟩
    | exact ⟨h1.tlen⟩
    | exact ⟨hn⟩
    | exact ⟨⟨by decide,by decide⟩⟩
    | exact ⟨h2.tlen⟩
    | exact ⟨h2.vlen⟩
    | exact ⟨⟨by assumption,by have:=(hA (by assumption)).le;omega⟩⟩
    | exact ⟨(hA (by assumption)).len⟩
    | exact ⟨(hA (by assumption)).tlen⟩
    | exact ⟨(hA (by assumption)).labs⟩
    | exact ⟨b1⟩
    | exact ⟨b2⟩
    | exact ⟨⟨h1,h2⟩,⟨b1,b2⟩,by omega⟩
    | exact ⟨rfl⟩
    | exact ⟨by omega⟩
    | exact ⟨Nat.le_trans hT1 h2.tlen⟩
    | exact ⟨Nat.le_trans hT2 h2.vlen⟩
    | exact ⟨Nat.le_trans hT1 b1⟩
    | exact ⟨Nat.le_trans hT2 b2⟩
    | exact ⟨fun q hq=>(h1.nodes q hq).len⟩
    | exact absurd trivial (by assumption)
    | exact absurd rfl (by assumption)
    | exact (qar _ _).symm
    | exact (kL _ _).symm
    | exact ⟨⟨rfl,rfl,rfl,rfl⟩,rfl,rfl,h1.len,h1.tlen,fun q hq=>(h1.nodes q hq).len,by decide,by omega⟩
    | exact ⟨⟨rfl,rfl,rfl,rfl⟩,rfl,rfl,h2.tlen,h2.vlen,by omega,by omega⟩
    | exact ⟨⟨rfl,rfl,rfl,rfl⟩,rfl,rfl,Nat.le_trans hT1 h2.tlen,Nat.le_trans hT2 h2.vlen,by omega,by omega⟩
    | exact ⟨rfl,rfl,rfl,by unfold maxLen;omega,by omega,by omega⟩
    | exact yv (fs ⟨ns,ts,hr⟩ ⟨now,times,vals⟩ l) (Nat.le_trans hT1 b1) (Nat.le_trans hT2 b2)
    | exact qa6 (fs ⟨ns,ts,hr⟩ ⟨now,times,vals⟩ l) (Nat.le_trans hT1 b1) (Nat.le_trans hT2 b2)
    | (cases fp ⟨ns,ts,hr⟩ ⟨now,times,vals⟩ l<;>rfl)
    | (show MkI _ _ _ (fp ⟨ns,ts,hr⟩ ⟨now,times,vals⟩ l) (1+((fs ⟨ns,ts,hr⟩ ⟨now,times,vals⟩ l).times.length:Int)+((fs ⟨ns,ts,hr⟩ ⟨now,times,vals⟩ l).vals.length:Int));exact ⟨rfl,rfl,rfl,by unfold maxLen;omega,by omega,by omega⟩)
    | (refine ⟨?_⟩;rw [qT];omega)
    | (show qnb (1+((fs ⟨ns,ts,hr⟩ ⟨now,times,vals⟩ l).times.length:Int)+((fs ⟨ns,ts,hr⟩ ⟨now,times,vals⟩ l).vals.length:Int)) _;exact ⟨⟨by omega,by omega⟩⟩)
    | (exfalso;omega)
    | skip
end Go.Proofs.YtececadpjelanaaGreat.Ai
