/- The law's proof, part 11 of 12: what of its author's texts it needs; no condition. -/
import Derived.Test.YtifnopmkdempdaaGreatZcJ
set_option linter.unusedSectionVars false
set_option linter.unusedSimpArgs false
set_option linter.unusedVariables false
namespace Go.Proofs.YtifnopmkdempdaaGreat.Ai
open Go
set_option maxRecDepth 100000
variable [qh]
set_option maxHeartbeats 8000000 in
theorem qht (t:ql)(x:qf)(l:List Int)(ht:qcj t)(hx:yl x)(hp:qm5 l):qe Tryz.prog 7 [qQ t,qH x,aIs l] (rB true):=by
 refine qe.of qc (fn:=Tryz.f7) (c:=Tryz.f7.body.getD .skip) (dr:=fun n=>qa 0 [(10,655370),(17,3),(19,3),(37,655370)] n) Tryz.func7 rfl (by kernel_rfl) (by kernel_rfl) (by kernel_rfl) ?_
 obtain ⟨f,hf⟩:∃ f,f=bvL:=⟨_,rfl⟩
 obtain ⟨f0,hf0⟩:∃ f,f=bvB:=⟨_,rfl⟩
 obtain ⟨g,hg⟩:∃ f,f=jS:=⟨_,rfl⟩
 obtain ⟨k,hk⟩:∃ f,f=jG:=⟨_,rfl⟩
 obtain ⟨f1,hf1⟩:∃ f,f=fN:=⟨_,rfl⟩
 obtain ⟨f2,hf2⟩:∃ f,f=shT:=⟨_,rfl⟩
 obtain ⟨g1,hg1⟩:∃ f,f=shG:=⟨_,rfl⟩
 obtain ⟨f3,hf3⟩:∃ f,f=kx:=⟨_,rfl⟩
 obtain ⟨f4,hf4⟩:∃ f,f=stF:=⟨_,rfl⟩
 obtain ⟨g4,hg4⟩:∃ f,f=stG:=⟨_,rfl⟩
 obtain ⟨g5,hg5⟩:∃ f,f=KI:=⟨_,rfl⟩
 obtain ⟨ln,hln⟩:∃ f,f=@List.length Int:=⟨_,rfl⟩
 have hO:qp Tryz.prog (qJ [(8,qiS g),(9,qeV k),(11,qjG),(12,qdG),(13,VV),(28,wBV f f0),(29,wBV f f0),(15,qiN),(16,qfC),(17,V0),(23,qo5 g5 f3 ln)]):=by
  subst hf hf0 hg hk hf3 hg5 hln
  exact qb qh0 (qb qe9 (qb qhJ (qb qew (qb ww (qb qpp (qb qpK (qb qiv (qb qdU (qb wy (qb qk8 qd))))))))))
 have hW:q8 Tryz.prog (XX.withW [(20,[(0,0),(0,1)]),(21,[(0,1),(0,2)]),(22,[(0,0)])] (kH [(20,JH f1 f2 g1),(21,Kd f3 f4 g4),(22,KK f3 g5)])):=by
  subst hf1 hf2 hg1 hf3 hf4 hg4 hg5
  exact SX.withW_ok (zT qcd (zT qaX (zT Wy jm)))
 have hA:0<=g t 1048576->qhD t (g t 1048576):=fun h=>by rw [hg] at h ⊢;exact qrl h
 have hB:0<=g t 1048576->0<=k x (g t 1048576)->qjf x:=fun h h2=>by rw [hk] at h2;exact qqq h (hA h).le h2
 have hG:0<=g t 1048576->qsv (g t 1048576) (g1 1 t.nodes t.ties.length):=fun h=>by rw [hg1];exact (qrU (hA h)).1
 have h1:=ht.le
 have h2:=hx.le
 have h3:=hp.len
 have hL:0<=g t 1048576->(f t x l).length<=1048576:=fun _=>by rw [hf];exact Nat.le_trans (qqc t x l) (by decide)
 have hn:∀ q∈t.nodes,WT q maxLen:=fun q hq=>⟨(ht.nodes q hq).name,(ht.nodes q hq).len⟩
 clear ht hx hf hf0 hg hk
 obtain ⟨ns,ts,hr⟩:=t
 obtain ⟨now,times,vals⟩:=x
 dsimp only at hG
 refine SEx.go (X:=(XX.withW [(20,[(0,0),(0,1)]),(21,[(0,1),(0,2)]),(22,[(0,0)])] (kH [(20,JH f1 f2 g1),(21,Kd f3 f4 g4),(22,KK f3 g5)]))) qc (fun n=>qa [] [] n) (fun _=>none) hO 120 ?_ hW
 intro M R L N m0 m1 m2 m3 m4 m5
 cases M
 cbv
 repeat' first | refine m1 _ _ ?_ ?_ | refine m2 _ _ fun h=>?_ | refine m3 _ ?_ | (refine m4 _ _ (Hd.out ?_);try first | rw [hks] | rw [hk2] | rw [hk3]) | (refine m5 _ _ ?_;cbv)
 all_goals (clear m1 m2 m3 m4 m5;cases m0;(try clear hks;try clear hk2;try clear hk3);try dsimp only)
 all_goals try simp only [sm] at *
 all_goals (clear hO hW;subst hf1 hf2 hf3 hf4 hg4 hg5 hln)
 all_goals (try simp only [KI,stG,zO,qp6] at *)
 all_goals (try (have G:=hG (by assumption);have G1:=G.lo;have G2:=G.hi))
 all_goals (try (have b:=hB (by assumption) (by assumption);have b1:=b.tlen;have b2:=b.vlen;dsimp only at b1 b2))
 all_goals first
  | rfl
  | contradiction
  | exact ⟨h1.len⟩
  | exact ⟨h1.tlen⟩
  | exact ⟨hn⟩
  | exact ⟨⟨by decide,by decide⟩⟩
  | exact ⟨h2.tlen⟩
  | exact ⟨h2.vlen⟩
  | exact ⟨⟨by assumption,by have:=(hA (by assumption)).le;omega⟩⟩
  | exact ⟨(hA (by assumption)).len⟩
  | exact ⟨(hA (by assumption)).tlen⟩
  | exact ⟨(hA (by assumption)).labs⟩
  | exact ⟨b1⟩
  | exact ⟨b2⟩
  | exact ⟨⟨h1,h2⟩,⟨b1,b2⟩,by omega⟩
  | exact ⟨rfl⟩
  | exact ⟨by omega⟩
  | exact ⟨fun q hq=>(h1.nodes q hq).len⟩
  | exact absurd trivial (by assumption)
  | exact absurd rfl (by assumption)
  | exact (qoP _ _).symm
  | exact (Q4 _ _).symm
  | exact (zO _ _).symm
  | exact ⟨⟨rfl,rfl,rfl,rfl⟩,rfl,rfl,h1.len,h1.tlen,fun q hq=>(h1.nodes q hq).len,by decide,by omega⟩
  | exact ⟨⟨rfl,rfl,rfl,rfl⟩,rfl,rfl,h2.tlen,h2.vlen,by omega,by omega⟩
  | exact ⟨Nat.le_trans (hL (by assumption)) (by decide)⟩
  | exact ⟨rfl,rfl,rfl,by unfold maxLen;omega,by omega,by omega⟩
  | exact ⟨rfl,rfl,rfl,Nat.le_trans (hL (by assumption)) (by decide),by omega,by have:=hL (by assumption);omega⟩
  | (refine ⟨?_⟩;rw [zO];done)
  | (refine ⟨?_⟩;rw [zO];exact Nat.le_trans (hL (by assumption)) (by decide))
  | (show qsj 1 (kx 1 _).length;rw [zO];exact ⟨⟨by omega,by have:=hL (by assumption);omega⟩⟩)
  | exact ⟨⟨by omega,by have:=hL (by assumption);omega⟩⟩
  | (exfalso;omega)
  | skip
end Go.Proofs.YtifnopmkdempdaaGreat.Ai
