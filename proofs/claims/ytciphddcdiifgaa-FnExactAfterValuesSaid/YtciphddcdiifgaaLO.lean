/- Broken states, the program's side. -/
import Derived.Test.YtciphddcdiifgaaTy
import Derived.Test.YtciphddcdiifgaaU
import Derived.Test.YtciphddcdiifgaaSF
import Derived.Test.YtciphddcdiifgaaLD
import Derived.Test.YtciphddcdiifgaaLJ
import Derived.Test.YtciphddcdiifgaaLK
import Derived.Test.YtciphddcdiifgaaLM
import Derived.Test.YtciphddcdiifgaaLN
namespace Go.Proofs.Ytciphddcdiifgaa.Ai
open Go
set_option maxRecDepth 100000
set_option linter.unusedVariables false
set_option linter.unusedSimpArgs false
theorem isTieBroken_ok (t : Show) (x : State) (q : Tie) (hs : StLe t x) (hst : StT t x) (hq : TieT t q) : SCall Try.prog 86 [aShow t, aState x, aTie q] (rB (lateB t x q)) := by
  refine SCall.of X86_ok (fn := Try.f86) (c := Try.f86.body.getD .skip) (dr := fun n => look 0 [(1, 14)] n) Try.func86 rfl (by kernel_rfl) (by kernel_rfl) (by kernel_rfl) ?_
  obtain ⟨f1, hf1⟩ : ∃ f, f = nsI := ⟨_, rfl⟩
  have hO : SOraOK Try.prog (oraL [(87, wNodeState f1)]) := by
    subst hf1
    exact oraL_cons wNodeState_ok oraL_nil
  have hn := hst.now
  have hh := showB_hor hst.sh
  have ht := hst.time
  have h5 := hq.src
  have h6 := hq.dst
  have hr : lateB t x q = if ¬ x.times.getD q.src.toNat 0 = -1 ∧ ¬ x.times.getD q.dst.toNat 0 = -1 then !(decide (q.low ≤ x.times.getD q.dst.toNat 0 - x.times.getD q.src.toNat 0) && decide (x.times.getD q.dst.toNat 0 - x.times.getD q.src.toNat 0 ≤ q.high))
    else if q.free = true then false
    else if ¬ x.times.getD q.src.toNat 0 = -1 then decide (f1 t x q.dst = 1) && decide (q.high < x.now - x.times.getD q.src.toNat 0)
    else if ¬ x.times.getD q.dst.toNat 0 = -1 then decide (f1 t x q.src = 1) && decide (x.times.getD q.dst.toNat 0 - x.now < q.low)
    else false := by rw [hf1]; rfl
  rw [hr]
  clear hq hr
  obtain ⟨ns, ts, hr⟩ := t
  obtain ⟨now, times, vals⟩ := x
  obtain ⟨x1, x2, x3, x4, x5⟩ := q
  dsimp only at hn hh ht h5 h6 ⊢
  have hta := ht x1.toNat
  have htb := ht x2.toNat
  have hw1 : IntKind.i64.wrap (times.getD x2.toNat 0 - times.getD x1.toNat 0) = times.getD x2.toNat 0 - times.getD x1.toNat 0 := wrap_i64 (by omega) (by omega)
  have hw2 : IntKind.i64.wrap (now - times.getD x1.toNat 0) = now - times.getD x1.toNat 0 := wrap_i64 (by omega) (by omega)
  have hw3 : IntKind.i64.wrap (times.getD x2.toNat 0 - now) = times.getD x2.toNat 0 - now := wrap_i64 (by omega) (by omega)
  refine SEx.go (X := X86) X86_ok (fun n => look [] [] n) (fun _ => none) hO 60 ?_
  intro M R L N hM hAnd hImp hR hL hN
  cases M
  cbv
  repeat' first | (refine hAnd _ _ ?_ ?_) | (refine hImp _ _ (fun h => ?_)) | (refine hR _ ?_) | (refine hL _ _ (Hd.out ?_); try first | rw [hks] | rw [hk2] | rw [hk3]) | (refine hN _ _ ?_; cbv)
  all_goals (clear hAnd hImp hR hL hN; try clear hks; try clear hk2; try clear hk3)
  all_goals (cases hM; try dsimp only)
  all_goals (try simp only [Bool.not_eq_true', Bool.not_eq_false', decide_eq_true_eq, decide_eq_false_iff_not, Int.not_le, Int.not_lt, beq_iff_eq, beq_eq_false_iff_ne, ne_eq, Int.ofNat_eq_natCast, Int.toNat_natCast, List.length_replicate, ncast, Nat.sub_zero, List.drop_zero, Cue.eta, Tie.eta, Edge.eta, Link.eta, Node.eta] at *)
  all_goals (clear hO ht)
  all_goals (try simp only [hw1, hw2, hw3] at *)
  all_goals first
    | omega
    | contradiction
    | exact hs
    | exact hst
    | exact ⟨h5⟩
    | exact ⟨h6⟩
    | (refine er_via ?_ _; clear hs hst hw1 hw2 hw3; simp_all; done)
    | (refine er_via ?_ _; clear hs hst hw1 hw2 hw3; rw [if_pos ⟨by assumption, by assumption⟩]; first | (rw [decide_eq_false (show ¬ _ by omega)]; rfl) | (rw [decide_eq_true (show x3 ≤ _ by omega), Bool.true_and, Bool.eq_iff_iff]; simp; done))
    | skip
structure ShowIs (t u : Show) : Prop where out : t = u
def wTieBr (f : Show → State → Tie → Bool) : Wr := w3 dcShow dcState dcTie (fun t x q => rB (f t x q)) (fun t x q => [StLe t x, StT t x, TieT t q])
theorem wTieBr_ok : WrOK Try.prog 86 (wTieBr lateB) := w3_ok fun t x q h => isTieBroken_ok t x q (h _ (.head _)) (h _ (.tail _ (.head _))) (h _ (.tail _ (.tail _ (.head _))))
theorem isBroken1_ok (q : Tie) (t : Show) (x : State) (hs : StLe t x) (hst : StT t x) (hq : TieT t q) : SCall Try.prog 85 [aTie q, (false, [.ptr t.d]), (false, [.ptr x.d])] (rB (lateB t x q)) := by
  refine SCall.of X85_ok (fn := Try.f85) (c := Try.f85.body.getD .skip) (dr := fun n => look 0 [] n) Try.func85 rfl (by kernel_rfl) (by kernel_rfl) (by kernel_rfl) ?_
  obtain ⟨f, hf⟩ : ∃ f, f = lateB := ⟨_, rfl⟩
  have hO : SOraOK Try.prog (oraL [(86, wTieBr f)]) := by subst hf; exact oraL_cons wTieBr_ok oraL_nil
  rw [← hf]
  obtain ⟨ns, ts, hr⟩ := t
  obtain ⟨now, times, vals⟩ := x
  obtain ⟨x1, x2, x3, x4, x5⟩ := q
  refine SEx.go (X := X85) X85_ok (fun n => look [] [] n) (fun _ => none) hO 60 ?_
  intro M R L N hM hAnd hImp hR hL hN
  cases M
  cbv
  repeat' first | (refine hAnd _ _ ?_ ?_) | (refine hImp _ _ (fun h => ?_)) | (refine hR _ ?_) | (refine hL _ _ (Hd.out ?_); try first | rw [hks] | rw [hk2] | rw [hk3]) | (refine hN _ _ ?_; cbv)
  all_goals (clear hAnd hImp hR hL hN; try clear hks; try clear hk2; try clear hk3)
  all_goals (cases hM; try dsimp only)
  all_goals (try simp only [Bool.not_eq_true', Bool.not_eq_false', decide_eq_true_eq, decide_eq_false_iff_not, Int.not_le, Int.not_lt, beq_iff_eq, beq_eq_false_iff_ne, ne_eq, Int.ofNat_eq_natCast, Int.toNat_natCast, List.length_replicate, ncast, Nat.sub_zero, List.drop_zero, Cue.eta, Tie.eta, Edge.eta, Link.eta, Node.eta] at *)
  all_goals first
    | exact hs
    | exact hst
    | exact hq
    | rfl
    | skip
theorem areOver_ok (t : Show) (x : State) (hs : StLe t x) (hst : StT t x) : SCall Try.prog 57 [aShow t, aState x] (rB (overB t x)) := by
  refine SCall.of X57_ok (fn := Try.f57) (c := Try.f57.body.getD .skip) (dr := fun n => look 0 [] n) Try.func57 rfl (by kernel_rfl) (by kernel_rfl) (by kernel_rfl) ?_
  obtain ⟨f, hf⟩ : ∃ f, f = nsI := ⟨_, rfl⟩
  have hO : SOraOK Try.prog (oraL [(87, wNodeState f)]) := by subst hf; exact oraL_cons wNodeState_ok oraL_nil
  have hn := hst.now
  have h1 := showB_len hst.sh
  have hge : ∀ i, -1 ≤ f t x i := fun i => by rw [hf]; unfold nsI; exact (labF_ge hst.vals _ 1 (by decide) (by decide)).1
  obtain ⟨p, hp⟩ : ∃ p : Nat → Int → Bool, p = fun (i : Nat) (n : Int) => !(decide (n = -1) && !decide (f t x (i : Int) = -1)) := ⟨_, rfl⟩
  have hr : overB t x = (allF p x.times 0 && true) := by
    rw [Bool.and_true, allF_R (0 : Int), hn.2.2, hp]
    unfold overB
    congr 1
    funext i
    unfold overP
    have := hge i
    rw [hf] at this
    rw [hf, show decide (0 ≤ nsI t x i) = !decide (nsI t x i = -1) by rw [← decide_not]; exact decide_eq_decide.2 (by omega)]
  rw [hr]
  clear hr hf
  obtain ⟨ns, ts, hr⟩ := t
  obtain ⟨now, times, vals⟩ := x
  dsimp only at hn h1 hp ⊢
  refine SEx.go (X := X57) X57_ok (fun n => look [] [(2, [2, 3, 8, 9, 10])] n) (fun _ => none) hO 60 ?_
  intro M R L N hM hAnd hImp hR hL hN
  cases M
  cbv
  repeat' first | (refine hAnd _ _ ?_ ?_) | (refine hImp _ _ (fun h => ?_)) | (refine hR _ ?_) | (refine hL _ _ (Hd.out ?_); generalize hks : (List.cons _ _ : List K) = ks) | (refine hN _ _ ?_; cbv)
  all_goals (clear hAnd hImp hR hL hN)
  all_goals (cases hM; try dsimp only)
  all_goals (try simp only [Bool.not_eq_true', Bool.not_eq_false', decide_eq_true_eq, decide_eq_false_iff_not, Int.not_le, Int.not_lt, beq_iff_eq, beq_eq_false_iff_ne, ne_eq, Int.ofNat_eq_natCast, Int.toNat_natCast, List.length_replicate, ncast, Nat.sub_zero, List.drop_zero, Cue.eta, Tie.eta, Edge.eta, Link.eta, Node.eta] at *)
  obtain ⟨m, hm⟩ : ∃ m, m = times.length := ⟨_, rfl⟩
  refine ⟨SEx.same (SEx.idx m (fun i => ⟨25, [(2, bP 8192), (3, bP 12288), (8, bL (.i times)), (9, bI m), (10, bI i)], [(8192, .obx [.fz (.sl (.node false none ns)), .fz (.sl (.tie ts)), .fz (.int .i64 hr)]), (12288, .obx [.fz (.int .i64 now), .fz (.sl (.i times)), .fz (.sl (.i vals))])]⟩) (fun i => rB (allF p (times.drop i) i && true)) ?_) (by rw [hm]; rfl) rfl⟩
  intro i hi ih
  rw [← hks]
  have hl2 : i < m → LoopB _ _ _ := fun h => LoopB.of p times i true (0 : Int) (by omega)
  have he : i = m → (allF p (times.drop i) i && true) = true := fun h => allF_end_and (by omega)
  refine SEx.go (X := X57) X57_ok (fun n => look [] [(2, [2, 3, 8, 9, 10])] n) (fun _ => none) hO 60 ?_
  intro M R L N hM hAnd hImp hR hL hN
  cases M
  cbv
  repeat' first | (refine hAnd _ _ ?_ ?_) | (refine hImp _ _ (fun h => ?_)) | (refine hR _ ?_) | (refine hL _ _ (Hd.out ?_); try first | rw [hks] | rw [hk2] | rw [hk3]) | (refine hN _ _ ?_; cbv)
  all_goals (clear hAnd hImp hR hL hN; try clear hks; try clear hk2; try clear hk3)
  all_goals (cases hM; try dsimp only)
  all_goals (try simp only [Bool.not_eq_true', Bool.not_eq_false', decide_eq_true_eq, decide_eq_false_iff_not, Int.not_le, Int.not_lt, beq_iff_eq, beq_eq_false_iff_ne, ne_eq, Int.ofNat_eq_natCast, Int.toNat_natCast, List.length_replicate, ncast, Nat.sub_zero, List.drop_zero, Cue.eta, Tie.eta, Edge.eta, Link.eta, Node.eta] at *)
  all_goals (try simp only [wrap_succ (show i < 9223372036854775807 by omega)] at *)
  all_goals first
    | omega
    | exact hs
    | exact hst
    | exact ⟨⟨by omega, by omega⟩⟩
    | (refine er_via ?_ _; rw [he (by omega)]; done)
    | (refine (hl2 (by omega)).stop _ ?_; rw [hp]; dsimp only; rw [decide_eq_true (by assumption), decide_eq_false (by assumption)]; rfl)
    | (refine ⟨(ih (by omega)).same rfl ((hl2 (by omega)).go ?_)⟩; rw [hp]; dsimp only; rw [decide_eq_false (by assumption)]; rfl)
    | (refine ⟨(ih (by omega)).same rfl ((hl2 (by omega)).go ?_)⟩; rw [hp]; dsimp only; rw [decide_eq_true (by assumption), decide_eq_true (by assumption)]; rfl)
    | skip
def wAreOver (f : Show → State → Bool) : Wr := w2 dcShow dcState (fun t x => rB (f t x)) (fun t x => [StLe t x, StT t x])
theorem wAreOver_ok : WrOK Try.prog 57 (wAreOver overB) := w2_ok fun t x h => areOver_ok t x (h _ (.head _)) (h _ (.tail _ (.head _)))
theorem wDone_ok : WrOK Try.prog 54 (wAreOver overB) := w2_ok fun t x h => specDone_ok t x (h _ (.head _)).sh (h _ (.tail _ (.head _)))
theorem wBrokenS_ok : WrOK Try.prog 53 (wAreOver brokenB) := w2_ok fun t x h => specBroken_ok t x (h _ (.head _)).sh (h _ (.tail _ (.head _)))
structure TiesT (t : Show) (l : List Tie) : Prop where out : ∀ q ∈ l, TieT t q
def anyLate (l : List Tie) (t : Show) (x : State) : Bool := l.any fun q => lateB t x q
theorem isBroken_ok (t : Show) (x : State) (hs : StLe t x) (hst : StT t x) : SCall Try.prog 56 [aShow t, aState x] (rB (brokenB t x)) := by
  refine SCall.of X56_ok (fn := Try.f56) (c := Try.f56.body.getD .skip) (dr := fun n => look 0 [] n) Try.func56 rfl (by kernel_rfl) (by kernel_rfl) (by kernel_rfl) ?_
  obtain ⟨f, hf⟩ : ∃ f, f = anyLate := ⟨_, rfl⟩
  obtain ⟨g, hg⟩ : ∃ f, f = overB := ⟨_, rfl⟩
  have hO : SOraOK Try.prog (oraL [(57, wAreOver g), (84, w2 dcTies (dcC2 85 true true dcShow dcState) (fun l x => rB (f l x.1 x.2)) (fun l x => [LLe l maxLen, TiesT x.1 l, StLe x.1 x.2, StT x.1 x.2]))]) := by
    subst hf hg
    exact oraL_cons wAreOver_ok (oraL_cons (w2_ok fun l x h => by
      have g1 := (h _ (.head _)).out
      have g2 := (h _ (.tail _ (.head _))).out
      have g3 := h _ (.tail _ (.tail _ (.head _)))
      have g4 := h _ (.tail _ (.tail _ (.tail _ (.head _))))
      exact contFuncTie_ok l _ _ _ (fun y hy => isBroken1_ok y x.1 x.2 g3 g4 (g2 y hy)) g1) oraL_nil)
  have hr : brokenB t x = (f t.ties t x || (decide (t.hor < x.now) && !g t x)) := by
    rw [hf, hg]
    unfold brokenB anyLate
    rw [all_allF, Bool.not_and, List.not_all_eq_any_not, Bool.not_or]
    simp only [Bool.not_not]
    congr 2
    rw [← decide_not]
    exact decide_eq_decide.2 (by omega)
  have h1 := hs.sh.tlen
  have h2 : ∀ q ∈ t.ties, TieT t q := fun q hq => showB_tie hst.sh hq
  rw [hr]
  clear hr hf hg
  obtain ⟨ns, ts, hr⟩ := t
  obtain ⟨now, times, vals⟩ := x
  dsimp only at h1 h2 ⊢
  refine SEx.go (X := X56) X56_ok (fun n => look [] [] n) (fun _ => none) hO 60 ?_
  intro M R L N hM hAnd hImp hR hL hN
  cases M
  cbv
  repeat' first | (refine hAnd _ _ ?_ ?_) | (refine hImp _ _ (fun h => ?_)) | (refine hR _ ?_) | (refine hL _ _ (Hd.out ?_); try first | rw [hks] | rw [hk2] | rw [hk3]) | (refine hN _ _ ?_; cbv)
  all_goals (clear hAnd hImp hR hL hN; try clear hks; try clear hk2; try clear hk3)
  all_goals (cases hM; try dsimp only)
  all_goals (try simp only [Bool.not_eq_true', Bool.not_eq_false', decide_eq_true_eq, decide_eq_false_iff_not, Int.not_le, Int.not_lt, beq_iff_eq, beq_eq_false_iff_ne, ne_eq, Int.ofNat_eq_natCast, Int.toNat_natCast, List.length_replicate, ncast, Nat.sub_zero, List.drop_zero, Cue.eta, Tie.eta, Edge.eta, Link.eta, Node.eta] at *)
  all_goals first
    | exact ⟨h1⟩
    | exact ⟨h2⟩
    | exact hs
    | exact hst
    | (refine er_via ?_ _; clear hs hst; simp_all; done)
    | (refine er_via ?_ _; rw [decide_eq_false (show ¬ hr < now by omega)]; simp_all; done)
    | skip
theorem wBrokenI_ok : WrOK Try.prog 56 (wAreOver brokenB) := w2_ok fun t x h => isBroken_ok t x (h _ (.head _)) (h _ (.tail _ (.head _)))
theorem specIsBroken_ok (t : Show) (x : State) (hs : StLe t x) : SCall Try.prog 51 [aShow t, aState x] (rB (stOkB t x && brokenB t x)) := by
  refine SCall.of X51_ok (fn := Try.f51) (c := Try.f51.body.getD .skip) (dr := fun n => look 0 [] n) Try.func51 rfl (by kernel_rfl) (by kernel_rfl) (by kernel_rfl) ?_
  obtain ⟨f, hf⟩ : ∃ f, f = stOkB := ⟨_, rfl⟩
  obtain ⟨g, hg⟩ : ∃ f, f = brokenB := ⟨_, rfl⟩
  have hO : SOraOK Try.prog (oraL [(43, wStateOk f), (53, wAreOver g)]) := by subst hf hg; exact oraL_cons wStateOkS_ok (oraL_cons wBrokenS_ok oraL_nil)
  rw [← hf, ← hg]
  have hT : f t x = true → StT t x := fun h => by rw [hf] at h; unfold stOkB at h; rw [Bool.and_eq_true] at h; exact ⟨h.1, h.2⟩
  clear hf hg
  obtain ⟨ns, ts, hr⟩ := t
  obtain ⟨now, times, vals⟩ := x
  refine SEx.go (X := X51) X51_ok (fun n => look [] [] n) (fun _ => none) hO 60 ?_
  intro M R L N hM hAnd hImp hR hL hN
  cases M
  cbv
  repeat' first | (refine hAnd _ _ ?_ ?_) | (refine hImp _ _ (fun h => ?_)) | (refine hR _ ?_) | (refine hL _ _ (Hd.out ?_); try first | rw [hks] | rw [hk2] | rw [hk3]) | (refine hN _ _ ?_; cbv)
  all_goals (clear hAnd hImp hR hL hN; try clear hks; try clear hk2; try clear hk3)
  all_goals (cases hM; try dsimp only)
  all_goals (try simp only [Bool.not_eq_true', Bool.not_eq_false', decide_eq_true_eq, decide_eq_false_iff_not, Int.not_le, Int.not_lt, beq_iff_eq, beq_eq_false_iff_ne, ne_eq, Int.ofNat_eq_natCast, Int.toNat_natCast, List.length_replicate, ncast, Nat.sub_zero, List.drop_zero, Cue.eta, Tie.eta, Edge.eta, Link.eta, Node.eta] at *)
  all_goals first
    | exact hs.sh
    | exact hs.st
    | exact hs
    | exact hT (by assumption)
    | (refine er_via ?_ _; clear hs hT; simp_all; done)
    | skip
theorem implIsBroken_ok (t : Show) (x : State) (hs : StLe t x) : SCall Try.prog 52 [aShow t, aState x] (rB (stOkB t x && brokenB t x)) := by
  refine SCall.of X52_ok (fn := Try.f52) (c := Try.f52.body.getD .skip) (dr := fun n => look 0 [] n) Try.func52 rfl (by kernel_rfl) (by kernel_rfl) (by kernel_rfl) ?_
  obtain ⟨f, hf⟩ : ∃ f, f = stOkB := ⟨_, rfl⟩
  obtain ⟨g, hg⟩ : ∃ f, f = brokenB := ⟨_, rfl⟩
  have hO : SOraOK Try.prog (oraL [(55, wStateOk f), (56, wAreOver g)]) := by subst hf hg; exact oraL_cons wStateOkI_ok (oraL_cons wBrokenI_ok oraL_nil)
  rw [← hf, ← hg]
  have hT : f t x = true → StT t x := fun h => by rw [hf] at h; unfold stOkB at h; rw [Bool.and_eq_true] at h; exact ⟨h.1, h.2⟩
  clear hf hg
  obtain ⟨ns, ts, hr⟩ := t
  obtain ⟨now, times, vals⟩ := x
  refine SEx.go (X := X52) X52_ok (fun n => look [] [] n) (fun _ => none) hO 60 ?_
  intro M R L N hM hAnd hImp hR hL hN
  cases M
  cbv
  repeat' first | (refine hAnd _ _ ?_ ?_) | (refine hImp _ _ (fun h => ?_)) | (refine hR _ ?_) | (refine hL _ _ (Hd.out ?_); try first | rw [hks] | rw [hk2] | rw [hk3]) | (refine hN _ _ ?_; cbv)
  all_goals (clear hAnd hImp hR hL hN; try clear hks; try clear hk2; try clear hk3)
  all_goals (cases hM; try dsimp only)
  all_goals (try simp only [Bool.not_eq_true', Bool.not_eq_false', decide_eq_true_eq, decide_eq_false_iff_not, Int.not_le, Int.not_lt, beq_iff_eq, beq_eq_false_iff_ne, ne_eq, Int.ofNat_eq_natCast, Int.toNat_natCast, List.length_replicate, ncast, Nat.sub_zero, List.drop_zero, Cue.eta, Tie.eta, Edge.eta, Link.eta, Node.eta] at *)
  all_goals first
    | exact hs.sh
    | exact hs.st
    | exact hs
    | exact hT (by assumption)
    | (refine er_via ?_ _; clear hs hT; simp_all; done)
    | skip
end Go.Proofs.Ytciphddcdiifgaa.Ai
