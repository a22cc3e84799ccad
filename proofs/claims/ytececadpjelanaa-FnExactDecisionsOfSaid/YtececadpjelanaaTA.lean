/- Ties and nodes: conversions, sizes, equality. -/
import Derived.Test.YtececadpjelanaaTy
import Derived.Test.YtececadpjelanaaSN
namespace Go.Proofs.Ytececadpjelanaa.Ai
open Go
set_option maxRecDepth 100000
set_option linter.unusedVariables false
set_option linter.unusedSimpArgs false
theorem szTieS_ok (l : List Tie) (n : Int) (hs : l.length ≤ maxLen) (hn : 0 ≤ n ∧ n ≤ 9223372036854775807) : SCall Try.prog 24 [aTies l, aI n] (rI (szL l n)) := by
  refine SCall.of X24_ok (fn := Try.f24) (c := Try.f24.body.getD .skip) (dr := fun n => look 0 [] n) Try.func24 rfl (by kernel_rfl) (by kernel_rfl) (by kernel_rfl) ?_
  unfold maxLen at hs
  refine SEx.go (X := X24) X24_ok (fun n => look [] [] n) (fun _ => none) oraL_nil 60 ?_
  intro M R L N hM hAnd hImp hR hL hN
  cases M
  cbv
  repeat' first | (refine hAnd _ _ ?_ ?_) | (refine hImp _ _ (fun h => ?_)) | (refine hR _ ?_) | (refine hL _ _ (Hd.out ?_); try first | rw [hks] | rw [hk2] | rw [hk3]) | (refine hN _ _ ?_; cbv)
  all_goals (clear hAnd hImp hR hL hN; try clear hks; try clear hk2; try clear hk3)
  all_goals (cases hM; try dsimp only)
  all_goals (try simp only [Bool.not_eq_true', Bool.not_eq_false', decide_eq_true_eq, decide_eq_false_iff_not, Int.not_le, Int.not_lt, beq_iff_eq, beq_eq_false_iff_ne, ne_eq, Int.ofNat_eq_natCast, Int.toNat_natCast, List.length_replicate, ncast, Nat.sub_zero, List.drop_zero, Cue.eta, Tie.eta, Edge.eta, Link.eta, Node.eta] at *)
  all_goals rw [wrap_i64 (by omega) (by omega)] at *
  all_goals simp only [er_I, szL]
  all_goals split <;> omega
def wSzTieS (f : List Tie → Int → Int) : Wr := w2 dcTies dcI (fun l n => rI (f l n)) (fun l n => [LLe l maxLen, IRng n])
theorem wSzTieS_ok : WrOK Try.prog 24 (wSzTieS szL) := w2_ok fun l n h => szTieS_ok l n (h _ (.head _)).out (h _ (.tail _ (.head _))).out
theorem toTie_ok (q : Tie) : SCall Try.prog 49 [aTie q] (rTie q) := by
  refine SCall.of X49_ok (fn := Try.f49) (c := Try.f49.body.getD .skip) (dr := fun n => look 0 [] n) Try.func49 rfl (by kernel_rfl) (by kernel_rfl) (by kernel_rfl) ?_
  obtain ⟨x1, x2, x3, x4, x5⟩ := q
  refine SEx.go (X := X49) X49_ok (fun n => look [] [] n) (fun _ => none) oraL_nil 60 ?_
  intro M R L N hM hAnd hImp hR hL hN
  cases M
  cbv
  repeat' first | (refine hAnd _ _ ?_ ?_) | (refine hImp _ _ (fun h => ?_)) | (refine hR _ ?_) | (refine hL _ _ (Hd.out ?_); try first | rw [hks] | rw [hk2] | rw [hk3]) | (refine hN _ _ ?_; cbv)
  all_goals (clear hAnd hImp hR hL hN; try clear hks; try clear hk2; try clear hk3)
  all_goals (cases hM; try dsimp only)
  all_goals (try simp only [Bool.not_eq_true', Bool.not_eq_false', decide_eq_true_eq, decide_eq_false_iff_not, Int.not_le, Int.not_lt, beq_iff_eq, beq_eq_false_iff_ne, ne_eq, Int.ofNat_eq_natCast, Int.toNat_natCast, List.length_replicate, ncast, Nat.sub_zero, List.drop_zero, Cue.eta, Tie.eta, Edge.eta, Link.eta, Node.eta] at *)
  all_goals rfl
def wToTie : Wr := w1 dcTie rTie (fun _ => [])
theorem wToTie_ok : WrOK Try.prog 49 wToTie := w1_ok fun q _ => toTie_ok q
theorem toTieS_ok (l : List Tie) (hs : l.length ≤ 1048576) : SCall Try.prog 29 [aTies l] (rTies l) := by
  refine SCall.of X29_ok (fn := Try.f29) (c := Try.f29.body.getD .skip) (dr := fun n => look 0 [] n) Try.func29 rfl (by kernel_rfl) (by kernel_rfl) (by kernel_rfl) ?_
  have hO : SOraOK Try.prog (oraL [(49, wToTie)]) := oraL_cons wToTie_ok oraL_nil
  refine SEx.go (X := X29) X29_ok (fun n => look [] [(3, [0, 3, 4])] n) (fun _ => none) hO 60 ?_
  intro M R L N hM hAnd hImp hR hL hN
  cases M
  cbv
  repeat' first | (refine hAnd _ _ ?_ ?_) | (refine hImp _ _ (fun h => ?_)) | (refine hR _ ?_) | (refine hL _ _ (Hd.out ?_); generalize hks : (List.cons _ _ : List K) = ks) | (refine hN _ _ ?_; cbv)
  all_goals (clear hAnd hImp hR hL hN)
  all_goals (cases hM; try dsimp only)
  all_goals (try simp only [Bool.not_eq_true', Bool.not_eq_false', decide_eq_true_eq, decide_eq_false_iff_not, Int.not_le, Int.not_lt, beq_iff_eq, beq_eq_false_iff_ne, ne_eq, Int.ofNat_eq_natCast, Int.toNat_natCast, List.length_replicate, ncast, Nat.sub_zero, List.drop_zero, Cue.eta, Tie.eta, Edge.eta, Link.eta, Node.eta] at *)
  · have := lim_ge; omega
  generalize hn : l.length = n at *
  refine ⟨SEx.same (SEx.idx n (fun i : Nat => ⟨23, [(0, bL (.tie l)), (3, bR 12288 n), (4, bI i)], [(12288, .osl (.tie (fillL ⟨0, 0, 0, 0, false⟩ l n i)))]⟩) (fun _ => rTies l) ?_) rfl rfl⟩
  intro i hi ih
  rw [← hks]
  obtain ⟨fl, hfl⟩ : ∃ x, x = fillL (⟨0, 0, 0, 0, false⟩ : Tie) l n i := ⟨_, rfl⟩
  have hf := fillL_len (z := (⟨0, 0, 0, 0, false⟩ : Tie)) hn hi
  rw [← hfl] at hf ⊢
  refine SEx.go (X := X29) X29_ok (fun n => look [] [(3, [0, 3, 4])] n) (fun _ => none) hO 60 ?_
  intro M R L N hM hAnd hImp hR hL hN
  cases M
  cbv
  repeat' first | (refine hAnd _ _ ?_ ?_) | (refine hImp _ _ (fun h => ?_)) | (refine hR _ ?_) | (refine hL _ _ (Hd.out ?_); try first | rw [hks] | rw [hk2] | rw [hk3]) | (refine hN _ _ ?_; cbv)
  all_goals (clear hAnd hImp hR hL hN; try clear hks; try clear hk2; try clear hk3)
  all_goals (cases hM; try dsimp only)
  all_goals (try simp only [Bool.not_eq_true', Bool.not_eq_false', decide_eq_true_eq, decide_eq_false_iff_not, Int.not_le, Int.not_lt, beq_iff_eq, beq_eq_false_iff_ne, ne_eq, Int.ofNat_eq_natCast, Int.toNat_natCast, List.length_replicate, ncast, Nat.sub_zero, List.drop_zero, Cue.eta, Tie.eta, Edge.eta, Link.eta, Node.eta] at *)
  all_goals (try simp only [modL_length] at *)
  all_goals (try omega)
  · simp only [wrap_succ (show i < 9223372036854775807 by omega), modL_modL, modL_const, hfl]
    have e := fillL_succ (z := (⟨0, 0, 0, 0, false⟩ : Tie)) (d := Tie.z) hn (show i < n by omega)
    have ih' := ih (by omega)
    rw [← e] at ih'
    exact ⟨ih'⟩
  · obtain rfl : i = n := by omega
    rw [hfl, fillL_all hn]; rfl
def wToTieS : Wr := w1 dcTies rTies (fun l => [LLe l 1048576])
theorem wToTieS_ok : WrOK Try.prog 29 wToTieS := w1_ok fun l h => toTieS_ok l (h _ (.head _)).out
theorem eqTie_ok (q : Tie) : SCall Try.prog 57 [aTie q, aTie q] (rB true) := by
  refine SCall.of X57_ok (fn := Try.f57) (c := Try.f57.body.getD .skip) (dr := fun n => look 0 [] n) Try.func57 rfl (by kernel_rfl) (by kernel_rfl) (by kernel_rfl) ?_
  obtain ⟨x1, x2, x3, x4, x5⟩ := q
  refine SEx.go (X := X57) X57_ok (fun n => look [] [] n) (fun _ => none) oraL_nil 60 ?_
  intro M R L N hM hAnd hImp hR hL hN
  cases M
  cbv
  repeat' first | (refine hAnd _ _ ?_ ?_) | (refine hImp _ _ (fun h => ?_)) | (refine hR _ ?_) | (refine hL _ _ (Hd.out ?_); try first | rw [hks] | rw [hk2] | rw [hk3]) | (refine hN _ _ ?_; cbv)
  all_goals (clear hAnd hImp hR hL hN; try clear hks; try clear hk2; try clear hk3)
  all_goals (cases hM; try dsimp only)
  all_goals (try simp only [Bool.not_eq_true', Bool.not_eq_false', decide_eq_true_eq, decide_eq_false_iff_not, Int.not_le, Int.not_lt, beq_iff_eq, beq_eq_false_iff_ne, ne_eq, Int.ofNat_eq_natCast, Int.toNat_natCast, List.length_replicate, ncast, Nat.sub_zero, List.drop_zero, Cue.eta, Tie.eta, Edge.eta, Link.eta, Node.eta] at *)
  all_goals first
    | exact absurd trivial (by assumption)
    | rfl
    | (exfalso; simp_all; done)
def wEqTie : Wr := w2 dcTie dcTie (fun _ _ => rB true) (fun q r => [Same q r])
theorem wEqTie_ok : WrOK Try.prog 57 wEqTie := w2_ok fun q r h => by
  obtain rfl := (h _ (.head _)).out
  exact eqTie_ok q
theorem eqTieS_ok (l : List Tie) (hs : l.length ≤ maxLen) : SCall Try.prog 34 [aTies l, aTies l] (rB true) := by
  refine SCall.of X34_ok (fn := Try.f34) (c := Try.f34.body.getD .skip) (dr := fun n => look 0 [(6, 8)] n) Try.func34 rfl (by kernel_rfl) (by kernel_rfl) (by kernel_rfl) ?_
  unfold maxLen at hs
  have hO : SOraOK Try.prog (oraL [(57, wEqTie)]) := oraL_cons wEqTie_ok oraL_nil
  refine SEx.go (X := X34) X34_ok (fun n => look [] [(4, [0, 1, 5])] n) (fun _ => none) hO 60 ?_
  intro M R L N hM hAnd hImp hR hL hN
  cases M
  cbv
  repeat' first | (refine hAnd _ _ ?_ ?_) | (refine hImp _ _ (fun h => ?_)) | (refine hR _ ?_) | (refine hL _ _ (Hd.out ?_); generalize hks : (List.cons _ _ : List K) = ks) | (refine hN _ _ ?_; cbv)
  all_goals (clear hAnd hImp hR hL hN)
  all_goals (cases hM; try dsimp only)
  all_goals (try simp only [Bool.not_eq_true', Bool.not_eq_false', decide_eq_true_eq, decide_eq_false_iff_not, Int.not_le, Int.not_lt, beq_iff_eq, beq_eq_false_iff_ne, ne_eq, Int.ofNat_eq_natCast, Int.toNat_natCast, List.length_replicate, ncast, Nat.sub_zero, List.drop_zero, Cue.eta, Tie.eta, Edge.eta, Link.eta, Node.eta] at *)
  · exact absurd trivial (by assumption)
  generalize hn : l.length = n at *
  refine ⟨SEx.same (SEx.idx n (fun i : Nat => ⟨27, [(0, bL (.tie l)), (1, bL (.tie l)), (5, bI i)], []⟩) (fun _ => rB true) ?_) rfl rfl⟩
  intro i hi ih
  rw [← hks]
  refine SEx.go (X := X34) X34_ok (fun n => look [] [(4, [0, 1, 5])] n) (fun _ => none) hO 60 ?_
  intro M R L N hM hAnd hImp hR hL hN
  cases M
  cbv
  repeat' first | (refine hAnd _ _ ?_ ?_) | (refine hImp _ _ (fun h => ?_)) | (refine hR _ ?_) | (refine hL _ _ (Hd.out ?_); try first | rw [hks] | rw [hk2] | rw [hk3]) | (refine hN _ _ ?_; cbv)
  all_goals (clear hAnd hImp hR hL hN; try clear hks; try clear hk2; try clear hk3)
  all_goals (cases hM; try dsimp only)
  all_goals (try simp only [Bool.not_eq_true', Bool.not_eq_false', decide_eq_true_eq, decide_eq_false_iff_not, Int.not_le, Int.not_lt, beq_iff_eq, beq_eq_false_iff_ne, ne_eq, Int.ofNat_eq_natCast, Int.toNat_natCast, List.length_replicate, ncast, Nat.sub_zero, List.drop_zero, Cue.eta, Tie.eta, Edge.eta, Link.eta, Node.eta] at *)
  all_goals first
    | omega
    | exact absurd trivial (by assumption)
    | rfl
    | exact ⟨rfl⟩
    | contradiction
    | (simp only [wrap_succ (show i < 9223372036854775807 by omega)]; exact ⟨ih (by omega)⟩)
def wEqTieS : Wr := w2 dcTies dcTies (fun _ _ => rB true) (fun l m => [Same l m, LLe l maxLen])
theorem wEqTieS_ok : WrOK Try.prog 34 wEqTieS := w2_ok fun l m h => by
  obtain rfl := (h _ (.head _)).out
  exact eqTieS_ok l (h _ (.tail _ (.head _))).out
end Go.Proofs.Ytececadpjelanaa.Ai
