/- Sheets: conversions, sizes, equality. -/
import Derived.Test.YtncbdoijakndoaaTy
import Derived.Test.YtncbdoijakndoaaU
namespace Go.Proofs.Ytncbdoijakndoaa.Ai
open Go
set_option maxRecDepth 100000
set_option linter.unusedVariables false
set_option linter.unusedSimpArgs false
def szL {α : Type} (l : List α) (n : Int) : Int := if n < l.length then -1 else n - l.length
theorem szIntS_ok (l : List Int) (n : Int) (hs : l.length ≤ maxLen) (hn : 0 ≤ n ∧ n ≤ 9223372036854775807) : SCall Try.prog 36 [aIs l, aI n] (rI (szL l n)) := by
  refine SCall.of X36_ok (fn := Try.f36) (c := Try.f36.body.getD .skip) (dr := fun n => look 0 [] n) Try.func36 rfl (by kernel_rfl) (by kernel_rfl) (by kernel_rfl) ?_
  unfold maxLen at hs
  refine SEx.go (X := X36) X36_ok (fun n => look [] [] n) (fun _ => none) oraL_nil 60 ?_
  intro M R L N hM hAnd hImp hR hL hN
  cases M
  cbv
  repeat' first | (refine hAnd _ _ ?_ ?_) | (refine hImp _ _ (fun h => ?_)) | (refine hR _ ?_) | (refine hL _ _ (Hd.out ?_); try first | rw [hks] | rw [hk2] | rw [hk3]) | (refine hN _ _ ?_; cbv)
  all_goals (clear hAnd hImp hR hL hN; try clear hks; try clear hk2; try clear hk3)
  all_goals (cases hM; try dsimp only)
  all_goals (try simp only [Bool.not_eq_true', Bool.not_eq_false', decide_eq_true_eq, decide_eq_false_iff_not, Int.not_le, Int.not_lt, beq_iff_eq, beq_eq_false_iff_ne, ne_eq, Int.ofNat_eq_natCast, Int.toNat_natCast, List.length_replicate, ncast, Nat.sub_zero, List.drop_zero, Cue.eta, Tie.eta, Edge.eta, Link.eta, Node.eta] at *)
  all_goals rw [wrap_i64 (by omega) (by omega)] at *
  all_goals simp only [er_I, szL]
  all_goals split <;> omega
def fillL {α : Type} (z : α) (l : List α) (n i : Nat) : List α := l.take i ++ List.replicate (n - i) z
theorem fillL_len {α : Type} {z : α} {l : List α} {n i : Nat} (h : l.length = n) (hi : i ≤ n) : (fillL z l n i).length = n := by simp [fillL]; omega
theorem fillL_succ {α : Type} {z d : α} {l : List α} {n i : Nat} (h : l.length = n) (hi : i < n) : (fillL z l n i).set i (l.getD i d) = fillL z l n (i + 1) := by
  have hl : i < l.length := by omega
  unfold fillL
  rw [show n - i = (n - (i + 1)) + 1 by omega, List.replicate_succ, List.set_append_right _ _ (by simp; omega)]
  rw [show i - (l.take i).length = 0 by simp; omega, List.set_cons_zero, List.take_add_one, List.getElem?_eq_getElem hl]
  simp only [Option.toList_some, List.append_assoc, List.singleton_append, List.getD_eq_getElem?_getD, List.getElem?_eq_getElem hl, Option.getD_some]
theorem fillL_all {α : Type} {z : α} {l : List α} {n : Nat} (h : l.length = n) : fillL z l n n = l := by simp [fillL, ← h]
theorem toIntS_ok (l : List Int) (hs : l.length ≤ 1048576) : SCall Try.prog 40 [aIs l] (rIs l) := by
  refine SCall.of X40_ok (fn := Try.f40) (c := Try.f40.body.getD .skip) (dr := fun n => look 0 [] n) Try.func40 rfl (by kernel_rfl) (by kernel_rfl) (by kernel_rfl) ?_
  refine SEx.go (X := X40) X40_ok (fun n => look [] [(3, [0, 3, 4])] n) (fun _ => none) oraL_nil 60 ?_
  intro M R L N hM hAnd hImp hR hL hN
  cases M
  cbv
  repeat' first | (refine hAnd _ _ ?_ ?_) | (refine hImp _ _ (fun h => ?_)) | (refine hR _ ?_) | (refine hL _ _ (Hd.out ?_); generalize hks : (List.cons _ _ : List K) = ks) | (refine hN _ _ ?_; cbv)
  all_goals (clear hAnd hImp hR hL hN)
  all_goals (cases hM; try dsimp only)
  all_goals (try simp only [Bool.not_eq_true', Bool.not_eq_false', decide_eq_true_eq, decide_eq_false_iff_not, Int.not_le, Int.not_lt, beq_iff_eq, beq_eq_false_iff_ne, ne_eq, Int.ofNat_eq_natCast, Int.toNat_natCast, List.length_replicate, ncast, Nat.sub_zero, List.drop_zero, Cue.eta, Tie.eta, Edge.eta, Link.eta, Node.eta] at *)
  · have := lim_ge; omega
  generalize hn : l.length = n at *
  refine ⟨SEx.same (SEx.ind (fun i : Nat => ⟨22, [(0, .v (false, [.fz (.sl (.i l))])), (3, .v (false, [.rf (12288, []) true 0 n])), (4, .v (false, [.fz (.int .i64 i)]))], [(12288, .osl (.i (fillL 0 l n i)))]⟩) (fun _ => rIs l) (fun i => i ≤ n) (fun i => n - i) 0 (Nat.zero_le _) ?_) rfl rfl⟩
  intro i hi ih
  rw [← hks]
  obtain ⟨fl, hfl⟩ : ∃ x, x = fillL 0 l n i := ⟨_, rfl⟩
  have hf := fillL_len (z := (0 : Int)) hn hi
  rw [← hfl] at hf ⊢
  refine SEx.go (X := X40) X40_ok (fun n => look [] [(3, [0, 3, 4])] n) (fun _ => none) oraL_nil 60 ?_
  intro M R L N hM hAnd hImp hR hL hN
  cases M
  cbv
  repeat' first | (refine hAnd _ _ ?_ ?_) | (refine hImp _ _ (fun h => ?_)) | (refine hR _ ?_) | (refine hL _ _ (Hd.out ?_); try first | rw [hks] | rw [hk2] | rw [hk3]) | (refine hN _ _ ?_; cbv)
  all_goals (clear hAnd hImp hR hL hN; try clear hks; try clear hk2; try clear hk3)
  all_goals (cases hM; try dsimp only)
  all_goals (try simp only [Bool.not_eq_true', Bool.not_eq_false', decide_eq_true_eq, decide_eq_false_iff_not, Int.not_le, Int.not_lt, beq_iff_eq, beq_eq_false_iff_ne, ne_eq, Int.ofNat_eq_natCast, Int.toNat_natCast, List.length_replicate, ncast, Nat.sub_zero, List.drop_zero, Cue.eta, Tie.eta, Edge.eta, Link.eta, Node.eta] at *)
  all_goals first
    | omega
    | (simp only [wrap_succ (show i < 9223372036854775807 by omega), hfl, fillL_succ hn (show i < n by omega)]; exact ⟨ih (i + 1) (by omega) (by omega)⟩)
    | (obtain rfl : i = n := by omega
       rw [hfl, fillL_all hn]; rfl)
def wToIntS : Wr := w1 dcIs rIs (fun l => [LLe l 1048576])
theorem wToIntS_ok : WrOK Try.prog 40 wToIntS := w1_ok fun l h => toIntS_ok l (h _ (.head _)).out
def wSzIntS : Wr := w2 dcIs dcI (fun l n => rI (szL l n)) (fun l n => [LLe l maxLen, IRng n])
theorem wSzIntS_ok : WrOK Try.prog 36 wSzIntS := w2_ok fun l n h => szIntS_ok l n (h _ (.head _)).out (h _ (.tail _ (.head _))).out
theorem eqIntS_ok (l : List Int) (hs : l.length ≤ maxLen) : SCall Try.prog 48 [aIs l, aIs l] (rB true) := by
  refine SCall.of X48_ok (fn := Try.f48) (c := Try.f48.body.getD .skip) (dr := fun n => look 0 [(6, 8)] n) Try.func48 rfl (by kernel_rfl) (by kernel_rfl) (by kernel_rfl) ?_
  unfold maxLen at hs
  refine SEx.go (X := X48) X48_ok (fun n => look [] [(4, [0, 1, 5])] n) (fun _ => none) oraL_nil 60 ?_
  intro M R L N hM hAnd hImp hR hL hN
  cases M
  cbv
  repeat' first | (refine hAnd _ _ ?_ ?_) | (refine hImp _ _ (fun h => ?_)) | (refine hR _ ?_) | (refine hL _ _ (Hd.out ?_); generalize hks : (List.cons _ _ : List K) = ks) | (refine hN _ _ ?_; cbv)
  all_goals (clear hAnd hImp hR hL hN)
  all_goals (cases hM; try dsimp only)
  all_goals (try simp only [Bool.not_eq_true', Bool.not_eq_false', decide_eq_true_eq, decide_eq_false_iff_not, Int.not_le, Int.not_lt, beq_iff_eq, beq_eq_false_iff_ne, ne_eq, Int.ofNat_eq_natCast, Int.toNat_natCast, List.length_replicate, ncast, Nat.sub_zero, List.drop_zero, Cue.eta, Tie.eta, Edge.eta, Link.eta, Node.eta] at *)
  · exact absurd trivial (by assumption)
  generalize hn : l.length = n at *
  refine ⟨SEx.same (SEx.ind (fun i : Nat => ⟨26, [(0, .v (false, [.fz (.sl (.i l))])), (1, .v (false, [.fz (.sl (.i l))])), (5, .v (false, [.fz (.int .i64 i)]))], []⟩) (fun _ => rB true) (fun i => i ≤ n) (fun i => n - i) 0 (Nat.zero_le _) ?_) rfl rfl⟩
  intro i hi ih
  rw [← hks]
  refine SEx.go (X := X48) X48_ok (fun n => look [] [(4, [0, 1, 5])] n) (fun _ => none) oraL_nil 60 ?_
  intro M R L N hM hAnd hImp hR hL hN
  cases M
  cbv
  repeat' first | (refine hAnd _ _ ?_ ?_) | (refine hImp _ _ (fun h => ?_)) | (refine hR _ ?_) | (refine hL _ _ (Hd.out ?_); try first | rw [hks] | rw [hk2] | rw [hk3]) | (refine hN _ _ ?_; cbv)
  all_goals (clear hAnd hImp hR hL hN; try clear hks; try clear hk2; try clear hk3)
  all_goals (cases hM; try dsimp only)
  all_goals (try simp only [Bool.not_eq_true', Bool.not_eq_false', decide_eq_true_eq, decide_eq_false_iff_not, Int.not_le, Int.not_lt, beq_iff_eq, beq_eq_false_iff_ne, ne_eq, Int.ofNat_eq_natCast, Int.toNat_natCast, List.length_replicate, ncast, Nat.sub_zero, List.drop_zero, Cue.eta, Tie.eta, Edge.eta, Link.eta, Node.eta] at *)
  all_goals first
    | omega
    | exact absurd trivial (by assumption)
    | rfl
    | (simp only [wrap_succ (show i < 9223372036854775807 by omega)]; exact ⟨ih (i + 1) (by omega) (by omega)⟩)
def wEqIntS : Wr := w2 dcIs dcIs (fun _ _ => rB true) (fun l m => [Same l m, LLe l maxLen])
theorem wEqIntS_ok : WrOK Try.prog 48 wEqIntS := w2_ok fun l m h => by
  obtain rfl := (h _ (.head _)).out
  exact eqIntS_ok l (h _ (.tail _ (.head _))).out
theorem eqCue_ok (q : Cue) : SCall Try.prog 78 [aCue q, aCue q] (rB true) := by
  refine SCall.of X78_ok (fn := Try.f78) (c := Try.f78.body.getD .skip) (dr := fun n => look 0 [] n) Try.func78 rfl (by kernel_rfl) (by kernel_rfl) (by kernel_rfl) ?_
  obtain ⟨x1, x2, x3, x4, x5, x6, x7, x8, x9, x10, x11⟩ := q
  refine SEx.go (X := X78) X78_ok (fun n => look [] [] n) (fun _ => none) oraL_nil 30 ?_
  intro M R L N hM hAnd hImp hR hL hN
  cases M
  cbv
  repeat' first | (refine hAnd _ _ ?_ ?_) | (refine hImp _ _ (fun h => ?_)) | (refine hR _ ?_) | (refine hL _ _ (Hd.out ?_); try first | rw [hks] | rw [hk2] | rw [hk3]) | (refine hN _ _ ?_; cbv)
  all_goals (clear hAnd hImp hR hL hN; try clear hks; try clear hk2; try clear hk3)
  all_goals (cases hM; try dsimp only)
  all_goals (try simp only [Bool.not_eq_true', Bool.not_eq_false', decide_eq_true_eq, decide_eq_false_iff_not, Int.not_le, Int.not_lt, beq_iff_eq, beq_eq_false_iff_ne, ne_eq, Int.ofNat_eq_natCast, Int.toNat_natCast, List.length_replicate, ncast, Nat.sub_zero, List.drop_zero, Cue.eta, Tie.eta, Edge.eta, Link.eta, Node.eta] at *)
  all_goals first
    | exact absurd trivial (by assumption)
    | rfl
    | (exfalso; simp_all; done)
def wEqCue : Wr := w2 dcCue dcCue (fun _ _ => rB true) (fun q r => [Same q r])
theorem wEqCue_ok : WrOK Try.prog 78 wEqCue := w2_ok fun q r h => by
  obtain rfl := (h _ (.head _)).out
  exact eqCue_ok q
theorem eqCueS_ok (l : List Cue) (hs : l.length ≤ maxLen) : SCall Try.prog 47 [aCues l, aCues l] (rB true) := by
  refine SCall.of X47_ok (fn := Try.f47) (c := Try.f47.body.getD .skip) (dr := fun n => look 0 [(6, 8)] n) Try.func47 rfl (by kernel_rfl) (by kernel_rfl) (by kernel_rfl) ?_
  unfold maxLen at hs
  have hO : SOraOK Try.prog (oraL [(78, wEqCue)]) := oraL_cons wEqCue_ok oraL_nil
  refine SEx.go (X := X47) X47_ok (fun n => look [] [(4, [0, 1, 5])] n) (fun _ => none) hO 60 ?_
  intro M R L N hM hAnd hImp hR hL hN
  cases M
  cbv
  repeat' first | (refine hAnd _ _ ?_ ?_) | (refine hImp _ _ (fun h => ?_)) | (refine hR _ ?_) | (refine hL _ _ (Hd.out ?_); generalize hks : (List.cons _ _ : List K) = ks) | (refine hN _ _ ?_; cbv)
  all_goals (clear hAnd hImp hR hL hN)
  all_goals (cases hM; try dsimp only)
  all_goals (try simp only [Bool.not_eq_true', Bool.not_eq_false', decide_eq_true_eq, decide_eq_false_iff_not, Int.not_le, Int.not_lt, beq_iff_eq, beq_eq_false_iff_ne, ne_eq, Int.ofNat_eq_natCast, Int.toNat_natCast, List.length_replicate, ncast, Nat.sub_zero, List.drop_zero, Cue.eta, Tie.eta, Edge.eta, Link.eta, Node.eta] at *)
  · exact absurd trivial (by assumption)
  generalize hn : l.length = n at *
  refine ⟨SEx.same (SEx.ind (fun i : Nat => ⟨27, [(0, .v (false, [.fz (.sl (.cue l))])), (1, .v (false, [.fz (.sl (.cue l))])), (5, .v (false, [.fz (.int .i64 i)]))], []⟩) (fun _ => rB true) (fun i => i ≤ n) (fun i => n - i) 0 (Nat.zero_le _) ?_) rfl rfl⟩
  intro i hi ih
  rw [← hks]
  refine SEx.go (X := X47) X47_ok (fun n => look [] [(4, [0, 1, 5])] n) (fun _ => none) hO 60 ?_
  intro M R L N hM hAnd hImp hR hL hN
  cases M
  cbv
  repeat' first | (refine hAnd _ _ ?_ ?_) | (refine hImp _ _ (fun h => ?_)) | (refine hR _ ?_) | (refine hL _ _ (Hd.out ?_); try first | rw [hks] | rw [hk2] | rw [hk3]) | (refine hN _ _ ?_; cbv)
  all_goals (clear hAnd hImp hR hL hN; try clear hks; try clear hk2; try clear hk3)
  all_goals (cases hM; try dsimp only)
  all_goals (try simp only [Bool.not_eq_true', Bool.not_eq_false', decide_eq_true_eq, decide_eq_false_iff_not, Int.not_le, Int.not_lt, beq_iff_eq, beq_eq_false_iff_ne, ne_eq, Int.ofNat_eq_natCast, Int.toNat_natCast, List.length_replicate, ncast, Nat.sub_zero, List.drop_zero, Cue.eta, Tie.eta, Edge.eta, Link.eta, Node.eta] at *)
  all_goals first
    | omega
    | exact absurd trivial (by assumption)
    | rfl
    | exact ⟨rfl⟩
    | contradiction
    | (simp only [wrap_succ (show i < 9223372036854775807 by omega)]; exact ⟨ih (i + 1) (by omega) (by omega)⟩)
def wEqCueS : Wr := w2 dcCues dcCues (fun _ _ => rB true) (fun l m => [Same l m, LLe l maxLen])
theorem wEqCueS_ok : WrOK Try.prog 47 wEqCueS := w2_ok fun l m h => by
  obtain rfl := (h _ (.head _)).out
  exact eqCueS_ok l (h _ (.tail _ (.head _))).out
end Go.Proofs.Ytncbdoijakndoaa.Ai
