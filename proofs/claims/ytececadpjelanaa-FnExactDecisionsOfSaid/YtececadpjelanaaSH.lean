/- Sheets: conversions, sizes, equality. -/
import Derived.Test.YtececadpjelanaaTy
import Derived.Test.YtececadpjelanaaCU
namespace Go.Proofs.Ytececadpjelanaa.Ai
open Go
set_option maxRecDepth 100000
set_option linter.unusedVariables false
set_option linter.unusedSimpArgs false
def szL {α : Type} (l : List α) (n : Int) : Int := if n < l.length then -1 else n - l.length
theorem szIntS_ok (l : List Int) (n : Int) (hs : l.length ≤ maxLen) (hn : 0 ≤ n ∧ n ≤ 9223372036854775807) : SCall Try.prog 25 [aIs l, aI n] (rI (szL l n)) := by
  refine SCall.of X25_ok (fn := Try.f25) (c := Try.f25.body.getD .skip) (dr := fun n => look 0 [] n) Try.func25 rfl (by kernel_rfl) (by kernel_rfl) (by kernel_rfl) ?_
  unfold maxLen at hs
  refine SEx.go (X := X25) X25_ok (fun n => look [] [] n) (fun _ => none) oraL_nil 60 ?_
  intro M R L N hM hAnd hImp hR hL hN
  cases M
  cbv
  repeat' first | (refine hAnd _ _ ?_ ?_) | (refine hImp _ _ (fun h => ?_)) | (refine hR _ ?_) | (refine hL _ _ (Hd.out ?_); try first | rw [hks] | rw [hk2] | rw [hk3]) | (refine hN _ _ ?_; cbv)
  all_goals (clear hAnd hImp hR hL hN; try clear hks; try clear hk2; try clear hk3)
  all_goals (cases hM; try dsimp only)
  all_goals (try simp only [Bool.not_eq_true', Bool.not_eq_false', decide_eq_true_eq, decide_eq_false_iff_not, Int.not_le, Int.not_lt, beq_iff_eq, beq_eq_false_iff_ne, ne_eq, Int.ofNat_eq_natCast, Int.toNat_natCast, List.length_replicate, ncast, Nat.sub_zero, List.drop_zero, Cue.eta, Tie.eta, Edge.eta, Link.eta, Node.eta] at *)
  all_goals rw [wrap_i64 (by omega) (by omega)] at *
  all_goals simp only [er_I, szL]
  all_goals split <;> omega
def fillL {α : Type} (z : α) (l : List α) (n i : Nat) : List α := l.take i ++ List.replicate (n - i) z
theorem fillL_len {α : Type} {z : α} {l : List α} {n i : Nat} (h : l.length = n) (hi : i ≤ n) : (fillL z l n i).length = n := by simp [fillL]; omega
theorem fillL_succ {α : Type} {z d : α} {l : List α} {n i : Nat} (h : l.length = n) (hi : i < n) : (fillL z l n i).set i (l.getD i d) = fillL z l n (i + 1) := by
  have hl : i < l.length := by omega
  unfold fillL
  rw [show n - i = (n - (i + 1)) + 1 by omega, List.replicate_succ, List.set_append_right _ _ (by simp; omega)]
  rw [show i - (l.take i).length = 0 by simp; omega, List.set_cons_zero, List.take_add_one, List.getElem?_eq_getElem hl]
  simp only [Option.toList_some, List.append_assoc, List.singleton_append, List.getD_eq_getElem?_getD, List.getElem?_eq_getElem hl, Option.getD_some]
theorem fillL_all {α : Type} {z : α} {l : List α} {n : Nat} (h : l.length = n) : fillL z l n n = l := by simp [fillL, ← h]
theorem toIntS_ok (l : List Int) (hs : l.length ≤ 1048576) : SCall Try.prog 30 [aIs l] (rIs l) := by
  refine SCall.of X30_ok (fn := Try.f30) (c := Try.f30.body.getD .skip) (dr := fun n => look 0 [] n) Try.func30 rfl (by kernel_rfl) (by kernel_rfl) (by kernel_rfl) ?_
  refine SEx.go (X := X30) X30_ok (fun n => look [] [(3, [0, 3, 4])] n) (fun _ => none) oraL_nil 60 ?_
  intro M R L N hM hAnd hImp hR hL hN
  cases M
  cbv
  repeat' first | (refine hAnd _ _ ?_ ?_) | (refine hImp _ _ (fun h => ?_)) | (refine hR _ ?_) | (refine hL _ _ (Hd.out ?_); generalize hks : (List.cons _ _ : List K) = ks) | (refine hN _ _ ?_; cbv)
  all_goals (clear hAnd hImp hR hL hN)
  all_goals (cases hM; try dsimp only)
  all_goals (try simp only [Bool.not_eq_true', Bool.not_eq_false', decide_eq_true_eq, decide_eq_false_iff_not, Int.not_le, Int.not_lt, beq_iff_eq, beq_eq_false_iff_ne, ne_eq, Int.ofNat_eq_natCast, Int.toNat_natCast, List.length_replicate, ncast, Nat.sub_zero, List.drop_zero, Cue.eta, Tie.eta, Edge.eta, Link.eta, Node.eta] at *)
  · have := lim_ge; omega
  generalize hn : l.length = n at *
  refine ⟨SEx.same (SEx.ind (fun i : Nat => ⟨22, [(0, .v (false, [.fz (.sl (.i l))])), (3, .v (false, [.rf (12288, []) true 0 n])), (4, .v (false, [.fz (.int .i64 i)]))], [(12288, .osl (.i (fillL 0 l n i)))]⟩) (fun _ => rIs l) (fun i => i ≤ n) (fun i => n - i) 0 (Nat.zero_le _) ?_) rfl rfl⟩
  intro i hi ih
  rw [← hks]
  obtain ⟨fl, hfl⟩ : ∃ x, x = fillL 0 l n i := ⟨_, rfl⟩
  have hf := fillL_len (z := (0 : Int)) hn hi
  rw [← hfl] at hf ⊢
  refine SEx.go (X := X30) X30_ok (fun n => look [] [(3, [0, 3, 4])] n) (fun _ => none) oraL_nil 60 ?_
  intro M R L N hM hAnd hImp hR hL hN
  cases M
  cbv
  repeat' first | (refine hAnd _ _ ?_ ?_) | (refine hImp _ _ (fun h => ?_)) | (refine hR _ ?_) | (refine hL _ _ (Hd.out ?_); try first | rw [hks] | rw [hk2] | rw [hk3]) | (refine hN _ _ ?_; cbv)
  all_goals (clear hAnd hImp hR hL hN; try clear hks; try clear hk2; try clear hk3)
  all_goals (cases hM; try dsimp only)
  all_goals (try simp only [Bool.not_eq_true', Bool.not_eq_false', decide_eq_true_eq, decide_eq_false_iff_not, Int.not_le, Int.not_lt, beq_iff_eq, beq_eq_false_iff_ne, ne_eq, Int.ofNat_eq_natCast, Int.toNat_natCast, List.length_replicate, ncast, Nat.sub_zero, List.drop_zero, Cue.eta, Tie.eta, Edge.eta, Link.eta, Node.eta] at *)
  all_goals first
    | omega
    | (simp only [wrap_succ (show i < 9223372036854775807 by omega), hfl, fillL_succ hn (show i < n by omega)]; exact ⟨ih (i + 1) (by omega) (by omega)⟩)
    | (obtain rfl : i = n := by omega
       rw [hfl, fillL_all hn]; rfl)
def wToIntS : Wr := w1 dcIs rIs (fun l => [LLe l 1048576])
theorem wToIntS_ok : WrOK Try.prog 30 wToIntS := w1_ok fun l h => toIntS_ok l (h _ (.head _)).out
def wSzIntS : Wr := w2 dcIs dcI (fun l n => rI (szL l n)) (fun l n => [LLe l maxLen, IRng n])
theorem wSzIntS_ok : WrOK Try.prog 25 wSzIntS := w2_ok fun l n h => szIntS_ok l n (h _ (.head _)).out (h _ (.tail _ (.head _))).out
theorem eqIntS_ok (l : List Int) (hs : l.length ≤ maxLen) : SCall Try.prog 11 [aIs l, aIs l] (rB true) := by
  refine SCall.of X11_ok (fn := Try.f11) (c := Try.f11.body.getD .skip) (dr := fun n => look 0 [(6, 8)] n) Try.func11 rfl (by kernel_rfl) (by kernel_rfl) (by kernel_rfl) ?_
  unfold maxLen at hs
  refine SEx.go (X := X11) X11_ok (fun n => look [] [(4, [0, 1, 5])] n) (fun _ => none) oraL_nil 60 ?_
  intro M R L N hM hAnd hImp hR hL hN
  cases M
  cbv
  repeat' first | (refine hAnd _ _ ?_ ?_) | (refine hImp _ _ (fun h => ?_)) | (refine hR _ ?_) | (refine hL _ _ (Hd.out ?_); generalize hks : (List.cons _ _ : List K) = ks) | (refine hN _ _ ?_; cbv)
  all_goals (clear hAnd hImp hR hL hN)
  all_goals (cases hM; try dsimp only)
  all_goals (try simp only [Bool.not_eq_true', Bool.not_eq_false', decide_eq_true_eq, decide_eq_false_iff_not, Int.not_le, Int.not_lt, beq_iff_eq, beq_eq_false_iff_ne, ne_eq, Int.ofNat_eq_natCast, Int.toNat_natCast, List.length_replicate, ncast, Nat.sub_zero, List.drop_zero, Cue.eta, Tie.eta, Edge.eta, Link.eta, Node.eta] at *)
  · exact absurd trivial (by assumption)
  generalize hn : l.length = n at *
  refine ⟨SEx.same (SEx.ind (fun i : Nat => ⟨26, [(0, .v (false, [.fz (.sl (.i l))])), (1, .v (false, [.fz (.sl (.i l))])), (5, .v (false, [.fz (.int .i64 i)]))], []⟩) (fun _ => rB true) (fun i => i ≤ n) (fun i => n - i) 0 (Nat.zero_le _) ?_) rfl rfl⟩
  intro i hi ih
  rw [← hks]
  refine SEx.go (X := X11) X11_ok (fun n => look [] [(4, [0, 1, 5])] n) (fun _ => none) oraL_nil 60 ?_
  intro M R L N hM hAnd hImp hR hL hN
  cases M
  cbv
  repeat' first | (refine hAnd _ _ ?_ ?_) | (refine hImp _ _ (fun h => ?_)) | (refine hR _ ?_) | (refine hL _ _ (Hd.out ?_); try first | rw [hks] | rw [hk2] | rw [hk3]) | (refine hN _ _ ?_; cbv)
  all_goals (clear hAnd hImp hR hL hN; try clear hks; try clear hk2; try clear hk3)
  all_goals (cases hM; try dsimp only)
  all_goals (try simp only [Bool.not_eq_true', Bool.not_eq_false', decide_eq_true_eq, decide_eq_false_iff_not, Int.not_le, Int.not_lt, beq_iff_eq, beq_eq_false_iff_ne, ne_eq, Int.ofNat_eq_natCast, Int.toNat_natCast, List.length_replicate, ncast, Nat.sub_zero, List.drop_zero, Cue.eta, Tie.eta, Edge.eta, Link.eta, Node.eta] at *)
  all_goals first
    | omega
    | exact absurd trivial (by assumption)
    | rfl
    | (simp only [wrap_succ (show i < 9223372036854775807 by omega)]; exact ⟨ih (i + 1) (by omega) (by omega)⟩)
def wEqIntS : Wr := w2 dcIs dcIs (fun _ _ => rB true) (fun l m => [Same l m, LLe l maxLen])
theorem wEqIntS_ok : WrOK Try.prog 11 wEqIntS := w2_ok fun l m h => by
  obtain rfl := (h _ (.head _)).out
  exact eqIntS_ok l (h _ (.tail _ (.head _))).out
end Go.Proofs.Ytececadpjelanaa.Ai
