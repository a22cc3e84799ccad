/- Copies of shows. -/
import Derived.Test.YtncbdoijakndoaaTy
import Derived.Test.YtncbdoijakndoaaU
import Derived.Test.YtncbdoijakndoaaLS
namespace Go.Proofs.Ytncbdoijakndoaa.Ai
open Go
set_option maxRecDepth 100000
set_option linter.unusedVariables false
set_option linter.unusedSimpArgs false
theorem cloneT_ok (l : List Tie) (h1 : l.length ≤ 1048576) : SCall Try.prog 87 [aTies l] (rTies l) := by
  refine SCall.of X87_ok (fn := Try.f87) (c := Try.f87.body.getD .skip) (dr := fun n => look 0 [] n) Try.func87 rfl (by kernel_rfl) (by kernel_rfl) (by kernel_rfl) ?_
  refine SEx.go (X := X87) X87_ok (fun n => look [] [] n) (fun _ => none) oraL_nil 60 ?_
  intro M R L N hM hAnd hImp hR hL hN
  cases M
  cbv
  repeat' first | (refine hAnd _ _ ?_ ?_) | (refine hImp _ _ (fun h => ?_)) | (refine hR _ ?_) | (refine hL _ _ (Hd.out ?_); try first | rw [hks] | rw [hk2] | rw [hk3]) | (refine hN _ _ ?_; cbv)
  all_goals (clear hAnd hImp hR hL hN; try clear hks; try clear hk2; try clear hk3)
  all_goals (cases hM; try dsimp only)
  all_goals (try simp only [Bool.not_eq_true', Bool.not_eq_false', decide_eq_true_eq, decide_eq_false_iff_not, Int.not_le, Int.not_lt, beq_iff_eq, beq_eq_false_iff_ne, ne_eq, Int.ofNat_eq_natCast, Int.toNat_natCast, List.length_replicate, ncast, Nat.sub_zero, List.drop_zero, Cue.eta, Tie.eta, Edge.eta, Link.eta, Node.eta] at *)
  all_goals first
    | (have := lim_ge; omega)
    | (have hl : l = [] := List.eq_nil_of_length_eq_zero (by omega)
       subst hl; rfl)
    | rfl
def wCloneT : Wr := w1 dcTies rTies (fun l => [LLe l 1048576])
theorem wCloneT_ok : WrOK Try.prog 87 wCloneT := w1_ok fun l h => cloneT_ok l (h _ (.head _)).out
theorem take_sn {α : Type} {l : List α} {i : Nat} (z : α) (h : i < l.length) : l.take (i + 1) = l.take i ++ [l.getD i z] := by
  rw [List.take_add_one, List.getElem?_eq_getElem h, getD_get h, Option.toList_some]
structure ShowMem (t : Show) : Prop where
  len : t.nodes.length ≤ 1048576
  tlen : t.ties.length ≤ 1048576
  labs : ∀ q ∈ t.nodes, q.label.length ≤ 1048576
theorem copyShow_ok (t : Show) (ht : ShowMem t) : SCall Try.prog 57 [aShow t] (rShow t) := by
  refine SCall.of X57_ok (fn := Try.f57) (c := Try.f57.body.getD .skip) (dr := fun n => look 0 [(1, 7)] n) Try.func57 rfl (by kernel_rfl) (by kernel_rfl) (by kernel_rfl) ?_
  have hO : SOraOK Try.prog (oraL [(87, wCloneT), (88, wCloneI)]) := oraL_cons wCloneT_ok (oraL_cons wCloneI_ok oraL_nil)
  obtain ⟨h1, h2, h3⟩ := ht
  obtain ⟨ns, ts, hr⟩ := t
  dsimp only at h1 h2 h3
  refine SEx.go (X := X57) X57_ok (fun n => look [] [(3, [2, 3, 13, 14, 15])] n) (fun _ => none) hO 60 ?_
  intro M R L N hM hAnd hImp hR hL hN
  cases M
  cbv
  repeat' first | (refine hAnd _ _ ?_ ?_) | (refine hImp _ _ (fun h => ?_)) | (refine hR _ ?_) | (refine hL _ _ (Hd.out ?_); generalize hks : (List.cons _ _ : List K) = ks) | (refine hN _ _ ?_; cbv)
  all_goals (clear hAnd hImp hR hL hN)
  all_goals (cases hM; try dsimp only)
  all_goals (try simp only [Bool.not_eq_true', Bool.not_eq_false', decide_eq_true_eq, decide_eq_false_iff_not, Int.not_le, Int.not_lt, beq_iff_eq, beq_eq_false_iff_ne, ne_eq, Int.ofNat_eq_natCast, Int.toNat_natCast, List.length_replicate, ncast, Nat.sub_zero, List.drop_zero, Cue.eta, Tie.eta, Edge.eta, Link.eta, Node.eta] at *)
  all_goals first
    | exact ⟨h2⟩
    | skip
  obtain ⟨m, hm⟩ : ∃ m, m = ns.length := ⟨_, rfl⟩
  refine ⟨SEx.same (SEx.idx m (fun i => ⟨31, [(2, bP 8192), (3, bP 12288), (13, bL (.node false none ns)), (14, bI m), (15, bI i)], [(8192, .obx [.onil, .onil, .fz (.int .i64 0)]), (12288, .obx [.osl (.node true none (ns.take i)), .osl (.tie ts), .fz (.int .i64 hr)])]⟩) (fun _ => rShow ⟨ns, ts, hr⟩) ?_) (by rw [hm]; rfl) rfl⟩
  intro i hi ih
  rw [← hks]
  obtain ⟨c, hc⟩ : ∃ c, c = ns.take i := ⟨_, rfl⟩
  have hcl : c.length = i := by rw [hc, List.length_take]; omega
  rw [← hc]
  refine SEx.go (X := X57) X57_ok (fun n => look [] [(3, [2, 3, 13, 14, 15])] n) (fun _ => none) hO 60 ?_
  intro M R L N hM hAnd hImp hR hL hN
  cases M
  cbv
  repeat' first | (refine hAnd _ _ ?_ ?_) | (refine hImp _ _ (fun h => ?_)) | (refine hR _ ?_) | (refine hL _ _ (Hd.out ?_); try first | rw [hks] | rw [hk2] | rw [hk3]) | (refine hN _ _ ?_; cbv)
  all_goals (clear hAnd hImp hR hL hN; try clear hks; try clear hk2; try clear hk3)
  all_goals (cases hM; try dsimp only)
  all_goals (try simp only [Bool.not_eq_true', Bool.not_eq_false', decide_eq_true_eq, decide_eq_false_iff_not, Int.not_le, Int.not_lt, beq_iff_eq, beq_eq_false_iff_ne, ne_eq, Int.ofNat_eq_natCast, Int.toNat_natCast, List.length_replicate, ncast, Nat.sub_zero, List.drop_zero, Cue.eta, Tie.eta, Edge.eta, Link.eta, Node.eta] at *)
  all_goals (try simp only [wrap_succ (show i < 9223372036854775807 by omega)])
  all_goals first
    | omega
    | rfl
    | (have := lim_ge; omega)
    | (have := lim_ge; rw [List.length_singleton]; omega)
    | exact ⟨h3 _ (mem_getD (z := Node.z) (by omega)).out⟩
    | (refine ⟨(ih (by omega)).same ?_ rfl⟩; show _ = _; rw [take_sn Node.z (by omega), ← hc]; rfl)
    | (obtain rfl : i = m := by omega
       rw [hm, List.take_length] at hc
       rw [hc]; rfl)
    | skip
def wCopyShow : Wr := w1 dcShow rShow (fun t => [ShowMem t])
theorem wCopyShow_ok : WrOK Try.prog 57 wCopyShow := w1_ok fun t h => copyShow_ok t (h _ (.head _))
theorem l08Copy_ok (t : Show) (ht : ShowMem t) : SCall Try.prog 25 [aShow t] (rShow t) := by
  refine SCall.of X25_ok (fn := Try.f25) (c := Try.f25.body.getD .skip) (dr := fun n => look 0 [(1, 8), (5, 33619979)] n) Try.func25 rfl (by kernel_rfl) (by kernel_rfl) (by kernel_rfl) ?_
  have hO := @oraL_nil Try.prog
  obtain ⟨h1, h2, h3⟩ := ht
  obtain ⟨ns, ts, hr⟩ := t
  dsimp only at h1 h2 h3
  refine SEx.go (X := X25) X25_ok (fun n => look [] [(3, [2, 3, 14, 15, 16])] n) (fun _ => none) hO 60 ?_
  intro M R L N hM hAnd hImp hR hL hN
  cases M
  cbv
  repeat' first | (refine hAnd _ _ ?_ ?_) | (refine hImp _ _ (fun h => ?_)) | (refine hR _ ?_) | (refine hL _ _ (Hd.out ?_); generalize hks : (List.cons _ _ : List K) = ks) | (refine hN _ _ ?_; cbv)
  all_goals (clear hAnd hImp hR hL hN)
  all_goals (cases hM; try dsimp only)
  all_goals (try simp only [Bool.not_eq_true', Bool.not_eq_false', decide_eq_true_eq, decide_eq_false_iff_not, Int.not_le, Int.not_lt, beq_iff_eq, beq_eq_false_iff_ne, ne_eq, Int.ofNat_eq_natCast, Int.toNat_natCast, List.length_replicate, ncast, Nat.sub_zero, List.drop_zero, Cue.eta, Tie.eta, Edge.eta, Link.eta, Node.eta] at *)
  all_goals first
    | (have := lim_ge; omega)
    | skip
  obtain ⟨m, hm⟩ : ∃ m, m = ns.length := ⟨_, rfl⟩
  refine ⟨SEx.same (SEx.idx m (fun i => ⟨36, [(2, bP 8192), (3, bP 12288), (14, bL (.node false none ns)), (15, bI m), (16, bI i)], [(8192, .obx [.onil, .onil, .fz (.int .i64 0)]), (12288, .obx [.osl (.node true none (ns.take i)), .osl (.tie ts), .fz (.int .i64 hr)])]⟩) (fun _ => rShow ⟨ns, ts, hr⟩) ?_) (by rw [hm]; rfl) rfl⟩
  intro i hi ih
  rw [← hks]
  obtain ⟨c, hc⟩ : ∃ c, c = ns.take i := ⟨_, rfl⟩
  have hcl : c.length = i := by rw [hc, List.length_take]; omega
  rw [← hc]
  have h4 : i < m → (ns.getD i Node.z).label.length ≤ 1048576 := fun h => h3 _ (mem_getD (z := Node.z) (by omega)).out
  refine SEx.go (X := X25) X25_ok (fun n => look [] [(3, [2, 3, 14, 15, 16])] n) (fun _ => none) hO 60 ?_
  intro M R L N hM hAnd hImp hR hL hN
  cases M
  cbv
  repeat' first | (refine hAnd _ _ ?_ ?_) | (refine hImp _ _ (fun h => ?_)) | (refine hR _ ?_) | (refine hL _ _ (Hd.out ?_); try first | rw [hks] | rw [hk2] | rw [hk3]) | (refine hN _ _ ?_; cbv)
  all_goals (clear hAnd hImp hR hL hN; try clear hks; try clear hk2; try clear hk3)
  all_goals (cases hM; try dsimp only)
  all_goals (try simp only [Bool.not_eq_true', Bool.not_eq_false', decide_eq_true_eq, decide_eq_false_iff_not, Int.not_le, Int.not_lt, beq_iff_eq, beq_eq_false_iff_ne, ne_eq, Int.ofNat_eq_natCast, Int.toNat_natCast, List.length_replicate, ncast, Nat.sub_zero, List.drop_zero, Cue.eta, Tie.eta, Edge.eta, Link.eta, Node.eta] at *)
  all_goals (try simp only [wrap_succ (show i < 9223372036854775807 by omega)])
  all_goals first
    | omega
    | rfl
    | (have := lim_ge; omega)
    | (have := lim_ge; rw [List.length_singleton]; omega)
    | (have := lim_ge; exact Nat.le_trans (h4 (by omega)) (by omega))
    | (refine ⟨(ih (by omega)).same ?_ rfl⟩; show _ = _; rw [take_sn Node.z (by omega), ← hc]; rfl)
    | (obtain rfl : i = m := by omega
       rw [hm, List.take_length] at hc
       rw [hc]; rfl)
    | skip
theorem wL08Copy_ok : WrOK Try.prog 25 wCopyShow := w1_ok fun t h => l08Copy_ok t (h _ (.head _))
end Go.Proofs.Ytncbdoijakndoaa.Ai
