/- Users of a device. -/
import Derived.Test.YtlmejcmnmdleaaaTy
import Derived.Test.YtlmejcmnmdleaaaU
namespace Go.Proofs.Ytlmejcmnmdleaaa.Ai
open Go
set_option maxRecDepth 100000
set_option linter.unusedVariables false
set_option linter.unusedSimpArgs false
def uL (cs : List Cue) (d : Int) (i : Nat) : List Int := ((List.range i).filter fun j => (cs.getD j Cue.z).device == d).map fun (j : Nat) => (j : Int)
theorem uL_yes {cs : List Cue} {d : Int} {i : Nat} (h : (cs.getD i Cue.z).device = d) : uL cs d (i + 1) = uL cs d i ++ [(i : Int)] := by
  simp only [uL, List.range_succ, List.filter_append, List.map_append, List.filter_cons, List.filter_nil, h, beq_self_eq_true, if_true, List.map_cons, List.map_nil]
theorem uL_no {cs : List Cue} {d : Int} {i : Nat} (h : ¬(cs.getD i Cue.z).device = d) : uL cs d (i + 1) = uL cs d i := by
  have : ((cs.getD i Cue.z).device == d) = false := beq_eq_false_iff_ne.2 h
  simp only [uL, List.range_succ, List.filter_append, List.map_append, List.filter_cons, List.filter_nil, this, Bool.false_eq_true, if_false, List.map_nil, List.append_nil]
theorem uL_len (cs : List Cue) (d : Int) (i : Nat) : (uL cs d i).length ≤ i := by
  simp only [uL, List.length_map]
  exact Nat.le_trans (List.length_filter_le _ _) (by simp)
def rUs (l : List Int) : TV W := .v (false, [.osl (.i l)])
theorem specUsersOf_ok (t : Sheet) (d : Int) (h1 : t.cues.length ≤ 1048576) : SCall Try.prog 23 [aSheet t, aI d] (rUs (uL t.cues d t.cues.length)) := by
  refine SCall.of X23_ok (fn := Try.f23) (c := Try.f23.body.getD .skip) (dr := fun n => look 0 [] n) Try.func23 rfl (by kernel_rfl) (by kernel_rfl) (by kernel_rfl) ?_
  obtain ⟨cs, ps, hr⟩ := t
  dsimp only at h1
  refine SEx.go (X := X23) X23_ok (fun n => look [] [(3, [1, 5, 10, 11, 12])] n) (fun _ => none) oraL_nil 60 ?_
  intro M R L N hM hAnd hImp hR hL hN
  cases M
  cbv
  repeat' first | (refine hAnd _ _ ?_ ?_) | (refine hImp _ _ (fun h => ?_)) | (refine hR _ ?_) | (refine hL _ _ (Hd.out ?_); generalize hks : (List.cons _ _ : List K) = ks) | (refine hN _ _ ?_; cbv)
  all_goals (clear hAnd hImp hR hL hN)
  all_goals (cases hM; try dsimp only)
  all_goals (try simp only [Bool.not_eq_true', Bool.not_eq_false', decide_eq_true_eq, decide_eq_false_iff_not, Int.not_le, Int.not_lt, beq_iff_eq, beq_eq_false_iff_ne, ne_eq, Int.ofNat_eq_natCast, Int.toNat_natCast, List.length_replicate, ncast, Nat.sub_zero, List.drop_zero, Cue.eta, Tie.eta, Edge.eta, Link.eta, Node.eta] at *)
  obtain ⟨m, hm⟩ : ∃ m, m = cs.length := ⟨_, rfl⟩
  refine ⟨SEx.same (SEx.idx m (fun i => ⟨27, [(1, bI d), (5, bR 20480 (uL cs d i).length), (10, bL (.cue cs)), (11, bI m), (12, bI i)], [(20480, .osl (.i (uL cs d i)))]⟩) (fun i => rUs (uL cs d m)) ?_) (by rw [hm]; rfl) (by rw [hm])⟩
  intro i hi ih
  rw [← hks]
  obtain ⟨u, hu⟩ : ∃ u, u = uL cs d i := ⟨_, rfl⟩
  have hul : u.length ≤ i := by rw [hu]; exact uL_len _ _ _
  rw [← hu]
  obtain ⟨n, hn⟩ : ∃ n, n = u.length := ⟨_, rfl⟩
  rw [← hn] at hul ⊢
  refine SEx.go (X := X23) X23_ok (fun n => look [] [(3, [1, 5, 10, 11, 12])] n) (fun _ => none) oraL_nil 60 ?_
  intro M R L N hM hAnd hImp hR hL hN
  cases M
  cbv
  repeat' first | (refine hAnd _ _ ?_ ?_) | (refine hImp _ _ (fun h => ?_)) | (refine hR _ ?_) | (refine hL _ _ (Hd.out ?_); try rw [hks]) | (refine hN _ _ ?_; cbv)
  all_goals (clear hAnd hImp hR hL hN; try clear hks)
  all_goals (cases hM; try dsimp only)
  all_goals (try simp only [Bool.not_eq_true', Bool.not_eq_false', decide_eq_true_eq, decide_eq_false_iff_not, Int.not_le, Int.not_lt, beq_iff_eq, beq_eq_false_iff_ne, ne_eq, Int.ofNat_eq_natCast, Int.toNat_natCast, List.length_replicate, ncast, Nat.sub_zero, List.drop_zero, Cue.eta, Tie.eta, Edge.eta, Link.eta, Node.eta] at *)
  all_goals try simp only [List.length_append, List.length_cons, List.length_nil, List.length_set] at *
  all_goals (try omega)
  all_goals (try (have := lim_ge; omega))
  all_goals (try simp only [wrap_succ (show i < 9223372036854775807 by omega)])
  all_goals first
    | (have ih' := ih (by omega)
       rw [uL_yes (by assumption), ← hu, List.length_append] at ih'
       exact ⟨ih'.same rfl rfl⟩)
    | (have ih' := ih (by omega)
       rw [uL_no (by assumption), ← hu, ← hn] at ih'
       exact ⟨ih'.same rfl rfl⟩)
    | (obtain rfl : i = m := by omega
       rw [hu]; rfl)
    | trace_state
theorem implUsersOf_ok (t : Sheet) (d : Int) (h1 : t.cues.length ≤ 1048576) : SCall Try.prog 24 [aSheet t, aI d] (rUs (uL t.cues d t.cues.length)) := by
  refine SCall.of X24_ok (fn := Try.f24) (c := Try.f24.body.getD .skip) (dr := fun n => look 0 [] n) Try.func24 rfl (by kernel_rfl) (by kernel_rfl) (by kernel_rfl) ?_
  obtain ⟨cs, ps, hr⟩ := t
  dsimp only at h1
  refine SEx.go (X := X24) X24_ok (fun n => look [] [(3, [1, 5, 9, 10, 11])] n) (fun _ => none) oraL_nil 60 ?_
  intro M R L N hM hAnd hImp hR hL hN
  cases M
  cbv
  repeat' first | (refine hAnd _ _ ?_ ?_) | (refine hImp _ _ (fun h => ?_)) | (refine hR _ ?_) | (refine hL _ _ (Hd.out ?_); generalize hks : (List.cons _ _ : List K) = ks) | (refine hN _ _ ?_; cbv)
  all_goals (clear hAnd hImp hR hL hN)
  all_goals (cases hM; try dsimp only)
  all_goals (try simp only [Bool.not_eq_true', Bool.not_eq_false', decide_eq_true_eq, decide_eq_false_iff_not, Int.not_le, Int.not_lt, beq_iff_eq, beq_eq_false_iff_ne, ne_eq, Int.ofNat_eq_natCast, Int.toNat_natCast, List.length_replicate, ncast, Nat.sub_zero, List.drop_zero, Cue.eta, Tie.eta, Edge.eta, Link.eta, Node.eta] at *)
  obtain ⟨m, hm⟩ : ∃ m, m = cs.length := ⟨_, rfl⟩
  refine ⟨SEx.same (SEx.idx m (fun i => ⟨26, [(1, bI d), (5, bR 20480 (uL cs d i).length), (9, bL (.cue cs)), (10, bI m), (11, bI i)], [(20480, .osl (.i (uL cs d i)))]⟩) (fun i => rUs (uL cs d m)) ?_) (by rw [hm]; rfl) (by rw [hm])⟩
  intro i hi ih
  rw [← hks]
  obtain ⟨u, hu⟩ : ∃ u, u = uL cs d i := ⟨_, rfl⟩
  have hul : u.length ≤ i := by rw [hu]; exact uL_len _ _ _
  rw [← hu]
  obtain ⟨n, hn⟩ : ∃ n, n = u.length := ⟨_, rfl⟩
  rw [← hn] at hul ⊢
  refine SEx.go (X := X24) X24_ok (fun n => look [] [(3, [1, 5, 9, 10, 11])] n) (fun _ => none) oraL_nil 60 ?_
  intro M R L N hM hAnd hImp hR hL hN
  cases M
  cbv
  repeat' first | (refine hAnd _ _ ?_ ?_) | (refine hImp _ _ (fun h => ?_)) | (refine hR _ ?_) | (refine hL _ _ (Hd.out ?_); try rw [hks]) | (refine hN _ _ ?_; cbv)
  all_goals (clear hAnd hImp hR hL hN; try clear hks)
  all_goals (cases hM; try dsimp only)
  all_goals (try simp only [Bool.not_eq_true', Bool.not_eq_false', decide_eq_true_eq, decide_eq_false_iff_not, Int.not_le, Int.not_lt, beq_iff_eq, beq_eq_false_iff_ne, ne_eq, Int.ofNat_eq_natCast, Int.toNat_natCast, List.length_replicate, ncast, Nat.sub_zero, List.drop_zero, Cue.eta, Tie.eta, Edge.eta, Link.eta, Node.eta] at *)
  all_goals try simp only [List.length_append, List.length_cons, List.length_nil, List.length_set] at *
  all_goals (try omega)
  all_goals (try (have := lim_ge; omega))
  all_goals (try simp only [wrap_succ (show i < 9223372036854775807 by omega)])
  all_goals first
    | (have ih' := ih (by omega)
       rw [uL_yes (by assumption), ← hu, List.length_append] at ih'
       exact ⟨ih'.same rfl rfl⟩)
    | (have ih' := ih (by omega)
       rw [uL_no (by assumption), ← hu, ← hn] at ih'
       exact ⟨ih'.same rfl rfl⟩)
    | (obtain rfl : i = m := by omega
       rw [hu]; rfl)
    | trace_state
def wUsers (f : Sheet → Int → List Int) : Wr := w2 dcSheet dcI (fun t d => rUs (f t d)) (fun t d => [LLe t.cues 1048576])
def usersF (t : Sheet) (d : Int) : List Int := uL t.cues d t.cues.length
theorem usersF_len {t : Sheet} {d : Int} (h : t.cues.length ≤ 1048576) : (usersF t d).length ≤ 1048576 := Nat.le_trans (uL_len _ _ _) h
theorem wUsersS_ok : WrOK Try.prog 23 (wUsers usersF) := w2_ok fun t d h => specUsersOf_ok t d (h _ (.head _)).out
theorem wUsersI_ok : WrOK Try.prog 24 (wUsers usersF) := w2_ok fun t d h => implUsersOf_ok t d (h _ (.head _)).out
end Go.Proofs.Ytlmejcmnmdleaaa.Ai
