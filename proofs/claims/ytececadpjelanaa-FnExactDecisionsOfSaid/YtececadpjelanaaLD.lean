/- Values; implied labels; nodes by name. -/
import Derived.Test.YtececadpjelanaaTy
import Derived.Test.YtececadpjelanaaLC
namespace Go.Proofs.Ytececadpjelanaa.Ai
open Go
set_option maxRecDepth 100000
set_option linter.unusedVariables false
set_option linter.unusedSimpArgs false
def valB (x : Int) : Bool := decide (-1 ≤ x) && decide (x ≤ 1)
def valuesB (l : List Int) : Bool := allF (fun _ x => valB x) l 0 && decide (l.length = 3)
theorem specValuesOk_ok (l : List Int) (h1 : l.length ≤ maxLen) : SCall Try.prog 44 [aIs l] (rB (valuesB l)) := by
  refine SCall.of X44_ok (fn := Try.f44) (c := Try.f44.body.getD .skip) (dr := fun n => look 0 [] n) Try.func44 rfl (by kernel_rfl) (by kernel_rfl) (by kernel_rfl) ?_
  unfold maxLen at h1
  obtain ⟨f0, hf0⟩ : ∃ f, f = l01InB := ⟨_, rfl⟩
  have hO : SOraOK Try.prog (oraL [(43, wL01 f0)]) := by subst hf0; exact oraL_cons wL01_ok oraL_nil
  have hv : ∀ x, f0 x (-1) 1 = valB x := by intro x; rw [hf0]; rfl
  obtain ⟨c, hc⟩ : ∃ c, c = decide (l.length = 3) := ⟨_, rfl⟩
  rw [show valuesB l = (allF (fun _ x => valB x) (l.drop 0) 0 && c) by rw [hc]; rfl]
  clear hf0
  refine SEx.go (X := X44) X44_ok (fun n => look [] [(2, [0, 5, 6, 7])] n) (fun _ => none) hO 60 ?_
  intro M R L N hM hAnd hImp hR hL hN
  cases M
  cbv
  repeat' first | (refine hAnd _ _ ?_ ?_) | (refine hImp _ _ (fun h => ?_)) | (refine hR _ ?_) | (refine hL _ _ (Hd.out ?_); generalize hks : (List.cons _ _ : List K) = ks) | (refine hN _ _ ?_; cbv)
  all_goals (clear hAnd hImp hR hL hN)
  all_goals (cases hM; try dsimp only)
  all_goals (try simp only [Bool.not_eq_true', Bool.not_eq_false', decide_eq_true_eq, decide_eq_false_iff_not, Int.not_le, Int.not_lt, beq_iff_eq, beq_eq_false_iff_ne, ne_eq, Int.ofNat_eq_natCast, Int.toNat_natCast, List.length_replicate, ncast, Nat.sub_zero, List.drop_zero, Cue.eta, Tie.eta, Edge.eta, Link.eta, Node.eta] at *)
  obtain ⟨m, hm⟩ : ∃ m, m = l.length := ⟨_, rfl⟩
  refine ⟨SEx.same (SEx.idx m (fun i => ⟨18, [(0, bL (.i l)), (5, bL (.i l)), (6, bI m), (7, bI i)], []⟩) (fun i => rB (allF (fun _ x => valB x) (l.drop i) i && c)) ?_) (by rw [hm]; rfl) rfl⟩
  intro i hi ih
  rw [← hks]
  refine SEx.go (X := X44) X44_ok (fun n => look [] [(2, [0, 5, 6, 7])] n) (fun _ => none) hO 60 ?_
  intro M R L N hM hAnd hImp hR hL hN
  cases M
  cbv
  repeat' first | (refine hAnd _ _ ?_ ?_) | (refine hImp _ _ (fun h => ?_)) | (refine hR _ ?_) | (refine hL _ _ (Hd.out ?_); try first | rw [hks] | rw [hk2] | rw [hk3]) | (refine hN _ _ ?_; cbv)
  all_goals (clear hAnd hImp hR hL hN; try clear hks; try clear hk2; try clear hk3)
  all_goals (cases hM; try dsimp only)
  all_goals (try simp only [Bool.not_eq_true', Bool.not_eq_false', decide_eq_true_eq, decide_eq_false_iff_not, Int.not_le, Int.not_lt, beq_iff_eq, beq_eq_false_iff_ne, ne_eq, Int.ofNat_eq_natCast, Int.toNat_natCast, List.length_replicate, ncast, Nat.sub_zero, List.drop_zero, Cue.eta, Tie.eta, Edge.eta, Link.eta, Node.eta] at *)
  all_goals first
    | omega
    | exact mem_getD (z := (0 : Int)) (by omega)
    | exact ⟨rfl⟩
    | exact ⟨by omega⟩
    | (rw [allF_no_and (p := fun _ x => valB x) (l := l) (i := i) (0 : Int) (by omega) (by rw [← hv]; assumption)]; rfl)
    | (simp only [wrap_succ (show i < 9223372036854775807 by omega)]; exact ⟨(ih (by omega)).same rfl (by rw [allF_yes_and (p := fun _ x => valB x) (l := l) (i := i) (0 : Int) (by omega) (by rw [← hv]; assumption)])⟩)
    | skip
  all_goals first
    | (rw [allF_end_and (l := l) (by omega), hc]; simp only [er_B, Bool.true_and]; apply decide_eq_decide.2; omega)
theorem implValues1_ok (n : Int) : SCall Try.prog 89 [aI n] (rB (!valB n)) := by
  refine SCall.of X89_ok (fn := Try.f89) (c := Try.f89.body.getD .skip) (dr := fun n => look 0 [] n) Try.func89 rfl (by kernel_rfl) (by kernel_rfl) (by kernel_rfl) ?_
  refine SEx.go (X := X89) X89_ok (fun n => look [] [] n) (fun _ => none) oraL_nil 60 ?_
  intro M R L N hM hAnd hImp hR hL hN
  cases M
  cbv
  repeat' first | (refine hAnd _ _ ?_ ?_) | (refine hImp _ _ (fun h => ?_)) | (refine hR _ ?_) | (refine hL _ _ (Hd.out ?_); try first | rw [hks] | rw [hk2] | rw [hk3]) | (refine hN _ _ ?_; cbv)
  all_goals (clear hAnd hImp hR hL hN; try clear hks; try clear hk2; try clear hk3)
  all_goals (cases hM; try dsimp only)
  all_goals (try simp only [Bool.not_eq_true', Bool.not_eq_false', decide_eq_true_eq, decide_eq_false_iff_not, Int.not_le, Int.not_lt, beq_iff_eq, beq_eq_false_iff_ne, ne_eq, Int.ofNat_eq_natCast, Int.toNat_natCast, List.length_replicate, ncast, Nat.sub_zero, List.drop_zero, Cue.eta, Tie.eta, Edge.eta, Link.eta, Node.eta] at *)
  all_goals simp only [er_B, valB]
  all_goals first
    | (rw [decide_eq_false (show ¬ -1 ≤ n by omega)]; rfl)
    | (rw [decide_eq_true (show -1 ≤ n by omega)]; rw [Bool.eq_iff_iff]; simp; done)
theorem implValuesOk_ok (l : List Int) (h1 : l.length ≤ maxLen) : SCall Try.prog 70 [aIs l] (rB (valuesB l)) := by
  refine SCall.of X70_ok (fn := Try.f70) (c := Try.f70.body.getD .skip) (dr := fun n => look 0 [] n) Try.func70 rfl (by kernel_rfl) (by kernel_rfl) (by kernel_rfl) ?_
  obtain ⟨f, hf⟩ : ∃ f : List Int → Bool, f = fun l => l.any (fun n => !valB n) := ⟨_, rfl⟩
  have hO : SOraOK Try.prog (oraL [(67, wCl dcIs 89 [] (fun l => rB (f l)) (fun l => [LLe l maxLen]))]) := by
    subst hf
    exact oraL_cons (wCl_ok fun l h => contFuncI_ok l _ _ _ (fun q _ => implValues1_ok q) (h _ (.head _)).out) oraL_nil
  have ha : allF (fun _ x => valB x) l 0 = !f l := by
    rw [hf, show (!List.any l fun n => !valB n) = l.all valB by rw [List.not_any_eq_all_not]; simp]
    generalize 0 = k
    induction l generalizing k with
    | nil => rfl
    | cons x r ih => simp only [allF, List.all_cons]; rw [ih (by simp at h1; omega)]
  rw [show valuesB l = (!f l && decide (l.length = 3)) by unfold valuesB; rw [ha]]
  clear ha hf
  refine SEx.go (X := X70) X70_ok (fun n => look [] [] n) (fun _ => none) hO 60 ?_
  intro M R L N hM hAnd hImp hR hL hN
  cases M
  cbv
  repeat' first | (refine hAnd _ _ ?_ ?_) | (refine hImp _ _ (fun h => ?_)) | (refine hR _ ?_) | (refine hL _ _ (Hd.out ?_); try first | rw [hks] | rw [hk2] | rw [hk3]) | (refine hN _ _ ?_; cbv)
  all_goals (clear hAnd hImp hR hL hN; try clear hks; try clear hk2; try clear hk3)
  all_goals (cases hM; try dsimp only)
  all_goals (try simp only [Bool.not_eq_true', Bool.not_eq_false', decide_eq_true_eq, decide_eq_false_iff_not, Int.not_le, Int.not_lt, beq_iff_eq, beq_eq_false_iff_ne, ne_eq, Int.ofNat_eq_natCast, Int.toNat_natCast, List.length_replicate, ncast, Nat.sub_zero, List.drop_zero, Cue.eta, Tie.eta, Edge.eta, Link.eta, Node.eta] at *)
  all_goals first
    | exact ⟨rfl⟩
    | exact ⟨h1⟩
    | (simp only [er_B]; rw [decide_eq_true (by omega), Bool.and_true]; done)
    | (simp only [er_B]; rw [decide_eq_false (by omega), Bool.and_false]; done)
def wValuesOk (f : List Int → Bool) : Wr := w1 dcIs (fun l => rB (f l)) (fun l => [LLe l maxLen])
theorem wValuesOkS_ok : WrOK Try.prog 44 (wValuesOk valuesB) := w1_ok fun l h => specValuesOk_ok l (h _ (.head _)).out
theorem wValuesOkI_ok : WrOK Try.prog 70 (wValuesOk valuesB) := w1_ok fun l h => implValuesOk_ok l (h _ (.head _)).out
theorem nodeNamed_ok (t : Show) (s : ByteArray) (h1 : t.nodes.length ≤ maxLen) : SCall Try.prog 76 [aShow t, aS s] (rI (idxF (fun q => eqS q.name s) t.nodes 0)) := by
  refine SCall.of X76_ok (fn := Try.f76) (c := Try.f76.body.getD .skip) (dr := fun n => look 0 [] n) Try.func76 rfl (by kernel_rfl) (by kernel_rfl) (by kernel_rfl) ?_
  obtain ⟨cs, ps, hr⟩ := t
  have h1 : cs.length ≤ maxLen := h1
  unfold maxLen at h1
  show SEx _ _ _ _ _ _ (rI (idxF _ cs 0))
  refine SEx.go (X := X76) X76_ok (fun n => look [] [(2, [1, 8, 9, 10])] n) (fun _ => none) oraL_nil 60 ?_
  intro M R L N hM hAnd hImp hR hL hN
  cases M
  cbv
  repeat' first | (refine hAnd _ _ ?_ ?_) | (refine hImp _ _ (fun h => ?_)) | (refine hR _ ?_) | (refine hL _ _ (Hd.out ?_); generalize hks : (List.cons _ _ : List K) = ks) | (refine hN _ _ ?_; cbv)
  all_goals (clear hAnd hImp hR hL hN)
  all_goals (cases hM; try dsimp only)
  all_goals (try simp only [Bool.not_eq_true', Bool.not_eq_false', decide_eq_true_eq, decide_eq_false_iff_not, Int.not_le, Int.not_lt, beq_iff_eq, beq_eq_false_iff_ne, ne_eq, Int.ofNat_eq_natCast, Int.toNat_natCast, List.length_replicate, ncast, Nat.sub_zero, List.drop_zero, Cue.eta, Tie.eta, Edge.eta, Link.eta, Node.eta] at *)
  obtain ⟨n, hn⟩ : ∃ n, n = cs.length := ⟨_, rfl⟩
  refine ⟨SEx.same (SEx.idx n (fun i => ⟨21, [(1, bS s), (8, bL (.node false none cs)), (9, bI n), (10, bI i)], []⟩) (fun i => rI (idxF (fun q => eqS q.name s) (cs.drop i) i)) ?_) (by rw [hn]; rfl) rfl⟩
  intro i hi ih
  rw [← hks]
  refine SEx.go (X := X76) X76_ok (fun n => look [] [(2, [1, 8, 9, 10])] n) (fun _ => none) oraL_nil 60 ?_
  intro M R L N hM hAnd hImp hR hL hN
  cases M
  cbv
  repeat' first | (refine hAnd _ _ ?_ ?_) | (refine hImp _ _ (fun h => ?_)) | (refine hR _ ?_) | (refine hL _ _ (Hd.out ?_); try first | rw [hks] | rw [hk2] | rw [hk3]) | (refine hN _ _ ?_; cbv)
  all_goals (clear hAnd hImp hR hL hN; try clear hks; try clear hk2; try clear hk3)
  all_goals (cases hM; try dsimp only)
  all_goals (try simp only [Bool.not_eq_true', Bool.not_eq_false', decide_eq_true_eq, decide_eq_false_iff_not, Int.not_le, Int.not_lt, beq_iff_eq, beq_eq_false_iff_ne, ne_eq, Int.ofNat_eq_natCast, Int.toNat_natCast, List.length_replicate, ncast, Nat.sub_zero, List.drop_zero, Cue.eta, Tie.eta, Edge.eta, Link.eta, Node.eta] at *)
  all_goals first
    | omega
    | exact ⟨rfl, by cases caps <;> rfl⟩
    | exact ⟨rfl, rfl⟩
    | exact mem_getD (z := Node.z) (by omega)
    | (rw [idxF_yes (p := fun q => eqS q.name s) (l := cs) (i := i) Node.z (by omega) (by first | assumption | exact beq_iff_eq.2 (by assumption))]; rfl)
    | (rw [idxF_end (by omega)]; rfl)
    | (simp only [wrap_succ (show i < 9223372036854775807 by omega)]; exact ⟨(ih (by omega)).same rfl (by rw [idxF_no (p := fun q => eqS q.name s) (l := cs) (i := i) Node.z (by omega) (by first | assumption | exact beq_eq_false_iff_ne.2 (by assumption) | (simp_all; done))])⟩)
/-- A closure that has one list by reference. -/
def dcFIs (k : Nat) : Dc (List Int) := ⟨fun s => aF k [.ptr [.sl (.i s)]], fun | (false, [.fn f [.ptr [.sl (.i s)]]]) => (match nq f k with | true => some s | false => none) | _ => none, by
  intro x a h
  split at h
  · split at h
    · rename_i hk
      obtain rfl := nq_iff.1 hk
      simp only [Option.some.injEq] at h; subst h; rfl
    · cases h
  · cases h⟩
def implB (a b : List Int) : Bool := labelB a && labelB b && b.all (hasB a)
theorem all_allF {α : Type} (p : α → Bool) : ∀ (l : List α) (k : Nat), allF (fun _ x => p x) l k = l.all p
  | [], _ => rfl
  | a :: r, k => by simp only [allF, List.all_cons, all_allF p r]
theorem implImplies1_ok (x : Int) (a : List Int) (h1 : a.length ≤ maxLen) : SCall Try.prog 100 [aI x, (false, [.ptr [.sl (.i a)]])] (rB (!hasB a x)) := by
  refine SCall.of X100_ok (fn := Try.f100) (c := Try.f100.body.getD .skip) (dr := fun n => look 0 [] n) Try.func100 rfl (by kernel_rfl) (by kernel_rfl) (by kernel_rfl) ?_
  obtain ⟨f, hf⟩ : ∃ f, f = hasB := ⟨_, rfl⟩
  have hO : SOraOK Try.prog (oraL [(87, wHas f)]) := by subst hf; exact oraL_cons wHasI_ok oraL_nil
  rw [← hf]
  refine SEx.go (X := X100) X100_ok (fun n => look [] [] n) (fun _ => none) hO 60 ?_
  intro M R L N hM hAnd hImp hR hL hN
  cases M
  cbv
  repeat' first | (refine hAnd _ _ ?_ ?_) | (refine hImp _ _ (fun h => ?_)) | (refine hR _ ?_) | (refine hL _ _ (Hd.out ?_); try first | rw [hks] | rw [hk2] | rw [hk3]) | (refine hN _ _ ?_; cbv)
  all_goals (clear hAnd hImp hR hL hN; try clear hks; try clear hk2; try clear hk3)
  all_goals (cases hM; try dsimp only)
  all_goals (try simp only [Bool.not_eq_true', Bool.not_eq_false', decide_eq_true_eq, decide_eq_false_iff_not, Int.not_le, Int.not_lt, beq_iff_eq, beq_eq_false_iff_ne, ne_eq, Int.ofNat_eq_natCast, Int.toNat_natCast, List.length_replicate, ncast, Nat.sub_zero, List.drop_zero, Cue.eta, Tie.eta, Edge.eta, Link.eta, Node.eta] at *)
  all_goals first
    | exact ⟨h1⟩
    | rfl
theorem implImplies_ok (a b : List Int) (ha : LsOk a) (hb : LsOk b) : SCall Try.prog 88 [aIs a, aIs b] (rB (implB a b)) := by
  refine SCall.of X88_ok (fn := Try.f88) (c := Try.f88.body.getD .skip) (dr := fun n => look 0 [] n) Try.func88 rfl (by kernel_rfl) (by kernel_rfl) (by kernel_rfl) ?_
  obtain ⟨f, hf⟩ : ∃ f, f = labelB := ⟨_, rfl⟩
  obtain ⟨g, hg⟩ : ∃ g : List Int → List Int → Bool, g = fun l a => l.any (fun x => !hasB a x) := ⟨_, rfl⟩
  have hO : SOraOK Try.prog (oraL [(94, wLabelOk f), (67, w2 dcIs (dcFIs 100) (fun l s => rB (g l s)) (fun l s => [LLe l maxLen, LLe s maxLen]))]) := by
    subst hf hg
    exact oraL_cons wLabelOkI_ok (oraL_cons (w2_ok fun l s h => contFuncI_ok l _ _ _ (fun q _ => implImplies1_ok q s (h _ (.tail _ (.head _))).out) (h _ (.head _)).out) oraL_nil)
  rw [show implB a b = (f a && f b && !g b a) by rw [hf, hg]; unfold implB; rw [show (!List.any b fun x => !hasB a x) = b.all (hasB a) by rw [List.not_any_eq_all_not]; simp]]
  clear hf hg
  refine SEx.go (X := X88) X88_ok (fun n => look [] [] n) (fun _ => none) hO 60 ?_
  intro M R L N hM hAnd hImp hR hL hN
  cases M
  cbv
  repeat' first | (refine hAnd _ _ ?_ ?_) | (refine hImp _ _ (fun h => ?_)) | (refine hR _ ?_) | (refine hL _ _ (Hd.out ?_); try first | rw [hks] | rw [hk2] | rw [hk3]) | (refine hN _ _ ?_; cbv)
  all_goals (clear hAnd hImp hR hL hN; try clear hks; try clear hk2; try clear hk3)
  all_goals (cases hM; try dsimp only)
  all_goals (try simp only [Bool.not_eq_true', Bool.not_eq_false', decide_eq_true_eq, decide_eq_false_iff_not, Int.not_le, Int.not_lt, beq_iff_eq, beq_eq_false_iff_ne, ne_eq, Int.ofNat_eq_natCast, Int.toNat_natCast, List.length_replicate, ncast, Nat.sub_zero, List.drop_zero, Cue.eta, Tie.eta, Edge.eta, Link.eta, Node.eta] at *)
  all_goals first
    | exact ha
    | exact hb
    | exact ⟨rfl⟩
    | exact ⟨ha.len⟩
    | exact ⟨hb.len⟩
    | (simp only [er_B]; simp_all; done)
    | trace_state
theorem specImplies_ok (a b : List Int) (ha : LsOk a) (hb : LsOk b) : SCall Try.prog 78 [aIs a, aIs b] (rB (implB a b)) := by
  refine SCall.of X78_ok (fn := Try.f78) (c := Try.f78.body.getD .skip) (dr := fun n => look 0 [] n) Try.func78 rfl (by kernel_rfl) (by kernel_rfl) (by kernel_rfl) ?_
  obtain ⟨f, hf⟩ : ∃ f, f = labelB := ⟨_, rfl⟩
  obtain ⟨g, hg⟩ : ∃ f, f = hasB := ⟨_, rfl⟩
  have hO : SOraOK Try.prog (oraL [(97, wLabelOk f), (77, wHas g)]) := by subst hf hg; exact oraL_cons wLabelOkS_ok (oraL_cons wHasS_ok oraL_nil)
  rw [show implB a b = (f a && f b && allF (fun _ x => g a x) (b.drop 0) 0) by rw [hf, hg, List.drop_zero, all_allF]; rfl]
  clear hf hg
  have hal := ha.len
  have hbl := hb.len
  unfold maxLen at hbl
  refine SEx.go (X := X78) X78_ok (fun n => look [] [(4, [0, 15, 16, 17])] n) (fun _ => none) hO 60 ?_
  intro M R L N hM hAnd hImp hR hL hN
  cases M
  cbv
  repeat' first | (refine hAnd _ _ ?_ ?_) | (refine hImp _ _ (fun h => ?_)) | (refine hR _ ?_) | (refine hL _ _ (Hd.out ?_); generalize hks : (List.cons _ _ : List K) = ks) | (refine hN _ _ ?_; cbv)
  all_goals (clear hAnd hImp hR hL hN)
  all_goals (cases hM; try dsimp only)
  all_goals (try simp only [Bool.not_eq_true', Bool.not_eq_false', decide_eq_true_eq, decide_eq_false_iff_not, Int.not_le, Int.not_lt, beq_iff_eq, beq_eq_false_iff_ne, ne_eq, Int.ofNat_eq_natCast, Int.toNat_natCast, List.length_replicate, ncast, Nat.sub_zero, List.drop_zero, Cue.eta, Tie.eta, Edge.eta, Link.eta, Node.eta] at *)
  all_goals first
    | exact ha
    | exact hb
    | (simp only [er_B]; simp_all; done)
    | skip
  rw [show f a = true by assumption, show f b = true by assumption, Bool.true_and, Bool.true_and]
  obtain ⟨m, hm⟩ : ∃ m, m = b.length := ⟨_, rfl⟩
  refine ⟨SEx.same (SEx.idx m (fun i => ⟨26, [(0, bL (.i a)), (15, bL (.i b)), (16, bI m), (17, bI i)], []⟩) (fun i => rB (allF (fun _ x => g a x) (b.drop i) i)) ?_) (by rw [hm]; rfl) rfl⟩
  intro i hi ih
  rw [← hks]
  refine SEx.go (X := X78) X78_ok (fun n => look [] [(4, [0, 15, 16, 17])] n) (fun _ => none) hO 60 ?_
  intro M R L N hM hAnd hImp hR hL hN
  cases M
  cbv
  repeat' first | (refine hAnd _ _ ?_ ?_) | (refine hImp _ _ (fun h => ?_)) | (refine hR _ ?_) | (refine hL _ _ (Hd.out ?_); try first | rw [hks] | rw [hk2] | rw [hk3]) | (refine hN _ _ ?_; cbv)
  all_goals (clear hAnd hImp hR hL hN; try clear hks; try clear hk2; try clear hk3)
  all_goals (cases hM; try dsimp only)
  all_goals (try simp only [Bool.not_eq_true', Bool.not_eq_false', decide_eq_true_eq, decide_eq_false_iff_not, Int.not_le, Int.not_lt, beq_iff_eq, beq_eq_false_iff_ne, ne_eq, Int.ofNat_eq_natCast, Int.toNat_natCast, List.length_replicate, ncast, Nat.sub_zero, List.drop_zero, Cue.eta, Tie.eta, Edge.eta, Link.eta, Node.eta] at *)
  all_goals first
    | omega
    | exact ⟨hal⟩
    | (rw [allF_no (p := fun _ x => g a x) (l := b) (i := i) (0 : Int) (by omega) (by assumption)]; rfl)
    | (simp only [wrap_succ (show i < 9223372036854775807 by omega)]; exact ⟨(ih (by omega)).same rfl (by rw [allF_yes (p := fun _ x => g a x) (l := b) (i := i) (0 : Int) (by omega) (by assumption)])⟩)
    | (rw [List.drop_eq_nil_of_le (by omega)]; rfl)
    | trace_state
def wImplies (f : List Int → List Int → Bool) : Wr := w2 dcIs dcIs (fun a b => rB (f a b)) (fun a b => [LsOk a, LsOk b])
theorem wImpliesS_ok : WrOK Try.prog 78 (wImplies implB) := w2_ok fun a b h => specImplies_ok a b (h _ (.head _)) (h _ (.tail _ (.head _)))
theorem wImpliesI_ok : WrOK Try.prog 88 (wImplies implB) := w2_ok fun a b h => implImplies_ok a b (h _ (.head _)) (h _ (.tail _ (.head _)))
end Go.Proofs.Ytececadpjelanaa.Ai
