/- The state of a label; nodes' states. -/
import Derived.Test.YtececadpjelanaaTy
import Derived.Test.YtececadpjelanaaLK
namespace Go.Proofs.Ytececadpjelanaa.Ai
open Go
set_option maxRecDepth 100000
set_option linter.unusedVariables false
set_option linter.unusedSimpArgs false
def litV (v : List Int) (x : Int) : Int := if x < 0 then -(v.getD (propI x - 1).toNat 0) else v.getD (propI x - 1).toNat 0
def labF (v : List Int) : List Int → Int → Int
  | [], s => s
  | x :: r, s => labF v r (min s (litV v x))
theorem labF_drop {v l : List Int} {i : Nat} {s : Int} (h : i < l.length) : labF v (l.drop i) s = labF v (l.drop (i + 1)) (min s (litV v (l.getD i 0))) := by
  rw [List.drop_eq_getElem_cons h, getD_get h]
  rfl
theorem valuesB_ge {v : List Int} (h : valuesB v = true) (i : Nat) : -1 ≤ v.getD i 0 ∧ v.getD i 0 ≤ 1 := by
  unfold valuesB at h
  rw [Bool.and_eq_true] at h
  by_cases hi : i < v.length
  · obtain ⟨j, hj⟩ := allF_mem h.1 (mem_getD (z := (0 : Int)) hi).out
    simpa [valB] using hj
  · rw [List.getD_eq_getElem?_getD, List.getElem?_eq_none (by omega)]
    exact ⟨by decide, by decide⟩
structure LabT (l : List Int) : Prop where out : labelB l = true
structure ValT (l : List Int) : Prop where out : valuesB l = true
theorem labT_len {l : List Int} (h : labelB l = true) : l.length ≤ 3 := by
  have key : ∀ n, n ≤ l.length → ∀ j, j < n → (j : Int) + 1 ≤ propI (l.getD j 0) := by
    intro n hn j hj
    induction j with
    | zero =>
      have := (labelB_in h _ (mem_getD (z := (0 : Int)) (show 0 < l.length by omega)).out).2
      omega
    | succ j ih =>
      have h1 := ih (by omega)
      have h2 := (of_decide_eq_true (allR_get h (j + 1) (by omega))).2.2.2 (by omega)
      rw [Nat.add_sub_cancel] at h2
      omega
  apply Decidable.byContradiction
  intro hn
  have h1 := key l.length (Nat.le_refl _) 3 (by omega)
  have h2 := labelB_mem h (mem_getD (z := (0 : Int)) (show 3 < l.length by omega)).out
  have h3 := propI_le h2.2.1 h2.2.2
  omega
theorem if_min (a s : Int) : (if a < s then a else s) = min s a := by rw [Int.min_def]; split <;> split <;> omega
theorem specLabState_ok (l v : List Int) (hl : labelB l = true) (hv : valuesB v = true) : SCall Try.prog 47 [aIs l, aIs v] (rI (labF v l 1)) := by
  refine SCall.of X47_ok (fn := Try.f47) (c := Try.f47.body.getD .skip) (dr := fun n => look 0 [] n) Try.func47 rfl (by kernel_rfl) (by kernel_rfl) (by kernel_rfl) ?_
  obtain ⟨f, hf⟩ : ∃ f, f = propI := ⟨_, rfl⟩
  have hO : SOraOK Try.prog (oraL [(64, wProp f)]) := by subst hf; exact oraL_cons wPropS_ok oraL_nil
  have h3 := labT_len hl
  have hv3 := valuesB_len hv
  rw [show labF v l 1 = labF v (l.drop 0) 1 by rw [List.drop_zero]]
  refine SEx.go (X := X47) X47_ok (fun n => look [] [(3, [1, 5, 9, 10, 11])] n) (fun _ => none) hO 60 ?_
  intro M R L N hM hAnd hImp hR hL hN
  cases M
  cbv
  repeat' first | (refine hAnd _ _ ?_ ?_) | (refine hImp _ _ (fun h => ?_)) | (refine hR _ ?_) | (refine hL _ _ (Hd.out ?_); generalize hks : (List.cons _ _ : List K) = ks) | (refine hN _ _ ?_; cbv)
  all_goals (clear hAnd hImp hR hL hN)
  all_goals (cases hM; try dsimp only)
  all_goals (try simp only [Bool.not_eq_true', Bool.not_eq_false', decide_eq_true_eq, decide_eq_false_iff_not, Int.not_le, Int.not_lt, beq_iff_eq, beq_eq_false_iff_ne, ne_eq, Int.ofNat_eq_natCast, Int.toNat_natCast, List.length_replicate, ncast, Nat.sub_zero, List.drop_zero, Cue.eta, Tie.eta, Edge.eta, Link.eta, Node.eta] at *)
  obtain ⟨m, hm⟩ : ∃ m, m = l.length := ⟨_, rfl⟩
  refine ⟨SEx.same (SEx.idxS m (fun i (s : Int) => ⟨30, [(1, bL (.i v)), (5, bI s), (9, bL (.i l)), (10, bI m), (11, bI i)], []⟩) (fun i s => rI (labF v (l.drop i) s)) (fun _ _ => True) 1 trivial ?_) (by rw [hm]; rfl) rfl⟩
  intro i s hi _ ih
  rw [← hks]
  have hp : i < m → 0 < f (l.getD i 0) ∧ f (l.getD i 0) ≤ 3 := fun h => by
    have h2 := labelB_mem hl (mem_getD (z := (0 : Int)) (show i < l.length by omega)).out
    rw [hf]
    exact ⟨propI_pos h2.1 h2.2.1 h2.2.2, propI_le h2.2.1 h2.2.2⟩
  have hw : i < m → IntKind.i64.wrap (f (l.getD i 0) - 1) = f (l.getD i 0) - 1 := fun h => by have := hp h; exact wrap_i64 (by omega) (by omega)
  refine SEx.go (X := X47) X47_ok (fun n => look [] [(3, [1, 5, 9, 10, 11])] n) (fun _ => none) hO 60 ?_
  intro M R L N hM hAnd hImp hR hL hN
  cases M
  cbv
  repeat' first | (refine hAnd _ _ ?_ ?_) | (refine hImp _ _ (fun h => ?_)) | (refine hR _ ?_) | (refine hL _ _ (Hd.out ?_); try first | rw [hks] | rw [hk2] | rw [hk3]) | (refine hN _ _ ?_; cbv)
  all_goals (clear hAnd hImp hR hL hN; try clear hks; try clear hk2; try clear hk3)
  all_goals (cases hM; try dsimp only)
  all_goals (try simp only [Bool.not_eq_true', Bool.not_eq_false', decide_eq_true_eq, decide_eq_false_iff_not, Int.not_le, Int.not_lt, beq_iff_eq, beq_eq_false_iff_ne, ne_eq, Int.ofNat_eq_natCast, Int.toNat_natCast, List.length_replicate, ncast, Nat.sub_zero, List.drop_zero, Cue.eta, Tie.eta, Edge.eta, Link.eta, Node.eta] at *)
  all_goals (try (have h7 := hp (by omega)))
  all_goals (try rw [hw (by omega)] at *)
  all_goals (have hvr := valuesB_ge hv (f (l.getD i 0) - 1).toNat; try rw [wrap_i64 (n := 0 - v.getD (f (l.getD i 0) - 1).toNat 0) (by omega) (by omega)])
  all_goals (try simp only [wrap_succ (show i < 9223372036854775807 by omega), if_min])
  all_goals first
    | omega
    | exact ⟨(labelB_in hl _ (mem_getD (z := (0 : Int)) (by omega)).out).1⟩
    | (refine ⟨(ih _ (by omega) trivial).same rfl ?_⟩; rw [labF_drop (show i < l.length by omega), litV, if_pos (by assumption), hf, Int.zero_sub]; done)
    | (refine ⟨(ih _ (by omega) trivial).same rfl ?_⟩; rw [labF_drop (show i < l.length by omega), litV, if_neg (by omega), hf]; done)
    | (rw [List.drop_eq_nil_of_le (by omega)]; rfl)
    | skip
theorem implHolds_ok (x : Int) (v : List Int) (hx : ¬ x = 0 ∧ -3 ≤ x ∧ x ≤ 3) (hv : valuesB v = true) : SCall Try.prog 95 [aI x, aIs v] (rI (litV v x)) := by
  refine SCall.of X95_ok (fn := Try.f95) (c := Try.f95.body.getD .skip) (dr := fun n => look 0 [] n) Try.func95 rfl (by kernel_rfl) (by kernel_rfl) (by kernel_rfl) ?_
  obtain ⟨f, hf⟩ : ∃ f, f = propI := ⟨_, rfl⟩
  have hO : SOraOK Try.prog (oraL [(86, wProp f)]) := by subst hf; exact oraL_cons wPropI_ok oraL_nil
  have hv3 := valuesB_len hv
  have hp : 0 < f x ∧ f x ≤ 3 := by rw [hf]; exact ⟨propI_pos hx.1 hx.2.1 hx.2.2, propI_le hx.2.1 hx.2.2⟩
  have hw : IntKind.i64.wrap (f x - 1) = f x - 1 := wrap_i64 (by omega) (by omega)
  refine SEx.go (X := X95) X95_ok (fun n => look [] [] n) (fun _ => none) hO 60 ?_
  intro M R L N hM hAnd hImp hR hL hN
  cases M
  cbv
  repeat' first | (refine hAnd _ _ ?_ ?_) | (refine hImp _ _ (fun h => ?_)) | (refine hR _ ?_) | (refine hL _ _ (Hd.out ?_); try first | rw [hks] | rw [hk2] | rw [hk3]) | (refine hN _ _ ?_; cbv)
  all_goals (clear hAnd hImp hR hL hN; try clear hks; try clear hk2; try clear hk3)
  all_goals (cases hM; try dsimp only)
  all_goals (try simp only [Bool.not_eq_true', Bool.not_eq_false', decide_eq_true_eq, decide_eq_false_iff_not, Int.not_le, Int.not_lt, beq_iff_eq, beq_eq_false_iff_ne, ne_eq, Int.ofNat_eq_natCast, Int.toNat_natCast, List.length_replicate, ncast, Nat.sub_zero, List.drop_zero, Cue.eta, Tie.eta, Edge.eta, Link.eta, Node.eta] at *)
  all_goals (try rw [hw] at *)
  all_goals (have hvr := valuesB_ge hv (f x - 1).toNat; try rw [wrap_i64 (n := 0 - v.getD (f x - 1).toNat 0) (by omega) (by omega)])
  all_goals first
    | omega
    | (refine ⟨?_⟩; rw [inI_iff]; omega)
    | (simp only [er_I]; rw [litV, if_pos (by assumption), hf, Int.zero_sub]; done)
    | (simp only [er_I]; rw [litV, if_neg (by omega), hf]; done)
    | skip
structure LitT (x : Int) : Prop where out : ¬ x = 0 ∧ -3 ≤ x ∧ x ≤ 3
def wHolds (f : List Int → Int → Int) : Wr := w2 dcI dcIs (fun x v => rI (f v x)) (fun x v => [LitT x, ValT v])
theorem wHolds_ok : WrOK Try.prog 95 (wHolds litV) := w2_ok fun x v h => implHolds_ok x v (h _ (.head _)).out (h _ (.tail _ (.head _))).out
theorem implLabState_ok (l v : List Int) (hl : LsOk l) (hv : v.length ≤ maxLen) : SCall Try.prog 74 [aIs l, aIs v] (rI (if labelB l = true ∧ valuesB v = true then labF v l 1 else -1)) := by
  refine SCall.of X74_ok (fn := Try.f74) (c := Try.f74.body.getD .skip) (dr := fun n => look 0 [] n) Try.func74 rfl (by kernel_rfl) (by kernel_rfl) (by kernel_rfl) ?_
  obtain ⟨f, hf⟩ : ∃ f, f = litV := ⟨_, rfl⟩
  obtain ⟨f1, hf1⟩ : ∃ f, f = labelB := ⟨_, rfl⟩
  obtain ⟨f2, hf2⟩ : ∃ f, f = valuesB := ⟨_, rfl⟩
  have hO : SOraOK Try.prog (oraL [(94, wLabelOk f1), (70, wValuesOk f2), (95, wHolds f)]) := by subst hf hf1 hf2; exact oraL_cons wLabelOkI_ok (oraL_cons wValuesOkI_ok (oraL_cons wHolds_ok oraL_nil))
  rw [← hf1, ← hf2]
  refine SEx.go (X := X74) X74_ok (fun n => look [] [(5, [1, 5, 16, 17, 18])] n) (fun _ => none) hO 60 ?_
  intro M R L N hM hAnd hImp hR hL hN
  cases M
  cbv
  repeat' first | (refine hAnd _ _ ?_ ?_) | (refine hImp _ _ (fun h => ?_)) | (refine hR _ ?_) | (refine hL _ _ (Hd.out ?_); generalize hks : (List.cons _ _ : List K) = ks) | (refine hN _ _ ?_; cbv)
  all_goals (clear hAnd hImp hR hL hN)
  all_goals (cases hM; try dsimp only)
  all_goals (try simp only [Bool.not_eq_true', Bool.not_eq_false', decide_eq_true_eq, decide_eq_false_iff_not, Int.not_le, Int.not_lt, beq_iff_eq, beq_eq_false_iff_ne, ne_eq, Int.ofNat_eq_natCast, Int.toNat_natCast, List.length_replicate, ncast, Nat.sub_zero, List.drop_zero, Cue.eta, Tie.eta, Edge.eta, Link.eta, Node.eta] at *)
  all_goals first
    | exact hl
    | exact ⟨hv⟩
    | (simp only [er_I]; rw [if_neg]; rintro ⟨h1, h2⟩; simp_all; done)
    | skip
  rw [if_pos ⟨by assumption, by assumption⟩]
  have hlb : labelB l = true := by rw [← hf1]; assumption
  have hvb : valuesB v = true := by rw [← hf2]; assumption
  have h3 := labT_len hlb
  obtain ⟨m, hm⟩ : ∃ m, m = l.length := ⟨_, rfl⟩
  refine ⟨SEx.same (SEx.idxS m (fun i (s : Int) => ⟨29, [(1, bL (.i v)), (5, bI s), (16, bL (.i l)), (17, bI m), (18, bI i)], []⟩) (fun i s => rI (labF v (l.drop i) s)) (fun _ _ => True) 1 trivial ?_) (by rw [hm]; rfl) rfl⟩
  intro i s hi _ ih
  rw [← hks]
  refine SEx.go (X := X74) X74_ok (fun n => look [] [(5, [1, 5, 16, 17, 18])] n) (fun _ => none) hO 60 ?_
  intro M R L N hM hAnd hImp hR hL hN
  cases M
  cbv
  repeat' first | (refine hAnd _ _ ?_ ?_) | (refine hImp _ _ (fun h => ?_)) | (refine hR _ ?_) | (refine hL _ _ (Hd.out ?_); try first | rw [hks] | rw [hk2] | rw [hk3]) | (refine hN _ _ ?_; cbv)
  all_goals (clear hAnd hImp hR hL hN; try clear hks; try clear hk2; try clear hk3)
  all_goals (cases hM; try dsimp only)
  all_goals (try simp only [Bool.not_eq_true', Bool.not_eq_false', decide_eq_true_eq, decide_eq_false_iff_not, Int.not_le, Int.not_lt, beq_iff_eq, beq_eq_false_iff_ne, ne_eq, Int.ofNat_eq_natCast, Int.toNat_natCast, List.length_replicate, ncast, Nat.sub_zero, List.drop_zero, Cue.eta, Tie.eta, Edge.eta, Link.eta, Node.eta] at *)
  all_goals (try simp only [wrap_succ (show i < 9223372036854775807 by omega), if_min])
  all_goals first
    | omega
    | exact ⟨labelB_mem hlb (mem_getD (z := (0 : Int)) (by omega)).out⟩
    | exact ⟨hvb⟩
    | (refine ⟨(ih _ (by omega) trivial).same rfl ?_⟩; rw [labF_drop (show i < l.length by omega), hf]; done)
    | (rw [List.drop_eq_nil_of_le (by omega)]; rfl)
    | skip
def nsI (t : Show) (x : State) (i : Int) : Int := labF x.vals (nd t.nodes i).label 1
structure StT (t : Show) (x : State) : Prop where
  sh : showB t = true
  st : stateB t x = true
theorem StT.vals {t : Show} {x : State} (h : StT t x) : valuesB x.vals = true := by
  have := h.st
  unfold stateB at this
  rw [Bool.and_eq_true, Bool.and_eq_true] at this
  exact this.2.1
theorem StT.now {t : Show} {x : State} (h : StT t x) : 0 ≤ x.now ∧ x.now ≤ t.hor + 1 ∧ x.times.length = t.nodes.length := by
  have := h.st
  unfold stateB at this
  rw [Bool.and_eq_true, decide_eq_true_eq] at this
  exact this.1
structure StLe (t : Show) (x : State) : Prop where
  sh : ShowLe t
  st : StateLe x
end Go.Proofs.Ytececadpjelanaa.Ai
