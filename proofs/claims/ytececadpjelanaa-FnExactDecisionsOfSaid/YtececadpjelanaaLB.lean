/- Labels and values. -/
import Derived.Test.YtececadpjelanaaTy
import Derived.Test.YtececadpjelanaaTC
namespace Go.Proofs.Ytececadpjelanaa.Ai
open Go
set_option maxRecDepth 100000
set_option linter.unusedVariables false
set_option linter.unusedSimpArgs false
def allR (p : Nat → Bool) (n : Nat) : Bool := (List.range n).all p
theorem allR_no {p : Nat → Bool} {n i : Nat} (hi : i < n) (h : p i = false) : allR p n = false := by
  unfold allR
  rw [List.all_eq_false]
  exact ⟨i, List.mem_range.2 hi, by rw [h]; simp⟩
theorem allR_yes {p : Nat → Bool} {n : Nat} (h : ∀ j, j < n → p j = true) : allR p n = true := by
  unfold allR
  rw [List.all_eq_true]
  exact fun j hj => h j (List.mem_range.1 hj)
theorem allR_get {p : Nat → Bool} {n : Nat} (h : allR p n = true) : ∀ j, j < n → p j = true := by
  unfold allR at h
  rw [List.all_eq_true] at h
  exact fun j hj => h j (List.mem_range.2 hj)
structure IIn (n : Int) : Prop where out : inI n
structure ISs (l : List Int) : Prop where out : ∀ n ∈ l, inI n
def propI (n : Int) : Int := if n < 0 then IntKind.i64.wrap (-n) else n
theorem wrap_neg {n : Int} (h : inI n) : IntKind.i64.wrap (-n) = if n = -9223372036854775808 then n else -n := by
  rw [inI_iff] at h
  split
  · rename_i e; subst e; decide
  · exact wrap_i64 (by omega) (by omega)
theorem specProp_ok (n : Int) : SCall Try.prog 64 [aI n] (rI (propI n)) := by
  refine SCall.of X64_ok (fn := Try.f64) (c := Try.f64.body.getD .skip) (dr := fun n => look 0 [] n) Try.func64 rfl (by kernel_rfl) (by kernel_rfl) (by kernel_rfl) ?_
  refine SEx.go (X := X64) X64_ok (fun n => look [] [] n) (fun _ => none) oraL_nil 60 ?_
  intro M R L N hM hAnd hImp hR hL hN
  cases M
  cbv
  repeat' first | (refine hAnd _ _ ?_ ?_) | (refine hImp _ _ (fun h => ?_)) | (refine hR _ ?_) | (refine hL _ _ (Hd.out ?_); try first | rw [hks] | rw [hk2] | rw [hk3]) | (refine hN _ _ ?_; cbv)
  all_goals (clear hAnd hImp hR hL hN; try clear hks; try clear hk2; try clear hk3)
  all_goals (cases hM; try dsimp only)
  all_goals (try simp only [Bool.not_eq_true', Bool.not_eq_false', decide_eq_true_eq, decide_eq_false_iff_not, Int.not_le, Int.not_lt, beq_iff_eq, beq_eq_false_iff_ne, ne_eq, Int.ofNat_eq_natCast, Int.toNat_natCast, List.length_replicate, ncast, Nat.sub_zero, List.drop_zero, Cue.eta, Tie.eta, Edge.eta, Link.eta, Node.eta] at *)
  · simp only [er_I, propI]; rw [if_pos (by assumption), Int.zero_sub]
  · simp only [er_I, propI]; rw [if_neg (by omega)]
theorem implProp_ok (n : Int) (h : inI n) : SCall Try.prog 86 [aI n] (rI (propI n)) := by
  refine SCall.of X86_ok (fn := Try.f86) (c := Try.f86.body.getD .skip) (dr := fun n => look 0 [] n) Try.func86 rfl (by kernel_rfl) (by kernel_rfl) (by kernel_rfl) ?_
  refine SEx.go (X := X86) X86_ok (fun n => look [] [] n) (fun _ => none) oraL_nil 60 ?_
  intro M R L N hM hAnd hImp hR hL hN
  cases M
  cbv
  repeat' first | (refine hAnd _ _ ?_ ?_) | (refine hImp _ _ (fun h => ?_)) | (refine hR _ ?_) | (refine hL _ _ (Hd.out ?_); try first | rw [hks] | rw [hk2] | rw [hk3]) | (refine hN _ _ ?_; cbv)
  all_goals (clear hAnd hImp hR hL hN; try clear hks; try clear hk2; try clear hk3)
  all_goals (cases hM; try dsimp only)
  all_goals (try simp only [Bool.not_eq_true', Bool.not_eq_false', decide_eq_true_eq, decide_eq_false_iff_not, Int.not_le, Int.not_lt, beq_iff_eq, beq_eq_false_iff_ne, ne_eq, Int.ofNat_eq_natCast, Int.toNat_natCast, List.length_replicate, ncast, Nat.sub_zero, List.drop_zero, Cue.eta, Tie.eta, Edge.eta, Link.eta, Node.eta] at *)
  all_goals simp only [er_I, propI, Int.zero_sub]
  all_goals rw [wrap_neg h]
  all_goals rw [inI_iff] at h
  all_goals (split <;> split <;> (try split at *) <;> omega)
def wProp (f : Int → Int) : Wr := w1 dcI (fun n => rI (f n)) (fun n => [IIn n])
theorem wPropS_ok : WrOK Try.prog 64 (wProp propI) := w1_ok fun n _ => specProp_ok n
theorem wPropI_ok : WrOK Try.prog 86 (wProp propI) := w1_ok fun n h => implProp_ok n (h _ (.head _)).out
def lP (l : List Int) (i : Nat) : Bool := decide (¬ l.getD i 0 = 0 ∧ -3 ≤ l.getD i 0 ∧ l.getD i 0 ≤ 3 ∧ (0 < i → propI (l.getD (i - 1) 0) < propI (l.getD i 0)))
def labelB (l : List Int) : Bool := allR (lP l) l.length
theorem implLabelOk_ok (l : List Int) (h1 : l.length ≤ maxLen) (hx : ∀ n ∈ l, inI n) : SCall Try.prog 94 [aIs l] (rB (labelB l)) := by
  refine SCall.of X94_ok (fn := Try.f94) (c := Try.f94.body.getD .skip) (dr := fun n => look 0 [] n) Try.func94 rfl (by kernel_rfl) (by kernel_rfl) (by kernel_rfl) ?_
  obtain ⟨m, hm⟩ : ∃ m, m = l.length := ⟨_, rfl⟩
  obtain ⟨r, hr⟩ : ∃ r, r = labelB l := ⟨_, rfl⟩
  obtain ⟨f, hf⟩ : ∃ f, f = propI := ⟨_, rfl⟩
  have hO : SOraOK Try.prog (oraL [(86, wProp f)]) := by subst hf; exact oraL_cons wPropI_ok oraL_nil
  unfold maxLen at h1
  rw [← hr]
  refine SEx.go (X := X94) X94_ok (fun n => look [] [(2, [0, 5, 6, 7])] n) (fun _ => none) hO 60 ?_
  intro M R L N hM hAnd hImp hR hL hN
  cases M
  cbv
  repeat' first | (refine hAnd _ _ ?_ ?_) | (refine hImp _ _ (fun h => ?_)) | (refine hR _ ?_) | (refine hL _ _ (Hd.out ?_); generalize hks : (List.cons _ _ : List K) = ks) | (refine hN _ _ ?_; cbv)
  all_goals (clear hAnd hImp hR hL hN)
  all_goals (cases hM; try dsimp only)
  all_goals (try simp only [Bool.not_eq_true', Bool.not_eq_false', decide_eq_true_eq, decide_eq_false_iff_not, Int.not_le, Int.not_lt, beq_iff_eq, beq_eq_false_iff_ne, ne_eq, Int.ofNat_eq_natCast, Int.toNat_natCast, List.length_replicate, ncast, Nat.sub_zero, List.drop_zero, Cue.eta, Tie.eta, Edge.eta, Link.eta, Node.eta] at *)
  refine ⟨SEx.same (SEx.ind (α := Nat) (fun i => ⟨38, [(0, bL (.i l)), (5, bL (.i l)), (6, bI m), (7, bI i)], []⟩) (fun _ => rB r) (fun i => i ≤ m ∧ ∀ j, j < i → lP l j = true) (fun i => m - i) 0 ⟨by omega, fun j h => by omega⟩ ?_) (by rw [hm]; rfl) rfl⟩
  rintro i ⟨hi, hj⟩ ih
  rw [← hks]
  have hw : 0 < (i : Int) → IntKind.i64.wrap ((i : Int) - 1) = ((i - 1 : Nat) : Int) := fun h => by rw [wrap_i64 (by omega) (by omega)]; omega
  have hbad : i < l.length → lP l i = false → r = false := fun h h2 => by rw [hr, labelB, allR_no h h2]
  have hgo : ∀ (h : i < m) (h2 : lP l i = true), i + 1 ≤ m ∧ ∀ j, j < i + 1 → lP l j = true := fun h h2 => ⟨h, fun j hj' => by
    by_cases e : j = i
    · rw [e]; exact h2
    · exact hj j (by omega)⟩
  refine SEx.go (X := X94) X94_ok (fun n => look [] [(2, [0, 5, 6, 7])] n) (fun _ => none) hO 60 ?_
  intro M R L N hM hAnd hImp hR hL hN
  cases M
  cbv
  repeat' first | (refine hAnd _ _ ?_ ?_) | (refine hImp _ _ (fun h => ?_)) | (refine hR _ ?_) | (refine hL _ _ (Hd.out ?_); try first | rw [hks] | rw [hk2] | rw [hk3]) | (refine hN _ _ ?_; cbv)
  all_goals (clear hAnd hImp hR hL hN; try clear hks; try clear hk2; try clear hk3)
  all_goals (cases hM; try dsimp only)
  all_goals (try simp only [Bool.not_eq_true', Bool.not_eq_false', decide_eq_true_eq, decide_eq_false_iff_not, Int.not_le, Int.not_lt, beq_iff_eq, beq_eq_false_iff_ne, ne_eq, Int.ofNat_eq_natCast, Int.toNat_natCast, List.length_replicate, ncast, Nat.sub_zero, List.drop_zero, Cue.eta, Tie.eta, Edge.eta, Link.eta, Node.eta] at *)
  all_goals (try rw [hw (by omega)] at *)
  all_goals (try simp only [Int.toNat_natCast] at *)
  all_goals (clear hO; subst hf)
  all_goals first
    | omega
    | exact ⟨hx _ (mem_getD (z := (0 : Int)) (by omega)).out⟩
    | (have hb := hbad (by omega) (decide_eq_false (by rintro ⟨h1, h2, h3, h4⟩; first | contradiction | omega | (have := h4 (by omega); omega)))
       rw [hb]; rfl)
    | (have hp : lP l i = true := decide_eq_true ⟨by assumption, by assumption, by assumption, fun h => by first | assumption | (exfalso; omega)⟩
       simp only [wrap_succ (show i < 9223372036854775807 by omega)]
       exact ⟨(ih (i + 1) (hgo (by omega) hp) (by omega)).same rfl rfl⟩)
    | (have hee : i = m := by omega
       subst hee
       rw [hr, labelB, allR_yes (by rw [← hm]; exact hj)]; rfl)
theorem specLabelOk_ok (l : List Int) (h1 : l.length ≤ maxLen) (hx : ∀ n ∈ l, inI n) : SCall Try.prog 97 [aIs l] (rB (labelB l)) := by
  refine SCall.of X97_ok (fn := Try.f97) (c := Try.f97.body.getD .skip) (dr := fun n => look 0 [] n) Try.func97 rfl (by kernel_rfl) (by kernel_rfl) (by kernel_rfl) ?_
  obtain ⟨m, hm⟩ : ∃ m, m = l.length := ⟨_, rfl⟩
  obtain ⟨r, hr⟩ : ∃ r, r = labelB l := ⟨_, rfl⟩
  obtain ⟨f0, hf0⟩ : ∃ f, f = l01InB := ⟨_, rfl⟩
  obtain ⟨f, hf⟩ : ∃ f, f = propI := ⟨_, rfl⟩
  have hO : SOraOK Try.prog (oraL [(43, wL01 f0), (64, wProp f)]) := by subst hf hf0; exact oraL_cons wL01_ok (oraL_cons wPropS_ok oraL_nil)
  unfold maxLen at h1
  rw [← hr]
  refine SEx.go (X := X97) X97_ok (fun n => look [] [(2, [0, 5, 6, 7])] n) (fun _ => none) hO 60 ?_
  intro M R L N hM hAnd hImp hR hL hN
  cases M
  cbv
  repeat' first | (refine hAnd _ _ ?_ ?_) | (refine hImp _ _ (fun h => ?_)) | (refine hR _ ?_) | (refine hL _ _ (Hd.out ?_); generalize hks : (List.cons _ _ : List K) = ks) | (refine hN _ _ ?_; cbv)
  all_goals (clear hAnd hImp hR hL hN)
  all_goals (cases hM; try dsimp only)
  all_goals (try simp only [Bool.not_eq_true', Bool.not_eq_false', decide_eq_true_eq, decide_eq_false_iff_not, Int.not_le, Int.not_lt, beq_iff_eq, beq_eq_false_iff_ne, ne_eq, Int.ofNat_eq_natCast, Int.toNat_natCast, List.length_replicate, ncast, Nat.sub_zero, List.drop_zero, Cue.eta, Tie.eta, Edge.eta, Link.eta, Node.eta] at *)
  refine ⟨SEx.same (SEx.ind (α := Nat) (fun i => ⟨35, [(0, bL (.i l)), (5, bL (.i l)), (6, bI m), (7, bI i)], []⟩) (fun _ => rB r) (fun i => i ≤ m ∧ ∀ j, j < i → lP l j = true) (fun i => m - i) 0 ⟨by omega, fun j h => by omega⟩ ?_) (by rw [hm]; rfl) rfl⟩
  rintro i ⟨hi, hj⟩ ih
  rw [← hks]
  have hw : 0 < (i : Int) → IntKind.i64.wrap ((i : Int) - 1) = ((i - 1 : Nat) : Int) := fun h => by rw [wrap_i64 (by omega) (by omega)]; omega
  have hbad : i < l.length → lP l i = false → r = false := fun h h2 => by rw [hr, labelB, allR_no h h2]
  have hgo : ∀ (h : i < m) (h2 : lP l i = true), i + 1 ≤ m ∧ ∀ j, j < i + 1 → lP l j = true := fun h h2 => ⟨h, fun j hj' => by
    by_cases e : j = i
    · rw [e]; exact h2
    · exact hj j (by omega)⟩
  have hft : f0 (l.getD i 0) (-3) 3 = true → -3 ≤ l.getD i 0 ∧ l.getD i 0 ≤ 3 := by subst hf0; intro h; simpa [l01InB] using h
  have hff : f0 (l.getD i 0) (-3) 3 = false → ¬ (-3 ≤ l.getD i 0 ∧ l.getD i 0 ≤ 3) := by subst hf0; intro h h2; simp only [l01InB, decide_eq_true h2.1, decide_eq_true h2.2] at h; cases h
  refine SEx.go (X := X97) X97_ok (fun n => look [] [(2, [0, 5, 6, 7])] n) (fun _ => none) hO 60 ?_
  intro M R L N hM hAnd hImp hR hL hN
  cases M
  cbv
  repeat' first | (refine hAnd _ _ ?_ ?_) | (refine hImp _ _ (fun h => ?_)) | (refine hR _ ?_) | (refine hL _ _ (Hd.out ?_); try first | rw [hks] | rw [hk2] | rw [hk3]) | (refine hN _ _ ?_; cbv)
  all_goals (clear hAnd hImp hR hL hN; try clear hks; try clear hk2; try clear hk3)
  all_goals (cases hM; try dsimp only)
  all_goals (try simp only [Bool.not_eq_true', Bool.not_eq_false', decide_eq_true_eq, decide_eq_false_iff_not, Int.not_le, Int.not_lt, beq_iff_eq, beq_eq_false_iff_ne, ne_eq, Int.ofNat_eq_natCast, Int.toNat_natCast, List.length_replicate, ncast, Nat.sub_zero, List.drop_zero, Cue.eta, Tie.eta, Edge.eta, Link.eta, Node.eta] at *)
  all_goals (try (have hA := hft (by assumption); have hA1 := hA.1; have hA2 := hA.2))
  all_goals (try have hB := hff (by assumption))
  all_goals (try rw [hw (by omega)] at *)
  all_goals (try simp only [Int.toNat_natCast] at *)
  all_goals (clear hO; subst hf)
  all_goals first
    | omega
    | exact ⟨hx _ (mem_getD (z := (0 : Int)) (by omega)).out⟩
    | (have hb := hbad (by omega) (decide_eq_false (by rintro ⟨h1, h2, h3, h4⟩; first | contradiction | omega | (have := h4 (by omega); omega)))
       rw [hb]; rfl)
    | (have hp : lP l i = true := decide_eq_true ⟨by assumption, by assumption, by assumption, fun h => by first | assumption | (exfalso; omega)⟩
       simp only [wrap_succ (show i < 9223372036854775807 by omega)]
       exact ⟨(ih (i + 1) (hgo (by omega) hp) (by omega)).same rfl rfl⟩)
    | (have hee : i = m := by omega
       subst hee
       rw [hr, labelB, allR_yes (by rw [← hm]; exact hj)]; rfl)
structure LsOk (l : List Int) : Prop where
  len : l.length ≤ maxLen
  all : ∀ n ∈ l, inI n
def wLabelOk (f : List Int → Bool) : Wr := w1 dcIs (fun l => rB (f l)) (fun l => [LsOk l])
theorem wLabelOkS_ok : WrOK Try.prog 97 (wLabelOk labelB) := w1_ok fun l h => specLabelOk_ok l (h _ (.head _)).len (h _ (.head _)).all
theorem wLabelOkI_ok : WrOK Try.prog 94 (wLabelOk labelB) := w1_ok fun l h => implLabelOk_ok l (h _ (.head _)).len (h _ (.head _)).all
end Go.Proofs.Ytececadpjelanaa.Ai
