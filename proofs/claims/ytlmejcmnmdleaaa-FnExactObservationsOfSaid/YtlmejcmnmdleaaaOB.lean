/- Observations. -/
import Derived.Test.YtlmejcmnmdleaaaTy
import Derived.Test.YtlmejcmnmdleaaaU
import Derived.Test.YtlmejcmnmdleaaaSH
import Derived.Test.YtlmejcmnmdleaaaMK
import Derived.Test.YtlmejcmnmdleaaaMS
namespace Go.Proofs.Ytlmejcmnmdleaaa.Ai
open Go
set_option maxRecDepth 100000
set_option linter.unusedVariables false
set_option linter.unusedSimpArgs false
def pI (l : List Int) (i : Nat) : Bool := decide (1 ≤ l.getD i 0 ∧ l.getD i 0 ≤ 3 ∧ (0 < i → l.getD (i - 1) 0 < l.getD i 0))
def okP (l : List Int) : Bool := (List.range l.length).all (pI l)
theorem okP_no {l : List Int} {i : Nat} (hi : i < l.length) (h : pI l i = false) : okP l = false := by
  unfold okP
  rw [List.all_eq_false]
  exact ⟨i, List.mem_range.2 hi, by rw [h]; simp⟩
theorem okP_yes {l : List Int} (h : ∀ j, j < l.length → pI l j = true) : okP l = true := by
  unfold okP
  rw [List.all_eq_true]
  exact fun j hj => h j (List.mem_range.1 hj)
theorem ok_ge {l : List Int} {n : Nat} (h : ∀ j, j < n → pI l j = true) : ∀ j, j < n → (j : Int) + 1 ≤ l.getD j 0
  | 0, hj => by have := of_decide_eq_true (h 0 hj); omega
  | j + 1, hj => by
    have h1 := of_decide_eq_true (h (j + 1) hj)
    have h2 := ok_ge h j (by omega)
    have h3 := h1.2.2 (by omega)
    rw [Nat.add_sub_cancel] at h3
    omega
theorem ok_three {l : List Int} {n : Nat} (h : ∀ j, j < n → pI l j = true) : n ≤ 3 := by
  apply Decidable.byContradiction
  intro hn
  have h1 := ok_ge h 3 (by omega)
  have h2 := of_decide_eq_true (h 3 (by omega))
  omega
theorem ok_low {l : List Int} {i : Nat} (h1 : 1 ≤ l.getD i 0) (h2 : l.getD i 0 ≤ 3) (h3 : 0 < i → l.getD (i - 1) 0 < l.getD i 0) : pI l i = true := decide_eq_true ⟨h1, h2, h3⟩
def l01InB (a b c : Int) : Bool := decide (b ≤ a) && decide (a ≤ c)
theorem in01_ok (a b c : Int) : SCall Try.prog 37 [aI a, aI b, aI c] (rB (l01InB a b c)) := by
  refine SCall.of X37_ok (fn := Try.f37) (c := Try.f37.body.getD .skip) (dr := fun n => look 0 [] n) Try.func37 rfl (by kernel_rfl) (by kernel_rfl) (by kernel_rfl) ?_
  refine SEx.go (X := X37) X37_ok (fun n => look [] [] n) (fun _ => none) oraL_nil 60 ?_
  intro M R L N hM hAnd hImp hR hL hN
  cases M
  cbv
  repeat' first | (refine hAnd _ _ ?_ ?_) | (refine hImp _ _ (fun h => ?_)) | (refine hR _ ?_) | (refine hL _ _ (Hd.out ?_); try first | rw [hks] | rw [hk2] | rw [hk3]) | (refine hN _ _ ?_; cbv)
  all_goals (clear hAnd hImp hR hL hN; try clear hks; try clear hk2; try clear hk3)
  all_goals (cases hM; try dsimp only)
  all_goals (try simp only [Bool.not_eq_true', Bool.not_eq_false', decide_eq_true_eq, decide_eq_false_iff_not, Int.not_le, Int.not_lt, beq_iff_eq, beq_eq_false_iff_ne, ne_eq, Int.ofNat_eq_natCast, Int.toNat_natCast, List.length_replicate, ncast, Nat.sub_zero, List.drop_zero, Cue.eta, Tie.eta, Edge.eta, Link.eta, Node.eta] at *)
  · simp only [er_B, l01InB]
    rw [decide_eq_true (show b ≤ a by assumption), Bool.true_and]
  · simp only [er_B, l01InB]
    rw [decide_eq_false (show ¬ b ≤ a by omega), Bool.false_and]
theorem wrap_u64 {n : Nat} (h : n < 18446744073709551616) : IntKind.u64.wrap (n : Int) = (n : Int) := by
  simp [IntKind.wrap, IntKind.bits, IntKind.signed]; omega
theorem sh_three {m : Nat} (h : m ≤ 3) : IntKind.i64.wrap (1 * 2 ^ min m IntKind.i64.bits) = ((2 ^ m : Nat) : Int) := by
  have : m = 0 ∨ m = 1 ∨ m = 2 ∨ m = 3 := by omega
  rcases this with rfl | rfl | rfl | rfl <;> decide
theorem pow_three {m : Nat} (h : m ≤ 3) : 2 ^ m ≤ 8 := by
  have : m = 0 ∨ m = 1 ∨ m = 2 ∨ m = 3 := by omega
  rcases this with rfl | rfl | rfl | rfl <;> decide
def bitI (n i : Nat) : Int := IntKind.i64.wrap (1 - IntKind.i64.wrap (2 * IntKind.i64.wrap (((BitVec.ofInt IntKind.i64.bits ((n : Int).fdiv (2 ^ min i IntKind.i64.bits)) &&& BitVec.ofInt IntKind.i64.bits 1).toNat : Nat) : Int)))
def rowI (n i : Nat) : List Int := (List.range i).map (bitI n)
def obsI (m n : Nat) : List (List Int) := (List.range n).map fun n => rowI n m
theorem rowI_succ (n i : Nat) : rowI n (i + 1) = rowI n i ++ [bitI n i] := by simp [rowI, List.range_succ]
theorem obsI_succ (m n : Nat) : obsI m (n + 1) = obsI m n ++ [rowI n m] := by simp [obsI, List.range_succ]
theorem rowI_len (n i : Nat) : (rowI n i).length = i := by simp [rowI]
theorem obsI_len (m n : Nat) : (obsI m n).length = n := by simp [obsI]
def obsF (l : List Int) : List (List Int) := if okP l then obsI l.length (2 ^ l.length) else []
def wL01 (f : Int → Int → Int → Bool) : Wr := w3 dcI dcI dcI (fun a b c => rB (f a b c)) (fun _ _ _ => [])
theorem wL01_ok : WrOK Try.prog 37 (wL01 l01InB) := w3_ok fun a b c _ => in01_ok a b c
theorem implObs_ok (l : List Int) (h1 : l.length ≤ 1048576) : SCall Try.prog 31 [aIs l] (rIss (obsF l)) := by
  refine SCall.of X31_ok (fn := Try.f31) (c := Try.f31.body.getD .skip) (dr := fun n => look 0 [] n) Try.func31 rfl (by kernel_rfl) (by kernel_rfl) (by kernel_rfl) ?_
  obtain ⟨m, hm⟩ : ∃ m, m = l.length := ⟨_, rfl⟩
  obtain ⟨r, hr⟩ : ∃ r, r = obsF l := ⟨_, rfl⟩
  rw [← hr]
  refine SEx.go (X := X31) X31_ok (fun n => look [] [(2, [0, 9, 10, 11]), (9, [0, 5, 6]), (13, [0, 5, 6, 7, 44, 45])] n) (fun _ => none) oraL_nil 60 ?_
  intro M R L N hM hAnd hImp hR hL hN
  cases M
  cbv
  repeat' first | (refine hAnd _ _ ?_ ?_) | (refine hImp _ _ (fun h => ?_)) | (refine hR _ ?_) | (refine hL _ _ (Hd.out ?_); generalize hks : (List.cons _ _ : List K) = ks) | (refine hN _ _ ?_; cbv)
  all_goals (clear hAnd hImp hR hL hN)
  all_goals (cases hM; try dsimp only)
  all_goals (try simp only [Bool.not_eq_true', Bool.not_eq_false', decide_eq_true_eq, decide_eq_false_iff_not, Int.not_le, Int.not_lt, beq_iff_eq, beq_eq_false_iff_ne, ne_eq, Int.ofNat_eq_natCast, Int.toNat_natCast, List.length_replicate, ncast, Nat.sub_zero, List.drop_zero, Cue.eta, Tie.eta, Edge.eta, Link.eta, Node.eta] at *)
  refine ⟨SEx.same (SEx.ind (α := Nat) (fun i => ⟨63, [(0, bL (.i l)), (9, bL (.i l)), (10, bI m), (11, bI i)], []⟩) (fun _ => rIss r) (fun i => i ≤ m ∧ ∀ j, j < i → pI l j = true) (fun i => m - i) 0 ⟨by omega, fun j h => by omega⟩ ?_) (by rw [hm]; rfl) rfl⟩
  rintro i ⟨hi, hj⟩ ih
  rw [← hks]
  have hw : 0 < (i : Int) → IntKind.i64.wrap ((i : Int) - 1) = ((i - 1 : Nat) : Int) := fun h => by rw [wrap_i64 (by omega) (by omega)]; omega
  have hbad : i < l.length → pI l i = false → r = [] := fun h h2 => by rw [hr, obsF, okP_no h h2]; rfl
  have hgo : ∀ (h : i < m) (h2 : pI l i = true), i + 1 ≤ m ∧ ∀ j, j < i + 1 → pI l j = true := fun h h2 => ⟨h, fun j hj' => by
    by_cases e : j = i
    · rw [e]; exact h2
    · exact hj j (by omega)⟩
  refine SEx.go (X := X31) X31_ok (fun n => look [] [(2, [0, 9, 10, 11]), (9, [0, 5, 6]), (13, [0, 5, 6, 7, 44, 45])] n) (fun _ => none) oraL_nil 60 ?_
  intro M R L N hM hAnd hImp hR hL hN
  cases M
  cbv
  repeat' first | (refine hAnd _ _ ?_ ?_) | (refine hImp _ _ (fun h => ?_)) | (refine hR _ ?_) | (refine hL _ _ (Hd.out ?_); first | rw [hks] | generalize hk2 : (List.cons _ _ : List K) = k2) | (refine hN _ _ ?_; cbv)
  all_goals (clear hAnd hImp hR hL hN)
  all_goals (cases hM; try dsimp only)
  all_goals (try simp only [Bool.not_eq_true', Bool.not_eq_false', decide_eq_true_eq, decide_eq_false_iff_not, Int.not_le, Int.not_lt, beq_iff_eq, beq_eq_false_iff_ne, ne_eq, Int.ofNat_eq_natCast, Int.toNat_natCast, List.length_replicate, ncast, Nat.sub_zero, List.drop_zero, Cue.eta, Tie.eta, Edge.eta, Link.eta, Node.eta] at *)
  all_goals (try rw [hw (by omega)] at *)
  all_goals (try simp only [Int.toNat_natCast] at *)
  all_goals first
    | omega
    | (have hb := hbad (by omega) (decide_eq_false (by rintro ⟨h1, h2, h3⟩; first | omega | (have := h3 (by omega); omega)))
       rw [hb]; rfl)
    | (have hp := ok_low (l := l) (i := i) (by assumption) (by assumption) (fun h => by first | assumption | (exfalso; omega))
       simp only [wrap_succ (show i < 9223372036854775807 by omega)]
       exact ⟨(ih (i + 1) (hgo (by omega) hp) (by omega)).same rfl rfl⟩)
    | skip
  clear ih hbad hgo hw
  have him : i = m := by omega
  subst him
  have hm3 : i ≤ 3 := ok_three hj
  have hrr : r = obsI i (2 ^ i) := by rw [hr, obsF, if_pos (okP_yes (by rw [← hm]; exact hj)), ← hm]
  clear hr hj
  refine ⟨SEx.same (SEx.idx (2 ^ i) (fun n => ⟨63, [(0, bL (.i l)), (5, bR 20480 n), (6, bI n)], [(20480, .osl (.ii true none (obsI i n)))]⟩) (fun _ => rIss r) ?_) rfl rfl⟩
  intro n hn ih
  rw [← hk2]
  obtain ⟨o, ho⟩ : ∃ o, o = obsI i n := ⟨_, rfl⟩
  have hol : o.length = n := by rw [ho, obsI_len]
  rw [← ho]
  have hs : IntKind.i64.wrap (1 * 2 ^ min l.length IntKind.i64.bits) = ((2 ^ i : Nat) : Int) := by rw [← hm]; exact sh_three hm3
  have hp := pow_three hm3
  obtain ⟨p, hpp⟩ : ∃ p, p = 2 ^ i := ⟨_, rfl⟩
  rw [← hpp] at hs hp hn ih hrr
  refine SEx.go (X := X31) X31_ok (fun n => look [] [(2, [0, 9, 10, 11]), (9, [0, 5, 6]), (13, [0, 5, 6, 7, 44, 45])] n) (fun _ => none) oraL_nil 60 ?_
  intro M R L N hM hAnd hImp hR hL hN
  cases M
  cbv
  repeat' first | (refine hAnd _ _ ?_ ?_) | (refine hImp _ _ (fun h => ?_)) | (refine hR _ ?_) | (refine hL _ _ (Hd.out ?_); first | rw [hks] | rw [hk2] | generalize hk3 : (List.cons _ _ : List K) = k3) | (refine hN _ _ ?_; cbv)
  all_goals (clear hAnd hImp hR hL hN)
  all_goals (cases hM; try dsimp only)
  all_goals (try simp only [Bool.not_eq_true', Bool.not_eq_false', decide_eq_true_eq, decide_eq_false_iff_not, Int.not_le, Int.not_lt, beq_iff_eq, beq_eq_false_iff_ne, ne_eq, Int.ofNat_eq_natCast, Int.toNat_natCast, List.length_replicate, ncast, Nat.sub_zero, List.drop_zero, Cue.eta, Tie.eta, Edge.eta, Link.eta, Node.eta] at *)
  all_goals (try rw [hs] at *)
  all_goals first
    | omega
    | (have hnp : n = p := by omega
       subst hnp
       rw [ho, hrr]; rfl)
    | skip
  have hm0 := hm
  obtain ⟨m, hmm⟩ : ∃ m, m = l.length := ⟨_, rfl⟩
  rw [← hmm] at hm0 ⊢
  refine ⟨SEx.same (SEx.idx m (fun j => ⟨63, [(0, bL (.i l)), (5, bR 20480 n), (6, bI n), (7, bR 28672 j), (44, bI m), (45, bI j)], [(20480, .osl (.ii true none o)), (28672, .osl (.i (rowI n j)))]⟩) (fun _ => rIss r) ?_) rfl rfl⟩
  intro j hj ihj
  rw [← hk3]
  obtain ⟨w, hw⟩ : ∃ w, w = rowI n j := ⟨_, rfl⟩
  have hwl : w.length = j := by rw [hw, rowI_len]
  rw [← hw]
  refine SEx.go (X := X31) X31_ok (fun n => look [] [(2, [0, 9, 10, 11]), (9, [0, 5, 6]), (13, [0, 5, 6, 7, 44, 45])] n) (fun _ => none) oraL_nil 60 ?_
  intro M R L N hM hAnd hImp hR hL hN
  cases M
  cbv
  repeat' first | (refine hAnd _ _ ?_ ?_) | (refine hImp _ _ (fun h => ?_)) | (refine hR _ ?_) | (refine hL _ _ (Hd.out ?_); try first | rw [hks] | rw [hk2] | rw [hk3]) | (refine hN _ _ ?_; cbv)
  all_goals (clear hAnd hImp hR hL hN; try clear hks; try clear hk2; try clear hk3)
  all_goals (cases hM; try dsimp only)
  all_goals (try simp only [Bool.not_eq_true', Bool.not_eq_false', decide_eq_true_eq, decide_eq_false_iff_not, Int.not_le, Int.not_lt, beq_iff_eq, beq_eq_false_iff_ne, ne_eq, Int.ofNat_eq_natCast, Int.toNat_natCast, List.length_replicate, ncast, Nat.sub_zero, List.drop_zero, Cue.eta, Tie.eta, Edge.eta, Link.eta, Node.eta] at *)
  all_goals first
    | omega
    | rfl
    | (have := lim_ge; simp only [List.length_cons, List.length_nil]; omega)
    | (have ihj' := ihj (by omega)
       simp only [wrap_succ (show j < 9223372036854775807 by omega)]
       rw [rowI_succ, ← hw] at ihj'
       simp only [List.length_append, List.length_cons, List.length_nil, hwl]
       exact ⟨ihj'.same rfl rfl⟩)
    | (have hjm : j = m := by omega
       have ih' := ih (by omega)
       simp only [wrap_succ (show n < 9223372036854775807 by omega)]
       rw [obsI_succ, ← ho, hm0, ← hjm, ← hw] at ih'
       simp only [List.length_append, List.length_cons, List.length_nil, hol]
       exact ⟨ih'.same rfl rfl⟩)
theorem specObs_ok (l : List Int) (h1 : l.length ≤ 1048576) : SCall Try.prog 29 [aIs l] (rIss (obsF l)) := by
  refine SCall.of X29_ok (fn := Try.f29) (c := Try.f29.body.getD .skip) (dr := fun n => look 0 [] n) Try.func29 rfl (by kernel_rfl) (by kernel_rfl) (by kernel_rfl) ?_
  obtain ⟨f0, hf0⟩ : ∃ f, f = l01InB := ⟨_, rfl⟩
  have hO : SOraOK Try.prog (oraL [(37, wL01 f0)]) := by subst hf0; exact oraL_cons wL01_ok oraL_nil
  obtain ⟨m, hm⟩ : ∃ m, m = l.length := ⟨_, rfl⟩
  obtain ⟨r, hr⟩ : ∃ r, r = obsF l := ⟨_, rfl⟩
  rw [← hr]
  refine SEx.go (X := X29) X29_ok (fun n => look [] [(2, [0, 9, 10, 11]), (9, [0, 5, 6]), (13, [0, 5, 6, 7, 44, 45])] n) (fun _ => none) hO 60 ?_
  intro M R L N hM hAnd hImp hR hL hN
  cases M
  cbv
  repeat' first | (refine hAnd _ _ ?_ ?_) | (refine hImp _ _ (fun h => ?_)) | (refine hR _ ?_) | (refine hL _ _ (Hd.out ?_); generalize hks : (List.cons _ _ : List K) = ks) | (refine hN _ _ ?_; cbv)
  all_goals (clear hAnd hImp hR hL hN)
  all_goals (cases hM; try dsimp only)
  all_goals (try simp only [Bool.not_eq_true', Bool.not_eq_false', decide_eq_true_eq, decide_eq_false_iff_not, Int.not_le, Int.not_lt, beq_iff_eq, beq_eq_false_iff_ne, ne_eq, Int.ofNat_eq_natCast, Int.toNat_natCast, List.length_replicate, ncast, Nat.sub_zero, List.drop_zero, Cue.eta, Tie.eta, Edge.eta, Link.eta, Node.eta] at *)
  refine ⟨SEx.same (SEx.ind (α := Nat) (fun i => ⟨64, [(0, bL (.i l)), (9, bL (.i l)), (10, bI m), (11, bI i)], []⟩) (fun _ => rIss r) (fun i => i ≤ m ∧ ∀ j, j < i → pI l j = true) (fun i => m - i) 0 ⟨by omega, fun j h => by omega⟩ ?_) (by rw [hm]; rfl) rfl⟩
  rintro i ⟨hi, hj⟩ ih
  rw [← hks]
  have hw : 0 < (i : Int) → IntKind.i64.wrap ((i : Int) - 1) = ((i - 1 : Nat) : Int) := fun h => by rw [wrap_i64 (by omega) (by omega)]; omega
  have hbad : i < l.length → pI l i = false → r = [] := fun h h2 => by rw [hr, obsF, okP_no h h2]; rfl
  have hgo : ∀ (h : i < m) (h2 : pI l i = true), i + 1 ≤ m ∧ ∀ j, j < i + 1 → pI l j = true := fun h h2 => ⟨h, fun j hj' => by
    by_cases e : j = i
    · rw [e]; exact h2
    · exact hj j (by omega)⟩
  have hft : f0 (l.getD i 0) 1 3 = true → 1 ≤ l.getD i 0 ∧ l.getD i 0 ≤ 3 := by subst hf0; intro h; simpa [l01InB] using h
  have hff : f0 (l.getD i 0) 1 3 = false → ¬ (1 ≤ l.getD i 0 ∧ l.getD i 0 ≤ 3) := by subst hf0; intro h h2; simp only [l01InB, decide_eq_true h2.1, decide_eq_true h2.2] at h; cases h
  refine SEx.go (X := X29) X29_ok (fun n => look [] [(2, [0, 9, 10, 11]), (9, [0, 5, 6]), (13, [0, 5, 6, 7, 44, 45])] n) (fun _ => none) hO 60 ?_
  intro M R L N hM hAnd hImp hR hL hN
  cases M
  cbv
  repeat' first | (refine hAnd _ _ ?_ ?_) | (refine hImp _ _ (fun h => ?_)) | (refine hR _ ?_) | (refine hL _ _ (Hd.out ?_); first | rw [hks] | generalize hk2 : (List.cons _ _ : List K) = k2) | (refine hN _ _ ?_; cbv)
  all_goals (clear hAnd hImp hR hL hN)
  all_goals (cases hM; try dsimp only)
  all_goals (try simp only [Bool.not_eq_true', Bool.not_eq_false', decide_eq_true_eq, decide_eq_false_iff_not, Int.not_le, Int.not_lt, beq_iff_eq, beq_eq_false_iff_ne, ne_eq, Int.ofNat_eq_natCast, Int.toNat_natCast, List.length_replicate, ncast, Nat.sub_zero, List.drop_zero, Cue.eta, Tie.eta, Edge.eta, Link.eta, Node.eta] at *)
  all_goals (try (have hA := hft (by assumption); have hA1 := hA.1; have hA2 := hA.2))
  all_goals (try have hB := hff (by assumption))
  all_goals (try rw [hw (by omega)] at *)
  all_goals (try simp only [Int.toNat_natCast] at *)
  all_goals first
    | omega
    | (have hb := hbad (by omega) (decide_eq_false (by rintro ⟨h1, h2, h3⟩; first | omega | (have := h3 (by omega); omega)))
       rw [hb]; rfl)
    | (have hp := ok_low (l := l) (i := i) (by assumption) (by assumption) (fun h => by first | assumption | (exfalso; omega))
       simp only [wrap_succ (show i < 9223372036854775807 by omega)]
       exact ⟨(ih (i + 1) (hgo (by omega) hp) (by omega)).same rfl rfl⟩)
    | skip
  clear ih hbad hgo hw hft hff
  have him : i = m := by omega
  subst him
  have hm3 : i ≤ 3 := ok_three hj
  have hrr : r = obsI i (2 ^ i) := by rw [hr, obsF, if_pos (okP_yes (by rw [← hm]; exact hj)), ← hm]
  clear hr hj
  refine ⟨SEx.same (SEx.idx (2 ^ i) (fun n => ⟨64, [(0, bL (.i l)), (5, bR 20480 n), (6, bI n)], [(20480, .osl (.ii true none (obsI i n)))]⟩) (fun _ => rIss r) ?_) rfl rfl⟩
  intro n hn ih
  rw [← hk2]
  obtain ⟨o, ho⟩ : ∃ o, o = obsI i n := ⟨_, rfl⟩
  have hol : o.length = n := by rw [ho, obsI_len]
  rw [← ho]
  have hs : IntKind.i64.wrap (1 * 2 ^ min l.length IntKind.i64.bits) = ((2 ^ i : Nat) : Int) := by rw [← hm]; exact sh_three hm3
  have hp := pow_three hm3
  obtain ⟨p, hpp⟩ : ∃ p, p = 2 ^ i := ⟨_, rfl⟩
  rw [← hpp] at hs hp hn ih hrr
  have hu : IntKind.u64.wrap (l.length : Int) = (l.length : Int) := wrap_u64 (by omega)
  refine SEx.go (X := X29) X29_ok (fun n => look [] [(2, [0, 9, 10, 11]), (9, [0, 5, 6]), (13, [0, 5, 6, 7, 44, 45])] n) (fun _ => none) hO 60 ?_
  intro M R L N hM hAnd hImp hR hL hN
  cases M
  cbv
  repeat' first | (refine hAnd _ _ ?_ ?_) | (refine hImp _ _ (fun h => ?_)) | (refine hR _ ?_) | (refine hL _ _ (Hd.out ?_); first | rw [hks] | rw [hk2] | generalize hk3 : (List.cons _ _ : List K) = k3) | (refine hN _ _ ?_; cbv)
  all_goals (clear hAnd hImp hR hL hN)
  all_goals (cases hM; try dsimp only)
  all_goals (try simp only [Bool.not_eq_true', Bool.not_eq_false', decide_eq_true_eq, decide_eq_false_iff_not, Int.not_le, Int.not_lt, beq_iff_eq, beq_eq_false_iff_ne, ne_eq, Int.ofNat_eq_natCast, Int.toNat_natCast, List.length_replicate, ncast, Nat.sub_zero, List.drop_zero, Cue.eta, Tie.eta, Edge.eta, Link.eta, Node.eta] at *)
  all_goals (try simp only [hu, Int.toNat_natCast] at *)
  all_goals (try rw [hs] at *)
  all_goals first
    | omega
    | (have hnp : n = p := by omega
       subst hnp
       rw [ho, hrr]; rfl)
    | skip
  have hm0 := hm
  obtain ⟨m, hmm⟩ : ∃ m, m = l.length := ⟨_, rfl⟩
  rw [← hmm] at hm0 ⊢
  refine ⟨SEx.same (SEx.idx m (fun j => ⟨64, [(0, bL (.i l)), (5, bR 20480 n), (6, bI n), (7, bR 28672 j), (44, bI m), (45, bI j)], [(20480, .osl (.ii true none o)), (28672, .osl (.i (rowI n j)))]⟩) (fun _ => rIss r) ?_) rfl rfl⟩
  intro j hj ihj
  rw [← hk3]
  obtain ⟨w, hw⟩ : ∃ w, w = rowI n j := ⟨_, rfl⟩
  have hwl : w.length = j := by rw [hw, rowI_len]
  rw [← hw]
  have hv : j < m → IntKind.u64.wrap (j : Int) = (j : Int) := fun h => wrap_u64 (by omega)
  refine SEx.go (X := X29) X29_ok (fun n => look [] [(2, [0, 9, 10, 11]), (9, [0, 5, 6]), (13, [0, 5, 6, 7, 44, 45])] n) (fun _ => none) hO 60 ?_
  intro M R L N hM hAnd hImp hR hL hN
  cases M
  cbv
  repeat' first | (refine hAnd _ _ ?_ ?_) | (refine hImp _ _ (fun h => ?_)) | (refine hR _ ?_) | (refine hL _ _ (Hd.out ?_); try first | rw [hks] | rw [hk2] | rw [hk3]) | (refine hN _ _ ?_; cbv)
  all_goals (clear hAnd hImp hR hL hN; try clear hks; try clear hk2; try clear hk3)
  all_goals (cases hM; try dsimp only)
  all_goals (try simp only [Bool.not_eq_true', Bool.not_eq_false', decide_eq_true_eq, decide_eq_false_iff_not, Int.not_le, Int.not_lt, beq_iff_eq, beq_eq_false_iff_ne, ne_eq, Int.ofNat_eq_natCast, Int.toNat_natCast, List.length_replicate, ncast, Nat.sub_zero, List.drop_zero, Cue.eta, Tie.eta, Edge.eta, Link.eta, Node.eta] at *)
  all_goals (try rw [hv (by omega)] at *)
  all_goals (try simp only [Int.toNat_natCast] at *)
  all_goals first
    | omega
    | rfl
    | trivial
    | (have := lim_ge; simp only [List.length_cons, List.length_nil]; omega)
    | (have ihj' := ihj (by omega)
       simp only [wrap_succ (show j < 9223372036854775807 by omega)]
       rw [rowI_succ, ← hw] at ihj'
       simp only [List.length_append, List.length_cons, List.length_nil, hwl]
       exact ⟨ihj'.same rfl rfl⟩)
    | (have hjm : j = m := by omega
       have ih' := ih (by omega)
       simp only [wrap_succ (show n < 9223372036854775807 by omega)]
       rw [obsI_succ, ← ho, hm0, ← hjm, ← hw] at ih'
       simp only [List.length_append, List.length_cons, List.length_nil, hol]
       exact ⟨ih'.same rfl rfl⟩)
theorem obsF_small (l : List Int) : (obsF l).length ≤ 8 ∧ ∀ x ∈ obsF l, x.length ≤ 3 := by
  unfold obsF
  split
  · rename_i h
    have h3 : l.length ≤ 3 := by
      unfold okP at h
      rw [List.all_eq_true] at h
      exact ok_three (fun j hj => h j (List.mem_range.2 hj))
    refine ⟨by rw [obsI_len]; exact pow_three h3, fun x hx => ?_⟩
    simp only [obsI, List.mem_map] at hx
    obtain ⟨n, _, rfl⟩ := hx
    rw [rowI_len]; exact h3
  · exact ⟨by simp, fun x hx => by cases hx⟩
def wObs (f : List Int → List (List Int)) : Wr := w1 dcIs (fun l => rIss (f l)) (fun l => [LLe l 1048576])
theorem wObsS_ok : WrOK Try.prog 29 (wObs obsF) := w1_ok fun l h => specObs_ok l (h _ (.head _)).out
theorem wObsI_ok : WrOK Try.prog 31 (wObs obsF) := w1_ok fun l h => implObs_ok l (h _ (.head _)).out
theorem kkS_le {k : Int} {l : List (List Int)} {c : Nat} (h : ∀ x ∈ l, x.length ≤ c) : ∀ i, kkS k l i ≤ k + c * i
  | 0 => by rw [kkS_zero]; simp
  | i + 1 => by
    have ih := kkS_le (k := k) h i
    rw [show ((c : Int)) * ((i + 1 : Nat) : Int) = c * i + c by rw [Int.natCast_add, Int.mul_add]; simp]
    by_cases hi : i < l.length
    · rw [kkS_succ hi]
      have := h _ (mem_getD (z := ([] : List Int)) hi).out
      unfold addI
      omega
    · have h1 : kkS k l (i + 1) = kkS k l i := by unfold kkS; rw [List.take_of_length_le (by omega), List.take_of_length_le (by omega)]
      omega
theorem fSS_all {k : Int} {l : List (List Int)} {c : Nat} (h : ∀ x ∈ l, x.length ≤ c) : ∀ x ∈ fSS k l, x.length ≤ c := by
  intro x hx
  have h1 : x.length ∈ (fSS k l).map List.length := List.mem_map_of_mem hx
  rw [fSS_lens] at h1
  obtain ⟨y, hy, e⟩ := List.mem_map.1 h1
  rw [← e]
  exact h y hy
theorem lawObs_ok (l : List Int) (hl : IntsIn l) : SCall Try.prog 9 [aIs l] (rB true) := by
  refine SCall.of X9_ok (fn := Try.f9) (c := Try.f9.body.getD .skip) (dr := fun n => look 0 [] n) Try.func9 rfl (by kernel_rfl) (by kernel_rfl) (by kernel_rfl) ?_
  obtain ⟨f, hf⟩ : ∃ f, f = obsF := ⟨_, rfl⟩
  obtain ⟨f2, hf2⟩ : ∃ f, f = markI := ⟨_, rfl⟩
  obtain ⟨g1, hg1⟩ : ∃ f, f = addI := ⟨_, rfl⟩
  obtain ⟨f3, hf3⟩ : ∃ f, f = fSS := ⟨_, rfl⟩
  obtain ⟨g3, hg3⟩ : ∃ f, f = gSS := ⟨_, rfl⟩
  have hO : SOraOK Try.prog (oraL [(30, wToIntS), (29, wObs f), (31, wObs f), (25, wEqIntS), (32, wEqIntSS), (34, wHeldSS f3 g3)]) := by subst hf hf3 hg3; exact oraL_cons wToIntS_ok (oraL_cons wObsS_ok (oraL_cons wObsI_ok (oraL_cons wEqIntS_ok (oraL_cons wEqIntSS_ok (oraL_cons wHeldSS_ok oraL_nil)))))
  have hW : SOraWOK Try.prog (X9.withW [(27, [(0, 0)]), (33, [(0, 0)])] (oraWL [(27, wMarkI f2 g1), (33, wMarkSS f3 g3)])) := by
    subst hf2 hf3 hg1 hg3
    exact SX.withW_ok (oraWL_cons wMarkI_ok (oraWL_cons wMarkSS_ok oraWL_nil))
  have h1 := hl.len
  have hs := obsF_small l
  have hk : gSS 1 (obsF l) ≤ 25 := by have := kkS_le (k := 1) hs.2 (obsF l).length; have := hs.1; unfold gSS; omega
  have hk0 : 1 ≤ gSS 1 (obsF l) := by have := kkS_mono 1 (obsF l) 0 (obsF l).length; rw [kkS_zero, Nat.zero_add] at this; exact this
  have hs1 := hs.1
  have hs3 := fSS_all (k := 1) hs.2
  unfold maxLen at h1
  refine SEx.go (X := (X9.withW [(27, [(0, 0)]), (33, [(0, 0)])] (oraWL [(27, wMarkI f2 g1), (33, wMarkSS f3 g3)]))) X9_ok (fun n => look [] [] n) (fun _ => none) hO 120 ?_ hW
  intro M R L N hM hAnd hImp hR hL hN
  cases M
  cbv
  repeat' first | (refine hAnd _ _ ?_ ?_) | (refine hImp _ _ (fun h => ?_)) | (refine hR _ ?_) | (refine hL _ _ (Hd.out ?_); try first | rw [hks] | rw [hk2] | rw [hk3]) | (refine hN _ _ ?_; cbv)
  all_goals (clear hAnd hImp hR hL hN; try clear hks; try clear hk2; try clear hk3)
  all_goals (cases hM; try dsimp only)
  all_goals (try simp only [Bool.not_eq_true', Bool.not_eq_false', decide_eq_true_eq, decide_eq_false_iff_not, Int.not_le, Int.not_lt, beq_iff_eq, beq_eq_false_iff_ne, ne_eq, Int.ofNat_eq_natCast, Int.toNat_natCast, List.length_replicate, ncast, Nat.sub_zero, List.drop_zero, Cue.eta, Tie.eta, Edge.eta, Link.eta, Node.eta] at *)
  all_goals (clear hO hW; subst hf hf2 hf3 hg1 hg3)
  all_goals (try simp only [addI, gSS_fSS] at *)
  all_goals first
    | rfl
    | contradiction
    | exact ⟨rfl⟩
    | exact ⟨by omega⟩
    | exact ⟨by assumption⟩
    | exact (markI_len _ _).symm
    | exact (fSS_len _ _).symm
    | exact ⟨(fSS_fSS _ _).symm⟩
    | exact ⟨fun x hx => Nat.le_trans (hs.2 x hx) (by decide)⟩
    | exact ⟨fun x hx => Nat.le_trans (hs3 x hx) (by decide)⟩
    | (refine ⟨?_⟩; rw [fSS_len]; omega)
    | exact ⟨rfl, rfl, rfl, by unfold maxLen; omega, by omega, by omega⟩
    | exact ⟨rfl, rfl, rfl, by unfold maxLen; omega, fun x hx => Nat.le_trans (hs.2 x hx) (by decide), by omega, by omega⟩
    | exact ⟨⟨by omega, by omega⟩⟩
    | (exfalso; omega)
    | exact absurd rfl (by assumption)
    | exact absurd trivial (by assumption)
    | trace_state
end Go.Proofs.Ytlmejcmnmdleaaa.Ai
