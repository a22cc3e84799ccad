/- What the functions of the law FnExactCueOk come to. -/
import Derived.Test.YtececadpjelanaaTy
import Derived.Test.YtececadpjelanaaSF
namespace Go.Proofs.Ytececadpjelanaa.Ai
open Go
set_option maxRecDepth 100000
set_option linter.unusedVariables false
set_option linter.unusedSimpArgs false
def inB (n lo hi : Int) : Bool := decide (lo ≤ n ∧ n ≤ hi)
def bt (s : ByteArray) (i : Nat) : Int := (s[i]?.getD 0).toNat
def nameC (s : ByteArray) (i : Nat) : Bool := decide (97 ≤ bt s i ∧ bt s i ≤ 122 ∨ i ≠ 0 ∧ 48 ≤ bt s i ∧ bt s i ≤ 57)
def nameL (s : ByteArray) (i : Nat) : Bool := (List.range' i (s.size - i)).all (nameC s) && decide (1 ≤ s.size ∧ s.size ≤ 8)
theorem nameL_lt {s : ByteArray} {i : Nat} (h : i < s.size) : nameL s i = (nameC s i && nameL s (i + 1)) := by
  unfold nameL
  rw [show s.size - i = (s.size - (i + 1)) + 1 by omega, List.range'_succ, List.all_cons, Bool.and_assoc]
theorem nameL_no {s : ByteArray} {i : Nat} (h : i < s.size) (hc : ¬ (97 ≤ bt s i ∧ bt s i ≤ 122 ∨ i ≠ 0 ∧ 48 ≤ bt s i ∧ bt s i ≤ 57)) : nameL s i = false := by
  rw [nameL_lt h, nameC, decide_eq_false hc, Bool.false_and]
theorem nameL_yes {s : ByteArray} {i : Nat} (h : i < s.size) (hc : 97 ≤ bt s i ∧ bt s i ≤ 122 ∨ i ≠ 0 ∧ 48 ≤ bt s i ∧ bt s i ≤ 57) : nameL s i = nameL s (i + 1) := by
  rw [nameL_lt h, nameC, decide_eq_true hc, Bool.true_and]
theorem nameL_ge {s : ByteArray} {i : Nat} (h : s.size ≤ i) : nameL s i = decide (1 ≤ s.size ∧ s.size ≤ 8) := by
  unfold nameL
  rw [show s.size - i = 0 by omega]
  simp
theorem l01In_ok (a b c : Int) : SCall Try.prog 43 [aI a, aI b, aI c] (rB (inB a b c)) := by
  refine SCall.of X43_ok (fn := Try.f43) (c := Try.f43.body.getD .skip) (dr := fun n => look 0 [] n) Try.func43 rfl (by kernel_rfl) (by kernel_rfl) (by kernel_rfl) ?_
  refine SEx.walk (X := X43) X43_ok (fun n => look [] [] n) oraL_nil 100 ?_
  intro M R L N hM hR hL hN
  cases M
  cbv
  cases hM
  try dsimp only
  repeat' first | apply And.intro | (intro h; try simp only [Bool.not_eq_true', Bool.not_eq_false', decide_eq_true_eq, decide_eq_false_iff_not, Int.not_le, Int.not_lt, beq_iff_eq, beq_eq_false_iff_ne, ne_eq, Int.ofNat_eq_natCast, Int.toNat_natCast, List.length_replicate, ncast, Nat.sub_zero, List.drop_zero, Cue.eta, Tie.eta, Edge.eta, Link.eta, Node.eta] at h) | (refine hR _ ?_) | (refine hL _ _ (Hd.out ?_)) | (refine hN _ _ (Hd.out ?_))
  all_goals simp only [er_B, inB]
  all_goals (rw [Bool.eq_iff_iff]; simp; try omega)
def wInB (f : Int → Int → Int → Bool) : Wr := w3 dcI dcI dcI (fun x y z => rB (f x y z)) (fun _ _ _ => [])
theorem wInB_ok : WrOK Try.prog 43 (wInB inB) := w3_ok fun x y z _ => l01In_ok x y z
/-- spec.IsName: a loop -/
theorem specIsName_ok (s : ByteArray) (hs : s.size ≤ maxLen) : SCall Try.prog 96 [aS s] (rB (nameL s 0)) := by
  refine SCall.of X96_ok (fn := Try.f96) (c := Try.f96.body.getD .skip) (dr := fun n => look 0 [] n) Try.func96 rfl (by kernel_rfl) (by kernel_rfl) (by kernel_rfl) ?_
  obtain ⟨f, hf⟩ : ∃ f, f = inB := ⟨_, rfl⟩
  have hO : SOraOK Try.prog (oraL [(43, wInB f)]) := by subst hf; exact oraL_cons wInB_ok oraL_nil
  unfold maxLen at hs
  refine SEx.walk (X := X96) X96_ok (fun n => look [] [(2, [0, 3])] n) hO 100 ?_
  intro M R L N hM hR hL hN
  cases M
  cbv
  cases hM
  try dsimp only
  refine hL _ _ ?_
  clear hR hL hN R L N
  generalize hks : (List.cons _ _ : List K) = ks
  refine SEx.same (SEx.ind (fun i : Nat => ⟨42, [(0, .v (false, [.fz (.str s)])), (3, .v (false, [.fz (.int .i64 i)]))], []⟩) (fun i => rB (nameL s i)) (fun i => i ≤ s.size) (fun i => s.size - i) 0 (Nat.zero_le _) ?_) rfl rfl
  intro i hi ih
  rw [← hks]
  refine SEx.walk (X := X96) X96_ok (fun n => look [] [(2, [0, 3])] n) hO 100 ?_
  intro M R L N hM hR hL hN
  cases M
  cbv
  cases hM
  try dsimp only
  repeat' first | apply And.intro | (intro h; try simp only [Bool.not_eq_true', Bool.not_eq_false', decide_eq_true_eq, decide_eq_false_iff_not, Int.not_le, Int.not_lt, beq_iff_eq, beq_eq_false_iff_ne, ne_eq, Int.ofNat_eq_natCast, Int.toNat_natCast, List.length_replicate, ncast, Nat.sub_zero, List.drop_zero, Cue.eta, Tie.eta, Edge.eta, Link.eta, Node.eta] at h) | (refine hR _ ?_) | (refine hL _ _ (Hd.out ?_)) | (refine hN _ _ (Hd.out ?_))
  all_goals simp only [Int.ofNat_eq_natCast, hks, er_B]
  all_goals (try simp only [wrap_succ (show i < 9223372036854775807 by omega)])
  all_goals first
    | omega
    | (rw [nameL_no] <;> (try unfold bt) <;> omega)
    | (rw [nameL_yes (by omega) (by unfold bt; omega)]; exact ⟨ih (i + 1) (by omega) (by omega)⟩)
    | (rw [hf, nameL_ge (by omega)]; unfold inB; rw [Bool.eq_iff_iff]; simp only [decide_eq_true_eq]; omega)
/-- impl.IsName -/
theorem implIsName_ok (s : ByteArray) (hs : s.size ≤ maxLen) : SCall Try.prog 98 [aS s] (rB (nameL s 0)) := by
  refine SCall.of X98_ok (fn := Try.f98) (c := Try.f98.body.getD .skip) (dr := fun n => look 0 [(4, 22)] n) Try.func98 rfl (by kernel_rfl) (by kernel_rfl) (by kernel_rfl) ?_
  unfold maxLen at hs
  refine SEx.walk (X := X98) X98_ok (fun n => look [] [(2, [0, 3])] n) oraL_nil 100 ?_
  intro M R L N hM hR hL hN
  cases M
  cbv
  cases hM
  try dsimp only
  refine hL _ _ ?_
  clear hR hL hN R L N
  generalize hks : (List.cons _ _ : List K) = ks
  refine SEx.same (SEx.ind (fun i : Nat => ⟨50, [(0, .v (false, [.fz (.str s)])), (3, .v (false, [.fz (.int .i64 i)]))], []⟩) (fun i => rB (nameL s i)) (fun i => i ≤ s.size) (fun i => s.size - i) 0 (Nat.zero_le _) ?_) rfl rfl
  intro i hi ih
  rw [← hks]
  refine SEx.walk (X := X98) X98_ok (fun n => look [] [(2, [0, 3])] n) oraL_nil 100 ?_
  intro M R L N hM hR hL hN
  cases M
  cbv
  cases hM
  try dsimp only
  repeat' first | apply And.intro | (intro h; try simp only [Bool.not_eq_true', Bool.not_eq_false', decide_eq_true_eq, decide_eq_false_iff_not, Int.not_le, Int.not_lt, beq_iff_eq, beq_eq_false_iff_ne, ne_eq, Int.ofNat_eq_natCast, Int.toNat_natCast, List.length_replicate, ncast, Nat.sub_zero, List.drop_zero, Cue.eta, Tie.eta, Edge.eta, Link.eta, Node.eta] at h) | (refine hR _ ?_) | (refine hL _ _ (Hd.out ?_)) | (refine hN _ _ (Hd.out ?_))
  all_goals simp only [Int.ofNat_eq_natCast, hks, er_B]
  all_goals (try simp only [wrap_succ (show i < 9223372036854775807 by omega)])
  all_goals first
    | omega
    | (rw [nameL_no] <;> (try unfold bt) <;> omega)
    | (rw [nameL_yes (by omega) (by unfold bt; omega)]; exact ⟨ih (i + 1) (by omega) (by omega)⟩)
    | (rw [nameL_ge (by omega), Bool.eq_iff_iff]; simp only [decide_eq_true_eq, Bool.false_eq_true, false_iff]; omega)
def wNameS (f : ByteArray → Bool) : Wr := w1 dcS (fun x => rB (f x)) (fun x => [SLen x])
theorem wNameS_ok : WrOK Try.prog 96 (wNameS (nameL · 0)) := w1_ok fun x h => specIsName_ok x (h _ List.mem_cons_self).out
theorem wNameI_ok : WrOK Try.prog 98 (wNameS (nameL · 0)) := w1_ok fun x h => implIsName_ok x (h _ List.mem_cons_self).out
end Go.Proofs.Ytececadpjelanaa.Ai
