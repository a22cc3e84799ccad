/- Seeking in slices. -/
import Derived.Test.YtececadpjelanaaTy
import Derived.Test.YtececadpjelanaaU
namespace Go.Proofs.Ytececadpjelanaa.Ai
open Go
set_option maxRecDepth 100000
set_option linter.unusedVariables false
set_option linter.unusedSimpArgs false
theorem idxFuncI_ok (l : List Int) (g : FuncId) (caps : List D) (p : Int → Bool) (hp : ∀ q ∈ l, SCall Try.prog g (aI q :: capsD caps) (rB (p q))) (h1 : l.length ≤ maxLen) : SCall Try.prog 72 [aIs l, aF g caps] (rI (idxF p l 0)) := by
  refine SCall.of X72_ok (fn := Try.f72) (c := Try.f72.body.getD .skip) (dr := fun n => look 0 [] n) Try.func72 rfl (by kernel_rfl) (by kernel_rfl) (by kernel_rfl) ?_
  unfold maxLen at h1
  have hO : SOraOK Try.prog (oraP dcI g caps l p) := oraP_ok hp
  refine SEx.go (X := X72) X72_ok (fun n => look [] [(2, [0, 1, 7, 8])] n) (fun _ => none) hO 60 ?_
  intro M R L N hM hAnd hImp hR hL hN
  cases M
  cbv
  repeat' first | (refine hAnd _ _ ?_ ?_) | (refine hImp _ _ (fun h => ?_)) | (refine hR _ ?_) | (refine hL _ _ (Hd.out ?_); generalize hks : (List.cons _ _ : List K) = ks) | (refine hN _ _ ?_; cbv)
  all_goals (clear hAnd hImp hR hL hN)
  all_goals (cases hM; try dsimp only)
  all_goals (try simp only [Bool.not_eq_true', Bool.not_eq_false', decide_eq_true_eq, decide_eq_false_iff_not, Int.not_le, Int.not_lt, beq_iff_eq, beq_eq_false_iff_ne, ne_eq, Int.ofNat_eq_natCast, Int.toNat_natCast, List.length_replicate, ncast, Nat.sub_zero, List.drop_zero, Cue.eta, Tie.eta, Edge.eta, Link.eta, Node.eta] at *)
  obtain ⟨n, hn⟩ : ∃ n, n = l.length := ⟨_, rfl⟩
  refine ⟨SEx.same (SEx.idx n (fun i => ⟨19, [(0, bL (.i l)), (1, .v (false, [.fz (.fn g caps)])), (7, bI n), (8, bI i)], []⟩) (fun i => rI (idxF p (l.drop i) i)) ?_) (by rw [hn]; rfl) rfl⟩
  intro i hi ih
  rw [← hks]
  refine SEx.go (X := X72) X72_ok (fun n => look [] [(2, [0, 1, 7, 8])] n) (fun _ => none) hO 60 ?_
  intro M R L N hM hAnd hImp hR hL hN
  cases M
  cbv
  repeat' first | (refine hAnd _ _ ?_ ?_) | (refine hImp _ _ (fun h => ?_)) | (refine hR _ ?_) | (refine hL _ _ (Hd.out ?_); try first | rw [hks] | rw [hk2] | rw [hk3]) | (refine hN _ _ ?_; cbv)
  all_goals (clear hAnd hImp hR hL hN; try clear hks; try clear hk2; try clear hk3)
  all_goals (cases hM; try dsimp only)
  all_goals (try simp only [Bool.not_eq_true', Bool.not_eq_false', decide_eq_true_eq, decide_eq_false_iff_not, Int.not_le, Int.not_lt, beq_iff_eq, beq_eq_false_iff_ne, ne_eq, Int.ofNat_eq_natCast, Int.toNat_natCast, List.length_replicate, ncast, Nat.sub_zero, List.drop_zero, Cue.eta, Tie.eta, Edge.eta, Link.eta, Node.eta] at *)
  all_goals first
    | omega
    | exact ⟨rfl, by cases caps <;> rfl⟩
    | exact ⟨rfl, rfl⟩
    | exact mem_getD (z := (0 : Int)) (by omega)
    | (rw [idxF_yes (p := p) (l := l) (i := i) (0 : Int) (by omega) (by first | assumption | exact beq_iff_eq.2 (by assumption))]; rfl)
    | (rw [idxF_end (by omega)]; rfl)
    | (simp only [wrap_succ (show i < 9223372036854775807 by omega)]; exact ⟨(ih (by omega)).same rfl (by rw [idxF_no (p := p) (l := l) (i := i) (0 : Int) (by omega) (by first | assumption | exact beq_eq_false_iff_ne.2 (by assumption) | (simp_all; done))])⟩)
theorem contFuncI_ok (l : List Int) (g : FuncId) (caps : List D) (p : Int → Bool) (hp : ∀ q ∈ l, SCall Try.prog g (aI q :: capsD caps) (rB (p q))) (h1 : l.length ≤ maxLen) : SCall Try.prog 67 [aIs l, aF g caps] (rB (l.any p)) := by
  refine SCall.of X67_ok (fn := Try.f67) (c := Try.f67.body.getD .skip) (dr := fun n => look 0 [] n) Try.func67 rfl (by kernel_rfl) (by kernel_rfl) (by kernel_rfl) ?_
  obtain ⟨f, hf⟩ : ∃ f : List Int → Int, f = fun l => idxF p l 0 := ⟨_, rfl⟩
  have hO : SOraOK Try.prog (oraL [(72, wCl dcIs g caps (fun l => rI (f l)) (fun m => [Same m l]))]) := by subst hf; exact oraL_cons (wCl_ok fun m h => by obtain rfl := (h _ (.head _)).out; exact idxFuncI_ok m g caps p hp h1) oraL_nil
  refine SEx.go (X := X67) X67_ok (fun n => look [] [] n) (fun _ => none) hO 60 ?_
  intro M R L N hM hAnd hImp hR hL hN
  cases M
  cbv
  repeat' first | (refine hAnd _ _ ?_ ?_) | (refine hImp _ _ (fun h => ?_)) | (refine hR _ ?_) | (refine hL _ _ (Hd.out ?_); try first | rw [hks] | rw [hk2] | rw [hk3]) | (refine hN _ _ ?_; cbv)
  all_goals (clear hAnd hImp hR hL hN; try clear hks; try clear hk2; try clear hk3)
  all_goals (cases hM; try dsimp only)
  all_goals (try simp only [Bool.not_eq_true', Bool.not_eq_false', decide_eq_true_eq, decide_eq_false_iff_not, Int.not_le, Int.not_lt, beq_iff_eq, beq_eq_false_iff_ne, ne_eq, Int.ofNat_eq_natCast, Int.toNat_natCast, List.length_replicate, ncast, Nat.sub_zero, List.drop_zero, Cue.eta, Tie.eta, Edge.eta, Link.eta, Node.eta] at *)
  all_goals first
    | exact ⟨rfl⟩
    | (rw [← idxF_any p l 0, hf]; rfl)
theorem idxFuncTie_ok (l : List Tie) (g : FuncId) (caps : List D) (p : Tie → Bool) (hp : ∀ q ∈ l, SCall Try.prog g (aTie q :: capsD caps) (rB (p q))) (h1 : l.length ≤ maxLen) : SCall Try.prog 92 [aTies l, aF g caps] (rI (idxF p l 0)) := by
  refine SCall.of X92_ok (fn := Try.f92) (c := Try.f92.body.getD .skip) (dr := fun n => look 0 [] n) Try.func92 rfl (by kernel_rfl) (by kernel_rfl) (by kernel_rfl) ?_
  unfold maxLen at h1
  have hO : SOraOK Try.prog (oraP dcTie g caps l p) := oraP_ok hp
  refine SEx.go (X := X92) X92_ok (fun n => look [] [(2, [0, 1, 7, 8])] n) (fun _ => none) hO 60 ?_
  intro M R L N hM hAnd hImp hR hL hN
  cases M
  cbv
  repeat' first | (refine hAnd _ _ ?_ ?_) | (refine hImp _ _ (fun h => ?_)) | (refine hR _ ?_) | (refine hL _ _ (Hd.out ?_); generalize hks : (List.cons _ _ : List K) = ks) | (refine hN _ _ ?_; cbv)
  all_goals (clear hAnd hImp hR hL hN)
  all_goals (cases hM; try dsimp only)
  all_goals (try simp only [Bool.not_eq_true', Bool.not_eq_false', decide_eq_true_eq, decide_eq_false_iff_not, Int.not_le, Int.not_lt, beq_iff_eq, beq_eq_false_iff_ne, ne_eq, Int.ofNat_eq_natCast, Int.toNat_natCast, List.length_replicate, ncast, Nat.sub_zero, List.drop_zero, Cue.eta, Tie.eta, Edge.eta, Link.eta, Node.eta] at *)
  obtain ⟨n, hn⟩ : ∃ n, n = l.length := ⟨_, rfl⟩
  refine ⟨SEx.same (SEx.idx n (fun i => ⟨19, [(0, bL (.tie l)), (1, .v (false, [.fz (.fn g caps)])), (7, bI n), (8, bI i)], []⟩) (fun i => rI (idxF p (l.drop i) i)) ?_) (by rw [hn]; rfl) rfl⟩
  intro i hi ih
  rw [← hks]
  refine SEx.go (X := X92) X92_ok (fun n => look [] [(2, [0, 1, 7, 8])] n) (fun _ => none) hO 60 ?_
  intro M R L N hM hAnd hImp hR hL hN
  cases M
  cbv
  repeat' first | (refine hAnd _ _ ?_ ?_) | (refine hImp _ _ (fun h => ?_)) | (refine hR _ ?_) | (refine hL _ _ (Hd.out ?_); try first | rw [hks] | rw [hk2] | rw [hk3]) | (refine hN _ _ ?_; cbv)
  all_goals (clear hAnd hImp hR hL hN; try clear hks; try clear hk2; try clear hk3)
  all_goals (cases hM; try dsimp only)
  all_goals (try simp only [Bool.not_eq_true', Bool.not_eq_false', decide_eq_true_eq, decide_eq_false_iff_not, Int.not_le, Int.not_lt, beq_iff_eq, beq_eq_false_iff_ne, ne_eq, Int.ofNat_eq_natCast, Int.toNat_natCast, List.length_replicate, ncast, Nat.sub_zero, List.drop_zero, Cue.eta, Tie.eta, Edge.eta, Link.eta, Node.eta] at *)
  all_goals first
    | omega
    | exact ⟨rfl, by cases caps <;> rfl⟩
    | exact ⟨rfl, rfl⟩
    | exact mem_getD (z := Tie.z) (by omega)
    | (rw [idxF_yes (p := p) (l := l) (i := i) Tie.z (by omega) (by first | assumption | exact beq_iff_eq.2 (by assumption))]; rfl)
    | (rw [idxF_end (by omega)]; rfl)
    | (simp only [wrap_succ (show i < 9223372036854775807 by omega)]; exact ⟨(ih (by omega)).same rfl (by rw [idxF_no (p := p) (l := l) (i := i) Tie.z (by omega) (by first | assumption | exact beq_eq_false_iff_ne.2 (by assumption) | (simp_all; done))])⟩)
theorem contFuncTie_ok (l : List Tie) (g : FuncId) (caps : List D) (p : Tie → Bool) (hp : ∀ q ∈ l, SCall Try.prog g (aTie q :: capsD caps) (rB (p q))) (h1 : l.length ≤ maxLen) : SCall Try.prog 84 [aTies l, aF g caps] (rB (l.any p)) := by
  refine SCall.of X84_ok (fn := Try.f84) (c := Try.f84.body.getD .skip) (dr := fun n => look 0 [] n) Try.func84 rfl (by kernel_rfl) (by kernel_rfl) (by kernel_rfl) ?_
  obtain ⟨f, hf⟩ : ∃ f : List Tie → Int, f = fun l => idxF p l 0 := ⟨_, rfl⟩
  have hO : SOraOK Try.prog (oraL [(92, wCl dcTies g caps (fun l => rI (f l)) (fun m => [Same m l]))]) := by subst hf; exact oraL_cons (wCl_ok fun m h => by obtain rfl := (h _ (.head _)).out; exact idxFuncTie_ok m g caps p hp h1) oraL_nil
  refine SEx.go (X := X84) X84_ok (fun n => look [] [] n) (fun _ => none) hO 60 ?_
  intro M R L N hM hAnd hImp hR hL hN
  cases M
  cbv
  repeat' first | (refine hAnd _ _ ?_ ?_) | (refine hImp _ _ (fun h => ?_)) | (refine hR _ ?_) | (refine hL _ _ (Hd.out ?_); try first | rw [hks] | rw [hk2] | rw [hk3]) | (refine hN _ _ ?_; cbv)
  all_goals (clear hAnd hImp hR hL hN; try clear hks; try clear hk2; try clear hk3)
  all_goals (cases hM; try dsimp only)
  all_goals (try simp only [Bool.not_eq_true', Bool.not_eq_false', decide_eq_true_eq, decide_eq_false_iff_not, Int.not_le, Int.not_lt, beq_iff_eq, beq_eq_false_iff_ne, ne_eq, Int.ofNat_eq_natCast, Int.toNat_natCast, List.length_replicate, ncast, Nat.sub_zero, List.drop_zero, Cue.eta, Tie.eta, Edge.eta, Link.eta, Node.eta] at *)
  all_goals first
    | exact ⟨rfl⟩
    | (rw [← idxF_any p l 0, hf]; rfl)
theorem idxFuncNode_ok (l : List Node) (g : FuncId) (caps : List D) (p : Node → Bool) (hp : ∀ q ∈ l, SCall Try.prog g (aNode q :: capsD caps) (rB (p q))) (h1 : l.length ≤ maxLen) : SCall Try.prog 90 [aNodes l, aF g caps] (rI (idxF p l 0)) := by
  refine SCall.of X90_ok (fn := Try.f90) (c := Try.f90.body.getD .skip) (dr := fun n => look 0 [] n) Try.func90 rfl (by kernel_rfl) (by kernel_rfl) (by kernel_rfl) ?_
  unfold maxLen at h1
  have hO : SOraOK Try.prog (oraP dcNode g caps l p) := oraP_ok hp
  refine SEx.go (X := X90) X90_ok (fun n => look [] [(2, [0, 1, 7, 8])] n) (fun _ => none) hO 60 ?_
  intro M R L N hM hAnd hImp hR hL hN
  cases M
  cbv
  repeat' first | (refine hAnd _ _ ?_ ?_) | (refine hImp _ _ (fun h => ?_)) | (refine hR _ ?_) | (refine hL _ _ (Hd.out ?_); generalize hks : (List.cons _ _ : List K) = ks) | (refine hN _ _ ?_; cbv)
  all_goals (clear hAnd hImp hR hL hN)
  all_goals (cases hM; try dsimp only)
  all_goals (try simp only [Bool.not_eq_true', Bool.not_eq_false', decide_eq_true_eq, decide_eq_false_iff_not, Int.not_le, Int.not_lt, beq_iff_eq, beq_eq_false_iff_ne, ne_eq, Int.ofNat_eq_natCast, Int.toNat_natCast, List.length_replicate, ncast, Nat.sub_zero, List.drop_zero, Cue.eta, Tie.eta, Edge.eta, Link.eta, Node.eta] at *)
  obtain ⟨n, hn⟩ : ∃ n, n = l.length := ⟨_, rfl⟩
  refine ⟨SEx.same (SEx.idx n (fun i => ⟨19, [(0, bL (.node false none l)), (1, .v (false, [.fz (.fn g caps)])), (7, bI n), (8, bI i)], []⟩) (fun i => rI (idxF p (l.drop i) i)) ?_) (by rw [hn]; rfl) rfl⟩
  intro i hi ih
  rw [← hks]
  refine SEx.go (X := X90) X90_ok (fun n => look [] [(2, [0, 1, 7, 8])] n) (fun _ => none) hO 60 ?_
  intro M R L N hM hAnd hImp hR hL hN
  cases M
  cbv
  repeat' first | (refine hAnd _ _ ?_ ?_) | (refine hImp _ _ (fun h => ?_)) | (refine hR _ ?_) | (refine hL _ _ (Hd.out ?_); try first | rw [hks] | rw [hk2] | rw [hk3]) | (refine hN _ _ ?_; cbv)
  all_goals (clear hAnd hImp hR hL hN; try clear hks; try clear hk2; try clear hk3)
  all_goals (cases hM; try dsimp only)
  all_goals (try simp only [Bool.not_eq_true', Bool.not_eq_false', decide_eq_true_eq, decide_eq_false_iff_not, Int.not_le, Int.not_lt, beq_iff_eq, beq_eq_false_iff_ne, ne_eq, Int.ofNat_eq_natCast, Int.toNat_natCast, List.length_replicate, ncast, Nat.sub_zero, List.drop_zero, Cue.eta, Tie.eta, Edge.eta, Link.eta, Node.eta] at *)
  all_goals first
    | omega
    | exact ⟨rfl, by cases caps <;> rfl⟩
    | exact ⟨rfl, rfl⟩
    | exact mem_getD (z := Node.z) (by omega)
    | (rw [idxF_yes (p := p) (l := l) (i := i) Node.z (by omega) (by first | assumption | exact beq_iff_eq.2 (by assumption))]; rfl)
    | (rw [idxF_end (by omega)]; rfl)
    | (simp only [wrap_succ (show i < 9223372036854775807 by omega)]; exact ⟨(ih (by omega)).same rfl (by rw [idxF_no (p := p) (l := l) (i := i) Node.z (by omega) (by first | assumption | exact beq_eq_false_iff_ne.2 (by assumption) | (simp_all; done))])⟩)
theorem indexI_ok (l : List Int) (v : Int) (h1 : l.length ≤ maxLen) : SCall Try.prog 99 [aIs l, aI v] (rI (idxF (fun x => v == x) l 0)) := by
  refine SCall.of X99_ok (fn := Try.f99) (c := Try.f99.body.getD .skip) (dr := fun n => look 0 [] n) Try.func99 rfl (by kernel_rfl) (by kernel_rfl) (by kernel_rfl) ?_
  unfold maxLen at h1
  refine SEx.go (X := X99) X99_ok (fun n => look [] [(2, [0, 1, 7, 8])] n) (fun _ => none) oraL_nil 60 ?_
  intro M R L N hM hAnd hImp hR hL hN
  cases M
  cbv
  repeat' first | (refine hAnd _ _ ?_ ?_) | (refine hImp _ _ (fun h => ?_)) | (refine hR _ ?_) | (refine hL _ _ (Hd.out ?_); generalize hks : (List.cons _ _ : List K) = ks) | (refine hN _ _ ?_; cbv)
  all_goals (clear hAnd hImp hR hL hN)
  all_goals (cases hM; try dsimp only)
  all_goals (try simp only [Bool.not_eq_true', Bool.not_eq_false', decide_eq_true_eq, decide_eq_false_iff_not, Int.not_le, Int.not_lt, beq_iff_eq, beq_eq_false_iff_ne, ne_eq, Int.ofNat_eq_natCast, Int.toNat_natCast, List.length_replicate, ncast, Nat.sub_zero, List.drop_zero, Cue.eta, Tie.eta, Edge.eta, Link.eta, Node.eta] at *)
  obtain ⟨n, hn⟩ : ∃ n, n = l.length := ⟨_, rfl⟩
  refine ⟨SEx.same (SEx.idx n (fun i => ⟨19, [(0, bL (.i l)), (1, bI v), (7, bI n), (8, bI i)], []⟩) (fun i => rI (idxF (fun x => v == x) (l.drop i) i)) ?_) (by rw [hn]; rfl) rfl⟩
  intro i hi ih
  rw [← hks]
  refine SEx.go (X := X99) X99_ok (fun n => look [] [(2, [0, 1, 7, 8])] n) (fun _ => none) oraL_nil 60 ?_
  intro M R L N hM hAnd hImp hR hL hN
  cases M
  cbv
  repeat' first | (refine hAnd _ _ ?_ ?_) | (refine hImp _ _ (fun h => ?_)) | (refine hR _ ?_) | (refine hL _ _ (Hd.out ?_); try first | rw [hks] | rw [hk2] | rw [hk3]) | (refine hN _ _ ?_; cbv)
  all_goals (clear hAnd hImp hR hL hN; try clear hks; try clear hk2; try clear hk3)
  all_goals (cases hM; try dsimp only)
  all_goals (try simp only [Bool.not_eq_true', Bool.not_eq_false', decide_eq_true_eq, decide_eq_false_iff_not, Int.not_le, Int.not_lt, beq_iff_eq, beq_eq_false_iff_ne, ne_eq, Int.ofNat_eq_natCast, Int.toNat_natCast, List.length_replicate, ncast, Nat.sub_zero, List.drop_zero, Cue.eta, Tie.eta, Edge.eta, Link.eta, Node.eta] at *)
  all_goals first
    | omega
    | exact ⟨rfl, by cases caps <;> rfl⟩
    | exact ⟨rfl, rfl⟩
    | exact mem_getD (z := (0 : Int)) (by omega)
    | (rw [idxF_yes (p := fun x => v == x) (l := l) (i := i) (0 : Int) (by omega) (by first | assumption | exact beq_iff_eq.2 (by assumption))]; rfl)
    | (rw [idxF_end (by omega)]; rfl)
    | (simp only [wrap_succ (show i < 9223372036854775807 by omega)]; exact ⟨(ih (by omega)).same rfl (by rw [idxF_no (p := fun x => v == x) (l := l) (i := i) (0 : Int) (by omega) (by first | assumption | exact beq_eq_false_iff_ne.2 (by assumption) | (simp_all; done))])⟩)
def wIndexI (f : List Int → Int → Int) : Wr := w2 dcIs dcI (fun l v => rI (f l v)) (fun l _ => [LLe l maxLen])
theorem wIndexI_ok : WrOK Try.prog 99 (wIndexI fun l v => idxF (fun x => v == x) l 0) := w2_ok fun l v h => indexI_ok l v (h _ (.head _)).out
end Go.Proofs.Ytececadpjelanaa.Ai
