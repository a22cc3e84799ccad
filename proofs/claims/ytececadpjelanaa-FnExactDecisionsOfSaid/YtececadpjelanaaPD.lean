/- Members of a list; decisions of a moment. -/
import Derived.Test.YtececadpjelanaaTy
import Derived.Test.YtececadpjelanaaPB
namespace Go.Proofs.Ytececadpjelanaa.Ai
open Go
set_option maxRecDepth 100000
set_option linter.unusedVariables false
set_option linter.unusedSimpArgs false
def btS (s : Int) (i : Nat) : Bool := decide (IntKind.i64.wrap (((BitVec.ofInt IntKind.i64.bits (s.fdiv (2 ^ min i IntKind.i64.bits)) &&& BitVec.ofInt IntKind.i64.bits 1).toNat : Nat) : Int) = 1)
def memP (l : List Int) (s : Int) (i : Nat) : List Int := ((List.range i).filter (btS s)).map fun j => l.getD j 0
def memL (l : List Int) (s : Int) : List Int := memP l s l.length
theorem memP_yes {l : List Int} {s : Int} {i : Nat} (h : btS s i = true) : memP l s (i + 1) = memP l s i ++ [l.getD i 0] := by
  simp only [memP, List.range_succ, List.filter_append, List.map_append, List.filter_cons, List.filter_nil, h, if_true, List.map_cons, List.map_nil]
theorem memP_no {l : List Int} {s : Int} {i : Nat} (h : btS s i = false) : memP l s (i + 1) = memP l s i := by
  simp only [memP, List.range_succ, List.filter_append, List.map_append, List.filter_cons, List.filter_nil, h, Bool.false_eq_true, if_false, List.map_nil, List.append_nil]
theorem memP_len (l : List Int) (s : Int) (i : Nat) : (memP l s i).length ≤ i := by
  simp only [memP, List.length_map]
  exact Nat.le_trans (List.length_filter_le _ _) (by simp)
theorem implMembers_ok (l : List Int) (s : Int) (h1 : l.length ≤ 1048576) : SCall Try.prog 61 [aIs l, aI s] (rUs (memL l s)) := by
  refine SCall.of X61_ok (fn := Try.f61) (c := Try.f61.body.getD .skip) (dr := fun n => look 0 [] n) Try.func61 rfl (by kernel_rfl) (by kernel_rfl) (by kernel_rfl) ?_
  refine SEx.go (X := X61) X61_ok (fun n => look [] [(3, [1, 5, 8, 9, 10])] n) (fun _ => none) oraL_nil 60 ?_
  intro M R L N hM hAnd hImp hR hL hN
  cases M
  cbv
  repeat' first | (refine hAnd _ _ ?_ ?_) | (refine hImp _ _ (fun h => ?_)) | (refine hR _ ?_) | (refine hL _ _ (Hd.out ?_); generalize hks : (List.cons _ _ : List K) = ks) | (refine hN _ _ ?_; cbv)
  all_goals (clear hAnd hImp hR hL hN)
  all_goals (cases hM; try dsimp only)
  all_goals (try simp only [Bool.not_eq_true', Bool.not_eq_false', decide_eq_true_eq, decide_eq_false_iff_not, Int.not_le, Int.not_lt, beq_iff_eq, beq_eq_false_iff_ne, ne_eq, Int.ofNat_eq_natCast, Int.toNat_natCast, List.length_replicate, ncast, Nat.sub_zero, List.drop_zero, Cue.eta, Tie.eta, Edge.eta, Link.eta, Node.eta] at *)
  obtain ⟨m, hm⟩ : ∃ m, m = l.length := ⟨_, rfl⟩
  refine ⟨SEx.same (SEx.idx m (fun i => ⟨26, [(1, bI s), (5, bR 20480 (memP l s i).length), (8, bL (.i l)), (9, bI m), (10, bI i)], [(20480, .osl (.i (memP l s i)))]⟩) (fun _ => rUs (memP l s m)) ?_) (by rw [hm]; rfl) (by rw [hm]; rfl)⟩
  intro i hi ih
  rw [← hks]
  obtain ⟨u, hu⟩ : ∃ u, u = memP l s i := ⟨_, rfl⟩
  have hul : u.length ≤ i := by rw [hu]; exact memP_len _ _ _
  rw [← hu]
  obtain ⟨n, hn⟩ : ∃ n, n = u.length := ⟨_, rfl⟩
  rw [← hn] at hul ⊢
  refine SEx.go (X := X61) X61_ok (fun n => look [] [(3, [1, 5, 8, 9, 10])] n) (fun _ => none) oraL_nil 60 ?_
  intro M R L N hM hAnd hImp hR hL hN
  cases M
  cbv
  repeat' first | (refine hAnd _ _ ?_ ?_) | (refine hImp _ _ (fun h => ?_)) | (refine hR _ ?_) | (refine hL _ _ (Hd.out ?_); try first | rw [hks] | rw [hk2] | rw [hk3]) | (refine hN _ _ ?_; cbv)
  all_goals (clear hAnd hImp hR hL hN; try clear hks; try clear hk2; try clear hk3)
  all_goals (cases hM; try dsimp only)
  all_goals (try simp only [Bool.not_eq_true', Bool.not_eq_false', decide_eq_true_eq, decide_eq_false_iff_not, Int.not_le, Int.not_lt, beq_iff_eq, beq_eq_false_iff_ne, ne_eq, Int.ofNat_eq_natCast, Int.toNat_natCast, List.length_replicate, ncast, Nat.sub_zero, List.drop_zero, Cue.eta, Tie.eta, Edge.eta, Link.eta, Node.eta] at *)
  all_goals try simp only [List.length_append, List.length_cons, List.length_nil, List.length_set] at *
  all_goals (try omega)
  all_goals (try (have := lim_ge; omega))
  all_goals (try simp only [wrap_succ (show i < 9223372036854775807 by omega)])
  all_goals first
    | (have ih' := ih (by omega)
       rw [memP_yes (show btS s i = true by unfold btS; exact decide_eq_true (by assumption)), ← hu, List.length_append] at ih'
       exact ⟨ih'.same rfl rfl⟩)
    | (have ih' := ih (by omega)
       rw [memP_no (show btS s i = false by unfold btS; exact decide_eq_false (by assumption)), ← hu, ← hn] at ih'
       exact ⟨ih'.same rfl rfl⟩)
    | (obtain rfl : i = m := by omega
       rw [hu]; rfl)
    | skip
theorem specSome_ok (l : List Int) (s : Int) (h1 : l.length ≤ 1048576) : SCall Try.prog 38 [aIs l, aI s] (rUs (memL l s)) := by
  refine SCall.of X38_ok (fn := Try.f38) (c := Try.f38.body.getD .skip) (dr := fun n => look 0 [] n) Try.func38 rfl (by kernel_rfl) (by kernel_rfl) (by kernel_rfl) ?_
  refine SEx.go (X := X38) X38_ok (fun n => look [] [(3, [1, 5, 9, 10, 11])] n) (fun _ => none) oraL_nil 60 ?_
  intro M R L N hM hAnd hImp hR hL hN
  cases M
  cbv
  repeat' first | (refine hAnd _ _ ?_ ?_) | (refine hImp _ _ (fun h => ?_)) | (refine hR _ ?_) | (refine hL _ _ (Hd.out ?_); generalize hks : (List.cons _ _ : List K) = ks) | (refine hN _ _ ?_; cbv)
  all_goals (clear hAnd hImp hR hL hN)
  all_goals (cases hM; try dsimp only)
  all_goals (try simp only [Bool.not_eq_true', Bool.not_eq_false', decide_eq_true_eq, decide_eq_false_iff_not, Int.not_le, Int.not_lt, beq_iff_eq, beq_eq_false_iff_ne, ne_eq, Int.ofNat_eq_natCast, Int.toNat_natCast, List.length_replicate, ncast, Nat.sub_zero, List.drop_zero, Cue.eta, Tie.eta, Edge.eta, Link.eta, Node.eta] at *)
  obtain ⟨m, hm⟩ : ∃ m, m = l.length := ⟨_, rfl⟩
  refine ⟨SEx.same (SEx.idx m (fun i => ⟨28, [(1, bI s), (5, bR 20480 (memP l s i).length), (9, bL (.i l)), (10, bI m), (11, bI i)], [(20480, .osl (.i (memP l s i)))]⟩) (fun _ => rUs (memP l s m)) ?_) (by rw [hm]; rfl) (by rw [hm]; rfl)⟩
  intro i hi ih
  rw [← hks]
  obtain ⟨u, hu⟩ : ∃ u, u = memP l s i := ⟨_, rfl⟩
  have hul : u.length ≤ i := by rw [hu]; exact memP_len _ _ _
  rw [← hu]
  obtain ⟨n, hn⟩ : ∃ n, n = u.length := ⟨_, rfl⟩
  rw [← hn] at hul ⊢
  have hwu : IntKind.u64.wrap (i : Int) = (i : Int) := wrap_u64 (by omega)
  refine SEx.go (X := X38) X38_ok (fun n => look [] [(3, [1, 5, 9, 10, 11])] n) (fun _ => none) oraL_nil 60 ?_
  intro M R L N hM hAnd hImp hR hL hN
  cases M
  cbv
  repeat' first | (refine hAnd _ _ ?_ ?_) | (refine hImp _ _ (fun h => ?_)) | (refine hR _ ?_) | (refine hL _ _ (Hd.out ?_); try first | rw [hks] | rw [hk2] | rw [hk3]) | (refine hN _ _ ?_; cbv)
  all_goals (clear hAnd hImp hR hL hN; try clear hks; try clear hk2; try clear hk3)
  all_goals (cases hM; try dsimp only)
  all_goals (try simp only [Bool.not_eq_true', Bool.not_eq_false', decide_eq_true_eq, decide_eq_false_iff_not, Int.not_le, Int.not_lt, beq_iff_eq, beq_eq_false_iff_ne, ne_eq, Int.ofNat_eq_natCast, Int.toNat_natCast, List.length_replicate, ncast, Nat.sub_zero, List.drop_zero, Cue.eta, Tie.eta, Edge.eta, Link.eta, Node.eta] at *)
  all_goals (try simp only [hwu, Int.toNat_natCast] at *)
  all_goals try simp only [List.length_append, List.length_cons, List.length_nil, List.length_set] at *
  all_goals (try omega)
  all_goals (try (have := lim_ge; omega))
  all_goals (try simp only [wrap_succ (show i < 9223372036854775807 by omega)])
  all_goals first
    | (have ih' := ih (by omega)
       rw [memP_yes (show btS s i = true by unfold btS; exact decide_eq_true (by assumption)), ← hu, List.length_append] at ih'
       exact ⟨ih'.same rfl rfl⟩)
    | (have ih' := ih (by omega)
       rw [memP_no (show btS s i = false by unfold btS; exact decide_eq_false (by assumption)), ← hu, ← hn] at ih'
       exact ⟨ih'.same rfl rfl⟩)
    | (obtain rfl : i = m := by omega
       rw [hu]; rfl)
    | skip
def wMem (f : List Int → Int → List Int) : Wr := w2 dcIs dcI (fun l s => rUs (f l s)) (fun l _ => [LLe l 1048576])
theorem wMemI_ok : WrOK Try.prog 61 (wMem memL) := w2_ok fun l s h => implMembers_ok l s (h _ (.head _)).out
theorem wMemS_ok : WrOK Try.prog 38 (wMem memL) := w2_ok fun l s h => specSome_ok l s (h _ (.head _)).out
theorem sh_seven {m : Nat} (h : m ≤ 7) : IntKind.i64.wrap (1 * 2 ^ min m IntKind.i64.bits) = ((2 ^ m : Nat) : Int) := by
  have : m = 0 ∨ m = 1 ∨ m = 2 ∨ m = 3 ∨ m = 4 ∨ m = 5 ∨ m = 6 ∨ m = 7 := by omega
  rcases this with rfl | rfl | rfl | rfl | rfl | rfl | rfl | rfl <;> decide
theorem pow_seven {m : Nat} (h : m ≤ 7) : 1 ≤ 2 ^ m ∧ 2 ^ m ≤ 128 := by
  have : m = 0 ∨ m = 1 ∨ m = 2 ∨ m = 3 ∨ m = 4 ∨ m = 5 ∨ m = 6 ∨ m = 7 := by omega
  rcases this with rfl | rfl | rfl | rfl | rfl | rfl | rfl | rfl <;> decide
def decP (l : List Int) (N k : Nat) : List (List Int) := (List.range k).map fun j => memL l ((N : Int) - 1 - (j : Nat))
theorem decP_succ (l : List Int) (N k : Nat) : decP l N (k + 1) = decP l N k ++ [memL l ((N : Int) - 1 - k)] := by simp [decP, List.range_succ]
theorem decP_len (l : List Int) (N k : Nat) : (decP l N k).length = k := by simp [decP]
def decL (l : List Int) : List (List Int) := decP l (2 ^ l.length) (2 ^ l.length)
theorem enL_len {t : Show} {x : State} (h : StV t x) : (enL t x).length ≤ 7 := by
  have h1 := (showB_len h.sh).2
  have h2 : (enL t x).length ≤ t.nodes.length := Nat.le_trans (List.length_filter_le _ _) (selL_len _ _)
  omega
theorem decisions_ok (t : Show) (x : State) (h : EnT t x) : SCall Try.prog 40 [aShow t, aState x] (rIss (decL (enL t x))) := by
  refine SCall.of X40_ok (fn := Try.f40) (c := Try.f40.body.getD .skip) (dr := fun n => look 0 [] n) Try.func40 rfl (by kernel_rfl) (by kernel_rfl) (by kernel_rfl) ?_
  obtain ⟨f1, hf1⟩ : ∃ f, f = enL := ⟨_, rfl⟩
  obtain ⟨f2, hf2⟩ : ∃ f, f = memL := ⟨_, rfl⟩
  obtain ⟨l, hl⟩ : ∃ l, l = f1 t x := ⟨_, rfl⟩
  have hl7 : l.length ≤ 7 := by rw [hl, hf1]; exact enL_len h.v
  obtain ⟨NN, hN⟩ : ∃ NN, NN = 2 ^ l.length := ⟨_, rfl⟩
  have hNb := pow_seven hl7
  have hs := sh_seven hl7
  rw [← hN] at hNb hs
  have hs1 : IntKind.i64.wrap ((NN : Int) - 1) = (NN : Int) - 1 := wrap_i64 (by omega) (by omega)
  rw [show decL (enL t x) = decP l NN NN by rw [hN, hl, hf1]; rfl]
  by_cases hne : enL t x = []
  · have hO : SOraOK Try.prog (oraL [(32, wEn0), (61, wMem f2)]) := by
      subst hf2
      exact oraL_cons wEn0_ok (oraL_cons wMemI_ok oraL_nil)
    have hl0 : l = [] := by rw [hl, hf1]; exact hne
    have hN1 : NN = 1 := by rw [hN, hl0]; rfl
    have h0 : EnNo t x := ⟨h, hne⟩
    clear hN hl hs hs1
    subst hl0 hN1
    obtain ⟨ns, ts, hr⟩ := t
    obtain ⟨now, times, vals⟩ := x
    refine SEx.go (X := X40) X40_ok (fun n => look [] [(4, [5, 6, 7])] n) (fun _ => none) hO 60 ?_
    intro M R L N hM hAnd hImp hR hL hN
    cases M
    cbv
    repeat' first | (refine hAnd _ _ ?_ ?_) | (refine hImp _ _ (fun h => ?_)) | (refine hR _ ?_) | (refine hL _ _ (Hd.out ?_); generalize hks : (List.cons _ _ : List K) = ks) | (refine hN _ _ ?_; cbv)
    all_goals (clear hAnd hImp hR hL hN)
    all_goals (cases hM; try dsimp only)
    all_goals (try simp only [Bool.not_eq_true', Bool.not_eq_false', decide_eq_true_eq, decide_eq_false_iff_not, Int.not_le, Int.not_lt, beq_iff_eq, beq_eq_false_iff_ne, ne_eq, Int.ofNat_eq_natCast, Int.toNat_natCast, List.length_replicate, ncast, Nat.sub_zero, List.drop_zero, Cue.eta, Tie.eta, Edge.eta, Link.eta, Node.eta] at *)
    all_goals first
      | exact h0
      | omega
      | skip
    refine ⟨SEx.same (SEx.idx 1 (fun k => ⟨26, [(5, bL (.i [])), (6, bR 24576 k), (7, bI ((1 : Nat) - 1 - (k : Nat)))], [(24576, .osl (.ii true none (decP [] 1 k)))]⟩) (fun _ => rIss (decP [] 1 1)) ?_) rfl rfl⟩
    intro k hk ih
    rw [← hks]
    obtain ⟨o, ho⟩ : ∃ o, o = decP [] 1 k := ⟨_, rfl⟩
    have hol : o.length = k := by rw [ho, decP_len]
    obtain ⟨q, hq⟩ : ∃ q : Int, q = ((1 : Nat) : Int) - 1 - (k : Nat) := ⟨_, rfl⟩
    rw [← ho, ← hq]
    refine SEx.go (X := X40) X40_ok (fun n => look [] [(4, [5, 6, 7])] n) (fun _ => none) hO 60 ?_
    intro M R L N hM hAnd hImp hR hL hN
    cases M
    cbv
    repeat' first | (refine hAnd _ _ ?_ ?_) | (refine hImp _ _ (fun h => ?_)) | (refine hR _ ?_) | (refine hL _ _ (Hd.out ?_); try first | rw [hks] | rw [hk2] | rw [hk3]) | (refine hN _ _ ?_; cbv)
    all_goals (clear hAnd hImp hR hL hN; try clear hks; try clear hk2; try clear hk3)
    all_goals (cases hM; try dsimp only)
    all_goals (try simp only [Bool.not_eq_true', Bool.not_eq_false', decide_eq_true_eq, decide_eq_false_iff_not, Int.not_le, Int.not_lt, beq_iff_eq, beq_eq_false_iff_ne, ne_eq, Int.ofNat_eq_natCast, Int.toNat_natCast, List.length_replicate, ncast, Nat.sub_zero, List.drop_zero, Cue.eta, Tie.eta, Edge.eta, Link.eta, Node.eta] at *)
    all_goals (try rw [wrap_i64 (n := q - 1) (by omega) (by omega)])
    all_goals first
      | omega
      | rfl
      | exact ⟨by decide⟩
      | (have := lim_ge; simp only [List.length_cons, List.length_nil]; omega)
      | (have ih' := ih (by omega)
         rw [decP_succ, ← ho, ← hq, show ((1 : Nat) : Int) - 1 - ((k + 1 : Nat) : Int) = q - 1 by omega] at ih'
         simp only [List.length_append, List.length_cons, List.length_nil, hol, hf2]
         exact ⟨ih'.same rfl rfl⟩)
      | (have e : k = 1 := by omega
         subst e
         rw [ho]; rfl)
      | skip
  · have hO : SOraOK Try.prog (oraL [(32, wEnP f1), (61, wMem f2)]) := by
      subst hf1 hf2
      exact oraL_cons wEnP_ok (oraL_cons wMemI_ok oraL_nil)
    have h0 : EnNe t x := ⟨h, hne⟩
    clear hN
    obtain ⟨ns, ts, hr⟩ := t
    obtain ⟨now, times, vals⟩ := x
    refine SEx.go (X := X40) X40_ok (fun n => look [] [(4, [5, 6, 7])] n) (fun _ => none) hO 60 ?_
    intro M R L N hM hAnd hImp hR hL hN
    cases M
    cbv
    repeat' first | (refine hAnd _ _ ?_ ?_) | (refine hImp _ _ (fun h => ?_)) | (refine hR _ ?_) | (refine hL _ _ (Hd.out ?_); generalize hks : (List.cons _ _ : List K) = ks) | (refine hN _ _ ?_; cbv)
    all_goals (clear hAnd hImp hR hL hN)
    all_goals (cases hM; try dsimp only)
    all_goals (try simp only [Bool.not_eq_true', Bool.not_eq_false', decide_eq_true_eq, decide_eq_false_iff_not, Int.not_le, Int.not_lt, beq_iff_eq, beq_eq_false_iff_ne, ne_eq, Int.ofNat_eq_natCast, Int.toNat_natCast, List.length_replicate, ncast, Nat.sub_zero, List.drop_zero, Cue.eta, Tie.eta, Edge.eta, Link.eta, Node.eta] at *)
    all_goals first
      | exact h0
      | omega
      | skip
    rw [← hl, hs, hs1]
    obtain ⟨n, hn⟩ : ∃ n, n = l.length := ⟨_, rfl⟩
    refine ⟨SEx.same (SEx.idx NN (fun k => ⟨26, [(5, bR 20480 n), (6, bR 24576 k), (7, bI ((NN : Int) - 1 - (k : Nat)))], [(20480, .osl (.i l)), (24576, .osl (.ii true none (decP l NN k)))]⟩) (fun _ => rIss (decP l NN NN)) ?_) (by rw [hn, show (NN : Int) - 1 - ((0 : Nat) : Int) = (NN : Int) - 1 by omega]; rfl) rfl⟩
    intro k hk ih
    rw [← hks]
    obtain ⟨o, ho⟩ : ∃ o, o = decP l NN k := ⟨_, rfl⟩
    have hol : o.length = k := by rw [ho, decP_len]
    obtain ⟨q, hq⟩ : ∃ q : Int, q = (NN : Int) - 1 - (k : Nat) := ⟨_, rfl⟩
    rw [← ho, ← hq]
    refine SEx.go (X := X40) X40_ok (fun n => look [] [(4, [5, 6, 7])] n) (fun _ => none) hO 60 ?_
    intro M R L N hM hAnd hImp hR hL hN
    cases M
    cbv
    repeat' first | (refine hAnd _ _ ?_ ?_) | (refine hImp _ _ (fun h => ?_)) | (refine hR _ ?_) | (refine hL _ _ (Hd.out ?_); try first | rw [hks] | rw [hk2] | rw [hk3]) | (refine hN _ _ ?_; cbv)
    all_goals (clear hAnd hImp hR hL hN; try clear hks; try clear hk2; try clear hk3)
    all_goals (cases hM; try dsimp only)
    all_goals (try simp only [Bool.not_eq_true', Bool.not_eq_false', decide_eq_true_eq, decide_eq_false_iff_not, Int.not_le, Int.not_lt, beq_iff_eq, beq_eq_false_iff_ne, ne_eq, Int.ofNat_eq_natCast, Int.toNat_natCast, List.length_replicate, ncast, Nat.sub_zero, List.drop_zero, Cue.eta, Tie.eta, Edge.eta, Link.eta, Node.eta] at *)
    all_goals (try rw [wrap_i64 (n := q - 1) (by omega) (by omega)])
    all_goals first
      | omega
      | rfl
      | exact ⟨by omega⟩
      | (have := lim_ge; simp only [List.length_cons, List.length_nil]; omega)
      | (have ih' := ih (by omega)
         rw [decP_succ, ← ho, ← hq, show (NN : Int) - 1 - ((k + 1 : Nat) : Int) = q - 1 by omega] at ih'
         simp only [List.length_append, List.length_cons, List.length_nil, hol, hf2]
         exact ⟨ih'.same rfl rfl⟩)
      | (have e : k = NN := by omega
         subst e
         rw [ho]; rfl)
      | skip
end Go.Proofs.Ytececadpjelanaa.Ai
