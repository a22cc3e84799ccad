/- Slices of slices: equality, marks. -/
import Derived.Test.YtececadpjelanaaTy
import Derived.Test.YtececadpjelanaaMK
namespace Go.Proofs.Ytececadpjelanaa.Ai
open Go
set_option maxRecDepth 100000
set_option linter.unusedVariables false
set_option linter.unusedSimpArgs false
theorem eqIntSS_ok (l : List (List Int)) (hs : l.length ≤ maxLen) (hx : ∀ x ∈ l, x.length ≤ maxLen) : SCall Try.prog 20 [aIss l, aIss l] (rB true) := by
  refine SCall.of X20_ok (fn := Try.f20) (c := Try.f20.body.getD .skip) (dr := fun n => look 0 [(6, 8)] n) Try.func20 rfl (by kernel_rfl) (by kernel_rfl) (by kernel_rfl) ?_
  unfold maxLen at hs
  have hO : SOraOK Try.prog (oraL [(11, wEqIntS)]) := oraL_cons wEqIntS_ok oraL_nil
  refine SEx.go (X := X20) X20_ok (fun n => look [] [(4, [0, 1, 5])] n) (fun _ => none) hO 60 ?_
  intro M R L N hM hAnd hImp hR hL hN
  cases M
  cbv
  repeat' first | (refine hAnd _ _ ?_ ?_) | (refine hImp _ _ (fun h => ?_)) | (refine hR _ ?_) | (refine hL _ _ (Hd.out ?_); generalize hks : (List.cons _ _ : List K) = ks) | (refine hN _ _ ?_; cbv)
  all_goals (clear hAnd hImp hR hL hN)
  all_goals (cases hM; try dsimp only)
  all_goals (try simp only [Bool.not_eq_true', Bool.not_eq_false', decide_eq_true_eq, decide_eq_false_iff_not, Int.not_le, Int.not_lt, beq_iff_eq, beq_eq_false_iff_ne, ne_eq, Int.ofNat_eq_natCast, Int.toNat_natCast, List.length_replicate, ncast, Nat.sub_zero, List.drop_zero, Cue.eta, Tie.eta, Edge.eta, Link.eta, Node.eta] at *)
  · exact absurd trivial (by assumption)
  generalize hn : l.length = n at *
  refine ⟨SEx.same (SEx.idx n (fun i => ⟨27, [(0, .v (false, [.fz (.sl (.ii false none l))])), (1, .v (false, [.fz (.sl (.ii false none l))])), (5, .v (false, [.fz (.int .i64 i)]))], []⟩) (fun _ => rB true) ?_) rfl rfl⟩
  intro i hi ih
  rw [← hks]
  refine SEx.go (X := X20) X20_ok (fun n => look [] [(4, [0, 1, 5])] n) (fun _ => none) hO 60 ?_
  intro M R L N hM hAnd hImp hR hL hN
  cases M
  cbv
  repeat' first | (refine hAnd _ _ ?_ ?_) | (refine hImp _ _ (fun h => ?_)) | (refine hR _ ?_) | (refine hL _ _ (Hd.out ?_); try first | rw [hks] | rw [hk2] | rw [hk3]) | (refine hN _ _ ?_; cbv)
  all_goals (clear hAnd hImp hR hL hN; try clear hks; try clear hk2; try clear hk3)
  all_goals (cases hM; try dsimp only)
  all_goals (try simp only [Bool.not_eq_true', Bool.not_eq_false', decide_eq_true_eq, decide_eq_false_iff_not, Int.not_le, Int.not_lt, beq_iff_eq, beq_eq_false_iff_ne, ne_eq, Int.ofNat_eq_natCast, Int.toNat_natCast, List.length_replicate, ncast, Nat.sub_zero, List.drop_zero, Cue.eta, Tie.eta, Edge.eta, Link.eta, Node.eta] at *)
  all_goals first
    | omega
    | exact absurd trivial (by assumption)
    | rfl
    | exact ⟨rfl⟩
    | contradiction
    | exact ⟨hx _ (mem_getD (z := ([] : List Int)) (by omega)).out⟩
    | (simp only [wrap_succ (show i < 9223372036854775807 by omega)]; exact ⟨ih (by omega)⟩)
    | trace_state
structure LAll (l : List (List Int)) (n : Nat) : Prop where out : ∀ x ∈ l, x.length ≤ n
def wEqIntSS : Wr := w2 dcIss dcIss (fun _ _ => rB true) (fun l m => [Same l m, LLe l maxLen, LAll l maxLen])
theorem wEqIntSS_ok : WrOK Try.prog 20 wEqIntSS := w2_ok fun l m h => by
  obtain rfl := (h _ (.head _)).out
  exact eqIntSS_ok l (h _ (.tail _ (.head _))).out (h _ (.tail _ (.tail _ (.head _)))).out
def kkS (k : Int) (l : List (List Int)) (i : Nat) : Int := k + (((l.take i).map List.length).sum : Nat)
theorem kkS_zero (k : Int) (l : List (List Int)) : kkS k l 0 = k := by simp [kkS]
theorem kkS_succ {k : Int} {l : List (List Int)} {i : Nat} (h : i < l.length) : kkS k l (i + 1) = addI (kkS k l i) (l.getD i []).length := by
  unfold kkS addI
  rw [List.take_add_one, List.getElem?_eq_getElem h, getD_get h, Option.toList_some, List.map_append, List.sum_append, List.map_cons, List.map_nil, List.sum_cons, List.sum_nil]
  omega
theorem kkS_mono (k : Int) (l : List (List Int)) (i : Nat) : ∀ d, kkS k l i ≤ kkS k l (i + d)
  | 0 => Int.le_refl _
  | d + 1 => by
    by_cases h : i + d < l.length
    · rw [← Nat.add_assoc, kkS_succ h]
      have := kkS_mono k l i d
      unfold addI
      omega
    · have h1 : kkS k l (i + d + 1) = kkS k l (i + d) := by unfold kkS; rw [List.take_of_length_le (by omega), List.take_of_length_le (by omega)]
      have := kkS_mono k l i d
      rw [← Nat.add_assoc]
      omega
def mE (k : Int) (l : List (List Int)) (j : Nat) : List Int := markI (kkS k l j) (l.getD j []).length
def mSS (k : Int) (l : List (List Int)) (i : Nat) : List (List Int) := (List.range i).map (mE k l)
theorem mSS_len (k : Int) (l : List (List Int)) (i : Nat) : (mSS k l i).length = i := by simp [mSS]
theorem mSS_succ (k : Int) (l : List (List Int)) (i : Nat) : mSS k l (i + 1) = mSS k l i ++ [mE k l i] := by simp [mSS, List.range_succ]
theorem mSS_step {k : Int} {i : Nat} {l : List (List Int)} (hi : i < l.length) : (mSS k l i ++ l.drop i).set i (mE k l i) = mSS k l (i + 1) ++ l.drop (i + 1) := by
  rw [List.set_append_right _ _ (by rw [mSS_len]; omega), mSS_len, Nat.sub_self, mSS_succ, List.append_assoc, List.drop_eq_getElem_cons hi]; rfl
theorem mSS_here {k : Int} {i : Nat} {l : List (List Int)} (hi : i < l.length) : (mSS k l i ++ l.drop i).getD i [] = l.getD i [] := by
  rw [List.getD_eq_getElem?_getD, List.getElem?_append_right (by rw [mSS_len]; omega), mSS_len, Nat.sub_self, List.getElem?_drop, Nat.add_zero, List.getD_eq_getElem?_getD]
theorem markIntSS_ok (l : List (List Int)) (k : Int) (hl : l.length ≤ maxLen) (hx : ∀ x ∈ l, x.length ≤ maxLen) (hk : 0 ≤ k ∧ kkS k l l.length ≤ 4611686018427387904) :
    SCallW Try.prog 21 [wR l.length, bI1 k] [(lrt 0, .osl (.ii true none l))] [.rf (lrt 0, []) true 0 l.length] (.v (bI1 (kkS k l l.length))) [(lrt 0, .osl (.ii true none (mSS k l l.length)))] [.rf (lrt 0, []) true 0 l.length] := by
  refine SCallW.of X21_ok (fn := Try.f21) (c := Try.f21.body.getD .skip) (dr := fun n => look 0 [] n) (r := (_, _, _)) Try.func21 rfl (by kernel_rfl) (by kernel_rfl) (by kernel_rfl) ?_
  generalize hn : l.length = n at *
  refine SExW.go (X := X21) X21_ok (fun n => look [] [(2, [0, 1, 5, 4294967296])] n) (fun _ => none) oraL_nil 60 1 ?_
  intro M R L N hM hAnd hImp hR hL hN
  cases M
  cbv
  repeat' first | (refine hAnd _ _ ?_ ?_) | (refine hImp _ _ (fun h => ?_)) | (refine hR _ ?_) | (refine hL _ _ (Hd.out ?_); generalize hks : (List.cons _ _ : List K) = ks) | (refine hN _ _ ?_; cbv)
  all_goals (clear hAnd hImp hR hL hN)
  all_goals (cases hM; try dsimp only)
  all_goals (try simp only [Bool.not_eq_true', Bool.not_eq_false', decide_eq_true_eq, decide_eq_false_iff_not, Int.not_le, Int.not_lt, beq_iff_eq, beq_eq_false_iff_ne, ne_eq, Int.ofNat_eq_natCast, Int.toNat_natCast, List.length_replicate, ncast, Nat.sub_zero, List.drop_zero, Cue.eta, Tie.eta, Edge.eta, Link.eta, Node.eta] at *)
  refine ⟨SExW.same (SExW.idx n (fun i => ⟨19, [(0, bR 41000000 n), (1, bI (kkS k l i)), (5, bI i), (4294967296, bR 41000000 n)], [(41000000, .osl (.ii true none (mSS k l i ++ l.drop i)))]⟩) (fun _ => (.v (bI1 (kkS k l n)), [(lrt 0, .osl (.ii true none (mSS k l n)))], [.rf (lrt 0, []) true 0 n])) ?_) ?_ ⟨rfl, rfl, rfl⟩⟩
  rotate_left
  · rw [kkS_zero]; rfl
  intro i hi ih
  rw [← hks]
  obtain ⟨c, hc⟩ : ∃ c, c = mSS k l i ++ l.drop i := ⟨_, rfl⟩
  have hcl : c.length = n := by rw [hc, List.length_append, mSS_len, List.length_drop]; omega
  rw [← hc]
  obtain ⟨q, hq⟩ : ∃ q, q = kkS k l i := ⟨_, rfl⟩
  rw [← hq]
  obtain ⟨f2, hf2⟩ : ∃ f, f = markI := ⟨_, rfl⟩
  obtain ⟨g2, hg2⟩ : ∃ f, f = addI := ⟨_, rfl⟩
  have hW : SOraWOK Try.prog (X21.withW [(16, [(0, 0)])] (oraWL [(16, wMarkI f2 g2)])) := by
    subst hf2 hg2
    exact SX.withW_ok (oraWL_cons wMarkI_ok oraWL_nil)
  unfold maxLen at hl
  refine SExW.go (X := (X21.withW [(16, [(0, 0)])] (oraWL [(16, wMarkI f2 g2)]))) X21_ok (fun n => look [] [(2, [0, 1, 5, 4294967296])] n) (fun _ => none) oraL_nil 60 1 ?_ hW
  intro M R L N hM hAnd hImp hR hL hN
  cases M
  cbv
  repeat' first | (refine hAnd _ _ ?_ ?_) | (refine hImp _ _ (fun h => ?_)) | (refine hR _ ?_) | (refine hL _ _ (Hd.out ?_); try rw [hks]) | (refine hN _ _ ?_; cbv)
  all_goals (clear hAnd hImp hR hL hN; try clear hks)
  all_goals (cases hM; try dsimp only)
  all_goals (try simp only [Bool.not_eq_true', Bool.not_eq_false', decide_eq_true_eq, decide_eq_false_iff_not, Int.not_le, Int.not_lt, beq_iff_eq, beq_eq_false_iff_ne, ne_eq, Int.ofNat_eq_natCast, Int.toNat_natCast, List.length_replicate, ncast, Nat.sub_zero, List.drop_zero, Cue.eta, Tie.eta, Edge.eta, Link.eta, Node.eta] at *)
  all_goals (clear hW)
  all_goals first
    | omega
    | (have hin : i < n := by omega
       subst hf2
       exact (markI_len _ _).symm)
    | (have hin : i < n := by omega
       have h3 := kkS_succ (k := k) (l := l) (i := i) (by omega)
       have h4 := kkS_mono k l (i + 1) (n - (i + 1))
       have h5 := kkS_mono k l 0 i
       rw [Nat.zero_add, kkS_zero] at h5
       rw [show i + 1 + (n - (i + 1)) = n by omega] at h4
       have h6 : c.getD i [] = l.getD i [] := by rw [hc, mSS_here (by omega)]
       rw [h6, hq]
       unfold addI at h3
       exact ⟨rfl, rfl, rfl, hx _ (mem_getD (by omega)).out, by omega, by omega⟩)
    | (have hin : i < n := by omega
       have h6 : c.getD i [] = l.getD i [] := by rw [hc, mSS_here (by omega)]
       simp only [wrap_succ (show i < 9223372036854775807 by omega)]
       refine ⟨(ih hin).same ?_ ⟨rfl, rfl, rfl⟩⟩
       subst hf2 hg2
       rw [kkS_succ (by omega), ← mSS_step (by omega), mE, ← hq, ← hc, h6]
       rfl)
    | (have hin : i = n := by omega
       subst hin
       rw [List.drop_eq_nil_of_le (by omega), List.append_nil] at hc
       subst hc; subst hq
       refine ⟨?_, ?_, ?_⟩ <;> rfl)
structure MkSS (p : SP) (n m : Nat) (l : List (List Int)) (k b : Int) : Prop where out : p = (lrt 0, []) ∧ m = n ∧ l.length = n ∧ n ≤ maxLen ∧ (∀ x ∈ l, x.length ≤ maxLen) ∧ 0 ≤ k ∧ b ≤ 4611686018427387904
def gSS (k : Int) (l : List (List Int)) : Int := kkS k l l.length
def fSS (k : Int) (l : List (List Int)) : List (List Int) := mSS k l l.length
def wMarkSS (f : Int → List (List Int) → List (List Int)) (g : Int → List (List Int) → Int) : WrW
  | [(false, [.rf p true 0 n]), (false, [.fz (.int .i64 k)])], [(.sl m, .osl (.ii true none l))] => some ([MkSS p n m l k (g k l)], (.v (bI1 (g k l)), [(lrt 0, .osl (.ii true none (f k l)))], [.rf (lrt 0, []) true 0 n]))
  | [(false, [.rf p true 0 n]), (false, [.fz (.int .i64 k)])], [(.sl m, .onil)] => some ([MkSS p n m [] k k], (.v (bI1 k), [(lrt 0, .onil)], [.rf (lrt 0, []) true 0 n]))
  | _, _ => none
theorem wMarkSS_ok : WrWOK Try.prog 21 (wMarkSS fSS gSS) := by
  intro xs ls
  unfold wMarkSS
  split
  · refine R.Sim.mk fun hp => ?_
    obtain ⟨rfl, rfl, rfl, h1, h2, h3, h4⟩ := (hp _ (.head _)).out
    exact markIntSS_ok _ _ h1 h2 ⟨h3, h4⟩
  · refine R.Sim.mk fun hp => ?_
    obtain ⟨rfl, rfl, h0, h1, h2, h3, h4⟩ := (hp _ (.head _)).out
    cases h0
    rename_i k
    have := markIntSS_ok [] k h1 h2 ⟨h3, by rw [List.length_nil, kkS_zero]; exact h4⟩
    rw [List.length_nil, kkS_zero] at this
    exact this
  · exact R.Sim.none'
theorem fSS_len (k : Int) (l : List (List Int)) : (fSS k l).length = l.length := mSS_len _ _ _
theorem fSS_getD {k : Int} {l : List (List Int)} {i : Nat} (h : i < l.length) : (fSS k l).getD i [] = mE k l i := by
  rw [getD_get (by rw [fSS_len]; exact h)]; simp [fSS, mSS]
theorem fSS_lens (k : Int) (l : List (List Int)) : (fSS k l).map List.length = l.map List.length := by
  apply List.ext_getElem
  · simp [fSS_len]
  · intro i h1 h2
    rw [List.getElem_map, List.getElem_map]
    have h3 : i < l.length := by simpa using h2
    have h4 : i < (fSS k l).length := by rw [fSS_len]; exact h3
    rw [← getD_get (z := ([] : List Int)) h4, ← getD_get (z := ([] : List Int)) h3, fSS_getD h3, mE, markI_len]
theorem kkS_lens {k : Int} {l m : List (List Int)} (h : l.map List.length = m.map List.length) (i : Nat) : kkS k l i = kkS k m i := by
  unfold kkS; rw [List.map_take, List.map_take, h]
theorem gSS_fSS (k : Int) (l : List (List Int)) : gSS k (fSS k l) = gSS k l := by
  unfold gSS; rw [fSS_len, kkS_lens (fSS_lens k l)]
theorem fSS_fSS (k : Int) (l : List (List Int)) : fSS k (fSS k l) = fSS k l := by
  apply List.ext_getElem
  · simp [fSS_len]
  · intro i h1 h2
    have h3 : i < l.length := by simpa [fSS_len] using h2
    have h4 : i < (fSS k l).length := by rw [fSS_len]; exact h3
    rw [← getD_get (z := ([] : List Int)) h1, ← getD_get (z := ([] : List Int)) h2, fSS_getD h4, fSS_getD h3, mE, kkS_lens (fSS_lens k l), fSS_getD h3, mE, markI_len]
theorem heldIntSS_ok (k : Int) (l : List (List Int)) (h1 : l.length ≤ maxLen) (hx : ∀ x ∈ l, x.length ≤ maxLen) (hk : 0 ≤ k ∧ gSS k l ≤ 4611686018427387904) : SCall Try.prog 22 [aIss (fSS k l), aI k] (rI (gSS k l)) := by
  refine SCall.of X22_ok (fn := Try.f22) (c := Try.f22.body.getD .skip) (dr := fun n => look 0 [] n) Try.func22 rfl (by kernel_rfl) (by kernel_rfl) (by kernel_rfl) ?_
  obtain ⟨n, hn⟩ : ∃ n, n = l.length := ⟨_, rfl⟩
  obtain ⟨c, hc⟩ : ∃ c, c = fSS k l := ⟨_, rfl⟩
  have hcl : c.length = n := by rw [hc, fSS_len, hn]
  obtain ⟨r, hr⟩ : ∃ r, r = gSS k l := ⟨_, rfl⟩
  rw [← hc, ← hr]
  obtain ⟨f2, hf2⟩ : ∃ f, f = markI := ⟨_, rfl⟩
  obtain ⟨g2, hg2⟩ : ∃ f, f = addI := ⟨_, rfl⟩
  obtain ⟨ln, hln⟩ : ∃ f, f = @List.length Int := ⟨_, rfl⟩
  have hO : SOraOK Try.prog (oraL [(17, wHeldI g2 f2 ln)]) := by subst hf2 hg2 hln; exact oraL_cons wHeldI_ok oraL_nil
  refine SEx.go (X := X22) X22_ok (fun n => look [] [(2, [0, 1, 5])] n) (fun _ => none) hO 60 ?_
  intro M R L N hM hAnd hImp hR hL hN
  cases M
  cbv
  repeat' first | (refine hAnd _ _ ?_ ?_) | (refine hImp _ _ (fun h => ?_)) | (refine hR _ ?_) | (refine hL _ _ (Hd.out ?_); generalize hks : (List.cons _ _ : List K) = ks) | (refine hN _ _ ?_; cbv)
  all_goals (clear hAnd hImp hR hL hN)
  all_goals (cases hM; try dsimp only)
  all_goals (try simp only [Bool.not_eq_true', Bool.not_eq_false', decide_eq_true_eq, decide_eq_false_iff_not, Int.not_le, Int.not_lt, beq_iff_eq, beq_eq_false_iff_ne, ne_eq, Int.ofNat_eq_natCast, Int.toNat_natCast, List.length_replicate, ncast, Nat.sub_zero, List.drop_zero, Cue.eta, Tie.eta, Edge.eta, Link.eta, Node.eta] at *)
  refine ⟨SEx.same (SEx.idx n (fun i => ⟨21, [(0, .v (false, [.fz (.sl (.ii false none c))])), (1, bI (kkS k l i)), (5, bI i)], []⟩) (fun _ => rI r) ?_) (by rw [kkS_zero]; rfl) rfl⟩
  intro i hi ih
  rw [← hks]
  obtain ⟨q, hq⟩ : ∃ q, q = kkS k l i := ⟨_, rfl⟩
  have h5 := kkS_mono k l 0 i
  rw [Nat.zero_add, kkS_zero, ← hq] at h5
  rw [← hq]
  have hE : i < n → c.getD i [] = f2 q (l.getD i []).length := fun h => by rw [hc, hf2, hq, fSS_getD (by omega)]; rfl
  have hN : i < n → kkS k l (i + 1) = q + (l.getD i []).length := fun h => by rw [kkS_succ (by omega), hq]; rfl
  have hM : i < n → kkS k l (i + 1) ≤ 4611686018427387904 := fun h => by
    have h4 := kkS_mono k l (i + 1) (n - (i + 1))
    rw [show i + 1 + (n - (i + 1)) = l.length by omega] at h4
    have := hk.2
    unfold gSS at this
    omega
  have hX : i < n → (l.getD i []).length ≤ maxLen := fun h => hx _ (mem_getD (by omega)).out
  unfold maxLen at h1
  refine SEx.go (X := X22) X22_ok (fun n => look [] [(2, [0, 1, 5])] n) (fun _ => none) hO 60 ?_
  intro M R L N hM hAnd hImp hR hL hN
  cases M
  cbv
  repeat' first | (refine hAnd _ _ ?_ ?_) | (refine hImp _ _ (fun h => ?_)) | (refine hR _ ?_) | (refine hL _ _ (Hd.out ?_); try first | rw [hks] | rw [hk2] | rw [hk3]) | (refine hN _ _ ?_; cbv)
  all_goals (clear hAnd hImp hR hL hN; try clear hks; try clear hk2; try clear hk3)
  all_goals (cases hM; try dsimp only)
  all_goals (try simp only [Bool.not_eq_true', Bool.not_eq_false', decide_eq_true_eq, decide_eq_false_iff_not, Int.not_le, Int.not_lt, beq_iff_eq, beq_eq_false_iff_ne, ne_eq, Int.ofNat_eq_natCast, Int.toNat_natCast, List.length_replicate, ncast, Nat.sub_zero, List.drop_zero, Cue.eta, Tie.eta, Edge.eta, Link.eta, Node.eta] at *)
  all_goals (clear hO)
  all_goals first
    | omega
    | (have hin : i < n := by omega
       rw [hE hin]; subst hf2 hln
       refine ⟨?_⟩
       rw [markI_len]
       done)
    | (have hin : i < n := by omega
       rw [hE hin]; subst hf2
       refine ⟨?_⟩
       rw [markI_len]
       exact hX hin)
    | (have hin : i < n := by omega
       rw [hE hin]; subst hf2 hln
       refine ⟨?_⟩
       rw [markI_len]
       have := hN hin
       have := hM hin
       omega)
    | (have hin : i < n := by omega
       exfalso
       rw [hE hin] at h; subst hf2 hln hg2
       rw [markI_len] at h
       unfold addI at h
       omega)
    | (have hin : i < n := by omega
       have h7 : g2 q (ln (c.getD i [])) = q + (l.getD i []).length := by rw [hE hin]; subst hf2 hln hg2; rw [markI_len]; rfl
       simp only [wrap_succ (show i < 9223372036854775807 by omega), h7]
       refine ⟨(ih hin).same ?_ rfl⟩
       rw [hN hin]
       rfl)
    | (have hin : i = n := by omega
       subst hin
       subst hr hq
       rw [hn]; rfl)
    | trace_state
structure HSS (k b : Int) : Prop where out : 0 ≤ k ∧ b ≤ 4611686018427387904
def wHeldSS (f : Int → List (List Int) → List (List Int)) (g : Int → List (List Int) → Int) : Wr := w2 dcIss dcI (fun l k => rI (g k l)) (fun l k => [Same l (f k l), LLe l maxLen, LAll l maxLen, HSS k (g k l)])
theorem wHeldSS_ok : WrOK Try.prog 22 (wHeldSS fSS gSS) := w2_ok fun l k h => by
  have e := (h _ (.head _)).out
  have h1 := (h _ (.tail _ (.head _))).out
  have h2 := (h _ (.tail _ (.tail _ (.head _)))).out
  have h3 := (h _ (.tail _ (.tail _ (.tail _ (.head _))))).out
  have := heldIntSS_ok k l h1 h2 h3
  rwa [← e] at this
end Go.Proofs.Ytececadpjelanaa.Ai
