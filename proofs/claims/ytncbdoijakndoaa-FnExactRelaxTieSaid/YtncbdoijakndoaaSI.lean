/- Sheets, part 2. -/
import Derived.Test.YtncbdoijakndoaaTy
import Derived.Test.YtncbdoijakndoaaU
import Derived.Test.YtncbdoijakndoaaCU
import Derived.Test.YtncbdoijakndoaaSH
namespace Go.Proofs.Ytncbdoijakndoaa.Ai
open Go
set_option maxRecDepth 100000
set_option linter.unusedVariables false
set_option linter.unusedSimpArgs false
theorem toCueS_ok (l : List Cue) (hs : l.length ≤ 1048576) : SCall Try.prog 39 [aCues l] (rCues l) := by
  refine SCall.of X39_ok (fn := Try.f39) (c := Try.f39.body.getD .skip) (dr := fun n => look 0 [] n) Try.func39 rfl (by kernel_rfl) (by kernel_rfl) (by kernel_rfl) ?_
  have hO : SOraOK Try.prog (oraL [(68, wToCue)]) := oraL_cons wToCue_ok oraL_nil
  refine SEx.go (X := X39) X39_ok (fun n => look [] [(3, [0, 3, 4])] n) (fun _ => none) hO 60 ?_
  intro M R L N hM hAnd hImp hR hL hN
  cases M
  cbv
  repeat' first | (refine hAnd _ _ ?_ ?_) | (refine hImp _ _ (fun h => ?_)) | (refine hR _ ?_) | (refine hL _ _ (Hd.out ?_); generalize hks : (List.cons _ _ : List K) = ks) | (refine hN _ _ ?_; cbv)
  all_goals (clear hAnd hImp hR hL hN)
  all_goals (cases hM; try dsimp only)
  all_goals (try simp only [Bool.not_eq_true', Bool.not_eq_false', decide_eq_true_eq, decide_eq_false_iff_not, Int.not_le, Int.not_lt, beq_iff_eq, beq_eq_false_iff_ne, ne_eq, Int.ofNat_eq_natCast, Int.toNat_natCast, List.length_replicate, ncast, Nat.sub_zero, List.drop_zero, Cue.eta, Tie.eta, Edge.eta, Link.eta, Node.eta] at *)
  · have := lim_ge; omega
  generalize hn : l.length = n at *
  refine ⟨SEx.same (SEx.ind (fun i : Nat => ⟨23, [(0, .v (false, [.fz (.sl (.cue l))])), (3, .v (false, [.rf (12288, []) true 0 n])), (4, .v (false, [.fz (.int .i64 i)]))], [(12288, .osl (.cue (fillL ⟨⟨#[]⟩, 0, false, 0, 0, 0, 0, false, 0, 0, 0⟩ l n i)))]⟩) (fun _ => rCues l) (fun i => i ≤ n) (fun i => n - i) 0 (Nat.zero_le _) ?_) rfl rfl⟩
  intro i hi ih
  rw [← hks]
  obtain ⟨fl, hfl⟩ : ∃ x, x = fillL (⟨⟨#[]⟩, 0, false, 0, 0, 0, 0, false, 0, 0, 0⟩ : Cue) l n i := ⟨_, rfl⟩
  have hf := fillL_len (z := (⟨⟨#[]⟩, 0, false, 0, 0, 0, 0, false, 0, 0, 0⟩ : Cue)) hn hi
  rw [← hfl] at hf ⊢
  refine SEx.go (X := X39) X39_ok (fun n => look [] [(3, [0, 3, 4])] n) (fun _ => none) hO 60 ?_
  intro M R L N hM hAnd hImp hR hL hN
  cases M
  cbv
  repeat' first | (refine hAnd _ _ ?_ ?_) | (refine hImp _ _ (fun h => ?_)) | (refine hR _ ?_) | (refine hL _ _ (Hd.out ?_); try first | rw [hks] | rw [hk2] | rw [hk3]) | (refine hN _ _ ?_; cbv)
  all_goals (clear hAnd hImp hR hL hN; try clear hks; try clear hk2; try clear hk3)
  all_goals (cases hM; try dsimp only)
  all_goals (try simp only [Bool.not_eq_true', Bool.not_eq_false', decide_eq_true_eq, decide_eq_false_iff_not, Int.not_le, Int.not_lt, beq_iff_eq, beq_eq_false_iff_ne, ne_eq, Int.ofNat_eq_natCast, Int.toNat_natCast, List.length_replicate, ncast, Nat.sub_zero, List.drop_zero, Cue.eta, Tie.eta, Edge.eta, Link.eta, Node.eta] at *)
  all_goals (try simp only [modL_length] at *)
  all_goals (try omega)
  · simp only [wrap_succ (show i < 9223372036854775807 by omega), modL_modL, modL_const, hfl]
    have e := fillL_succ (z := (⟨⟨#[]⟩, 0, false, 0, 0, 0, 0, false, 0, 0, 0⟩ : Cue)) (d := Cue.z) hn (show i < n by omega)
    have ih' := ih (i + 1) (by omega) (by omega)
    rw [← e] at ih'
    exact ⟨ih'⟩
  · obtain rfl : i = n := by omega
    rw [hfl, fillL_all hn]; rfl
def szCueF : List Cue → Int → Int
  | [], n => n
  | q :: r, n => if szCueI q n < 0 then -1 else szCueF r (szCueI q n)
theorem szCueF_drop {l : List Cue} {i : Nat} {m : Int} (z : Cue) (h : i < l.length) : szCueF (l.drop i) m = if szCueI (l.getD i z) m < 0 then -1 else szCueF (l.drop (i + 1)) (szCueI (l.getD i z) m) := by
  rw [List.drop_eq_getElem_cons h, getD_get h]
  rfl
theorem szCueI_le (q : Cue) {m : Int} (h : 0 ≤ m) : szCueI q m ≤ m := by unfold szCueI; split <;> omega
def szCueSI (l : List Cue) (n : Int) : Int := if n < l.length then -1 else szCueF l (n - l.length)
theorem szCueS_ok (l : List Cue) (n : Int) (hs : l.length ≤ maxLen) (hq : ∀ q ∈ l, q.name.size ≤ maxLen) (hn : 0 ≤ n ∧ n ≤ 9223372036854775807) : SCall Try.prog 35 [aCues l, aI n] (rI (szCueSI l n)) := by
  refine SCall.of X35_ok (fn := Try.f35) (c := Try.f35.body.getD .skip) (dr := fun n => look 0 [] n) Try.func35 rfl (by kernel_rfl) (by kernel_rfl) (by kernel_rfl) ?_
  unfold maxLen at hs
  obtain ⟨g, hg⟩ : ∃ g, g = szCueI := ⟨_, rfl⟩
  have hO : SOraOK Try.prog (oraL [(62, wSzCue g)]) := by subst hg; exact oraL_cons wSzCue_ok oraL_nil
  refine SEx.go (X := X35) X35_ok (fun n => look [] [(5, [0, 1, 5])] n) (fun _ => none) hO 60 ?_
  intro M R L N hM hAnd hImp hR hL hN
  cases M
  cbv
  repeat' first | (refine hAnd _ _ ?_ ?_) | (refine hImp _ _ (fun h => ?_)) | (refine hR _ ?_) | (refine hL _ _ (Hd.out ?_); generalize hks : (List.cons _ _ : List K) = ks) | (refine hN _ _ ?_; cbv)
  all_goals (clear hAnd hImp hR hL hN)
  all_goals (cases hM; try dsimp only)
  all_goals (try simp only [Bool.not_eq_true', Bool.not_eq_false', decide_eq_true_eq, decide_eq_false_iff_not, Int.not_le, Int.not_lt, beq_iff_eq, beq_eq_false_iff_ne, ne_eq, Int.ofNat_eq_natCast, Int.toNat_natCast, List.length_replicate, ncast, Nat.sub_zero, List.drop_zero, Cue.eta, Tie.eta, Edge.eta, Link.eta, Node.eta] at *)
  · rw [wrap_i64 (by omega) (by omega)] at *
    simp only [er_I, szCueSI]
    split <;> omega
  rw [wrap_i64 (by omega) (by omega)] at *
  have h0 : 0 ≤ n - l.length := by assumption
  rw [show szCueSI l n = szCueF (l.drop 0) (n - l.length) by unfold szCueSI; rw [if_neg (by omega)]; rfl]
  refine ⟨SEx.same (SEx.ind (fun x : Nat × Int => ⟨27, [(0, .v (false, [.fz (.sl (.cue l))])), (1, .v (false, [.fz (.int .i64 x.2)])), (5, .v (false, [.fz (.int .i64 x.1)]))], []⟩) (fun x => rI (szCueF (l.drop x.1) x.2)) (fun x => x.1 ≤ l.length ∧ 0 ≤ x.2 ∧ x.2 ≤ n) (fun x => l.length - x.1) (0, n - l.length) ⟨Nat.zero_le _, by omega, by omega⟩ ?_) rfl rfl⟩
  rintro ⟨i, m⟩ ⟨hi, hm1, hm2⟩ ih
  dsimp only at hi hm1 hm2 ih ⊢
  rw [← hks]
  refine SEx.go (X := X35) X35_ok (fun n => look [] [(5, [0, 1, 5])] n) (fun _ => none) hO 60 ?_
  intro M R L N hM hAnd hImp hR hL hN
  cases M
  cbv
  repeat' first | (refine hAnd _ _ ?_ ?_) | (refine hImp _ _ (fun h => ?_)) | (refine hR _ ?_) | (refine hL _ _ (Hd.out ?_); try first | rw [hks] | rw [hk2] | rw [hk3]) | (refine hN _ _ ?_; cbv)
  all_goals (clear hAnd hImp hR hL hN; try clear hks; try clear hk2; try clear hk3)
  all_goals (cases hM; try dsimp only)
  all_goals (try simp only [Bool.not_eq_true', Bool.not_eq_false', decide_eq_true_eq, decide_eq_false_iff_not, Int.not_le, Int.not_lt, beq_iff_eq, beq_eq_false_iff_ne, ne_eq, Int.ofNat_eq_natCast, Int.toNat_natCast, List.length_replicate, ncast, Nat.sub_zero, List.drop_zero, Cue.eta, Tie.eta, Edge.eta, Link.eta, Node.eta] at *)
  · omega
  · exact ⟨by rw [getD_get (show i < l.length by omega)]; exact hq _ (List.getElem_mem _)⟩
  · exact ⟨hm1, by omega⟩
  · subst hg
    have hi' : i < l.length := by omega
    rw [szCueF_drop Cue.z hi', if_pos (by assumption)]
    rfl
  · subst hg
    have hi' : i < l.length := by omega
    have h2 : 0 ≤ szCueI (l.getD i Cue.z) m := by assumption
    have h3 := szCueI_le (l.getD i Cue.z) hm1
    simp only [wrap_succ (show i < 9223372036854775807 by omega)]
    exact ⟨(ih (i + 1, szCueI (l.getD i Cue.z) m) ⟨by show i + 1 ≤ l.length; omega, h2, by show szCueI _ m ≤ n; omega⟩ (by show l.length - (i + 1) < _; omega)).same rfl (by rw [szCueF_drop Cue.z hi', if_neg (by omega)])⟩
  · obtain rfl : i = l.length := by omega
    rw [List.drop_length]
    rfl
def wToCueS : Wr := w1 dcCues rCues (fun l => [LLe l 1048576])
theorem wToCueS_ok : WrOK Try.prog 39 wToCueS := w1_ok fun l h => toCueS_ok l (h _ (.head _)).out
/-- The names are texts. -/
structure NamesOk (l : List Cue) : Prop where out : ∀ q ∈ l, q.name.size ≤ maxLen
def wSzCueS (f : List Cue → Int → Int) : Wr := w2 dcCues dcI (fun l n => rI (f l n)) (fun l n => [LLe l maxLen, NamesOk l, IRng n])
theorem wSzCueS_ok : WrOK Try.prog 35 (wSzCueS szCueSI) := w2_ok fun l n h => szCueS_ok l n (h _ (.head _)).out (h _ (.tail _ (.head _))).out (h _ (.tail _ (.tail _ (.head _)))).out
end Go.Proofs.Ytncbdoijakndoaa.Ai
