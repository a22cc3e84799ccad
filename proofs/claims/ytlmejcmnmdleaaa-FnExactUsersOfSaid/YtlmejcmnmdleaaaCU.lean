/- What the functions of the law FnExactCueOk come to. -/
import Derived.Test.YtlmejcmnmdleaaaTy
import Derived.Test.YtlmejcmnmdleaaaU
namespace Go.Proofs.Ytlmejcmnmdleaaa.Ai
open Go
set_option maxRecDepth 100000
set_option linter.unusedVariables false
set_option linter.unusedSimpArgs false
def szCueI (q : Cue) (n : Int) : Int := if n < q.name.size then -1 else n - q.name.size
theorem szCue_ok (q : Cue) (n : Int) (hs : q.name.size ≤ maxLen) (hn : 0 ≤ n ∧ n ≤ 9223372036854775807) : SCall Try.prog 56 [aCue q, aI n] (rI (szCueI q n)) := by
  refine SCall.of X56_ok (fn := Try.f56) (c := Try.f56.body.getD .skip) (dr := fun n => look 0 [] n) Try.func56 rfl (by kernel_rfl) (by kernel_rfl) (by kernel_rfl) ?_
  unfold maxLen at hs
  obtain ⟨x1, x2, x3, x4, x5, x6, x7, x8, x9, x10, x11⟩ := q
  have hs : x1.size ≤ 2 ^ 63 - 1 := hs
  refine SEx.walk (X := X56) X56_ok (fun n => look [] [] n) oraL_nil 100 ?_
  intro M R L N hM hR hL hN
  cases M
  cbv
  cases hM
  try dsimp only
  repeat' first | apply And.intro | (intro h; try simp only [Bool.not_eq_true', Bool.not_eq_false', decide_eq_true_eq, decide_eq_false_iff_not, Int.not_le, Int.not_lt, beq_iff_eq, beq_eq_false_iff_ne, ne_eq, Int.ofNat_eq_natCast, Int.toNat_natCast, List.length_replicate, ncast, Nat.sub_zero, List.drop_zero, Cue.eta, Tie.eta, Edge.eta, Link.eta, Node.eta] at h) | (refine hR _ ?_) | (refine hL _ _ (Hd.out ?_)) | (refine hN _ _ (Hd.out ?_))
  all_goals rw [wrap_i64 (by omega) (by omega)] at *
  all_goals simp only [er_I, szCueI]
  all_goals split <;> omega
theorem toCue_ok (q : Cue) : SCall Try.prog 58 [aCue q] (rCue q) := by
  refine SCall.of X58_ok (fn := Try.f58) (c := Try.f58.body.getD .skip) (dr := fun n => look 0 [] n) Try.func58 rfl (by kernel_rfl) (by kernel_rfl) (by kernel_rfl) ?_
  obtain ⟨x1, x2, x3, x4, x5, x6, x7, x8, x9, x10, x11⟩ := q
  refine SEx.walk (X := X58) X58_ok (fun n => look [] [] n) oraL_nil 100 ?_
  intro M R L N hM hR hL hN
  cases M
  cbv
  cases hM
  try dsimp only
  repeat' first | apply And.intro | (intro h; try simp only [Bool.not_eq_true', Bool.not_eq_false', decide_eq_true_eq, decide_eq_false_iff_not, Int.not_le, Int.not_lt, beq_iff_eq, beq_eq_false_iff_ne, ne_eq, Int.ofNat_eq_natCast, Int.toNat_natCast, List.length_replicate, ncast, Nat.sub_zero, List.drop_zero, Cue.eta, Tie.eta, Edge.eta, Link.eta, Node.eta] at h) | (refine hR _ ?_) | (refine hL _ _ (Hd.out ?_)) | (refine hN _ _ (Hd.out ?_))
  rfl
def wSzCue (f : Cue → Int → Int) : Wr := w2 dcCue dcI (fun q n => rI (f q n)) (fun q n => [SLen q.name, IRng n])
theorem wSzCue_ok : WrOK Try.prog 56 (wSzCue szCueI) := w2_ok fun q n h => szCue_ok q n (h _ (.head _)).out (h _ (.tail _ (.head _))).out
def wToCue : Wr := w1 dcCue rCue (fun _ => [])
theorem wToCue_ok : WrOK Try.prog 58 wToCue := w1_ok fun q _ => toCue_ok q
end Go.Proofs.Ytlmejcmnmdleaaa.Ai
