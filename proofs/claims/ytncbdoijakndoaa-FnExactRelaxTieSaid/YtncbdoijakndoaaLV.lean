/- Ties with another High. -/
import Derived.Test.YtncbdoijakndoaaTy
import Derived.Test.YtncbdoijakndoaaU
import Derived.Test.YtncbdoijakndoaaSN
import Derived.Test.YtncbdoijakndoaaLI
import Derived.Test.YtncbdoijakndoaaLJ
import Derived.Test.YtncbdoijakndoaaLU
namespace Go.Proofs.Ytncbdoijakndoaa.Ai
open Go
set_option maxRecDepth 100000
set_option linter.unusedVariables false
set_option linter.unusedSimpArgs false
def wideS (t : Show) (k b : Int) : Show := ⟨t.nodes, modL Tie.z t.ties k.toNat (fun q => { q with high := IntKind.i64.wrap ((t.ties.getD k.toNat Tie.z).high + b) }), t.hor⟩
def wideC (t : Show) (k : Int) (fr : Bool) : Bool := showB t && (decide (0 ≤ k ∧ k < t.ties.length) && ((t.ties.getD k.toNat Tie.z).free == fr))
def wideOk (t : Show) (k b : Int) (fr : Bool) : Bool := wideC t k fr && showB (wideS t k b)
def rWid (t : Show) (b : Bool) : TV W := .tup [(true, t.w), (false, [.fz (.bool false b)])]
def wideR (s : Show) (b : Bool) : TV W := match b with | true => rWid s true | false => rWid ⟨[], [], 0⟩ false
def wideX (t : Show) (k b : Int) (fr : Bool) : Show := match wideOk t k b fr with | true => wideS t k b | false => ⟨[], [], 0⟩
theorem wideR_eq (t : Show) (k b : Int) (fr : Bool) : wideR (wideS t k b) (wideOk t k b fr) = rWid (wideX t k b fr) (wideOk t k b fr) := by
  unfold wideX wideR
  cases wideOk t k b fr <;> rfl
theorem wideS_le {t : Show} (h : ShowLe t) (k b : Int) : ShowLe (wideS t k b) := ⟨h.len, by unfold wideS; rw [modL_length]; exact h.tlen, h.nodes⟩
theorem widened_ok (t : Show) (k b : Int) (fr : Bool) (ht : ShowLe t) (hz : ShowMem t) (hk : inI k) : SCall Try.prog 28 [aShow t, aI k, aI b, aB fr] (wideR (wideS t k b) (wideOk t k b fr)) := by
  refine SCall.of X28_ok (fn := Try.f28) (c := Try.f28.body.getD .skip) (dr := fun n => look 0 [] n) Try.func28 rfl (by kernel_rfl) (by kernel_rfl) (by kernel_rfl) ?_
  rw [inI_iff] at hk
  have ho := wideS_le ht k b
  have h1 := ht.tlen
  obtain ⟨f1, hf1⟩ : ∃ f, f = showB := ⟨_, rfl⟩
  obtain ⟨f0, hf0⟩ : ∃ f, f = isNodeB := ⟨_, rfl⟩
  have hO : SOraOK Try.prog (oraL [(46, wShowOk f1), (56, wIsNode f0), (57, wCopyShow)]) := by
    subst hf1 hf0
    exact oraL_cons wShowOkI_ok (oraL_cons wIsNode_ok (oraL_cons wCopyShow_ok oraL_nil))
  obtain ⟨s, hs⟩ : ∃ s, s = wideS t k b := ⟨_, rfl⟩
  obtain ⟨r, hr⟩ : ∃ r, r = wideOk t k b fr := ⟨_, rfl⟩
  rw [← hs, ← hr]
  obtain ⟨ns, ts, h0⟩ := t
  dsimp only at h1
  have hre : r = (f1 ⟨ns, ts, h0⟩ && (decide (0 ≤ k ∧ k < ts.length) && ((ts.getD k.toNat Tie.z).free == fr)) && f1 s) := by rw [hr, hs, hf1]; rfl
  have hse : s = ⟨ns, modL Tie.z ts k.toNat (fun q => { q with high := IntKind.i64.wrap ((ts.getD k.toNat Tie.z).high + b) }), h0⟩ := hs
  rw [← hs] at ho
  have hft : f0 ts.length k = true → 0 ≤ k ∧ k < ts.length := fun h => by rw [hf0] at h; exact of_decide_eq_true h
  have hff : f0 ts.length k = false → ¬ (0 ≤ k ∧ k < ts.length) := fun h => by rw [hf0] at h; exact of_decide_eq_false h
  have hF1 : f1 ⟨ns, ts, h0⟩ = false → r = false := fun h => by rw [hre, h]; rfl
  have hF2 : ¬ (0 ≤ k ∧ k < ts.length) → r = false := fun h => by rw [hre, decide_eq_false h]; simp
  have hF3 : ¬ (ts.getD k.toNat Tie.z).free = fr → r = false := fun h => by rw [hre, beq_eq_false_iff_ne.2 h]; simp
  have hF4 : f1 s = false → r = false := fun h => by rw [hre, h]; simp
  have hF5 : f1 ⟨ns, ts, h0⟩ = true → (0 ≤ k ∧ k < ts.length) → (ts.getD k.toNat Tie.z).free = fr → f1 s = true → r = true := fun a b c d => by rw [hre, a, decide_eq_true b, beq_iff_eq.2 c, d]; rfl
  rw [hse] at hF4 hF5 ho ⊢
  clear hr hs hf1 hre hse
  delta Tie.free at hF3 hF5
  delta Tie.high Tie.src Tie.dst Tie.low Tie.free at hF4 hF5 ho ⊢
  unfold maxLen at h1
  refine SEx.go (X := X28) X28_ok (fun n => look [] [] n) (fun _ => none) hO 90 ?_
  intro M R L N hM hAnd hImp hR hL hN
  cases M
  cbv
  repeat' first | (refine hAnd _ _ ?_ ?_) | (refine hImp _ _ (fun h => ?_)) | (refine hR _ ?_) | (refine hL _ _ (Hd.out ?_); try first | rw [hks] | rw [hk2] | rw [hk3]) | (refine hN _ _ ?_; cbv)
  all_goals (clear hAnd hImp hR hL hN; try clear hks; try clear hk2; try clear hk3)
  all_goals (cases hM; try dsimp only)
  all_goals (try simp only [Bool.not_eq_true', Bool.not_eq_false', decide_eq_true_eq, decide_eq_false_iff_not, Int.not_le, Int.not_lt, beq_iff_eq, beq_eq_false_iff_ne, ne_eq, Int.ofNat_eq_natCast, Int.toNat_natCast, List.length_replicate, ncast, Nat.sub_zero, List.drop_zero, Cue.eta, Tie.eta, Edge.eta, Link.eta, Node.eta] at *)
  all_goals (clear hO)
  all_goals (try (have hq := hft (by assumption)))
  all_goals first
    | exact ht
    | exact hz
    | exact ho
    | exact hq
    | omega
    | (rw [hF1 (by assumption)]; rfl)
    | (rw [hF2 (hff (by assumption))]; rfl)
    | (rw [hF3 (by assumption)]; rfl)
    | (rw [hF4 (by assumption)]; rfl)
    | (rw [hF5 (by assumption) hq (by assumption) (by assumption)]; rfl)
    | skip
end Go.Proofs.Ytncbdoijakndoaa.Ai
