/- Relaxed and hurried ties. -/
import Derived.Test.YtncbdoijakndoaaTy
import Derived.Test.YtncbdoijakndoaaU
import Derived.Test.YtncbdoijakndoaaOB
import Derived.Test.YtncbdoijakndoaaLI
import Derived.Test.YtncbdoijakndoaaLJ
import Derived.Test.YtncbdoijakndoaaLU
import Derived.Test.YtncbdoijakndoaaLV
namespace Go.Proofs.Ytncbdoijakndoaa.Ai
open Go
set_option maxRecDepth 100000
set_option linter.unusedVariables false
set_option linter.unusedSimpArgs false
def sgB (fr : Bool) (y : Int) : Int := match fr with | true => -y | false => y
def tieOk (fr : Bool) (t : Show) (k y : Int) : Bool := decide (0 ≤ y ∧ y ≤ 20) && wideOk t k (sgB fr y) fr
def tieX (fr : Bool) (t : Show) (k y : Int) : Show := match tieOk fr t k y with | true => wideS t k (sgB fr y) | false => ⟨[], [], 0⟩
theorem tieR_eq (fr : Bool) (t : Show) (k y : Int) : wideR (wideS t k (sgB fr y)) (tieOk fr t k y) = rWid (tieX fr t k y) (tieOk fr t k y) := by
  unfold tieX wideR
  cases tieOk fr t k y <;> rfl
theorem tieX_in {fr : Bool} {t : Show} {k y : Int} (h : 0 ≤ y ∧ y ≤ 20) : tieX fr t k y = wideX t k (sgB fr y) fr ∧ tieOk fr t k y = wideOk t k (sgB fr y) fr := by
  have h1 : tieOk fr t k y = wideOk t k (sgB fr y) fr := by unfold tieOk; rw [decide_eq_true h]; rfl
  refine ⟨?_, h1⟩
  unfold tieX wideX
  rw [h1]
  cases wideOk t k (sgB fr y) fr <;> rfl
theorem tieX_out {fr : Bool} {t : Show} {k y : Int} (h : ¬ (0 ≤ y ∧ y ≤ 20)) : tieX fr t k y = ⟨[], [], 0⟩ ∧ tieOk fr t k y = false := by
  have h1 : tieOk fr t k y = false := by unfold tieOk; rw [decide_eq_false h]; rfl
  refine ⟨?_, h1⟩
  unfold tieX
  rw [h1]
structure TieH (t : Show) (k y : Int) : Prop where
  le : ShowLe t
  mem : ShowMem t
  k : inI k
  y : inI y
structure WideH (t : Show) (k : Int) : Prop where
  le : ShowLe t
  mem : ShowMem t
  k : inI k
def wWide (fs : Show → Int → Int → Bool → Show) (f : Show → Int → Int → Bool → Bool) : Wr := w4 dcShow dcI dcI dcB (fun t k b fr => rWid (fs t k b fr) (f t k b fr)) (fun t k _ _ => [WideH t k])
theorem wWide_ok : WrOK Try.prog 28 (wWide wideX wideOk) := w4_ok fun t k b fr h => by
  have h := h _ (.head _)
  rw [← wideR_eq]
  exact widened_ok t k b fr h.le h.mem h.k
def wTieX (fs : Show → Int → Int → Show) (f : Show → Int → Int → Bool) : Wr := w3 dcShow dcI dcI (fun t k y => rWid (fs t k y) (f t k y)) (fun t k y => [TieH t k y])
theorem implHurryTie_ok (t : Show) (k y : Int) (h : TieH t k y) : SCall Try.prog 9 [aShow t, aI k, aI y] (rWid (tieX true t k y) (tieOk true t k y)) := by
  refine SCall.of X9_ok (fn := Try.f9) (c := Try.f9.body.getD .skip) (dr := fun n => look 0 [] n) Try.func9 rfl (by kernel_rfl) (by kernel_rfl) (by kernel_rfl) ?_
  obtain ⟨ht, hz, hk, hy⟩ := h
  rw [inI_iff] at hy
  have hin := tieX_in (fr := true) (t := t) (k := k) (y := y)
  have hout := tieX_out (fr := true) (t := t) (k := k) (y := y)
  dsimp only [sgB] at hin
  obtain ⟨fs, hfs⟩ : ∃ f, f = wideX := ⟨_, rfl⟩
  obtain ⟨f, hf⟩ : ∃ f, f = wideOk := ⟨_, rfl⟩
  have hO : SOraOK Try.prog (oraL [(28, wWide fs f)]) := by subst hfs hf; exact oraL_cons wWide_ok oraL_nil
  rw [← hfs, ← hf] at hin
  clear hfs hf
  obtain ⟨s, hs⟩ : ∃ s, s = tieX true t k y := ⟨_, rfl⟩
  obtain ⟨r, hr⟩ : ∃ r, r = tieOk true t k y := ⟨_, rfl⟩
  rw [← hs, ← hr] at hin hout ⊢
  clear hs hr
  have hw : 0 ≤ y ∧ y ≤ 20 → IntKind.i64.wrap (0 - y) = -y := fun h => by rw [wrap_i64 (by omega) (by omega)]; omega
  obtain ⟨ns, ts, h0⟩ := t
  refine SEx.go (X := X9) X9_ok (fun n => look [] [] n) (fun _ => none) hO 60 ?_
  intro M R L N hM hAnd hImp hR hL hN
  cases M
  cbv
  repeat' first | (refine hAnd _ _ ?_ ?_) | (refine hImp _ _ (fun h => ?_)) | (refine hR _ ?_) | (refine hL _ _ (Hd.out ?_); try first | rw [hks] | rw [hk2] | rw [hk3]) | (refine hN _ _ ?_; cbv)
  all_goals (clear hAnd hImp hR hL hN; try clear hks; try clear hk2; try clear hk3)
  all_goals (cases hM; try dsimp only)
  all_goals (try simp only [Bool.not_eq_true', Bool.not_eq_false', decide_eq_true_eq, decide_eq_false_iff_not, Int.not_le, Int.not_lt, beq_iff_eq, beq_eq_false_iff_ne, ne_eq, Int.ofNat_eq_natCast, Int.toNat_natCast, List.length_replicate, ncast, Nat.sub_zero, List.drop_zero, Cue.eta, Tie.eta, Edge.eta, Link.eta, Node.eta] at *)
  all_goals (clear hO)
  all_goals first
    | exact ⟨ht, hz, hk⟩
    | (obtain ⟨e1, e2⟩ := hout (by omega); rw [e1, e2]; rfl)
    | (obtain ⟨e1, e2⟩ := hin (by omega); rw [hw (by omega)]; rw [e1, e2]; rfl)
    | skip
theorem specHurryTie_ok (t : Show) (k y : Int) (h : TieH t k y) : SCall Try.prog 7 [aShow t, aI k, aI y] (rWid (tieX true t k y) (tieOk true t k y)) := by
  refine SCall.of X7_ok (fn := Try.f7) (c := Try.f7.body.getD .skip) (dr := fun n => look 0 [(4, 11)] n) Try.func7 rfl (by kernel_rfl) (by kernel_rfl) (by kernel_rfl) ?_
  obtain ⟨ht, hz, hk, hy⟩ := h
  rw [inI_iff] at hk hy
  have ho := wideS_le ht k (sgB true y)
  have h1 := ht.tlen
  rw [← tieR_eq]
  obtain ⟨f1, hf1⟩ : ∃ f, f = showB := ⟨_, rfl⟩
  obtain ⟨f0, hf0⟩ : ∃ f, f = l01InB := ⟨_, rfl⟩
  have hO : SOraOK Try.prog (oraL [(23, wShowOk f1), (24, wL01 f0), (25, wCopyShow)]) := by
    subst hf1 hf0
    exact oraL_cons wShowOkS_ok (oraL_cons wL01_ok (oraL_cons wL08Copy_ok oraL_nil))
  obtain ⟨s, hs⟩ : ∃ s, s = wideS t k (sgB true y) := ⟨_, rfl⟩
  obtain ⟨r, hr⟩ : ∃ r, r = tieOk true t k y := ⟨_, rfl⟩
  rw [← hs, ← hr]
  obtain ⟨ns, ts, h0⟩ := t
  dsimp only at h1
  have hre : r = (decide (0 ≤ y ∧ y ≤ 20) && ((f1 ⟨ns, ts, h0⟩ && (decide (0 ≤ k ∧ k < ts.length) && ((ts.getD k.toNat Tie.z).free == true))) && f1 s)) := by rw [hr, hs, hf1]; rfl
  have hse : s = ⟨ns, modL Tie.z ts k.toNat (fun q => { q with high := IntKind.i64.wrap ((ts.getD k.toNat Tie.z).high - y) }), h0⟩ := by rw [hs]; unfold wideS sgB; dsimp only; rw [Int.sub_eq_add_neg]
  rw [← hs] at ho
  have h1' : ts.length ≤ 9223372036854775807 := h1
  have hw1 : IntKind.i64.wrap ((ts.length : Int) - 1) = (ts.length : Int) - 1 := wrap_i64 (by omega) (by omega)
  have hft : f0 k 0 ((ts.length : Int) - 1) = true → 0 ≤ k ∧ k < ts.length := fun h => by rw [hf0] at h; unfold l01InB at h; simp only [Bool.and_eq_true, decide_eq_true_eq] at h; omega
  have hff : f0 k 0 ((ts.length : Int) - 1) = false → ¬ (0 ≤ k ∧ k < ts.length) := fun h h2 => by rw [hf0] at h; unfold l01InB at h; rw [decide_eq_true h2.1, decide_eq_true (show k ≤ (ts.length : Int) - 1 by omega)] at h; cases h
  have hyt : f0 y 0 20 = true → 0 ≤ y ∧ y ≤ 20 := fun h => by rw [hf0] at h; unfold l01InB at h; simp only [Bool.and_eq_true, decide_eq_true_eq] at h; exact h
  have hyf : f0 y 0 20 = false → ¬ (0 ≤ y ∧ y ≤ 20) := fun h h2 => by rw [hf0] at h; unfold l01InB at h; rw [decide_eq_true h2.1, decide_eq_true h2.2] at h; cases h
  have hF0 : ¬ (0 ≤ y ∧ y ≤ 20) → r = false := fun h => by rw [hre, decide_eq_false h]; rfl
  have hF1 : f1 ⟨ns, ts, h0⟩ = false → r = false := fun h => by rw [hre, h]; simp
  have hF2 : ¬ (0 ≤ k ∧ k < ts.length) → r = false := fun h => by rw [hre, decide_eq_false h]; simp
  have hF3 : (ts.getD k.toNat Tie.z).free = !true → r = false := fun h => by rw [hre, h]; simp
  have hF4 : f1 s = false → r = false := fun h => by rw [hre, h]; simp
  have hF5 : (0 ≤ y ∧ y ≤ 20) → f1 ⟨ns, ts, h0⟩ = true → (0 ≤ k ∧ k < ts.length) → (ts.getD k.toNat Tie.z).free = true → f1 s = true → r = true := fun e a b c d => by rw [hre, decide_eq_true e, a, decide_eq_true b, c, d]; rfl
  rw [hse] at hF4 hF5 ho ⊢
  clear hr hs hf1 hre hse hf0 h1
  delta Tie.free at hF3
  delta Tie.high Tie.src Tie.dst Tie.low Tie.free at hF4 hF5 ho ⊢
  refine SEx.go (X := X7) X7_ok (fun n => look [] [] n) (fun _ => none) hO 90 ?_
  intro M R L N hM hAnd hImp hR hL hN
  cases M
  cbv
  repeat' first | (refine hAnd _ _ ?_ ?_) | (refine hImp _ _ (fun h => ?_)) | (refine hR _ ?_) | (refine hL _ _ (Hd.out ?_); try first | rw [hks] | rw [hk2] | rw [hk3]) | (refine hN _ _ ?_; cbv)
  all_goals (clear hAnd hImp hR hL hN; try clear hks; try clear hk2; try clear hk3)
  all_goals (cases hM; try dsimp only)
  all_goals (try simp only [Bool.not_eq_true', Bool.not_eq_false', decide_eq_true_eq, decide_eq_false_iff_not, Int.not_le, Int.not_lt, beq_iff_eq, beq_eq_false_iff_ne, ne_eq, Int.ofNat_eq_natCast, Int.toNat_natCast, List.length_replicate, ncast, Nat.sub_zero, List.drop_zero, Cue.eta, Tie.eta, Edge.eta, Link.eta, Node.eta] at *)
  all_goals (clear hO)
  all_goals (try simp only [hw1] at *)
  all_goals (try (have hq := hft (by assumption)))
  all_goals first
    | exact ht
    | exact hz
    | exact ho
    | exact hq
    | omega
    | (rw [hF1 (by assumption)]; rfl)
    | (rw [hF2 (hff (by assumption))]; rfl)
    | (rw [hF3 (by assumption)]; rfl)
    | (rw [hF0 (hyf (by assumption))]; rfl)
    | (rw [hF4 (by assumption)]; rfl)
    | (rw [hF5 (hyt (by assumption)) (by assumption) hq (by assumption) (by assumption)]; rfl)
    | skip
theorem wHurryTieS_ok : WrOK Try.prog 7 (wTieX (tieX true) (tieOk true)) := w3_ok fun t k y h => specHurryTie_ok t k y (h _ (.head _))
theorem wHurryTieI_ok : WrOK Try.prog 9 (wTieX (tieX true) (tieOk true)) := w3_ok fun t k y h => implHurryTie_ok t k y (h _ (.head _))
theorem implRelaxTie_ok (t : Show) (k y : Int) (h : TieH t k y) : SCall Try.prog 14 [aShow t, aI k, aI y] (rWid (tieX false t k y) (tieOk false t k y)) := by
  refine SCall.of X14_ok (fn := Try.f14) (c := Try.f14.body.getD .skip) (dr := fun n => look 0 [] n) Try.func14 rfl (by kernel_rfl) (by kernel_rfl) (by kernel_rfl) ?_
  obtain ⟨ht, hz, hk, hy⟩ := h
  rw [inI_iff] at hy
  have hin := tieX_in (fr := false) (t := t) (k := k) (y := y)
  have hout := tieX_out (fr := false) (t := t) (k := k) (y := y)
  dsimp only [sgB] at hin
  obtain ⟨fs, hfs⟩ : ∃ f, f = wideX := ⟨_, rfl⟩
  obtain ⟨f, hf⟩ : ∃ f, f = wideOk := ⟨_, rfl⟩
  have hO : SOraOK Try.prog (oraL [(28, wWide fs f)]) := by subst hfs hf; exact oraL_cons wWide_ok oraL_nil
  rw [← hfs, ← hf] at hin
  clear hfs hf
  obtain ⟨s, hs⟩ : ∃ s, s = tieX false t k y := ⟨_, rfl⟩
  obtain ⟨r, hr⟩ : ∃ r, r = tieOk false t k y := ⟨_, rfl⟩
  rw [← hs, ← hr] at hin hout ⊢
  clear hs hr
  obtain ⟨ns, ts, h0⟩ := t
  refine SEx.go (X := X14) X14_ok (fun n => look [] [] n) (fun _ => none) hO 60 ?_
  intro M R L N hM hAnd hImp hR hL hN
  cases M
  cbv
  repeat' first | (refine hAnd _ _ ?_ ?_) | (refine hImp _ _ (fun h => ?_)) | (refine hR _ ?_) | (refine hL _ _ (Hd.out ?_); try first | rw [hks] | rw [hk2] | rw [hk3]) | (refine hN _ _ ?_; cbv)
  all_goals (clear hAnd hImp hR hL hN; try clear hks; try clear hk2; try clear hk3)
  all_goals (cases hM; try dsimp only)
  all_goals (try simp only [Bool.not_eq_true', Bool.not_eq_false', decide_eq_true_eq, decide_eq_false_iff_not, Int.not_le, Int.not_lt, beq_iff_eq, beq_eq_false_iff_ne, ne_eq, Int.ofNat_eq_natCast, Int.toNat_natCast, List.length_replicate, ncast, Nat.sub_zero, List.drop_zero, Cue.eta, Tie.eta, Edge.eta, Link.eta, Node.eta] at *)
  all_goals (clear hO)
  all_goals first
    | exact ⟨ht, hz, hk⟩
    | (obtain ⟨e1, e2⟩ := hout (by omega); rw [e1, e2]; rfl)
    | (obtain ⟨e1, e2⟩ := hin (by omega); rw [e1, e2]; rfl)
    | skip
theorem specRelaxTie_ok (t : Show) (k y : Int) (h : TieH t k y) : SCall Try.prog 13 [aShow t, aI k, aI y] (rWid (tieX false t k y) (tieOk false t k y)) := by
  refine SCall.of X13_ok (fn := Try.f13) (c := Try.f13.body.getD .skip) (dr := fun n => look 0 [(4, 11)] n) Try.func13 rfl (by kernel_rfl) (by kernel_rfl) (by kernel_rfl) ?_
  obtain ⟨ht, hz, hk, hy⟩ := h
  rw [inI_iff] at hk hy
  have ho := wideS_le ht k (sgB false y)
  have h1 := ht.tlen
  rw [← tieR_eq]
  obtain ⟨f1, hf1⟩ : ∃ f, f = showB := ⟨_, rfl⟩
  obtain ⟨f0, hf0⟩ : ∃ f, f = l01InB := ⟨_, rfl⟩
  have hO : SOraOK Try.prog (oraL [(23, wShowOk f1), (24, wL01 f0), (25, wCopyShow)]) := by
    subst hf1 hf0
    exact oraL_cons wShowOkS_ok (oraL_cons wL01_ok (oraL_cons wL08Copy_ok oraL_nil))
  obtain ⟨s, hs⟩ : ∃ s, s = wideS t k (sgB false y) := ⟨_, rfl⟩
  obtain ⟨r, hr⟩ : ∃ r, r = tieOk false t k y := ⟨_, rfl⟩
  rw [← hs, ← hr]
  obtain ⟨ns, ts, h0⟩ := t
  dsimp only at h1
  have hre : r = (decide (0 ≤ y ∧ y ≤ 20) && ((f1 ⟨ns, ts, h0⟩ && (decide (0 ≤ k ∧ k < ts.length) && ((ts.getD k.toNat Tie.z).free == false))) && f1 s)) := by rw [hr, hs, hf1]; rfl
  have hse : s = ⟨ns, modL Tie.z ts k.toNat (fun q => { q with high := IntKind.i64.wrap ((ts.getD k.toNat Tie.z).high + y) }), h0⟩ := by rw [hs]; unfold wideS sgB; dsimp only
  rw [← hs] at ho
  have h1' : ts.length ≤ 9223372036854775807 := h1
  have hw1 : IntKind.i64.wrap ((ts.length : Int) - 1) = (ts.length : Int) - 1 := wrap_i64 (by omega) (by omega)
  have hft : f0 k 0 ((ts.length : Int) - 1) = true → 0 ≤ k ∧ k < ts.length := fun h => by rw [hf0] at h; unfold l01InB at h; simp only [Bool.and_eq_true, decide_eq_true_eq] at h; omega
  have hff : f0 k 0 ((ts.length : Int) - 1) = false → ¬ (0 ≤ k ∧ k < ts.length) := fun h h2 => by rw [hf0] at h; unfold l01InB at h; rw [decide_eq_true h2.1, decide_eq_true (show k ≤ (ts.length : Int) - 1 by omega)] at h; cases h
  have hyt : f0 y 0 20 = true → 0 ≤ y ∧ y ≤ 20 := fun h => by rw [hf0] at h; unfold l01InB at h; simp only [Bool.and_eq_true, decide_eq_true_eq] at h; exact h
  have hyf : f0 y 0 20 = false → ¬ (0 ≤ y ∧ y ≤ 20) := fun h h2 => by rw [hf0] at h; unfold l01InB at h; rw [decide_eq_true h2.1, decide_eq_true h2.2] at h; cases h
  have hF0 : ¬ (0 ≤ y ∧ y ≤ 20) → r = false := fun h => by rw [hre, decide_eq_false h]; rfl
  have hF1 : f1 ⟨ns, ts, h0⟩ = false → r = false := fun h => by rw [hre, h]; simp
  have hF2 : ¬ (0 ≤ k ∧ k < ts.length) → r = false := fun h => by rw [hre, decide_eq_false h]; simp
  have hF3 : (ts.getD k.toNat Tie.z).free = !false → r = false := fun h => by rw [hre, h]; simp
  have hF4 : f1 s = false → r = false := fun h => by rw [hre, h]; simp
  have hF5 : (0 ≤ y ∧ y ≤ 20) → f1 ⟨ns, ts, h0⟩ = true → (0 ≤ k ∧ k < ts.length) → (ts.getD k.toNat Tie.z).free = false → f1 s = true → r = true := fun e a b c d => by rw [hre, decide_eq_true e, a, decide_eq_true b, c, d]; rfl
  rw [hse] at hF4 hF5 ho ⊢
  clear hr hs hf1 hre hse hf0 h1
  delta Tie.free at hF3
  delta Tie.high Tie.src Tie.dst Tie.low Tie.free at hF4 hF5 ho ⊢
  refine SEx.go (X := X13) X13_ok (fun n => look [] [] n) (fun _ => none) hO 90 ?_
  intro M R L N hM hAnd hImp hR hL hN
  cases M
  cbv
  repeat' first | (refine hAnd _ _ ?_ ?_) | (refine hImp _ _ (fun h => ?_)) | (refine hR _ ?_) | (refine hL _ _ (Hd.out ?_); try first | rw [hks] | rw [hk2] | rw [hk3]) | (refine hN _ _ ?_; cbv)
  all_goals (clear hAnd hImp hR hL hN; try clear hks; try clear hk2; try clear hk3)
  all_goals (cases hM; try dsimp only)
  all_goals (try simp only [Bool.not_eq_true', Bool.not_eq_false', decide_eq_true_eq, decide_eq_false_iff_not, Int.not_le, Int.not_lt, beq_iff_eq, beq_eq_false_iff_ne, ne_eq, Int.ofNat_eq_natCast, Int.toNat_natCast, List.length_replicate, ncast, Nat.sub_zero, List.drop_zero, Cue.eta, Tie.eta, Edge.eta, Link.eta, Node.eta] at *)
  all_goals (clear hO)
  all_goals (try simp only [hw1] at *)
  all_goals (try (have hq := hft (by assumption)))
  all_goals first
    | exact ht
    | exact hz
    | exact ho
    | exact hq
    | omega
    | (rw [hF1 (by assumption)]; rfl)
    | (rw [hF2 (hff (by assumption))]; rfl)
    | (rw [hF3 (by assumption)]; rfl)
    | (rw [hF0 (hyf (by assumption))]; rfl)
    | (rw [hF4 (by assumption)]; rfl)
    | (rw [hF5 (hyt (by assumption)) (by assumption) hq (by assumption) (by assumption)]; rfl)
    | skip
theorem wRelaxTieS_ok : WrOK Try.prog 13 (wTieX (tieX false) (tieOk false)) := w3_ok fun t k y h => specRelaxTie_ok t k y (h _ (.head _))
theorem wRelaxTieI_ok : WrOK Try.prog 14 (wTieX (tieX false) (tieOk false)) := w3_ok fun t k y h => implRelaxTie_ok t k y (h _ (.head _))
end Go.Proofs.Ytncbdoijakndoaa.Ai
