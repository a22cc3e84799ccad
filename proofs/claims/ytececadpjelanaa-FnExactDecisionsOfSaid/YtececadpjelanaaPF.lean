/- Decisions of a moment: the law. -/
import Derived.Test.YtececadpjelanaaTy
import Derived.Test.YtececadpjelanaaPE
namespace Go.Proofs.Ytececadpjelanaa.Ai
open Go
set_option maxRecDepth 100000
set_option linter.unusedVariables false
set_option linter.unusedSimpArgs false
theorem decF_small (t : Show) (x : State) : (decF t x).length ≤ 128 ∧ ∀ y ∈ decF t x, y.length ≤ 7 := by
  unfold decF
  cases h : momB t x with
  | false => exact ⟨Nat.zero_le _, fun y hy => by cases hy⟩
  | true =>
    have h7 := enL_len (mom_en h).1
    refine ⟨by show (decP _ _ _).length ≤ 128; rw [decP_len]; exact (pow_seven h7).2, fun y hy => ?_⟩
    obtain ⟨j, _, rfl⟩ := List.mem_map.1 hy
    exact Nat.le_trans (memP_len _ _ _) h7
def wDecFS (f : Show → State → List (List Int)) : Wr := w2 dcShow dcState (fun t x => rIss (f t x)) (fun t x => [StLe t x, StSz x])
theorem wDecFS_ok : WrOK Try.prog 18 (wDecFS decF) := w2_ok fun t x h => specDec_ok t x (h _ (.head _)) (h _ (.tail _ (.head _)))
def wDecFI (f : Show → State → List (List Int)) : Wr := w2 dcShow dcState (fun t x => rIss (f t x)) (fun t x => [StLe t x])
theorem wDecFI_ok : WrOK Try.prog 19 (wDecFI decF) := w2_ok fun t x h => implDec_ok t x (h _ (.head _))
set_option maxHeartbeats 8000000 in
theorem lawDecisions_ok (t : Show) (x : State) (ht : ShowIn t) (hx : StateIn x) : SCall Try.prog 4 [aShow t, aState x] (rB true) := by
  refine SCall.of X4_ok (fn := Try.f4) (c := Try.f4.body.getD .skip) (dr := fun n => look 0 [(8, 3), (14, 3), (16, 3), (31, 3)] n) Try.func4 rfl (by kernel_rfl) (by kernel_rfl) (by kernel_rfl) ?_
  obtain ⟨f, hf⟩ : ∃ f, f = decF := ⟨_, rfl⟩
  obtain ⟨g, hg⟩ : ∃ f, f = szShowI := ⟨_, rfl⟩
  obtain ⟨k, hk⟩ : ∃ f, f = szStateI := ⟨_, rfl⟩
  obtain ⟨f1, hf1⟩ : ∃ f, f = fN := ⟨_, rfl⟩
  obtain ⟨f2, hf2⟩ : ∃ f, f = shT := ⟨_, rfl⟩
  obtain ⟨g1, hg1⟩ : ∃ f, f = shG := ⟨_, rfl⟩
  obtain ⟨f3, hf3⟩ : ∃ f, f = markI := ⟨_, rfl⟩
  obtain ⟨f4, hf4⟩ : ∃ f, f = stF := ⟨_, rfl⟩
  obtain ⟨g4, hg4⟩ : ∃ f, f = stG := ⟨_, rfl⟩
  obtain ⟨f6, hf6⟩ : ∃ f, f = fSS := ⟨_, rfl⟩
  obtain ⟨g6, hg6⟩ : ∃ f, f = gSS := ⟨_, rfl⟩
  have hO : SOraOK Try.prog (oraL [(5, wSzShow g), (6, wSzState k), (8, wToShow), (9, wToState), (18, wDecFS f), (19, wDecFI f), (12, wEqShow), (13, wEqState), (20, wEqIntSS), (22, wHeldSS f6 g6)]) := by
    subst hf hg hk hf6 hg6
    exact oraL_cons wSzShow_ok (oraL_cons wSzState_ok (oraL_cons wToShow_ok (oraL_cons wToState_ok (oraL_cons wDecFS_ok (oraL_cons wDecFI_ok (oraL_cons wEqShow_ok (oraL_cons wEqState_ok (oraL_cons wEqIntSS_ok (oraL_cons wHeldSS_ok oraL_nil)))))))))
  have hW : SOraWOK Try.prog (X4.withW [(14, [(0, 0), (0, 1)]), (15, [(0, 1), (0, 2)]), (21, [(0, 0)])] (oraWL [(14, wMarkShow f1 f2 g1), (15, wMarkState f3 f4 g4), (21, wMarkSS f6 g6)])) := by
    subst hf1 hf2 hg1 hf3 hf4 hg4 hf6 hg6
    exact SX.withW_ok (oraWL_cons wMarkShow_ok (oraWL_cons wMarkState_ok (oraWL_cons wMarkSS_ok oraWL_nil)))
  have hA : 0 ≤ g t 1048576 → ShowSz t (g t 1048576) := fun h => by rw [hg] at h ⊢; exact showSz h
  have hB : 0 ≤ g t 1048576 → 0 ≤ k x (g t 1048576) → StateSz x := fun h h2 => by rw [hk] at h2; exact stateSz h (hA h).le h2
  have hG : 0 ≤ g t 1048576 → ShGT (g t 1048576) (g1 1 t.nodes t.ties.length) := fun h => by rw [hg1]; exact (shG_in (hA h)).1
  have h1 := ht.le
  have h2 := hx.le
  have hs := decF_small t x
  have hk1 : gSS 1 (decF t x) ≤ 897 := by have := kkS_le (k := 1) hs.2 (decF t x).length; have := hs.1; unfold gSS; omega
  have hk0 : 1 ≤ gSS 1 (decF t x) := by have := kkS_mono 1 (decF t x) 0 (decF t x).length; rw [kkS_zero, Nat.zero_add] at this; exact this
  have hs1 := hs.1
  have hs2 := hs.2
  have hs3 := fSS_all (k := 1) hs.2
  have hn : ∀ q ∈ t.nodes, NodeLe q maxLen := fun q hq => ⟨(ht.nodes q hq).name, (ht.nodes q hq).len⟩
  rw [← hf] at hk1 hk0 hs1 hs2 hs3
  clear ht hx hf hg hk hs
  obtain ⟨ns, ts, hr⟩ := t
  obtain ⟨now, times, vals⟩ := x
  dsimp only at hG
  refine SEx.go (X := (X4.withW [(14, [(0, 0), (0, 1)]), (15, [(0, 1), (0, 2)]), (21, [(0, 0)])] (oraWL [(14, wMarkShow f1 f2 g1), (15, wMarkState f3 f4 g4), (21, wMarkSS f6 g6)]))) X4_ok (fun n => look [] [] n) (fun _ => none) hO 120 ?_ hW
  intro M R L N hM hAnd hImp hR hL hN
  cases M
  cbv
  repeat' first | (refine hAnd _ _ ?_ ?_) | (refine hImp _ _ (fun h => ?_)) | (refine hR _ ?_) | (refine hL _ _ (Hd.out ?_); try first | rw [hks] | rw [hk2] | rw [hk3]) | (refine hN _ _ ?_; cbv)
  all_goals (clear hAnd hImp hR hL hN; try clear hks; try clear hk2; try clear hk3)
  all_goals (cases hM; try dsimp only)
  all_goals (try simp only [Bool.not_eq_true', Bool.not_eq_false', decide_eq_true_eq, decide_eq_false_iff_not, Int.not_le, Int.not_lt, beq_iff_eq, beq_eq_false_iff_ne, ne_eq, Int.ofNat_eq_natCast, Int.toNat_natCast, List.length_replicate, ncast, Nat.sub_zero, List.drop_zero, Cue.eta, Tie.eta, Edge.eta, Link.eta, Node.eta] at *)
  all_goals (clear hO hW; subst hf1 hf2 hf3 hf4 hg4 hf6 hg6)
  all_goals (try simp only [addI, stG, markI_len, stF_len, gSS_fSS] at *)
  all_goals (try (have G := hG (by assumption); have G1 := G.lo; have G2 := G.hi))
  all_goals (try (have b := hB (by assumption) (by assumption); have b1 := b.tlen; have b2 := b.vlen; dsimp only at b1 b2))
  all_goals first
    | rfl
    | contradiction
    | exact ⟨h1.len⟩
    | exact ⟨h1.tlen⟩
    | exact ⟨hn⟩
    | exact ⟨⟨by decide, by decide⟩⟩
    | exact ⟨h2.tlen⟩
    | exact ⟨h2.vlen⟩
    | exact ⟨⟨by assumption, by have := (hA (by assumption)).le; omega⟩⟩
    | exact ⟨(hA (by assumption)).len⟩
    | exact ⟨(hA (by assumption)).tlen⟩
    | exact ⟨(hA (by assumption)).labs⟩
    | exact ⟨b1⟩
    | exact ⟨b2⟩
    | exact ⟨h1, h2⟩
    | exact ⟨b1, b2⟩
    | exact ⟨rfl⟩
    | exact ⟨by omega⟩
    | exact ⟨fun q hq => (h1.nodes q hq).len⟩
    | exact absurd trivial (by assumption)
    | exact absurd rfl (by assumption)
    | exact (fN_len _ _).symm
    | exact (markTi_len _ _).symm
    | exact (markI_len _ _).symm
    | exact (fSS_len _ _).symm
    | exact ⟨(fSS_fSS _ _).symm⟩
    | exact ⟨fun x hx => Nat.le_trans (hs2 x hx) (by decide)⟩
    | exact ⟨fun x hx => Nat.le_trans (hs3 x hx) (by decide)⟩
    | (refine ⟨?_⟩; rw [fSS_len]; omega)
    | exact ⟨⟨rfl, rfl, rfl, rfl⟩, rfl, rfl, h1.len, h1.tlen, fun q hq => (h1.nodes q hq).len, by decide, by omega⟩
    | exact ⟨⟨rfl, rfl, rfl, rfl⟩, rfl, rfl, h2.tlen, h2.vlen, by omega, by omega⟩
    | exact ⟨rfl, rfl, rfl, by unfold maxLen; omega, fun x hx => Nat.le_trans (hs2 x hx) (by decide), by omega, by omega⟩
    | exact ⟨⟨by omega, by omega⟩⟩
    | (exfalso; omega)
    | skip
end Go.Proofs.Ytececadpjelanaa.Ai
