/- Enabled nodes: the law. -/
import Derived.Test.YtececadpjelanaaTy
import Derived.Test.YtececadpjelanaaPB
namespace Go.Proofs.Ytececadpjelanaa.Ai
open Go
set_option maxRecDepth 100000
set_option linter.unusedVariables false
set_option linter.unusedSimpArgs false
structure EnA (t : Show) (x : State) : Prop where out : stOkB t x = true → enL t x ≠ []
structure EnB (t : Show) (x : State) : Prop where
  ok : stOkB t x = true
  no : enL t x = []
theorem enF_len (t : Show) (x : State) : (enF t x).length ≤ t.nodes.length := by
  unfold enF
  cases stOkB t x with
  | false => exact Nat.zero_le _
  | true => exact Nat.le_trans (List.length_filter_le _ _) (selL_len _ _)
def wEnFS (f : Show → State → List Int) : Wr := w2 dcShow dcState (fun t x => rUs (f t x)) (fun t x => [ShowLe t, StateLe x])
theorem wEnFS_ok : WrOK Try.prog 7 (wEnFS enF) := w2_ok fun t x h => specEn_ok t x (h _ (.head _)) (h _ (.tail _ (.head _)))
def wEnFI (f : Show → State → List Int) : Wr := w2 dcShow dcState (fun t x => rUs (f t x)) (fun t x => [ShowLe t, StateLe x, EnA t x])
theorem wEnFI_ok : WrOK Try.prog 10 (wEnFI enF) := w2_ok fun t x h => implEn_ok t x (h _ (.head _)) (h _ (.tail _ (.head _))) (h _ (.tail _ (.tail _ (.head _)))).out
def wEnF0S : Wr := w2 dcShow dcState (fun t x => rUs []) (fun t x => [ShowLe t, StateLe x, EnB t x])
theorem wEnF0S_ok : WrOK Try.prog 7 wEnF0S := w2_ok fun t x h => by
  have hb := h _ (.tail _ (.tail _ (.head _)))
  have := specEn_ok t x (h _ (.head _)) (h _ (.tail _ (.head _)))
  unfold enF at this
  rw [hb.ok] at this
  dsimp only at this
  rw [hb.no] at this
  exact this
def wEnF0I : Wr := w2 dcShow dcState (fun t x => rE) (fun t x => [ShowLe t, StateLe x, EnB t x])
theorem wEnF0I_ok : WrOK Try.prog 10 wEnF0I := w2_ok fun t x h => by
  have hb := h _ (.tail _ (.tail _ (.head _)))
  exact implEn0_ok t x (h _ (.head _)) (h _ (.tail _ (.head _))) hb.ok hb.no
theorem mark0_ok (k : Int) (hk : inI k) : SCall Try.prog 16 [aIs [], aI k] (rI k) := by
  refine SCall.of X16_ok (fn := Try.f16) (c := Try.f16.body.getD .skip) (dr := fun n => look 0 [] n) Try.func16 rfl (by kernel_rfl) (by kernel_rfl) (by kernel_rfl) ?_
  refine SEx.go (X := X16) X16_ok (fun n => look [] [(2, [0, 1, 5])] n) (fun _ => none) oraL_nil 60 ?_
  intro M R L N hM hAnd hImp hR hL hN
  cases M
  cbv
  repeat' first | (refine hAnd _ _ ?_ ?_) | (refine hImp _ _ (fun h => ?_)) | (refine hR _ ?_) | (refine hL _ _ (Hd.out ?_); generalize hks : (List.cons _ _ : List K) = ks) | (refine hN _ _ ?_; cbv)
  all_goals (clear hAnd hImp hR hL hN)
  all_goals (cases hM; try dsimp only)
  all_goals (try simp only [Bool.not_eq_true', Bool.not_eq_false', decide_eq_true_eq, decide_eq_false_iff_not, Int.not_le, Int.not_lt, beq_iff_eq, beq_eq_false_iff_ne, ne_eq, Int.ofNat_eq_natCast, Int.toNat_natCast, List.length_replicate, ncast, Nat.sub_zero, List.drop_zero, Cue.eta, Tie.eta, Edge.eta, Link.eta, Node.eta] at *)
  refine ⟨?_⟩
  rw [← hks]
  refine SEx.go (X := X16) X16_ok (fun n => look [] [(2, [0, 1, 5])] n) (fun _ => none) oraL_nil 90 ?_
  intro M R L N hM hAnd hImp hR hL hN
  cases M
  cbv
  repeat' first | (refine hAnd _ _ ?_ ?_) | (refine hImp _ _ (fun h => ?_)) | (refine hR _ ?_) | (refine hL _ _ (Hd.out ?_); try first | rw [hks] | rw [hk2] | rw [hk3]) | (refine hN _ _ ?_; cbv)
  all_goals (clear hAnd hImp hR hL hN; try clear hks; try clear hk2; try clear hk3)
  all_goals (cases hM; try dsimp only)
  all_goals (try simp only [Bool.not_eq_true', Bool.not_eq_false', decide_eq_true_eq, decide_eq_false_iff_not, Int.not_le, Int.not_lt, beq_iff_eq, beq_eq_false_iff_ne, ne_eq, Int.ofNat_eq_natCast, Int.toNat_natCast, List.length_replicate, ncast, Nat.sub_zero, List.drop_zero, Cue.eta, Tie.eta, Edge.eta, Link.eta, Node.eta] at *)
  all_goals first
    | rfl
    | omega
    | contradiction
    | (exfalso; simp_all; done)
    | trace_state
structure InK (k : Int) : Prop where out : inI k
def wMark0 : Wr := w2 dcIs dcI (fun _ k => rI k) (fun l k => [Same l [], InK k])
theorem wMark0_ok : WrOK Try.prog 16 wMark0 := w2_ok fun l k h => by
  obtain rfl := (h _ (.head _)).out
  exact mark0_ok k (h _ (.tail _ (.head _))).out
set_option maxHeartbeats 8000000 in
theorem lawEnA_ok (t : Show) (x : State) (ht : ShowIn t) (hx : StateIn x) (hE : EnA t x) : SCall Try.prog 3 [aShow t, aState x] (rB true) := by
  refine SCall.of X3_ok (fn := Try.f3) (c := Try.f3.body.getD .skip) (dr := fun n => look 0 [(8, 3), (14, 3), (16, 3), (31, 3)] n) Try.func3 rfl (by kernel_rfl) (by kernel_rfl) (by kernel_rfl) ?_
  obtain ⟨f, hf⟩ : ∃ f, f = enF := ⟨_, rfl⟩
  obtain ⟨g, hg⟩ : ∃ f, f = szShowI := ⟨_, rfl⟩
  obtain ⟨k, hk⟩ : ∃ f, f = szStateI := ⟨_, rfl⟩
  obtain ⟨f1, hf1⟩ : ∃ f, f = fN := ⟨_, rfl⟩
  obtain ⟨f2, hf2⟩ : ∃ f, f = shT := ⟨_, rfl⟩
  obtain ⟨g1, hg1⟩ : ∃ f, f = shG := ⟨_, rfl⟩
  obtain ⟨f3, hf3⟩ : ∃ f, f = markI := ⟨_, rfl⟩
  obtain ⟨f4, hf4⟩ : ∃ f, f = stF := ⟨_, rfl⟩
  obtain ⟨g4, hg4⟩ : ∃ f, f = stG := ⟨_, rfl⟩
  obtain ⟨g5, hg5⟩ : ∃ f, f = addI := ⟨_, rfl⟩
  obtain ⟨ln, hln⟩ : ∃ f, f = @List.length Int := ⟨_, rfl⟩
  have hO : SOraOK Try.prog (oraL [(5, wSzShow g), (6, wSzState k), (8, wToShow), (9, wToState), (7, wEnFS f), (10, wEnFI f), (12, wEqShow), (13, wEqState), (11, wEqIntS), (17, wHeldI g5 f3 ln)]) := by
    subst hf hg hk hf3 hg5 hln
    exact oraL_cons wSzShow_ok (oraL_cons wSzState_ok (oraL_cons wToShow_ok (oraL_cons wToState_ok (oraL_cons wEnFS_ok (oraL_cons wEnFI_ok (oraL_cons wEqShow_ok (oraL_cons wEqState_ok (oraL_cons wEqIntS_ok (oraL_cons wHeldI_ok oraL_nil)))))))))
  have hW : SOraWOK Try.prog (X3.withW [(14, [(0, 0), (0, 1)]), (15, [(0, 1), (0, 2)]), (16, [(0, 0)])] (oraWL [(14, wMarkShow f1 f2 g1), (15, wMarkState f3 f4 g4), (16, wMarkI f3 g5)])) := by
    subst hf1 hf2 hg1 hf3 hf4 hg4 hg5
    exact SX.withW_ok (oraWL_cons wMarkShow_ok (oraWL_cons wMarkState_ok (oraWL_cons wMarkI_ok oraWL_nil)))
  have hA : 0 ≤ g t 1048576 → ShowSz t (g t 1048576) := fun h => by rw [hg] at h ⊢; exact showSz h
  have hB : 0 ≤ g t 1048576 → 0 ≤ k x (g t 1048576) → StateSz x := fun h h2 => by rw [hk] at h2; exact stateSz h (hA h).le h2
  have hG : 0 ≤ g t 1048576 → ShGT (g t 1048576) (g1 1 t.nodes t.ties.length) := fun h => by rw [hg1]; exact (shG_in (hA h)).1
  have h1 := ht.le
  have h2 := hx.le
  have hL : 0 ≤ g t 1048576 → (f t x).length ≤ 1048576 := fun h => by have := (hA h).len; rw [hf]; exact Nat.le_trans (enF_len t x) this
  have hn : ∀ q ∈ t.nodes, NodeLe q maxLen := fun q hq => ⟨(ht.nodes q hq).name, (ht.nodes q hq).len⟩
  clear ht hx hf hg hk
  obtain ⟨ns, ts, hr⟩ := t
  obtain ⟨now, times, vals⟩ := x
  dsimp only at hG
  refine SEx.go (X := (X3.withW [(14, [(0, 0), (0, 1)]), (15, [(0, 1), (0, 2)]), (16, [(0, 0)])] (oraWL [(14, wMarkShow f1 f2 g1), (15, wMarkState f3 f4 g4), (16, wMarkI f3 g5)]))) X3_ok (fun n => look [] [] n) (fun _ => none) hO 120 ?_ hW
  intro M R L N hM hAnd hImp hR hL hN
  cases M
  cbv
  repeat' first | (refine hAnd _ _ ?_ ?_) | (refine hImp _ _ (fun h => ?_)) | (refine hR _ ?_) | (refine hL _ _ (Hd.out ?_); try first | rw [hks] | rw [hk2] | rw [hk3]) | (refine hN _ _ ?_; cbv)
  all_goals (clear hAnd hImp hR hL hN; try clear hks; try clear hk2; try clear hk3)
  all_goals (cases hM; try dsimp only)
  all_goals (try simp only [Bool.not_eq_true', Bool.not_eq_false', decide_eq_true_eq, decide_eq_false_iff_not, Int.not_le, Int.not_lt, beq_iff_eq, beq_eq_false_iff_ne, ne_eq, Int.ofNat_eq_natCast, Int.toNat_natCast, List.length_replicate, ncast, Nat.sub_zero, List.drop_zero, Cue.eta, Tie.eta, Edge.eta, Link.eta, Node.eta] at *)
  all_goals (clear hO hW; subst hf1 hf2 hf3 hf4 hg4 hg5 hln)
  all_goals (try simp only [addI, stG, markI_len, stF_len] at *)
  all_goals (try (have G := hG (by assumption); have G1 := G.lo; have G2 := G.hi))
  all_goals (try (have b := hB (by assumption) (by assumption); have b1 := b.tlen; have b2 := b.vlen; dsimp only at b1 b2))
  all_goals first
    | rfl
    | contradiction
    | exact ⟨h1.len⟩
    | exact ⟨h1.tlen⟩
    | exact ⟨hn⟩
    | exact ⟨⟨by decide, by decide⟩⟩
    | exact ⟨h2.tlen⟩
    | exact ⟨h2.vlen⟩
    | exact ⟨⟨by assumption, by have := (hA (by assumption)).le; omega⟩⟩
    | exact ⟨(hA (by assumption)).len⟩
    | exact ⟨(hA (by assumption)).tlen⟩
    | exact ⟨(hA (by assumption)).labs⟩
    | exact ⟨b1⟩
    | exact ⟨b2⟩
    | exact h1
    | exact h2
    | exact hE
    | exact ⟨rfl⟩
    | exact ⟨by omega⟩
    | exact ⟨fun q hq => (h1.nodes q hq).len⟩
    | exact absurd trivial (by assumption)
    | exact absurd rfl (by assumption)
    | exact (fN_len _ _).symm
    | exact (markTi_len _ _).symm
    | exact (markI_len _ _).symm
    | exact ⟨⟨rfl, rfl, rfl, rfl⟩, rfl, rfl, h1.len, h1.tlen, fun q hq => (h1.nodes q hq).len, by decide, by omega⟩
    | exact ⟨⟨rfl, rfl, rfl, rfl⟩, rfl, rfl, h2.tlen, h2.vlen, by omega, by omega⟩
    | exact ⟨Nat.le_trans (hL (by assumption)) (by decide)⟩
    | exact ⟨rfl, rfl, rfl, Nat.le_trans (hL (by assumption)) (by decide), by omega, by have := hL (by assumption); omega⟩
    | (refine ⟨?_⟩; rw [markI_len]; done)
    | (refine ⟨?_⟩; rw [markI_len]; exact Nat.le_trans (hL (by assumption)) (by decide))
    | (show IAdd 1 (markI 1 _).length; rw [markI_len]; exact ⟨⟨by omega, by have := hL (by assumption); omega⟩⟩)
    | exact ⟨⟨by omega, by have := hL (by assumption); omega⟩⟩
    | (exfalso; omega)
    | skip
set_option maxHeartbeats 8000000 in
theorem lawEn0_ok (t : Show) (x : State) (ht : ShowIn t) (hx : StateIn x) (hE : EnB t x) : SCall Try.prog 3 [aShow t, aState x] (rB true) := by
  refine SCall.of X3_ok (fn := Try.f3) (c := Try.f3.body.getD .skip) (dr := fun n => look 0 [(8, 3), (14, 3), (16, 3), (31, 3)] n) Try.func3 rfl (by kernel_rfl) (by kernel_rfl) (by kernel_rfl) ?_
  obtain ⟨g, hg⟩ : ∃ f, f = szShowI := ⟨_, rfl⟩
  obtain ⟨k, hk⟩ : ∃ f, f = szStateI := ⟨_, rfl⟩
  obtain ⟨f1, hf1⟩ : ∃ f, f = fN := ⟨_, rfl⟩
  obtain ⟨f2, hf2⟩ : ∃ f, f = shT := ⟨_, rfl⟩
  obtain ⟨g1, hg1⟩ : ∃ f, f = shG := ⟨_, rfl⟩
  obtain ⟨f3, hf3⟩ : ∃ f, f = markI := ⟨_, rfl⟩
  obtain ⟨f4, hf4⟩ : ∃ f, f = stF := ⟨_, rfl⟩
  obtain ⟨g4, hg4⟩ : ∃ f, f = stG := ⟨_, rfl⟩
  obtain ⟨g5, hg5⟩ : ∃ f, f = addI := ⟨_, rfl⟩
  obtain ⟨ln, hln⟩ : ∃ f, f = @List.length Int := ⟨_, rfl⟩
  have hO : SOraOK Try.prog (oraL [(5, wSzShow g), (6, wSzState k), (8, wToShow), (9, wToState), (7, wEnF0S), (10, wEnF0I), (12, wEqShow), (13, wEqState), (11, wEqIntS), (17, wHeldI g5 f3 ln), (16, wMark0)]) := by
    subst  hg hk hf3 hg5 hln
    exact oraL_cons wSzShow_ok (oraL_cons wSzState_ok (oraL_cons wToShow_ok (oraL_cons wToState_ok (oraL_cons wEnF0S_ok (oraL_cons wEnF0I_ok (oraL_cons wEqShow_ok (oraL_cons wEqState_ok (oraL_cons wEqIntS_ok (oraL_cons wHeldI_ok (oraL_cons wMark0_ok oraL_nil))))))))))
  have hW : SOraWOK Try.prog (X3.withW [(14, [(0, 0), (0, 1)]), (15, [(0, 1), (0, 2)])] (oraWL [(14, wMarkShow f1 f2 g1), (15, wMarkState f3 f4 g4)])) := by
    subst hf1 hf2 hg1 hf3 hf4 hg4
    exact SX.withW_ok (oraWL_cons wMarkShow_ok (oraWL_cons wMarkState_ok oraWL_nil))
  have hA : 0 ≤ g t 1048576 → ShowSz t (g t 1048576) := fun h => by rw [hg] at h ⊢; exact showSz h
  have hB : 0 ≤ g t 1048576 → 0 ≤ k x (g t 1048576) → StateSz x := fun h h2 => by rw [hk] at h2; exact stateSz h (hA h).le h2
  have hG : 0 ≤ g t 1048576 → ShGT (g t 1048576) (g1 1 t.nodes t.ties.length) := fun h => by rw [hg1]; exact (shG_in (hA h)).1
  have h1 := ht.le
  have h2 := hx.le
  have hn : ∀ q ∈ t.nodes, NodeLe q maxLen := fun q hq => ⟨(ht.nodes q hq).name, (ht.nodes q hq).len⟩
  clear ht hx  hg hk
  obtain ⟨ns, ts, hr⟩ := t
  obtain ⟨now, times, vals⟩ := x
  dsimp only at hG
  refine SEx.go (X := (X3.withW [(14, [(0, 0), (0, 1)]), (15, [(0, 1), (0, 2)])] (oraWL [(14, wMarkShow f1 f2 g1), (15, wMarkState f3 f4 g4)]))) X3_ok (fun n => look [] [] n) (fun _ => none) hO 120 ?_ hW
  intro M R L N hM hAnd hImp hR hL hN
  cases M
  cbv
  repeat' first | (refine hAnd _ _ ?_ ?_) | (refine hImp _ _ (fun h => ?_)) | (refine hR _ ?_) | (refine hL _ _ (Hd.out ?_); try first | rw [hks] | rw [hk2] | rw [hk3]) | (refine hN _ _ ?_; cbv)
  all_goals (clear hAnd hImp hR hL hN; try clear hks; try clear hk2; try clear hk3)
  all_goals (cases hM; try dsimp only)
  all_goals (try simp only [Bool.not_eq_true', Bool.not_eq_false', decide_eq_true_eq, decide_eq_false_iff_not, Int.not_le, Int.not_lt, beq_iff_eq, beq_eq_false_iff_ne, ne_eq, Int.ofNat_eq_natCast, Int.toNat_natCast, List.length_replicate, ncast, Nat.sub_zero, List.drop_zero, Cue.eta, Tie.eta, Edge.eta, Link.eta, Node.eta] at *)
  all_goals (clear hO hW; subst hf1 hf2 hf3 hf4 hg4 hg5 hln)
  all_goals (try simp only [addI, stG, markI_len, stF_len] at *)
  all_goals (try (have G := hG (by assumption); have G1 := G.lo; have G2 := G.hi))
  all_goals (try (have b := hB (by assumption) (by assumption); have b1 := b.tlen; have b2 := b.vlen; dsimp only at b1 b2))
  all_goals first
    | rfl
    | contradiction
    | exact ⟨h1.len⟩
    | exact ⟨h1.tlen⟩
    | exact ⟨hn⟩
    | exact ⟨⟨by decide, by decide⟩⟩
    | exact ⟨h2.tlen⟩
    | exact ⟨h2.vlen⟩
    | exact ⟨⟨by assumption, by have := (hA (by assumption)).le; omega⟩⟩
    | exact ⟨(hA (by assumption)).len⟩
    | exact ⟨(hA (by assumption)).tlen⟩
    | exact ⟨(hA (by assumption)).labs⟩
    | exact ⟨b1⟩
    | exact ⟨b2⟩
    | exact h1
    | exact h2
    | exact hE
    | exact ⟨Nat.zero_le _⟩
    | exact ⟨by rw [inI_iff]; omega⟩
    | exact ⟨rfl⟩
    | exact ⟨by omega⟩
    | exact ⟨fun q hq => (h1.nodes q hq).len⟩
    | exact absurd trivial (by assumption)
    | exact absurd rfl (by assumption)
    | exact (fN_len _ _).symm
    | exact (markTi_len _ _).symm
    | exact (markI_len _ _).symm
    | exact ⟨⟨rfl, rfl, rfl, rfl⟩, rfl, rfl, h1.len, h1.tlen, fun q hq => (h1.nodes q hq).len, by decide, by omega⟩
    | exact ⟨⟨rfl, rfl, rfl, rfl⟩, rfl, rfl, h2.tlen, h2.vlen, by omega, by omega⟩
    | (exfalso; omega)
    | skip
theorem lawEnabled_ok (t : Show) (x : State) (ht : ShowIn t) (hx : StateIn x) : SCall Try.prog 3 [aShow t, aState x] (rB true) := by
  by_cases h1 : stOkB t x = true
  · by_cases h2 : enL t x = []
    · exact lawEn0_ok t x ht hx ⟨h1, h2⟩
    · exact lawEnA_ok t x ht hx ⟨fun _ => h2⟩
  · exact lawEnA_ok t x ht hx ⟨fun h => absurd h h1⟩
end Go.Proofs.Ytececadpjelanaa.Ai
