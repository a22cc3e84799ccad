/- AfterValues: the law. -/
import Derived.Test.YtciphddcdiifgaaTy
import Derived.Test.YtciphddcdiifgaaU
import Derived.Test.YtciphddcdiifgaaSH
import Derived.Test.YtciphddcdiifgaaMK
import Derived.Test.YtciphddcdiifgaaTB
import Derived.Test.YtciphddcdiifgaaTC
import Derived.Test.YtciphddcdiifgaaLI
import Derived.Test.YtciphddcdiifgaaLK
import Derived.Test.YtciphddcdiifgaaLP
import Derived.Test.YtciphddcdiifgaaLQ
import Derived.Test.YtciphddcdiifgaaMT
import Derived.Test.YtciphddcdiifgaaLR
import Derived.Test.YtciphddcdiifgaaLS
namespace Go.Proofs.Ytciphddcdiifgaa.Ai
open Go
set_option maxRecDepth 100000
set_option linter.unusedVariables false
set_option linter.unusedSimpArgs false
def aftS (t : Show) (x : State) (ps vs : List Int) : State := match aftOk t x ps vs with | true => obsS x ps vs | false => ⟨0, [], []⟩
theorem aftR_eq (t : Show) (x : State) (ps vs : List Int) : aftR (obsS x ps vs) (aftOk t x ps vs) = rAft (aftS t x ps vs) (aftOk t x ps vs) := by
  unfold aftS aftR
  cases aftOk t x ps vs <;> rfl
theorem aftS_times (t : Show) (x : State) (ps vs : List Int) : (aftS t x ps vs).times.length ≤ x.times.length := by
  unfold aftS
  cases aftOk t x ps vs
  · exact Nat.zero_le _
  · exact Nat.le_refl _
theorem aftS_vals (t : Show) (x : State) (ps vs : List Int) : (aftS t x ps vs).vals.length ≤ x.vals.length := by
  unfold aftS
  cases aftOk t x ps vs
  · exact Nat.zero_le _
  · exact Nat.le_of_eq (obsL_len _ _ _ _)
structure AftH (t : Show) (x : State) (ps vs : List Int) : Prop where
  sh : ShowLe t
  st : StateLe x
  sz : StSz x
  pl : ps.length ≤ 1048576
  vl : vs.length ≤ 1048576
  vi : ∀ n ∈ vs, inI n
def wAft (fs : Show → State → List Int → List Int → State) (f : Show → State → List Int → List Int → Bool) : Wr := w4 dcShow dcState dcIs dcIs (fun t x ps vs => rAft (fs t x ps vs) (f t x ps vs)) (fun t x ps vs => [AftH t x ps vs])
theorem wAftS_ok : WrOK Try.prog 28 (wAft aftS aftOk) := w4_ok fun t x ps vs h => by
  have h := h _ (.head _)
  rw [← aftR_eq]
  exact specAfter_ok t x ps vs h.sh h.st h.sz h.pl h.vl h.vi
theorem wAftI_ok : WrOK Try.prog 30 (wAft aftS aftOk) := w4_ok fun t x ps vs h => by
  have h := h _ (.head _)
  rw [← aftR_eq]
  exact implAfter_ok t x ps vs h.sh h.st h.sz h.pl h.vl h.vi
theorem kN_le {l : List Node} (k : Int) (h : ∀ q ∈ l, q.label.length ≤ 1048576) : ∀ i, i ≤ l.length → kN k l i ≤ k + i * 1048578
  | 0, _ => by rw [kN_zero]; omega
  | i + 1, hi => by
    have h1 := kN_le k h i (by omega)
    have h2 := h _ (mem_getD (z := Node.z) (show i < l.length by omega)).out
    rw [kN_succ (by omega)]
    omega
structure ShGT (n : Int) (g : Int) : Prop where
  lo : 0 < g
  hi : g ≤ 4000000000000
theorem shG_in {t : Show} {n : Int} (h : ShowSz t n) : ShGT n (shG 1 t.nodes t.ties.length) ∧ gN 1 t.nodes ≤ 4000000000000 := by
  have h1 := kN_le 1 h.labs t.nodes.length (Nat.le_refl _)
  have h2 := kN_mono 1 t.nodes 0 t.nodes.length
  rw [kN_zero, Nat.zero_add] at h2
  have h3 := h.len
  have h4 := h.tlen
  unfold shG addT gN
  exact ⟨⟨by omega, by omega⟩, by omega⟩
theorem stF_len (k : Int) (n m : Nat) : (stF k n m).length = m := markI_len _ _
theorem aft_HSt (s : State) (h1 : s.times.length ≤ 1048576) (h2 : s.vals.length ≤ 1048576) : HSt ⟨s.now, markI 1 s.times.length, stF 1 s.times.length s.vals.length⟩ 1 s.times.length s.vals.length := ⟨rfl, rfl, by unfold maxLen; omega, by unfold maxLen; omega, by omega, by omega⟩
theorem aft_MkSt (s : State) (h1 : s.times.length ≤ 1048576) (h2 : s.vals.length ≤ 1048576) : MkSt (lrt 0, []) (lrt 1, []) s.times.length s.times.length s.vals.length s.vals.length s.times s.vals 1 := ⟨⟨rfl, rfl, rfl, rfl⟩, rfl, rfl, by unfold maxLen; omega, by unfold maxLen; omega, by omega, by omega⟩
set_option maxHeartbeats 8000000 in
theorem lawAfter_ok (t : Show) (x : State) (ps vs : List Int) (ht : ShowIn t) (hx : StateIn x) (hp : IntsIn ps) (hv : IntsIn vs) : SCall Try.prog 7 [aShow t, aState x, aIs ps, aIs vs] (rB true) := by
  refine SCall.of X7_ok (fn := Try.f7) (c := Try.f7.body.getD .skip) (dr := fun n => look 0 [(12, 786445), (20, 3), (22, 3), (43, 786445)] n) Try.func7 rfl (by kernel_rfl) (by kernel_rfl) (by kernel_rfl) ?_
  obtain ⟨fs, hfs⟩ : ∃ f, f = aftS := ⟨_, rfl⟩
  obtain ⟨f, hf⟩ : ∃ f, f = aftOk := ⟨_, rfl⟩
  obtain ⟨g, hg⟩ : ∃ g, g = szShowI := ⟨_, rfl⟩
  obtain ⟨k, hk⟩ : ∃ g, g = szStateI := ⟨_, rfl⟩
  obtain ⟨f1, hf1⟩ : ∃ f, f = fN := ⟨_, rfl⟩
  obtain ⟨f2, hf2⟩ : ∃ f, f = shT := ⟨_, rfl⟩
  obtain ⟨g1, hg1⟩ : ∃ f, f = shG := ⟨_, rfl⟩
  obtain ⟨f3, hf3⟩ : ∃ f, f = markI := ⟨_, rfl⟩
  obtain ⟨f4, hf4⟩ : ∃ f, f = stF := ⟨_, rfl⟩
  obtain ⟨g4, hg4⟩ : ∃ f, f = stG := ⟨_, rfl⟩
  obtain ⟨g5, hg5⟩ : ∃ f, f = addI := ⟨_, rfl⟩
  obtain ⟨ln, hln⟩ : ∃ f, f = @List.length Int := ⟨_, rfl⟩
  have hO : SOraOK Try.prog (oraL [(9, wSzShow g), (10, wSzState k), (12, wToShow), (13, wToState), (29, wToIntS), (28, wAft fs f), (30, wAft fs f), (15, wEqShow), (16, wEqState), (23, wEqIntS), (31, wHeldSt g4 ln)]) := by
    subst hfs hf hg hk hg4 hln
    exact oraL_cons wSzShow_ok (oraL_cons wSzState_ok (oraL_cons wToShow_ok (oraL_cons wToState_ok (oraL_cons wToIntS_ok (oraL_cons wAftS_ok (oraL_cons wAftI_ok (oraL_cons wEqShow_ok (oraL_cons wEqState_ok (oraL_cons wEqIntS_ok (oraL_cons wHeldSt_ok oraL_nil))))))))))
  have hW : SOraWOK Try.prog (X7.withW [(24, [(0, 0), (0, 1)]), (25, [(0, 1), (0, 2)]), (26, [(0, 0)])] (oraWL [(24, wMarkShow f1 f2 g1), (25, wMarkState f3 f4 g4), (26, wMarkI f3 g5)])) := by
    subst hf1 hf2 hg1 hf3 hf4 hg4 hg5
    exact SX.withW_ok (oraWL_cons wMarkShow_ok (oraWL_cons wMarkState_ok (oraWL_cons wMarkI_ok oraWL_nil)))
  have hA : 0 ≤ g t 1048576 → ShowSz t (g t 1048576) := fun h => by rw [hg] at h ⊢; exact showSz h
  have hB : 0 ≤ g t 1048576 → 0 ≤ k x (g t 1048576) → StateSz x := fun h h2 => by rw [hk] at h2; exact stateSz h (hA h).le h2
  have hG : 0 ≤ g t 1048576 → ShGT (g t 1048576) (g1 1 t.nodes t.ties.length) := fun h => by rw [hg1]; exact (shG_in (hA h)).1
  have hS1 : (fs t x ps vs).times.length ≤ x.times.length := by rw [hfs]; exact aftS_times ..
  have hS2 : (fs t x ps vs).vals.length ≤ x.vals.length := by rw [hfs]; exact aftS_vals ..
  have h1 := ht.le
  have h2 := hx.le
  have h3 := hp.len
  have h4 := hv.len
  have h5 := hv.all
  have hn : ∀ q ∈ t.nodes, NodeLe q maxLen := fun q hq => ⟨(ht.nodes q hq).name, (ht.nodes q hq).len⟩
  clear ht hx hfs hf hg hk
  obtain ⟨ns, ts, hr⟩ := t
  obtain ⟨now, times, vals⟩ := x
  dsimp only at hG hS1 hS2
  have hT1 := hS1
  have hT2 := hS2
  delta State.times State.vals at hS1 hS2
  refine SEx.go (X := (X7.withW [(24, [(0, 0), (0, 1)]), (25, [(0, 1), (0, 2)]), (26, [(0, 0)])] (oraWL [(24, wMarkShow f1 f2 g1), (25, wMarkState f3 f4 g4), (26, wMarkI f3 g5)]))) X7_ok (fun n => look [] [] n) (fun _ => none) hO 120 ?_ hW
  intro M R L N hM hAnd hImp hR hL hN
  cases M
  cbv
  repeat' first | (refine hAnd _ _ ?_ ?_) | (refine hImp _ _ (fun h => ?_)) | (refine hR _ ?_) | (refine hL _ _ (Hd.out ?_); try first | rw [hks] | rw [hk2] | rw [hk3]) | (refine hN _ _ ?_; cbv)
  all_goals (clear hAnd hImp hR hL hN; try clear hks; try clear hk2; try clear hk3)
  all_goals (cases hM; try dsimp only)
  all_goals (try simp only [Bool.not_eq_true', Bool.not_eq_false', decide_eq_true_eq, decide_eq_false_iff_not, Int.not_le, Int.not_lt, beq_iff_eq, beq_eq_false_iff_ne, ne_eq, Int.ofNat_eq_natCast, Int.toNat_natCast, List.length_replicate, ncast, Nat.sub_zero, List.drop_zero, Cue.eta, Tie.eta, Edge.eta, Link.eta, Node.eta] at *)
  all_goals (clear hO hW; subst hf1 hf2 hf3 hf4 hg4 hg5 hln)
  all_goals (try simp only [addI, stG, markI_len, stF_len] at *)
  all_goals (try (have G := hG (by assumption); have G1 := G.lo; have G2 := G.hi))
  all_goals (try (have b := hB (by assumption) (by assumption); have b1 := b.tlen; have b2 := b.vlen; dsimp only at b1 b2))
  all_goals first
    | rfl
    | contradiction
    | exact ⟨h1.len⟩
    | exact ⟨h1.tlen⟩
    | exact ⟨hn⟩
    | exact ⟨⟨by decide, by decide⟩⟩
    | exact ⟨h2.tlen⟩
    | exact ⟨h2.vlen⟩
    | exact ⟨⟨by assumption, by have := (hA (by assumption)).le; omega⟩⟩
    | exact ⟨(hA (by assumption)).len⟩
    | exact ⟨(hA (by assumption)).tlen⟩
    | exact ⟨(hA (by assumption)).labs⟩
    | exact ⟨b1⟩
    | exact ⟨b2⟩
    | exact ⟨h1, h2, ⟨b1, b2⟩, by omega, by omega, h5⟩
    | exact ⟨rfl⟩
    | exact ⟨by omega⟩
    | exact ⟨Nat.le_trans hT1 h2.tlen⟩
    | exact ⟨Nat.le_trans hT2 h2.vlen⟩
    | exact ⟨Nat.le_trans hT1 b1⟩
    | exact ⟨Nat.le_trans hT2 b2⟩
    | exact ⟨fun q hq => (h1.nodes q hq).len⟩
    | exact absurd trivial (by assumption)
    | exact absurd rfl (by assumption)
    | exact (fN_len _ _).symm
    | exact (markTi_len _ _).symm
    | exact ⟨⟨rfl, rfl, rfl, rfl⟩, rfl, rfl, h1.len, h1.tlen, fun q hq => (h1.nodes q hq).len, by decide, by omega⟩
    | exact ⟨⟨rfl, rfl, rfl, rfl⟩, rfl, rfl, h2.tlen, h2.vlen, by omega, by omega⟩
    | exact ⟨⟨rfl, rfl, rfl, rfl⟩, rfl, rfl, Nat.le_trans hT1 h2.tlen, Nat.le_trans hT2 h2.vlen, by omega, by omega⟩
    | exact ⟨rfl, rfl, rfl, by unfold maxLen; omega, by omega, by omega⟩
    | exact aft_MkSt (fs ⟨ns, ts, hr⟩ ⟨now, times, vals⟩ ps vs) (Nat.le_trans hT1 b1) (Nat.le_trans hT2 b2)
    | exact aft_HSt (fs ⟨ns, ts, hr⟩ ⟨now, times, vals⟩ ps vs) (Nat.le_trans hT1 b1) (Nat.le_trans hT2 b2)
    | (exfalso; omega)
    | skip
end Go.Proofs.Ytciphddcdiifgaa.Ai
