/- States behind observations. -/
import Derived.Test.YtciphddcdiifgaaTy
import Derived.Test.YtciphddcdiifgaaU
import Derived.Test.YtciphddcdiifgaaOB
import Derived.Test.YtciphddcdiifgaaLB
import Derived.Test.YtciphddcdiifgaaLD
import Derived.Test.YtciphddcdiifgaaLI
import Derived.Test.YtciphddcdiifgaaLJ
import Derived.Test.YtciphddcdiifgaaLK
import Derived.Test.YtciphddcdiifgaaLM
import Derived.Test.YtciphddcdiifgaaLN
import Derived.Test.YtciphddcdiifgaaLQ
import Derived.Test.YtciphddcdiifgaaLR
namespace Go.Proofs.Ytciphddcdiifgaa.Ai
open Go
set_option maxRecDepth 100000
set_option linter.unusedVariables false
set_option linter.unusedSimpArgs false
def wCloneI : Wr := w1 dcIs rIs (fun l => [LLe l 1048576])
theorem wCloneI_ok : WrOK Try.prog 116 wCloneI := w1_ok fun l h => cloneI_ok l (h _ (.head _)).out
theorem copyState_ok (x : State) (hz : StSz x) : SCall Try.prog 94 [aState x] (rState x) := by
  refine SCall.of X94_ok (fn := Try.f94) (c := Try.f94.body.getD .skip) (dr := fun n => look 0 [(1, 8)] n) Try.func94 rfl (by kernel_rfl) (by kernel_rfl) (by kernel_rfl) ?_
  have hO : SOraOK Try.prog (oraL [(116, wCloneI)]) := oraL_cons wCloneI_ok oraL_nil
  have h1 := hz.tlen
  have h2 := hz.vlen
  clear hz
  obtain ⟨now, times, vals⟩ := x
  dsimp only at h1 h2
  refine SEx.go (X := X94) X94_ok (fun n => look [] [] n) (fun _ => none) hO 60 ?_
  intro M R L N hM hAnd hImp hR hL hN
  cases M
  cbv
  repeat' first | (refine hAnd _ _ ?_ ?_) | (refine hImp _ _ (fun h => ?_)) | (refine hR _ ?_) | (refine hL _ _ (Hd.out ?_); try first | rw [hks] | rw [hk2] | rw [hk3]) | (refine hN _ _ ?_; cbv)
  all_goals (clear hAnd hImp hR hL hN; try clear hks; try clear hk2; try clear hk3)
  all_goals (cases hM; try dsimp only)
  all_goals (try simp only [Bool.not_eq_true', Bool.not_eq_false', decide_eq_true_eq, decide_eq_false_iff_not, Int.not_le, Int.not_lt, beq_iff_eq, beq_eq_false_iff_ne, ne_eq, Int.ofNat_eq_natCast, Int.toNat_natCast, List.length_replicate, ncast, Nat.sub_zero, List.drop_zero, Cue.eta, Tie.eta, Edge.eta, Link.eta, Node.eta] at *)
  all_goals first
    | exact ⟨h1⟩
    | exact ⟨h2⟩
    | rfl
def wCopySt : Wr := w1 dcState rState (fun x => [StSz x])
theorem wCopySt_ok : WrOK Try.prog 94 wCopySt := w1_ok fun x h => copyState_ok x (h _ (.head _))
theorem implObserved_ok (x : State) (ps vs : List Int) (hz : StSz x) (h3 : x.vals.length = 3) (hl : vs.length = ps.length) (h1 : ps.length ≤ 1048576) (hp : ∀ p ∈ ps, 1 ≤ p ∧ p ≤ 3) : SCall Try.prog 65 [aState x, aIs ps, aIs vs] (rState (obsS x ps vs)) := by
  refine SCall.of X65_ok (fn := Try.f65) (c := Try.f65.body.getD .skip) (dr := fun n => look 0 [(5, 8)] n) Try.func65 rfl (by kernel_rfl) (by kernel_rfl) (by kernel_rfl) ?_
  have hO : SOraOK Try.prog (oraL [(94, wCopySt)]) := oraL_cons wCopySt_ok oraL_nil
  obtain ⟨now, times, vals⟩ := x
  dsimp only at h3
  refine SEx.go (X := X65) X65_ok (fun n => look [] [(3, [2, 6, 7, 12, 13, 14])] n) (fun _ => none) hO 60 ?_
  intro M R L N hM hAnd hImp hR hL hN
  cases M
  cbv
  repeat' first | (refine hAnd _ _ ?_ ?_) | (refine hImp _ _ (fun h => ?_)) | (refine hR _ ?_) | (refine hL _ _ (Hd.out ?_); generalize hks : (List.cons _ _ : List K) = ks) | (refine hN _ _ ?_; cbv)
  all_goals (clear hAnd hImp hR hL hN)
  all_goals (cases hM; try dsimp only)
  all_goals (try simp only [Bool.not_eq_true', Bool.not_eq_false', decide_eq_true_eq, decide_eq_false_iff_not, Int.not_le, Int.not_lt, beq_iff_eq, beq_eq_false_iff_ne, ne_eq, Int.ofNat_eq_natCast, Int.toNat_natCast, List.length_replicate, ncast, Nat.sub_zero, List.drop_zero, Cue.eta, Tie.eta, Edge.eta, Link.eta, Node.eta] at *)
  all_goals first
    | exact hz
    | skip
  obtain ⟨m, hm⟩ : ∃ m, m = ps.length := ⟨_, rfl⟩
  refine ⟨SEx.same (SEx.idx m (fun i => ⟨34, [(2, bL (.i vs)), (6, bP 24576), (7, bP 28672), (12, bL (.i ps)), (13, bI m), (14, bI i)], [(24576, .obx [.fz (.int .i64 0), .onil, .onil]), (28672, .obx [.fz (.int .i64 now), .osl (.i times), .osl (.i (obsL vals ps vs i))])]⟩) (fun _ => rState (obsS ⟨now, times, vals⟩ ps vs)) ?_) (by rw [hm]; rfl) rfl⟩
  intro i hi ih
  rw [← hks]
  obtain ⟨c, hc⟩ : ∃ c, c = obsL vals ps vs i := ⟨_, rfl⟩
  have hcl : c.length = 3 := by rw [hc, obsL_len, h3]
  have hpi : i < m → 1 ≤ ps.getD i 0 ∧ ps.getD i 0 ≤ 3 := fun h => hp _ (mem_getD (z := (0 : Int)) (by omega)).out
  have hw : i < m → IntKind.i64.wrap (ps.getD i 0 - 1) = ps.getD i 0 - 1 := fun h => by have := hpi h; exact wrap_i64 (by omega) (by omega)
  rw [← hc]
  refine SEx.go (X := X65) X65_ok (fun n => look [] [(3, [2, 6, 7, 12, 13, 14])] n) (fun _ => none) hO 60 ?_
  intro M R L N hM hAnd hImp hR hL hN
  cases M
  cbv
  repeat' first | (refine hAnd _ _ ?_ ?_) | (refine hImp _ _ (fun h => ?_)) | (refine hR _ ?_) | (refine hL _ _ (Hd.out ?_); try first | rw [hks] | rw [hk2] | rw [hk3]) | (refine hN _ _ ?_; cbv)
  all_goals (clear hAnd hImp hR hL hN; try clear hks; try clear hk2; try clear hk3)
  all_goals (cases hM; try dsimp only)
  all_goals (try simp only [Bool.not_eq_true', Bool.not_eq_false', decide_eq_true_eq, decide_eq_false_iff_not, Int.not_le, Int.not_lt, beq_iff_eq, beq_eq_false_iff_ne, ne_eq, Int.ofNat_eq_natCast, Int.toNat_natCast, List.length_replicate, ncast, Nat.sub_zero, List.drop_zero, Cue.eta, Tie.eta, Edge.eta, Link.eta, Node.eta] at *)
  all_goals (try (have h8 := hpi (by omega)))
  all_goals (try rw [hw (by omega)] at *)
  all_goals (try simp only [wrap_succ (show i < 9223372036854775807 by omega)])
  all_goals first
    | omega
    | (refine ⟨(ih (by omega)).same ?_ rfl⟩; show _ = _; rw [show obsL vals ps vs (i + 1) = c.set (ps.getD i 0 - 1).toNat (vs.getD i 0) by rw [hc]; rfl]; rfl)
    | (obtain rfl : i = m := by omega
       unfold obsS
       rw [← hm, hc]; rfl)
    | skip
def obF (v ps vs : List Int) : List Int := obsL v ps vs ps.length
theorem inI_wrap (n : Int) : inI (IntKind.i64.wrap n) := by
  rw [inI_iff]
  simp only [IntKind.wrap, IntKind.bits, IntKind.signed]
  simp
  omega
structure V3 (v : List Int) : Prop where out : v.length = 3
structure SLn (a b : List Int) : Prop where out : a.length = b.length
def nxI (n : Int) : Int := IntKind.i64.wrap (n + 1)
def wObV (g : Int → Int) (f : List Int → List Int → List Int → List Int) : Wr := w3 dcState dcIs dcIs (fun x ps vs => rState ⟨g x.now, x.times, f x.vals ps vs⟩) (fun x ps vs => [StSz x, V3 x.vals, SLn vs ps, LLe ps 1048576, PrT ps])
theorem wObVS_ok : WrOK Try.prog 63 (wObV nxI obF) := w3_ok fun x ps vs h => specValues_ok x ps vs (h _ (.head _)) (h _ (.tail _ (.head _))).out (h _ (.tail _ (.tail _ (.head _)))).out (h _ (.tail _ (.tail _ (.tail _ (.head _))))).out (h _ (.tail _ (.tail _ (.tail _ (.tail _ (.head _)))))).out
theorem wObVI_ok : WrOK Try.prog 65 (wObV nxI obF) := w3_ok fun x ps vs h => implObserved_ok x ps vs (h _ (.head _)) (h _ (.tail _ (.head _))).out (h _ (.tail _ (.tail _ (.head _)))).out (h _ (.tail _ (.tail _ (.tail _ (.head _))))).out (h _ (.tail _ (.tail _ (.tail _ (.tail _ (.head _)))))).out
def prP (vs : List Int) (i : Nat) (p : Int) : Bool := decide (1 ≤ p ∧ p ≤ 3) && (decide (vs.getD i 0 = 1) || decide (vs.getD i 0 = -1))
theorem prP_all {ps vs : List Int} (h : allF (prP vs) ps 0 = true) : ∀ p ∈ ps, 1 ≤ p ∧ p ≤ 3 := fun p hp => by
  obtain ⟨i, hi⟩ := allF_mem h hp
  unfold prP at hi
  rw [Bool.and_eq_true, decide_eq_true_eq] at hi
  exact hi.1
def rAft (s : State) (b : Bool) : TV W := .tup [(true, s.w), (false, [.fz (.bool false b)])]
def aftR (s : State) (b : Bool) : TV W := match b with | true => rAft s true | false => rAft ⟨0, [], []⟩ false
def aftOk (t : Show) (x : State) (ps vs : List Int) : Bool := decide (ps.length = vs.length) && (valuesB x.vals && (allF (prP vs) ps 0 && stOkB t (obsS x ps vs)))
theorem LoopB.stopR {p A B : Bool} (h : LoopB p A B) (s : State) (hp : p = false) : eR (rAft ⟨0, [], []⟩ false) = eR (aftR s A) := by rw [h.no hp]; rfl
theorem LoopB.goR {p A B : Bool} (h : LoopB p A B) (s : State) (hp : p = true) : eR (aftR s B) = eR (aftR s A) := by rw [h.yes hp]
theorem stOkB_now {t : Show} {x : State} (h : 11 < x.now ∨ x.now < 0) : stOkB t x = false := by
  cases hs : stOkB t x with
  | false => rfl
  | true =>
    unfold stOkB at hs
    rw [Bool.and_eq_true] at hs
    have h1 := showB_hor hs.1
    have := (StT.mk hs.1 hs.2).now
    omega
theorem specAfter_ok (t : Show) (x : State) (ps vs : List Int) (hs : ShowLe t) (hx : StateLe x) (hz : StSz x) (h1 : ps.length ≤ 1048576) (h2 : vs.length ≤ 1048576) (hvi : ∀ n ∈ vs, inI n) : SCall Try.prog 28 [aShow t, aState x, aIs ps, aIs vs] (aftR (obsS x ps vs) (aftOk t x ps vs)) := by
  refine SCall.of X28_ok (fn := Try.f28) (c := Try.f28.body.getD .skip) (dr := fun n => look 0 [] n) Try.func28 rfl (by kernel_rfl) (by kernel_rfl) (by kernel_rfl) ?_
  have hnow := hx.now
  have hvl := hx.vlen
  have htl := hx.tlen
  rw [inI_iff] at hnow
  obtain ⟨f0, hf0⟩ : ∃ f, f = l01InB := ⟨_, rfl⟩
  obtain ⟨f1, hf1⟩ : ∃ f, f = valuesB := ⟨_, rfl⟩
  obtain ⟨f2, hf2⟩ : ∃ f, f = obF := ⟨_, rfl⟩
  obtain ⟨f3, hf3⟩ : ∃ f, f = stOkB := ⟨_, rfl⟩
  obtain ⟨g1, hg1⟩ : ∃ f, f = nxI := ⟨_, rfl⟩
  have hO : SOraOK Try.prog (oraL [(62, wValuesOk f1), (40, wL01 f0), (63, wObV g1 f2), (43, wStateOk f3)]) := by
    subst hf0 hf1 hf2 hf3 hg1
    exact oraL_cons wValuesOkS_ok (oraL_cons wL01_ok (oraL_cons wObVS_ok (oraL_cons wStateOkS_ok oraL_nil)))
  obtain ⟨ns, ts, hr⟩ := t
  obtain ⟨now, times, vals⟩ := x
  dsimp only at hnow hvl htl
  obtain ⟨p, hp⟩ : ∃ p, p = prP vs := ⟨_, rfl⟩
  obtain ⟨s, hss⟩ : ∃ s : State, s = ⟨g1 now, times, f2 vals ps vs⟩ := ⟨_, rfl⟩
  have hsE : obsS ⟨now, times, vals⟩ ps vs = s := by rw [hss, hf2, hg1]; rfl
  rw [hsE]
  obtain ⟨d, hd⟩ : ∃ d, d = f3 ⟨ns, ts, hr⟩ s := ⟨_, rfl⟩
  obtain ⟨r, hrr⟩ : ∃ r, r = aftOk ⟨ns, ts, hr⟩ ⟨now, times, vals⟩ ps vs := ⟨_, rfl⟩
  rw [← hrr]
  have hre : r = (decide (ps.length = vs.length) && (f1 vals && (allF p ps 0 && d))) := by rw [hrr, hd, hf1, hf3, hp, ← hsE]; rfl
  clear hrr
  have hn10 : 10 < now → r = false := fun h => by
    rw [hre]
    have : d = false := by
      rw [hd, hf3]
      apply stOkB_now
      rw [hss, hg1]
      unfold nxI
      dsimp only
      by_cases hm : now = 9223372036854775807
      · right; rw [hm]; decide
      · left; rw [wrap_i64 (by omega) (by omega)]; omega
    rw [this]; simp
  have hv3 : f1 vals = true → vals.length = 3 := fun h => by rw [hf1] at h; exact valuesB_len h
  have hF : (¬ ((ps.length : Int) = vs.length) ∨ f1 vals = false ∨ 10 < now) → r = false := fun h => by
    rcases h with h | h | h
    · rw [hre, decide_eq_false (show ¬ ps.length = vs.length by omega)]; rfl
    · rw [hre, h]; simp
    · exact hn10 h
  refine SEx.go (X := X28) X28_ok (fun n => look [] [(4, [2, 3, 4, 5, 8, 30, 31, 32])] n) (fun _ => none) hO 60 ?_
  intro M R L N hM hAnd hImp hR hL hN
  cases M
  cbv
  repeat' first | (refine hAnd _ _ ?_ ?_) | (refine hImp _ _ (fun h => ?_)) | (refine hR _ ?_) | (refine hL _ _ (Hd.out ?_); generalize hks : (List.cons _ _ : List K) = ks) | (refine hN _ _ ?_; cbv)
  all_goals (clear hAnd hImp hR hL hN)
  all_goals (cases hM; try dsimp only)
  all_goals (try simp only [Bool.not_eq_true', Bool.not_eq_false', decide_eq_true_eq, decide_eq_false_iff_not, Int.not_le, Int.not_lt, beq_iff_eq, beq_eq_false_iff_ne, ne_eq, Int.ofNat_eq_natCast, Int.toNat_natCast, List.length_replicate, ncast, Nat.sub_zero, List.drop_zero, Cue.eta, Tie.eta, Edge.eta, Link.eta, Node.eta] at *)
  all_goals first
    | (rw [hF (.inl (by assumption))]; rfl)
    | (rw [hF (.inr (.inl (by assumption)))]; rfl)
    | (rw [hF (.inr (.inr (by assumption)))]; rfl)
    | exact ⟨hvl⟩
    | skip
  have hL : ps.length = vs.length := by omega
  have hV : f1 vals = true := by assumption
  obtain ⟨m, hm⟩ : ∃ m, m = ps.length := ⟨_, rfl⟩
  refine ⟨SEx.same (SEx.ind (α := Nat) (fun i => ⟨66, [(2, bL (.i ps)), (3, bL (.i vs)), (4, bP 16384), (5, bP 20480), (8, bP 32768), (30, bL (.i ps)), (31, bI m), (32, bI i)], [(16384, .obx [.fz (.sl (.node false none ns)), .fz (.sl (.tie ts)), .fz (.int .i64 hr)]), (20480, .obx [.fz (.int .i64 now), .fz (.sl (.i times)), .fz (.sl (.i vals))]), (32768, .obx [.fz (.int .i64 0), .onil, .onil])]⟩) (fun _ => aftR s r) (fun i => i ≤ m ∧ ∀ j, j < i → p j (ps.getD j 0) = true) (fun i => m - i) 0 ⟨by omega, fun j h => by omega⟩ ?_) (by rw [hm]; rfl) rfl⟩
  rintro i ⟨hi, hj⟩ ih
  rw [← hks]
  have hft : f0 (ps.getD i 0) 1 3 = true → 1 ≤ ps.getD i 0 ∧ ps.getD i 0 ≤ 3 := by subst hf0; intro h; simpa [l01InB] using h
  have hff : f0 (ps.getD i 0) 1 3 = false → ¬ (1 ≤ ps.getD i 0 ∧ ps.getD i 0 ≤ 3) := by subst hf0; intro h h2; simp only [l01InB, decide_eq_true h2.1, decide_eq_true h2.2] at h; cases h
  have hpd : p i (ps.getD i 0) = (decide (1 ≤ ps.getD i 0 ∧ ps.getD i 0 ≤ 3) && (decide (vs.getD i 0 = 1) || decide (vs.getD i 0 = -1))) := by rw [hp]; rfl
  have hbad : i < m → p i (ps.getD i 0) = false → r = false := fun h h2 => by
    cases hc : allF p ps 0 with
    | true => have := allF_getD (n := 0) (0 : Int) hc (show i < ps.length by omega); rw [Nat.zero_add, h2] at this; cases this
    | false => rw [hre, hc]; simp
  have hgo : ∀ (h : i < m) (h2 : p i (ps.getD i 0) = true), i + 1 ≤ m ∧ ∀ j, j < i + 1 → p j (ps.getD j 0) = true := fun h h2 => ⟨h, fun j hj' => by
    by_cases e : j = i
    · rw [e]; exact h2
    · exact hj j (by omega)⟩
  have hA : i = m → allF p ps 0 = true := fun h => by rw [allF_R (0 : Int)]; exact allR_yes (by rw [← hm, ← h]; exact hj)
  have hrd : i = m → r = d := fun h => by rw [hre, hA h, hV, decide_eq_true hL]; rfl
  have hPr : i = m → PrT ps := fun h => ⟨prP_all (by rw [← hp]; exact hA h)⟩
  rw [hss] at hd
  have hsl : StateLe s := by rw [hss]; exact ⟨by dsimp only; rw [hg1]; exact inI_wrap _, htl, by dsimp only; rw [hf2]; unfold obF; rw [obsL_len]; exact hvl⟩
  refine SEx.go (X := X28) X28_ok (fun n => look [] [(4, [2, 3, 4, 5, 8, 30, 31, 32])] n) (fun _ => none) hO 90 ?_
  intro M R L N hM hAnd hImp hR hL hN
  cases M
  cbv
  repeat' first | (refine hAnd _ _ ?_ ?_) | (refine hImp _ _ (fun h => ?_)) | (refine hR _ ?_) | (refine hL _ _ (Hd.out ?_); try first | rw [hks] | rw [hk2] | rw [hk3]) | (refine hN _ _ ?_; cbv)
  all_goals (clear hAnd hImp hR hL hN; try clear hks; try clear hk2; try clear hk3)
  all_goals (cases hM; try dsimp only)
  all_goals (try simp only [Bool.not_eq_true', Bool.not_eq_false', decide_eq_true_eq, decide_eq_false_iff_not, Int.not_le, Int.not_lt, beq_iff_eq, beq_eq_false_iff_ne, ne_eq, Int.ofNat_eq_natCast, Int.toNat_natCast, List.length_replicate, ncast, Nat.sub_zero, List.drop_zero, Cue.eta, Tie.eta, Edge.eta, Link.eta, Node.eta] at *)
  all_goals (try simp only [wrap_succ (show i < 9223372036854775807 by omega)])
  all_goals first
    | omega
    | exact ⟨hz, ⟨hv3 hV⟩⟩
    | exact hz
    | exact ⟨hv3 hV⟩
    | exact ⟨hL.symm⟩
    | exact ⟨h1⟩
    | exact hPr (by omega)
    | exact hs
    | (rw [hss] at hsl; exact hsl)
    | (rw [hbad (by omega) (by rw [hpd, decide_eq_false (hff (by assumption))]; rfl)]; rfl)
    | (rw [hbad (by omega) (by rw [hpd, decide_eq_false (show ¬ vs.getD i 0 = 1 by assumption), decide_eq_false (show ¬ vs.getD i 0 = -1 by assumption)]; simp)]; rfl)
    | (exact ⟨(ih (i + 1) (hgo (by omega) (by rw [hpd, decide_eq_true (hft (by assumption))]; first | (rw [decide_eq_true (show vs.getD i 0 = 1 by assumption)]; rfl) | (rw [decide_eq_true (show vs.getD i 0 = -1 by assumption)]; simp; done))) (by omega)).same rfl rfl⟩)
    | (rw [hrd (by omega), hd, show f3 _ _ = false by assumption]; rfl)
    | (rw [hrd (by omega), hd, show f3 _ _ = true by assumption, hss]; rfl)
    | skip
theorem implAfter_ok (t : Show) (x : State) (ps vs : List Int) (hs : ShowLe t) (hx : StateLe x) (hz : StSz x) (h1 : ps.length ≤ 1048576) (h2 : vs.length ≤ 1048576) (hvi : ∀ n ∈ vs, inI n) : SCall Try.prog 30 [aShow t, aState x, aIs ps, aIs vs] (aftR (obsS x ps vs) (aftOk t x ps vs)) := by
  refine SCall.of X30_ok (fn := Try.f30) (c := Try.f30.body.getD .skip) (dr := fun n => look 0 [] n) Try.func30 rfl (by kernel_rfl) (by kernel_rfl) (by kernel_rfl) ?_
  have hnow := hx.now
  have hvl := hx.vlen
  have htl := hx.tlen
  rw [inI_iff] at hnow
  obtain ⟨f1, hf1⟩ : ∃ f, f = valuesB := ⟨_, rfl⟩
  obtain ⟨f2, hf2⟩ : ∃ f, f = obF := ⟨_, rfl⟩
  obtain ⟨f3, hf3⟩ : ∃ f, f = stOkB := ⟨_, rfl⟩
  obtain ⟨g1, hg1⟩ : ∃ f, f = nxI := ⟨_, rfl⟩
  have hO : SOraOK Try.prog (oraL [(64, wValuesOk f1), (65, wObV g1 f2), (55, wStateOk f3)]) := by
    subst hf1 hf2 hf3 hg1
    exact oraL_cons wValuesOkI_ok (oraL_cons wObVI_ok (oraL_cons wStateOkI_ok oraL_nil))
  obtain ⟨ns, ts, hr⟩ := t
  obtain ⟨now, times, vals⟩ := x
  dsimp only at hnow hvl htl
  obtain ⟨p, hp⟩ : ∃ p, p = prP vs := ⟨_, rfl⟩
  obtain ⟨s, hss⟩ : ∃ s : State, s = ⟨g1 now, times, f2 vals ps vs⟩ := ⟨_, rfl⟩
  have hsE : obsS ⟨now, times, vals⟩ ps vs = s := by rw [hss, hf2, hg1]; rfl
  rw [hsE]
  obtain ⟨d, hd⟩ : ∃ d, d = f3 ⟨ns, ts, hr⟩ s := ⟨_, rfl⟩
  obtain ⟨r, hrr⟩ : ∃ r, r = aftOk ⟨ns, ts, hr⟩ ⟨now, times, vals⟩ ps vs := ⟨_, rfl⟩
  rw [← hrr]
  have hre : r = (decide (ps.length = vs.length) && (f1 vals && (allF p ps 0 && d))) := by rw [hrr, hd, hf1, hf3, hp, ← hsE]; rfl
  clear hrr
  have hn10 : 10 < now → r = false := fun h => by
    rw [hre]
    have : d = false := by
      rw [hd, hf3]
      apply stOkB_now
      rw [hss, hg1]
      unfold nxI
      dsimp only
      by_cases hm : now = 9223372036854775807
      · right; rw [hm]; decide
      · left; rw [wrap_i64 (by omega) (by omega)]; omega
    rw [this]; simp
  have hv3 : f1 vals = true → vals.length = 3 := fun h => by rw [hf1] at h; exact valuesB_len h
  have hF : (¬ ((ps.length : Int) = vs.length) ∨ f1 vals = false ∨ 10 < now) → r = false := fun h => by
    rcases h with h | h | h
    · rw [hre, decide_eq_false (show ¬ ps.length = vs.length by omega)]; rfl
    · rw [hre, h]; simp
    · exact hn10 h
  refine SEx.go (X := X30) X30_ok (fun n => look [] [(4, [2, 3, 4, 5, 8, 25, 26, 27])] n) (fun _ => none) hO 60 ?_
  intro M R L N hM hAnd hImp hR hL hN
  cases M
  cbv
  repeat' first | (refine hAnd _ _ ?_ ?_) | (refine hImp _ _ (fun h => ?_)) | (refine hR _ ?_) | (refine hL _ _ (Hd.out ?_); generalize hks : (List.cons _ _ : List K) = ks) | (refine hN _ _ ?_; cbv)
  all_goals (clear hAnd hImp hR hL hN)
  all_goals (cases hM; try dsimp only)
  all_goals (try simp only [Bool.not_eq_true', Bool.not_eq_false', decide_eq_true_eq, decide_eq_false_iff_not, Int.not_le, Int.not_lt, beq_iff_eq, beq_eq_false_iff_ne, ne_eq, Int.ofNat_eq_natCast, Int.toNat_natCast, List.length_replicate, ncast, Nat.sub_zero, List.drop_zero, Cue.eta, Tie.eta, Edge.eta, Link.eta, Node.eta] at *)
  all_goals first
    | (rw [hF (.inl (by assumption))]; rfl)
    | (rw [hF (.inr (.inl (by assumption)))]; rfl)
    | (rw [hF (.inr (.inr (by assumption)))]; rfl)
    | exact ⟨hvl⟩
    | skip
  have hL : ps.length = vs.length := by omega
  have hV : f1 vals = true := by assumption
  obtain ⟨m, hm⟩ : ∃ m, m = ps.length := ⟨_, rfl⟩
  refine ⟨SEx.same (SEx.ind (α := Nat) (fun i => ⟨64, [(2, bL (.i ps)), (3, bL (.i vs)), (4, bP 16384), (5, bP 20480), (8, bP 32768), (25, bL (.i ps)), (26, bI m), (27, bI i)], [(16384, .obx [.fz (.sl (.node false none ns)), .fz (.sl (.tie ts)), .fz (.int .i64 hr)]), (20480, .obx [.fz (.int .i64 now), .fz (.sl (.i times)), .fz (.sl (.i vals))]), (32768, .obx [.fz (.int .i64 0), .onil, .onil])]⟩) (fun _ => aftR s r) (fun i => i ≤ m ∧ ∀ j, j < i → p j (ps.getD j 0) = true) (fun i => m - i) 0 ⟨by omega, fun j h => by omega⟩ ?_) (by rw [hm]; rfl) rfl⟩
  rintro i ⟨hi, hj⟩ ih
  rw [← hks]
  have hpd : p i (ps.getD i 0) = (decide (1 ≤ ps.getD i 0 ∧ ps.getD i 0 ≤ 3) && (decide (vs.getD i 0 = 1) || decide (vs.getD i 0 = -1))) := by rw [hp]; rfl
  have hbad : i < m → p i (ps.getD i 0) = false → r = false := fun h h2 => by
    cases hc : allF p ps 0 with
    | true => have := allF_getD (n := 0) (0 : Int) hc (show i < ps.length by omega); rw [Nat.zero_add, h2] at this; cases this
    | false => rw [hre, hc]; simp
  have hgo : ∀ (h : i < m) (h2 : p i (ps.getD i 0) = true), i + 1 ≤ m ∧ ∀ j, j < i + 1 → p j (ps.getD j 0) = true := fun h h2 => ⟨h, fun j hj' => by
    by_cases e : j = i
    · rw [e]; exact h2
    · exact hj j (by omega)⟩
  have hA : i = m → allF p ps 0 = true := fun h => by rw [allF_R (0 : Int)]; exact allR_yes (by rw [← hm, ← h]; exact hj)
  have hrd : i = m → r = d := fun h => by rw [hre, hA h, hV, decide_eq_true hL]; rfl
  have hPr : i = m → PrT ps := fun h => ⟨prP_all (by rw [← hp]; exact hA h)⟩
  rw [hss] at hd
  have hsl : StateLe s := by rw [hss]; exact ⟨by dsimp only; rw [hg1]; exact inI_wrap _, htl, by dsimp only; rw [hf2]; unfold obF; rw [obsL_len]; exact hvl⟩
  refine SEx.go (X := X30) X30_ok (fun n => look [] [(4, [2, 3, 4, 5, 8, 25, 26, 27])] n) (fun _ => none) hO 90 ?_
  intro M R L N hM hAnd hImp hR hL hN
  cases M
  cbv
  repeat' first | (refine hAnd _ _ ?_ ?_) | (refine hImp _ _ (fun h => ?_)) | (refine hR _ ?_) | (refine hL _ _ (Hd.out ?_); try first | rw [hks] | rw [hk2] | rw [hk3]) | (refine hN _ _ ?_; cbv)
  all_goals (clear hAnd hImp hR hL hN; try clear hks; try clear hk2; try clear hk3)
  all_goals (cases hM; try dsimp only)
  all_goals (try simp only [Bool.not_eq_true', Bool.not_eq_false', decide_eq_true_eq, decide_eq_false_iff_not, Int.not_le, Int.not_lt, beq_iff_eq, beq_eq_false_iff_ne, ne_eq, Int.ofNat_eq_natCast, Int.toNat_natCast, List.length_replicate, ncast, Nat.sub_zero, List.drop_zero, Cue.eta, Tie.eta, Edge.eta, Link.eta, Node.eta] at *)
  all_goals (try simp only [wrap_succ (show i < 9223372036854775807 by omega)])
  all_goals first
    | omega
    | exact ⟨hz, ⟨hv3 hV⟩⟩
    | exact hz
    | exact ⟨hv3 hV⟩
    | exact ⟨hL.symm⟩
    | exact ⟨h1⟩
    | exact hPr (by omega)
    | exact hs
    | (rw [hss] at hsl; exact hsl)
    | (rw [hbad (by omega) (by rw [hpd, decide_eq_false (show ¬ (1 ≤ ps.getD i 0 ∧ ps.getD i 0 ≤ 3) by omega)]; rfl)]; rfl)
    | (rw [hbad (by omega) (by rw [hpd, decide_eq_false (show ¬ vs.getD i 0 = 1 by assumption), decide_eq_false (show ¬ vs.getD i 0 = -1 by assumption)]; simp)]; rfl)
    | (exact ⟨(ih (i + 1) (hgo (by omega) (by rw [hpd, decide_eq_true (show 1 ≤ ps.getD i 0 ∧ ps.getD i 0 ≤ 3 by omega)]; first | (rw [decide_eq_true (show vs.getD i 0 = 1 by assumption)]; rfl) | (rw [decide_eq_true (show vs.getD i 0 = -1 by assumption)]; simp; done))) (by omega)).same rfl rfl⟩)
    | (rw [hrd (by omega), hd, show f3 _ _ = false by assumption]; rfl)
    | (rw [hrd (by omega), hd, show f3 _ _ = true by assumption, hss]; rfl)
    | skip
end Go.Proofs.Ytciphddcdiifgaa.Ai
