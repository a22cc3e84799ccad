/- States that are right. -/
import Derived.Test.YtececadpjelanaaTy
import Derived.Test.YtececadpjelanaaLJ
namespace Go.Proofs.Ytececadpjelanaa.Ai
open Go
set_option maxRecDepth 100000
set_option linter.unusedVariables false
set_option linter.unusedSimpArgs false
def openB (times : List Int) (w : Int) : Bool := decide (0 ≤ w) && decide (¬ times.getD w.toNat 0 = -1)
def timeP (now : Int) (i : Nat) (n : Int) : Bool := decide ((i = 0 → n = 0) ∧ (0 < i → -1 ≤ n ∧ n ≤ now - 1))
def valP (cs : List Node) (times : List Int) (i : Nat) (v : Int) : Bool := decide (¬ v = 0) == openB times (watI cs ((i : Int) + 1))
def stateB (t : Show) (x : State) : Bool := decide (0 ≤ x.now ∧ x.now ≤ t.hor + 1 ∧ x.times.length = t.nodes.length) && (valuesB x.vals && (allF (timeP x.now) x.times 0 && allF (valP t.nodes x.times) x.vals 0))
structure StateLe (x : State) : Prop where
  now : inI x.now
  tlen : x.times.length ≤ maxLen
  vlen : x.vals.length ≤ maxLen
theorem valuesB_len {l : List Int} (h : valuesB l = true) : l.length = 3 := by
  unfold valuesB at h
  simp only [Bool.and_eq_true, decide_eq_true_eq] at h
  exact h.2
theorem dec_ne (a b : Int) : decide (¬ a = b) = !(a == b) := by by_cases h : a = b <;> simp [h]
theorem isState_ok (t : Show) (x : State) (ht : showB t = true) (hx : StateLe x) : SCall Try.prog 51 [aShow t, aState x] (rB (stateB t x)) := by
  refine SCall.of X51_ok (fn := Try.f51) (c := Try.f51.body.getD .skip) (dr := fun n => look 0 [] n) Try.func51 rfl (by kernel_rfl) (by kernel_rfl) (by kernel_rfl) ?_
  have hh := showB_hor ht
  have hn := showB_len ht
  have h2 := hx.tlen
  have h3 := hx.vlen
  have h4 := hx.now
  clear ht hx
  rw [inI_iff] at h4
  obtain ⟨f1, hf1⟩ : ∃ f, f = valuesB := ⟨_, rfl⟩
  obtain ⟨f2, hf2⟩ : ∃ f, f = watI := ⟨_, rfl⟩
  have hO : SOraOK Try.prog (oraL [(70, wValuesOk f1), (71, wWatcher f2)]) := by
    subst hf1 hf2
    exact oraL_cons wValuesOkI_ok (oraL_cons wWatcherI_ok oraL_nil)
  obtain ⟨ns, ts, hr⟩ := t
  obtain ⟨now, times, vals⟩ := x
  dsimp only at hh hn h2 h3 h4
  unfold maxLen at h2 h3
  obtain ⟨p, hp⟩ : ∃ p, p = timeP now := ⟨_, rfl⟩
  obtain ⟨q, hq⟩ : ∃ q, q = valP ns times := ⟨_, rfl⟩
  obtain ⟨d, hd⟩ : ∃ d, d = allF q vals 0 := ⟨_, rfl⟩
  have hs : stateB ⟨ns, ts, hr⟩ ⟨now, times, vals⟩ = (decide (0 ≤ now ∧ now ≤ hr + 1 ∧ times.length = ns.length) && (f1 vals && (allF p times 0 && d))) := by
    rw [hf1, hp, hd, hq]; rfl
  rw [hs]
  clear hs
  obtain ⟨r, hrr⟩ : ∃ r, r = (decide (0 ≤ now ∧ now ≤ hr + 1 ∧ times.length = ns.length) && (f1 vals && (allF p times 0 && d))) := ⟨_, rfl⟩
  rw [← hrr]
  have h1r : IntKind.i64.wrap (hr + 1) = hr + 1 := wrap_i64 (by omega) (by omega)
  refine SEx.go (X := X51) X51_ok (fun n => look [] [(4, [2, 3, 37, 38, 39]), (10, [2, 3, 67, 68, 69])] n) (fun _ => none) hO 60 ?_
  intro M R L N hM hAnd hImp hR hL hN
  cases M
  cbv
  repeat' first | (refine hAnd _ _ ?_ ?_) | (refine hImp _ _ (fun h => ?_)) | (refine hR _ ?_) | (refine hL _ _ (Hd.out ?_); generalize hks : (List.cons _ _ : List K) = ks) | (refine hN _ _ ?_; cbv)
  all_goals (clear hAnd hImp hR hL hN)
  all_goals (cases hM; try dsimp only)
  all_goals (try simp only [Bool.not_eq_true', Bool.not_eq_false', decide_eq_true_eq, decide_eq_false_iff_not, Int.not_le, Int.not_lt, beq_iff_eq, beq_eq_false_iff_ne, ne_eq, Int.ofNat_eq_natCast, Int.toNat_natCast, List.length_replicate, ncast, Nat.sub_zero, List.drop_zero, Cue.eta, Tie.eta, Edge.eta, Link.eta, Node.eta] at *)
  all_goals (try rw [h1r] at *)
  all_goals first
    | omega
    | exact ⟨h3⟩
    | (refine er_via ?_ _; rw [hrr, decide_eq_false (by omega)]; rfl)
    | (refine er_via ?_ _; rw [hrr, show f1 vals = false by assumption]; simp; done)
    | skip
  rw [show f1 vals = true by assumption, decide_eq_true (by omega), Bool.true_and, Bool.true_and] at hrr
  rw [hrr]
  clear hrr
  have hv3 : vals.length = 3 := by apply valuesB_len; rw [← hf1]; assumption
  obtain ⟨m, hm⟩ : ∃ m, m = times.length := ⟨_, rfl⟩
  refine ⟨SEx.same (SEx.idx m (fun i => ⟨92, [(2, bP 8192), (3, bP 12288), (37, bL (.i times)), (38, bI m), (39, bI i)], [(8192, .obx [.fz (.sl (.node false none ns)), .fz (.sl (.tie ts)), .fz (.int .i64 hr)]), (12288, .obx [.fz (.int .i64 now), .fz (.sl (.i times)), .fz (.sl (.i vals))])]⟩) (fun i => rB (allF p (times.drop i) i && d)) ?_) (by rw [hm]; rfl) rfl⟩
  intro i hi ih
  rw [← hks]
  have hl : i < m → LoopB _ _ _ := fun h => LoopB.of p times i d (0 : Int) (by omega)
  have he : i = m → (allF p (times.drop i) i && d) = d := fun h => allF_end_and (by omega)
  have h1n : IntKind.i64.wrap (now - 1) = now - 1 := wrap_i64 (by omega) (by omega)
  refine SEx.go (X := X51) X51_ok (fun n => look [] [(4, [2, 3, 37, 38, 39]), (10, [2, 3, 67, 68, 69])] n) (fun _ => none) hO 60 ?_
  intro M R L N hM hAnd hImp hR hL hN
  cases M
  cbv
  repeat' first | (refine hAnd _ _ ?_ ?_) | (refine hImp _ _ (fun h => ?_)) | (refine hR _ ?_) | (refine hL _ _ (Hd.out ?_); first | rw [hks] | generalize hk2 : (List.cons _ _ : List K) = k2) | (refine hN _ _ ?_; cbv)
  all_goals (clear hAnd hImp hR hL hN)
  all_goals (cases hM; try dsimp only)
  all_goals (try simp only [Bool.not_eq_true', Bool.not_eq_false', decide_eq_true_eq, decide_eq_false_iff_not, Int.not_le, Int.not_lt, beq_iff_eq, beq_eq_false_iff_ne, ne_eq, Int.ofNat_eq_natCast, Int.toNat_natCast, List.length_replicate, ncast, Nat.sub_zero, List.drop_zero, Cue.eta, Tie.eta, Edge.eta, Link.eta, Node.eta] at *)
  all_goals (try simp only [wrap_succ (show i < 9223372036854775807 by omega), h1n] at *)
  all_goals first
    | omega
    | (refine (hl (by omega)).stop _ ?_; rw [hp, timeP]; apply decide_eq_false; omega)
    | (refine ⟨(ih (by omega)).same rfl ((hl (by omega)).go ?_)⟩; rw [hp, timeP]; apply decide_eq_true; omega)
    | skip
  have him : i = m := by omega
  rw [he him]
  clear ih hl he
  rw [hd]
  clear hd
  refine ⟨SEx.same (SEx.idx 3 (fun i => ⟨92, [(2, bP 8192), (3, bP 12288), (67, bL (.i vals)), (68, bI 3), (69, bI i)], [(8192, .obx [.fz (.sl (.node false none ns)), .fz (.sl (.tie ts)), .fz (.int .i64 hr)]), (12288, .obx [.fz (.int .i64 now), .fz (.sl (.i times)), .fz (.sl (.i vals))])]⟩) (fun i => rB (allF q (vals.drop i) i && true)) ?_) (by rw [hv3]; rfl) (by rw [Bool.and_true]; rfl)⟩
  intro k hk ih
  rw [← hk2]
  have hl : k < 3 → LoopB _ _ _ := fun h => LoopB.of q vals k true (0 : Int) (by omega)
  have he : k = 3 → (allF q (vals.drop k) k && true) = true := fun h => allF_end_and (by omega)
  have hlt : ∀ x, f2 ns x < ns.length := fun x => by rw [hf2]; exact (watI_lt _ _).1
  have hqk : q k (vals.getD k 0) = (decide (¬ vals.getD k 0 = 0) == openB times (f2 ns ((k + 1 : Nat) : Int))) := by
    rw [hq, hf2]; rfl
  have h5 := hlt ((k + 1 : Nat) : Int)
  refine SEx.go (X := X51) X51_ok (fun n => look [] [(4, [2, 3, 37, 38, 39]), (10, [2, 3, 67, 68, 69])] n) (fun _ => none) hO 60 ?_
  intro M R L N hM hAnd hImp hR hL hN
  cases M
  cbv
  repeat' first | (refine hAnd _ _ ?_ ?_) | (refine hImp _ _ (fun h => ?_)) | (refine hR _ ?_) | (refine hL _ _ (Hd.out ?_); try first | rw [hks] | rw [hk2] | rw [hk3]) | (refine hN _ _ ?_; cbv)
  all_goals (clear hAnd hImp hR hL hN; try clear hks; try clear hk2; try clear hk3)
  all_goals (cases hM; try dsimp only)
  all_goals (try simp only [Bool.not_eq_true', Bool.not_eq_false', decide_eq_true_eq, decide_eq_false_iff_not, Int.not_le, Int.not_lt, beq_iff_eq, beq_eq_false_iff_ne, ne_eq, Int.ofNat_eq_natCast, Int.toNat_natCast, List.length_replicate, ncast, Nat.sub_zero, List.drop_zero, Cue.eta, Tie.eta, Edge.eta, Link.eta, Node.eta] at *)
  all_goals (try simp only [wrap_succ (show k < 9223372036854775807 by omega)] at *)
  all_goals first
    | omega
    | exact ⟨by omega⟩
    | (refine er_via ?_ _; rw [he (by omega)]; done)
    | (refine (hl (by omega)).stop _ ?_; rw [hqk]; unfold openB; clear hqk hl he ih; generalize f2 ns ((k + 1 : Nat) : Int) = w at *; rw [decide_eq_true (show 0 ≤ w by assumption)]; generalize times.getD w.toNat 0 = b at *; generalize vals.getD k 0 = a at *; rw [dec_ne, dec_ne]; generalize (a == 0) = u at *; generalize (b == -1) = v at *; cases u <;> cases v <;> simp_all; done)
    | (refine (hl (by omega)).stop _ ?_; rw [hqk]; unfold openB; clear hqk hl he ih; generalize f2 ns ((k + 1 : Nat) : Int) = w at *; rw [decide_eq_false (show ¬ 0 ≤ w by omega)]; generalize vals.getD k 0 = a at *; by_cases ha : a = 0 <;> simp_all; done)
    | (refine ⟨(ih (by omega)).same rfl ((hl (by omega)).go ?_)⟩; rw [hqk]; unfold openB; clear hqk hl he ih; generalize f2 ns ((k + 1 : Nat) : Int) = w at *; rw [decide_eq_true (show 0 ≤ w by assumption)]; generalize times.getD w.toNat 0 = b at *; generalize vals.getD k 0 = a at *; rw [dec_ne, dec_ne]; generalize (a == 0) = u at *; generalize (b == -1) = v at *; cases u <;> cases v <;> simp_all; done)
    | (refine ⟨(ih (by omega)).same rfl ((hl (by omega)).go ?_)⟩; rw [hqk]; unfold openB; clear hqk hl he ih; generalize f2 ns ((k + 1 : Nat) : Int) = w at *; rw [decide_eq_false (show ¬ 0 ≤ w by omega)]; generalize vals.getD k 0 = a at *; by_cases ha : a = 0 <;> simp_all; done)
    | skip
def stOkB (t : Show) (x : State) : Bool := showB t && stateB t x
theorem specStateOk_ok (t : Show) (x : State) (ht : ShowLe t) (hx : StateLe x) : SCall Try.prog 26 [aShow t, aState x] (rB (stOkB t x)) := by
  refine SCall.of X26_ok (fn := Try.f26) (c := Try.f26.body.getD .skip) (dr := fun n => look 0 [(13, 17)] n) Try.func26 rfl (by kernel_rfl) (by kernel_rfl) (by kernel_rfl) ?_
  have h2 := hx.tlen
  have h3 := hx.vlen
  have h4 := hx.now
  clear hx
  rw [inI_iff] at h4
  obtain ⟨f0, hf0⟩ : ∃ f, f = l01InB := ⟨_, rfl⟩
  obtain ⟨f1, hf1⟩ : ∃ f, f = valuesB := ⟨_, rfl⟩
  obtain ⟨f2, hf2⟩ : ∃ f, f = watI := ⟨_, rfl⟩
  obtain ⟨f3, hf3⟩ : ∃ f, f = showB := ⟨_, rfl⟩
  have hO : SOraOK Try.prog (oraL [(42, wShowOk f3), (43, wL01 f0), (44, wValuesOk f1), (45, wWatcherN f2)]) := by
    subst hf0 hf1 hf2 hf3
    exact oraL_cons wShowOkS_ok (oraL_cons wL01_ok (oraL_cons wValuesOkS_ok (oraL_cons wWatcherN_ok oraL_nil)))
  have hsh : f3 t = true → (1 ≤ t.hor ∧ t.hor ≤ 10) ∧ 1 ≤ t.nodes.length ∧ t.nodes.length ≤ 7 := fun h => by rw [hf3] at h; exact ⟨showB_hor h, showB_len h⟩
  obtain ⟨ns, ts, hr⟩ := t
  obtain ⟨now, times, vals⟩ := x
  dsimp only at hsh h2 h3 h4
  unfold maxLen at h2 h3
  have h1 : ns.length ≤ maxLen := ht.len
  obtain ⟨p, hp⟩ : ∃ p, p = timeP now := ⟨_, rfl⟩
  obtain ⟨q, hq⟩ : ∃ q, q = valP ns times := ⟨_, rfl⟩
  obtain ⟨d, hd⟩ : ∃ d, d = allF q vals 0 := ⟨_, rfl⟩
  obtain ⟨r, hrr⟩ : ∃ r, r = (f3 ⟨ns, ts, hr⟩ && (decide (0 ≤ now ∧ now ≤ hr + 1 ∧ times.length = ns.length) && (f1 vals && (allF p times 0 && d)))) := ⟨_, rfl⟩
  have hs : stOkB ⟨ns, ts, hr⟩ ⟨now, times, vals⟩ = r := by
    rw [hrr, hf1, hp, hd, hq, hf3]; rfl
  rw [hs]
  clear hs
  have h1r : f3 ⟨ns, ts, hr⟩ = true → f0 now 0 (IntKind.i64.wrap (hr + 1)) = (decide (0 ≤ now) && decide (now ≤ hr + 1)) := fun h => by have := hsh h; rw [wrap_i64 (by omega) (by omega), hf0]; rfl
  have hz : ¬ times.getD (Int.toNat 0) 0 = 0 → 0 < times.length → allF p times 0 = false := fun h h5 => by
    rw [show times = times.drop 0 by rfl]
    refine allF_no (0 : Int) h5 ?_
    rw [hp, timeP]
    apply decide_eq_false
    intro h6
    exact h (h6.1 rfl)
  refine SEx.go (X := X26) X26_ok (fun n => look [] [(4, [2, 3, 44, 45, 46]), (10, [2, 3, 7])] n) (fun _ => none) hO 60 ?_
  intro M R L N hM hAnd hImp hR hL hN
  cases M
  cbv
  repeat' first | (refine hAnd _ _ ?_ ?_) | (refine hImp _ _ (fun h => ?_)) | (refine hR _ ?_) | (refine hL _ _ (Hd.out ?_); generalize hks : (List.cons _ _ : List K) = ks) | (refine hN _ _ ?_; cbv)
  all_goals (clear hAnd hImp hR hL hN)
  all_goals (cases hM; try dsimp only)
  all_goals (try simp only [Bool.not_eq_true', Bool.not_eq_false', decide_eq_true_eq, decide_eq_false_iff_not, Int.not_le, Int.not_lt, beq_iff_eq, beq_eq_false_iff_ne, ne_eq, Int.ofNat_eq_natCast, Int.toNat_natCast, List.length_replicate, ncast, Nat.sub_zero, List.drop_zero, Cue.eta, Tie.eta, Edge.eta, Link.eta, Node.eta] at *)
  all_goals (try (have h7 := hsh (by assumption)))
  all_goals (try (rw [h1r (by assumption)] at *))
  all_goals (try simp only [Bool.and_eq_true, Bool.and_eq_false_iff, decide_eq_true_eq, decide_eq_false_iff_not] at *)
  all_goals first
    | omega
    | exact ht
    | exact ⟨by omega⟩
    | (refine er_via ?_ _; rw [hrr, show f3 ⟨ns, ts, hr⟩ = false by assumption]; rfl)
    | (refine er_via ?_ _; rw [hrr, decide_eq_false (by omega)]; simp; done)
    | (refine er_via ?_ _; rw [hrr, hz (by assumption) (by omega)]; simp; done)
    | (refine er_via ?_ _; rw [hrr, show f1 vals = false by assumption]; simp; done)
    | skip
  have h7 := hsh (by assumption)
  rw [show f3 ⟨ns, ts, hr⟩ = true by assumption, show f1 vals = true by assumption, decide_eq_true (by omega), Bool.true_and, Bool.true_and, Bool.true_and] at hrr
  rw [hrr]
  clear hrr hz h1r
  have hv3 : vals.length = 3 := by apply valuesB_len; rw [← hf1]; assumption
  obtain ⟨m, hm⟩ : ∃ m, m = times.length := ⟨_, rfl⟩
  refine ⟨SEx.same (SEx.idx m (fun i => ⟨87, [(2, bP 8192), (3, bP 12288), (44, bL (.i times)), (45, bI m), (46, bI i)], [(8192, .obx [.fz (.sl (.node false none ns)), .fz (.sl (.tie ts)), .fz (.int .i64 hr)]), (12288, .obx [.fz (.int .i64 now), .fz (.sl (.i times)), .fz (.sl (.i vals))])]⟩) (fun i => rB (allF p (times.drop i) i && d)) ?_) (by rw [hm]; rfl) rfl⟩
  intro i hi ih
  rw [← hks]
  have hl : i < m → LoopB _ _ _ := fun h => LoopB.of p times i d (0 : Int) (by omega)
  have he : i = m → (allF p (times.drop i) i && d) = d := fun h => allF_end_and (by omega)
  have h1n : IntKind.i64.wrap (now - 1) = now - 1 := wrap_i64 (by omega) (by omega)
  have h0t : i = 0 → times.getD i 0 = 0 := fun h => by subst h; assumption
  have hin : f0 (times.getD i 0) (-1) (IntKind.i64.wrap (now - 1)) = (decide (-1 ≤ times.getD i 0) && decide (times.getD i 0 ≤ now - 1)) := by rw [h1n, hf0]; rfl
  refine SEx.go (X := X26) X26_ok (fun n => look [] [(4, [2, 3, 44, 45, 46]), (10, [2, 3, 7])] n) (fun _ => none) hO 60 ?_
  intro M R L N hM hAnd hImp hR hL hN
  cases M
  cbv
  repeat' first | (refine hAnd _ _ ?_ ?_) | (refine hImp _ _ (fun h => ?_)) | (refine hR _ ?_) | (refine hL _ _ (Hd.out ?_); first | rw [hks] | generalize hk2 : (List.cons _ _ : List K) = k2) | (refine hN _ _ ?_; cbv)
  all_goals (clear hAnd hImp hR hL hN)
  all_goals (cases hM; try dsimp only)
  all_goals (try simp only [Bool.not_eq_true', Bool.not_eq_false', decide_eq_true_eq, decide_eq_false_iff_not, Int.not_le, Int.not_lt, beq_iff_eq, beq_eq_false_iff_ne, ne_eq, Int.ofNat_eq_natCast, Int.toNat_natCast, List.length_replicate, ncast, Nat.sub_zero, List.drop_zero, Cue.eta, Tie.eta, Edge.eta, Link.eta, Node.eta] at *)
  all_goals (try simp only [wrap_succ (show i < 9223372036854775807 by omega)] at *)
  all_goals (try rw [hin] at *)
  all_goals (try simp only [Bool.and_eq_true, Bool.and_eq_false_iff, decide_eq_true_eq, decide_eq_false_iff_not] at *)
  all_goals first
    | omega
    | (refine (hl (by omega)).stop _ ?_; rw [hp, timeP]; apply decide_eq_false; omega)
    | (refine ⟨(ih (by omega)).same rfl ((hl (by omega)).go ?_)⟩; rw [hp, timeP]; apply decide_eq_true; omega)
    | skip
  have him : i = m := by omega
  rw [he him]
  clear ih hl he hin h0t h1n
  rw [hd]
  clear hd
  refine ⟨SEx.same (SEx.idx 3 (fun i => ⟨87, [(2, bP 8192), (3, bP 12288), (7, bI (i + 1 : Nat))], [(8192, .obx [.fz (.sl (.node false none ns)), .fz (.sl (.tie ts)), .fz (.int .i64 hr)]), (12288, .obx [.fz (.int .i64 now), .fz (.sl (.i times)), .fz (.sl (.i vals))])]⟩) (fun i => rB (allF q (vals.drop i) i && true)) ?_) rfl (by rw [Bool.and_true]; rfl)⟩
  intro k hk ih
  rw [← hk2]
  have hl : k < 3 → LoopB _ _ _ := fun h => LoopB.of q vals k true (0 : Int) (by omega)
  have he : k = 3 → (allF q (vals.drop k) k && true) = true := fun h => allF_end_and (by omega)
  have hlt : ∀ x, f2 ns x < ns.length := fun x => by rw [hf2]; exact (watI_lt _ _).1
  have h5 := hlt ((k + 1 : Nat) : Int)
  have hwk : IntKind.i64.wrap (((k + 1 : Nat) : Int) - 1) = k := by rw [wrap_i64 (by omega) (by omega)]; omega
  obtain ⟨kk, hkk⟩ : ∃ kk : Nat, kk = k + 1 := ⟨_, rfl⟩
  rw [← hkk] at hwk h5 ⊢
  have hqk : q k (vals.getD k 0) = (decide (¬ vals.getD k 0 = 0) == openB times (f2 ns kk)) := by
    rw [hq, hf2, hkk]; rfl
  refine SEx.go (X := X26) X26_ok (fun n => look [] [(4, [2, 3, 44, 45, 46]), (10, [2, 3, 7])] n) (fun _ => none) hO 60 ?_
  intro M R L N hM hAnd hImp hR hL hN
  cases M
  cbv
  repeat' first | (refine hAnd _ _ ?_ ?_) | (refine hImp _ _ (fun h => ?_)) | (refine hR _ ?_) | (refine hL _ _ (Hd.out ?_); try first | rw [hks] | rw [hk2] | rw [hk3]) | (refine hN _ _ ?_; cbv)
  all_goals (clear hAnd hImp hR hL hN; try clear hks; try clear hk2; try clear hk3)
  all_goals (cases hM; try dsimp only)
  all_goals (try simp only [Bool.not_eq_true', Bool.not_eq_false', decide_eq_true_eq, decide_eq_false_iff_not, Int.not_le, Int.not_lt, beq_iff_eq, beq_eq_false_iff_ne, ne_eq, Int.ofNat_eq_natCast, Int.toNat_natCast, List.length_replicate, ncast, Nat.sub_zero, List.drop_zero, Cue.eta, Tie.eta, Edge.eta, Link.eta, Node.eta] at *)
  all_goals (try simp only [hwk, Int.toNat_natCast, wrap_succ (show kk < 9223372036854775807 by omega)] at *)
  all_goals first
    | omega
    | exact ⟨h1⟩
    | (refine er_via ?_ _; rw [he (by omega)]; done)
    | (refine (hl (by omega)).stop _ ?_; rw [hqk]; unfold openB; clear hqk hl he ih; generalize f2 ns (kk : Int) = w at *; rw [decide_eq_true (show 0 ≤ w by assumption)]; generalize times.getD w.toNat 0 = b at *; generalize vals.getD k 0 = a at *; rw [dec_ne, dec_ne]; generalize (a == 0) = u at *; generalize (b == -1) = v at *; cases u <;> cases v <;> simp_all; done)
    | (refine (hl (by omega)).stop _ ?_; rw [hqk]; unfold openB; clear hqk hl he ih; generalize f2 ns (kk : Int) = w at *; rw [decide_eq_false (show ¬ 0 ≤ w by omega)]; generalize vals.getD k 0 = a at *; by_cases ha : a = 0 <;> simp_all; done)
    | (subst hkk; refine ⟨(ih (by omega)).same rfl ((hl (by omega)).go ?_)⟩; rw [hqk]; unfold openB; clear hqk hl he ih; generalize f2 ns ((k + 1 : Nat) : Int) = w at *; rw [decide_eq_true (show 0 ≤ w by assumption)]; generalize times.getD w.toNat 0 = b at *; generalize vals.getD k 0 = a at *; rw [dec_ne, dec_ne]; generalize (a == 0) = u at *; generalize (b == -1) = v at *; cases u <;> cases v <;> simp_all; done)
    | (subst hkk; refine ⟨(ih (by omega)).same rfl ((hl (by omega)).go ?_)⟩; rw [hqk]; unfold openB; clear hqk hl he ih; generalize f2 ns ((k + 1 : Nat) : Int) = w at *; rw [decide_eq_false (show ¬ 0 ≤ w by omega)]; generalize vals.getD k 0 = a at *; by_cases ha : a = 0 <;> simp_all; done)
    | skip
structure ShowT (t : Show) : Prop where out : showB t = true
def wIsState (f : Show → State → Bool) : Wr := w2 dcShow dcState (fun t x => rB (f t x)) (fun t x => [ShowT t, StateLe x])
theorem wIsState_ok : WrOK Try.prog 51 (wIsState stateB) := w2_ok fun t x h => isState_ok t x (h _ (.head _)).out (h _ (.tail _ (.head _)))
def wStateOk (f : Show → State → Bool) : Wr := w2 dcShow dcState (fun t x => rB (f t x)) (fun t x => [ShowLe t, StateLe x])
theorem wStateOkS_ok : WrOK Try.prog 26 (wStateOk stOkB) := w2_ok fun t x h => specStateOk_ok t x (h _ (.head _)) (h _ (.tail _ (.head _)))
end Go.Proofs.Ytececadpjelanaa.Ai
