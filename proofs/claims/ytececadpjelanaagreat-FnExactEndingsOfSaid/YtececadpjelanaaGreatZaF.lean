/- The law's proof, part 6 of 10: what of its author's texts it needs; no condition. -/
import Derived.Test.YtececadpjelanaaGreatZaE
namespace Go.Proofs.YtececadpjelanaaGreat.Ai
open Go
set_option maxRecDepth 100000
set_option linter.unusedVariables false
set_option linter.unusedSimpArgs false
set_option linter.unusedSectionVars false
variable [MemoCtx]
theorem specStateOk_ok (t : Show) (x : State) (ht : ShowLe t) (hx : StateLe x) : SCall Tryz.prog 40 [aShow t, aState x] (rB (stOkB t x)) := by
  refine SCall.of X40_ok (fn := Tryz.f40) (c := Tryz.f40.body.getD .skip) (dr := fun n => look 0 [(13, 17)] n) Tryz.func40 rfl (by kernel_rfl) (by kernel_rfl) (by kernel_rfl) ?_
  have h2 := hx.tlen
  have h3 := hx.vlen
  have h4 := hx.now
  clear hx
  rw [inI_iff] at h4
  obtain ⟨f0, hf0⟩ : ∃ f, f = l01InB := ⟨_, rfl⟩
  obtain ⟨f1, hf1⟩ : ∃ f, f = valuesB := ⟨_, rfl⟩
  obtain ⟨f2, hf2⟩ : ∃ f, f = watI := ⟨_, rfl⟩
  obtain ⟨f3, hf3⟩ : ∃ f, f = showB := ⟨_, rfl⟩
  have hO : SOraOK Tryz.prog (oraL [(63, wShowOk f3), (70, wL01 f0), (71, wValuesOk f1), (72, wWatcherN f2)]) := by
    subst hf0 hf1 hf2 hf3
    exact oraL_cons wShowOkS_ok (oraL_cons wL01_ok (oraL_cons wValuesOkS_ok (oraL_cons wWatcherN_ok oraL_nil)))
  have hsh : f3 t = true → (1 ≤ t.hor ∧ t.hor ≤ 10) ∧ 1 ≤ t.nodes.length ∧ t.nodes.length ≤ 7 := fun h => by rw [hf3] at h; exact ⟨showB_hor h, showB_len h⟩
  obtain ⟨ns, ts, hr⟩ := t
  obtain ⟨now, times, vals⟩ := x
  dsimp only at hsh h2 h3 h4
  unfold maxLen at h2 h3
  have h1 : ns.length ≤ maxLen := ht.len
  obtain ⟨p, hp⟩ : ∃ p, p = timeP now := ⟨_, rfl⟩
  obtain ⟨q, hq⟩ : ∃ q, q = valP ns times := ⟨_, rfl⟩
  obtain ⟨d, hd⟩ : ∃ d, d = allF q vals 0 := ⟨_, rfl⟩
  obtain ⟨r, hrr⟩ : ∃ r, r = (f3 ⟨ns, ts, hr⟩ && (decide (0 ≤ now ∧ now ≤ hr + 1 ∧ times.length = ns.length) && (f1 vals && (allF p times 0 && d)))) := ⟨_, rfl⟩
  have hs : stOkB ⟨ns, ts, hr⟩ ⟨now, times, vals⟩ = r := by
    rw [hrr, hf1, hp, hd, hq, hf3]; rfl
  rw [hs]
  clear hs
  have h1r : f3 ⟨ns, ts, hr⟩ = true → f0 now 0 (IntKind.i64.wrap (hr + 1)) = (decide (0 ≤ now) && decide (now ≤ hr + 1)) := fun h => by have := hsh h; rw [wrap_i64 (by omega) (by omega), hf0]; rfl
  have hz : ¬ times.getD (Int.toNat 0) 0 = 0 → 0 < times.length → allF p times 0 = false := fun h h5 => by
    rw [show times = times.drop 0 by rfl]
    refine allF_no (0 : Int) h5 ?_
    rw [hp, timeP]
    apply decide_eq_false
    intro h6
    exact h (h6.1 rfl)
  refine SEx.go (X := X40) X40_ok (fun n => look [] [(4, [2, 3, 44, 45, 46]), (10, [2, 3, 7])] n) (fun _ => none) hO 60 ?_
  intro M R L N hM hAnd hImp hR hL hN
  cases M
  cbv
  repeat' first | (refine hAnd _ _ ?_ ?_) | (refine hImp _ _ (fun h => ?_)) | (refine hR _ ?_) | (refine hL _ _ (Hd.out ?_); generalize hks : (List.cons _ _ : List K) = ks) | (refine hN _ _ ?_; cbv)
  all_goals (clear hAnd hImp hR hL hN)
  all_goals (cases hM; try dsimp only)
  all_goals (try simp only [Bool.not_eq_true', Bool.not_eq_false', decide_eq_true_eq, decide_eq_false_iff_not, Int.not_le, Int.not_lt, beq_iff_eq, beq_eq_false_iff_ne, ne_eq, Int.ofNat_eq_natCast, Int.toNat_natCast, List.length_replicate, ncast, Nat.sub_zero, List.drop_zero, Cue.eta, Tie.eta, Edge.eta, Link.eta, Node.eta] at *)
  all_goals (try (have h7 := hsh (by assumption)))
  all_goals (try (rw [h1r (by assumption)] at *))
  all_goals (try simp only [Bool.and_eq_true, Bool.and_eq_false_iff, decide_eq_true_eq, decide_eq_false_iff_not] at *)
  all_goals first
    | omega
    | exact ht
    | exact ⟨by omega⟩
    | (refine er_via ?_ _; rw [hrr, show f3 ⟨ns, ts, hr⟩ = false by assumption]; rfl)
    | (refine er_via ?_ _; rw [hrr, decide_eq_false (by omega)]; simp; done)
    | (refine er_via ?_ _; rw [hrr, hz (by assumption) (by omega)]; simp; done)
    | (refine er_via ?_ _; rw [hrr, show f1 vals = false by assumption]; simp; done)
    | skip
  have h7 := hsh (by assumption)
  rw [show f3 ⟨ns, ts, hr⟩ = true by assumption, show f1 vals = true by assumption, decide_eq_true (by omega), Bool.true_and, Bool.true_and, Bool.true_and] at hrr
  rw [hrr]
  clear hrr hz h1r
  have hv3 : vals.length = 3 := by apply valuesB_len; rw [← hf1]; assumption
  obtain ⟨m, hm⟩ : ∃ m, m = times.length := ⟨_, rfl⟩
  refine ⟨SEx.same (SEx.idx m (fun i => ⟨87, [(2, bP 8192), (3, bP 12288), (44, bL (.i times)), (45, bI m), (46, bI i)], [(8192, .obx [.fz (.sl (.node false none ns)), .fz (.sl (.tie ts)), .fz (.int .i64 hr)]), (12288, .obx [.fz (.int .i64 now), .fz (.sl (.i times)), .fz (.sl (.i vals))])]⟩) (fun i => rB (allF p (times.drop i) i && d)) ?_) (by rw [hm]; rfl) rfl⟩
  intro i hi ih
  rw [← hks]
  have hl : i < m → LoopB _ _ _ := fun h => LoopB.of p times i d (0 : Int) (by omega)
  have he : i = m → (allF p (times.drop i) i && d) = d := fun h => allF_end_and (by omega)
  have h1n : IntKind.i64.wrap (now - 1) = now - 1 := wrap_i64 (by omega) (by omega)
  have h0t : i = 0 → times.getD i 0 = 0 := fun h => by subst h; assumption
  have hin : f0 (times.getD i 0) (-1) (IntKind.i64.wrap (now - 1)) = (decide (-1 ≤ times.getD i 0) && decide (times.getD i 0 ≤ now - 1)) := by rw [h1n, hf0]; rfl
  refine SEx.go (X := X40) X40_ok (fun n => look [] [(4, [2, 3, 44, 45, 46]), (10, [2, 3, 7])] n) (fun _ => none) hO 60 ?_
  intro M R L N hM hAnd hImp hR hL hN
  cases M
  cbv
  repeat' first | (refine hAnd _ _ ?_ ?_) | (refine hImp _ _ (fun h => ?_)) | (refine hR _ ?_) | (refine hL _ _ (Hd.out ?_); first | rw [hks] | generalize hk2 : (List.cons _ _ : List K) = k2) | (refine hN _ _ ?_; cbv)
  all_goals (clear hAnd hImp hR hL hN)
  all_goals (cases hM; try dsimp only)
  all_goals (try simp only [Bool.not_eq_true', Bool.not_eq_false', decide_eq_true_eq, decide_eq_false_iff_not, Int.not_le, Int.not_lt, beq_iff_eq, beq_eq_false_iff_ne, ne_eq, Int.ofNat_eq_natCast, Int.toNat_natCast, List.length_replicate, ncast, Nat.sub_zero, List.drop_zero, Cue.eta, Tie.eta, Edge.eta, Link.eta, Node.eta] at *)
  all_goals (try simp only [wrap_succ (show i < 9223372036854775807 by omega)] at *)
  all_goals (try rw [hin] at *)
  all_goals (try simp only [Bool.and_eq_true, Bool.and_eq_false_iff, decide_eq_true_eq, decide_eq_false_iff_not] at *)
  all_goals first
    | omega
    | (refine (hl (by omega)).stop _ ?_; rw [hp, timeP]; apply decide_eq_false; omega)
    | (refine ⟨(ih (by omega)).same rfl ((hl (by omega)).go ?_)⟩; rw [hp, timeP]; apply decide_eq_true; omega)
    | skip
  have him : i = m := by omega
  rw [he him]
  clear ih hl he hin h0t h1n
  rw [hd]
  clear hd
  refine ⟨SEx.same (SEx.idx 3 (fun i => ⟨87, [(2, bP 8192), (3, bP 12288), (7, bI (i + 1 : Nat))], [(8192, .obx [.fz (.sl (.node false none ns)), .fz (.sl (.tie ts)), .fz (.int .i64 hr)]), (12288, .obx [.fz (.int .i64 now), .fz (.sl (.i times)), .fz (.sl (.i vals))])]⟩) (fun i => rB (allF q (vals.drop i) i && true)) ?_) rfl (by rw [Bool.and_true]; rfl)⟩
  intro k hk ih
  rw [← hk2]
  have hl : k < 3 → LoopB _ _ _ := fun h => LoopB.of q vals k true (0 : Int) (by omega)
  have he : k = 3 → (allF q (vals.drop k) k && true) = true := fun h => allF_end_and (by omega)
  have hlt : ∀ x, f2 ns x < ns.length := fun x => by rw [hf2]; exact (watI_lt _ _).1
  have h5 := hlt ((k + 1 : Nat) : Int)
  have hwk : IntKind.i64.wrap (((k + 1 : Nat) : Int) - 1) = k := by rw [wrap_i64 (by omega) (by omega)]; omega
  obtain ⟨kk, hkk⟩ : ∃ kk : Nat, kk = k + 1 := ⟨_, rfl⟩
  rw [← hkk] at hwk h5 ⊢
  have hqk : q k (vals.getD k 0) = (decide (¬ vals.getD k 0 = 0) == openB times (f2 ns kk)) := by
    rw [hq, hf2, hkk]; rfl
  refine SEx.go (X := X40) X40_ok (fun n => look [] [(4, [2, 3, 44, 45, 46]), (10, [2, 3, 7])] n) (fun _ => none) hO 60 ?_
  intro M R L N hM hAnd hImp hR hL hN
  cases M
  cbv
  repeat' first | (refine hAnd _ _ ?_ ?_) | (refine hImp _ _ (fun h => ?_)) | (refine hR _ ?_) | (refine hL _ _ (Hd.out ?_); try first | rw [hks] | rw [hk2] | rw [hk3]) | (refine hN _ _ ?_; cbv)
  all_goals (clear hAnd hImp hR hL hN; try clear hks; try clear hk2; try clear hk3)
  all_goals (cases hM; try dsimp only)
  all_goals (try simp only [Bool.not_eq_true', Bool.not_eq_false', decide_eq_true_eq, decide_eq_false_iff_not, Int.not_le, Int.not_lt, beq_iff_eq, beq_eq_false_iff_ne, ne_eq, Int.ofNat_eq_natCast, Int.toNat_natCast, List.length_replicate, ncast, Nat.sub_zero, List.drop_zero, Cue.eta, Tie.eta, Edge.eta, Link.eta, Node.eta] at *)
  all_goals (try simp only [hwk, Int.toNat_natCast, wrap_succ (show kk < 9223372036854775807 by omega)] at *)
  all_goals first
    | omega
    | exact ⟨h1⟩
    | (refine er_via ?_ _; rw [he (by omega)]; done)
    | (refine (hl (by omega)).stop _ ?_; rw [hqk]; unfold openB; clear hqk hl he ih; generalize f2 ns (kk : Int) = w at *; rw [decide_eq_true (show 0 ≤ w by assumption)]; generalize times.getD w.toNat 0 = b at *; generalize vals.getD k 0 = a at *; rw [dec_ne, dec_ne]; generalize (a == 0) = u at *; generalize (b == -1) = v at *; cases u <;> cases v <;> simp_all; done)
    | (refine (hl (by omega)).stop _ ?_; rw [hqk]; unfold openB; clear hqk hl he ih; generalize f2 ns (kk : Int) = w at *; rw [decide_eq_false (show ¬ 0 ≤ w by omega)]; generalize vals.getD k 0 = a at *; by_cases ha : a = 0 <;> simp_all; done)
    | (subst hkk; refine ⟨(ih (by omega)).same rfl ((hl (by omega)).go ?_)⟩; rw [hqk]; unfold openB; clear hqk hl he ih; generalize f2 ns ((k + 1 : Nat) : Int) = w at *; rw [decide_eq_true (show 0 ≤ w by assumption)]; generalize times.getD w.toNat 0 = b at *; generalize vals.getD k 0 = a at *; rw [dec_ne, dec_ne]; generalize (a == 0) = u at *; generalize (b == -1) = v at *; cases u <;> cases v <;> simp_all; done)
    | (subst hkk; refine ⟨(ih (by omega)).same rfl ((hl (by omega)).go ?_)⟩; rw [hqk]; unfold openB; clear hqk hl he ih; generalize f2 ns ((k + 1 : Nat) : Int) = w at *; rw [decide_eq_false (show ¬ 0 ≤ w by omega)]; generalize vals.getD k 0 = a at *; by_cases ha : a = 0 <;> simp_all; done)
    | skip
structure ShowT (t : Show) : Prop where out : showB t = true
def wIsState (f : Show → State → Bool) : Wr := w2 dcShow dcState (fun t x => rB (f t x)) (fun t x => [ShowT t, StateLe x])
theorem wIsState_ok : WrOK Tryz.prog 77 (wIsState stateB) := w2_ok fun t x h => isState_ok t x (h _ (.head _)).out (h _ (.tail _ (.head _)))
def wStateOk (f : Show → State → Bool) : Wr := w2 dcShow dcState (fun t x => rB (f t x)) (fun t x => [ShowLe t, StateLe x])
theorem wStateOkS_ok : WrOK Tryz.prog 40 (wStateOk stOkB) := w2_ok fun t x h => specStateOk_ok t x (h _ (.head _)) (h _ (.tail _ (.head _)))
theorem implStateOk_ok (t : Show) (x : State) (ht : ShowLe t) (hx : StateLe x) : SCall Tryz.prog 46 [aShow t, aState x] (rB (stOkB t x)) := by
  refine SCall.of X46_ok (fn := Tryz.f46) (c := Tryz.f46.body.getD .skip) (dr := fun n => look 0 [] n) Tryz.func46 rfl (by kernel_rfl) (by kernel_rfl) (by kernel_rfl) ?_
  obtain ⟨f1, hf1⟩ : ∃ f, f = showB := ⟨_, rfl⟩
  obtain ⟨f2, hf2⟩ : ∃ f, f = stateB := ⟨_, rfl⟩
  have hO : SOraOK Tryz.prog (oraL [(76, wShowOk f1), (77, wIsState f2)]) := by
    subst hf1 hf2
    exact oraL_cons wShowOkI_ok (oraL_cons wIsState_ok oraL_nil)
  rw [show stOkB t x = (f1 t && f2 t x) by rw [hf1, hf2]; rfl]
  have hsh : f1 t = true → showB t = true := fun h => by rw [hf1] at h; exact h
  obtain ⟨ns, ts, hr⟩ := t
  obtain ⟨now, times, vals⟩ := x
  refine SEx.go (X := X46) X46_ok (fun n => look [] [] n) (fun _ => none) hO 60 ?_
  intro M R L N hM hAnd hImp hR hL hN
  cases M
  cbv
  repeat' first | (refine hAnd _ _ ?_ ?_) | (refine hImp _ _ (fun h => ?_)) | (refine hR _ ?_) | (refine hL _ _ (Hd.out ?_); try first | rw [hks] | rw [hk2] | rw [hk3]) | (refine hN _ _ ?_; cbv)
  all_goals (clear hAnd hImp hR hL hN; try clear hks; try clear hk2; try clear hk3)
  all_goals (cases hM; try dsimp only)
  all_goals (try simp only [Bool.not_eq_true', Bool.not_eq_false', decide_eq_true_eq, decide_eq_false_iff_not, Int.not_le, Int.not_lt, beq_iff_eq, beq_eq_false_iff_ne, ne_eq, Int.ofNat_eq_natCast, Int.toNat_natCast, List.length_replicate, ncast, Nat.sub_zero, List.drop_zero, Cue.eta, Tie.eta, Edge.eta, Link.eta, Node.eta] at *)
  all_goals first
    | exact ht
    | exact hx
    | exact ⟨hsh (by assumption)⟩
    | (refine er_via ?_ _; simp_all; done)
    | skip
theorem wStateOkI_ok : WrOK Tryz.prog 46 (wStateOk stOkB) := w2_ok fun t x h => implStateOk_ok t x (h _ (.head _)) (h _ (.tail _ (.head _)))
end Go.Proofs.YtececadpjelanaaGreat.Ai
namespace Go.Proofs.YtececadpjelanaaGreat.Ai
open Go
set_option maxRecDepth 100000
set_option linter.unusedVariables false
set_option linter.unusedSimpArgs false
set_option linter.unusedSectionVars false
variable [MemoCtx]
structure StT (t : Show) (x : State) : Prop where
  sh : showB t = true
  st : stateB t x = true
theorem StT.now {t : Show} {x : State} (h : StT t x) : 0 ≤ x.now ∧ x.now ≤ t.hor + 1 ∧ x.times.length = t.nodes.length := by
  have := h.st
  unfold stateB at this
  rw [Bool.and_eq_true, decide_eq_true_eq] at this
  exact this.1
theorem allF_getD {α : Type} {p : Nat → α → Bool} : ∀ {l : List α} {n i : Nat} (z : α), allF p l n = true → i < l.length → p (n + i) (l.getD i z) = true
  | a :: r, n, 0, z, h, _ => by
    unfold allF at h
    rw [Bool.and_eq_true] at h
    simpa using h.1
  | a :: r, n, i + 1, z, h, hi => by
    unfold allF at h
    rw [Bool.and_eq_true] at h
    have := allF_getD z h.2 (show i < r.length by simpa using hi)
    rw [List.getD_cons_succ, show n + (i + 1) = n + 1 + i by omega]
    exact this
theorem StT.time {t : Show} {x : State} (h : StT t x) (i : Nat) : -1 ≤ x.times.getD i 0 ∧ x.times.getD i 0 ≤ 10 := by
  have hn := h.now
  have hh := showB_hor h.sh
  have := h.st
  unfold stateB at this
  rw [Bool.and_eq_true, Bool.and_eq_true, Bool.and_eq_true] at this
  by_cases hi : i < x.times.length
  · have h1 := allF_getD (0 : Int) this.2.2.1 hi
    rw [Nat.zero_add, timeP, decide_eq_true_eq] at h1
    by_cases h0 : i = 0
    · have := h1.1 h0; omega
    · have := h1.2 (by omega); omega
  · rw [List.getD_eq_getElem?_getD, List.getElem?_eq_none (by omega)]
    exact ⟨by decide, by decide⟩
structure StLe (t : Show) (x : State) : Prop where
  sh : ShowLe t
  st : StateLe x
end Go.Proofs.YtececadpjelanaaGreat.Ai
namespace Go.Proofs.YtececadpjelanaaGreat.Ai
open Go
set_option maxRecDepth 100000
set_option linter.unusedVariables false
set_option linter.unusedSimpArgs false
set_option linter.unusedSectionVars false
variable [MemoCtx]
structure TieT (t : Show) (q : Tie) : Prop where
  src : 0 ≤ q.src ∧ q.src < t.nodes.length
  dst : 0 ≤ q.dst ∧ q.dst < t.nodes.length
theorem showB_tie {t : Show} (h : showB t = true) {q : Tie} (hq : q ∈ t.ties) : TieT t q := by
  have hn := showB_len h
  unfold showB tiesB at h
  simp only [Bool.and_eq_true] at h
  obtain ⟨i, hi⟩ := allF_mem h.2.2.1.1 hq
  unfold tieB at hi
  rw [Bool.and_eq_true, decide_eq_true_eq] at hi
  exact ⟨by omega, by omega⟩
end Go.Proofs.YtececadpjelanaaGreat.Ai
namespace Go.Proofs.YtececadpjelanaaGreat.Ai
open Go
set_option maxRecDepth 100000
set_option linter.unusedVariables false
set_option linter.unusedSimpArgs false
set_option linter.unusedSectionVars false
variable [MemoCtx]
theorem ShowIn.le {t : Show} (h : ShowIn t) : ShowLe t := ⟨h.len, h.tlen, fun q hq => ⟨(h.nodes q hq).name, (h.nodes q hq).len, (h.nodes q hq).label⟩⟩
theorem StateIn.le {x : State} (h : StateIn x) : StateLe x := ⟨h.now, h.len, h.vlen⟩
structure ShowSz (t : Show) (n : Int) : Prop where
  len : t.nodes.length ≤ 1048576
  tlen : t.ties.length ≤ 1048576
  labs : ∀ q ∈ t.nodes, q.label.length ≤ 1048576
  le : n ≤ 1048576
theorem showSz {t : Show} (h : 0 ≤ szShowI t 1048576) : ShowSz t (szShowI t 1048576) := by
  have := szShow_20 (n := 1048576) (by decide) h
  exact ⟨by omega, by omega, fun q hq => by have := (this.2.2.1 q hq).2; omega, this.2.2.2⟩
structure StateSz (x : State) : Prop where
  tlen : x.times.length ≤ 1048576
  vlen : x.vals.length ≤ 1048576
theorem stateSz {x : State} {n : Int} (h0 : 0 ≤ n) (h1 : n ≤ 1048576) (h : 0 ≤ szStateI x n) : StateSz x := by
  have := szState_20 h0 h
  exact ⟨by omega, by omega⟩
end Go.Proofs.YtececadpjelanaaGreat.Ai
namespace Go.Proofs.YtececadpjelanaaGreat.Ai
open Go
set_option maxRecDepth 100000
set_option linter.unusedVariables false
set_option linter.unusedSimpArgs false
set_option linter.unusedSectionVars false
variable [MemoCtx]
def mTie (k : Int) : Tie := ⟨k, k + 1, k + 2, k + 3, decide ((k + 4).tmod 3 = 0)⟩
def markTi (k : Int) (n : Nat) : List Tie := (List.range n).map fun j => mTie (k + 5 * (j : Nat))
theorem markTi_len (k : Int) (n : Nat) : (markTi k n).length = n := by simp [markTi]
theorem markTi_succ (k : Int) (n : Nat) : markTi k (n + 1) = markTi k n ++ [mTie (k + 5 * n)] := by simp [markTi, List.range_succ]
theorem markTi_step {k : Int} {i : Nat} {l : List Tie} (hi : i < l.length) : (markTi k i ++ l.drop i).set i (mTie (k + 5 * i)) = markTi k (i + 1) ++ l.drop (i + 1) := by
  rw [List.set_append_right _ _ (by rw [markTi_len]; omega), markTi_len, Nat.sub_self, markTi_succ, List.append_assoc, List.drop_eq_getElem_cons hi]; rfl
theorem markTieS_ok (l : List Tie) (k : Int) (hl : l.length ≤ maxLen) (hk : 0 < k ∧ k + 5 * l.length ≤ 4611686018427387904) :
    SCallW Tryz.prog 51 [wR l.length, bI1 k] [(lrt 0, .osl (.tie l))] [.rf (lrt 0, []) true 0 l.length] (.v (bI1 (k + 5 * l.length))) [(lrt 0, .osl (.tie (markTi k l.length)))] [.rf (lrt 0, []) true 0 l.length] := by
  refine SCallW.of X51_ok (fn := Tryz.f51) (c := Tryz.f51.body.getD .skip) (dr := fun n => look 0 [] n) (r := (_, _, _)) Tryz.func51 rfl (by kernel_rfl) (by kernel_rfl) (by kernel_rfl) ?_
  generalize hn : l.length = n at *
  refine SExW.go (X := X51) X51_ok (fun n => look [] [(2, [0, 1, 5, 4294967296])] n) (fun _ => none) oraL_nil 60 1 ?_
  intro M R L N hM hAnd hImp hR hL hN
  cases M
  cbv
  repeat' first | (refine hAnd _ _ ?_ ?_) | (refine hImp _ _ (fun h => ?_)) | (refine hR _ ?_) | (refine hL _ _ (Hd.out ?_); generalize hks : (List.cons _ _ : List K) = ks) | (refine hN _ _ ?_; cbv)
  all_goals (clear hAnd hImp hR hL hN)
  all_goals (cases hM; try dsimp only)
  all_goals (try simp only [Bool.not_eq_true', Bool.not_eq_false', decide_eq_true_eq, decide_eq_false_iff_not, Int.not_le, Int.not_lt, beq_iff_eq, beq_eq_false_iff_ne, ne_eq, Int.ofNat_eq_natCast, Int.toNat_natCast, List.length_replicate, ncast, Nat.sub_zero, List.drop_zero, Cue.eta, Tie.eta, Edge.eta, Link.eta, Node.eta] at *)
  refine ⟨SExW.same (SExW.idx n (fun i => ⟨50, [(0, bR 41000000 n), (1, bI (k + 5 * i)), (5, bI i), (4294967296, bR 41000000 n)], [(41000000, .osl (.tie (markTi k i ++ l.drop i)))]⟩) (fun _ => (.v (bI1 (k + 5 * n)), [(lrt 0, .osl (.tie (markTi k n)))], [.rf (lrt 0, []) true 0 n])) ?_) ?_ ⟨rfl, rfl, rfl⟩⟩
  rotate_left
  · rw [show k + 5 * ((0 : Nat) : Int) = k by omega]; rfl
  intro i hi ih
  rw [← hks]
  obtain ⟨c, hc⟩ : ∃ c, c = markTi k i ++ l.drop i := ⟨_, rfl⟩
  have hcl : c.length = n := by rw [hc, List.length_append, markTi_len, List.length_drop]; omega
  rw [← hc]
  obtain ⟨q, hq⟩ : ∃ q, q = k + 5 * (i : Int) := ⟨_, rfl⟩
  rw [← hq]
  unfold maxLen at hl
  refine SExW.go (X := X51) X51_ok (fun n => look [] [(2, [0, 1, 5, 4294967296])] n) (fun _ => none) oraL_nil 90 1 ?_
  intro M R L N hM hAnd hImp hR hL hN
  cases M
  cbv
  repeat' first | (refine hAnd _ _ ?_ ?_) | (refine hImp _ _ (fun h => ?_)) | (refine hR _ ?_) | (refine hL _ _ (Hd.out ?_); try rw [hks]) | (refine hN _ _ ?_; cbv)
  all_goals (clear hAnd hImp hR hL hN; try clear hks)
  all_goals (cases hM; try dsimp only)
  all_goals (try simp only [Bool.not_eq_true', Bool.not_eq_false', decide_eq_true_eq, decide_eq_false_iff_not, Int.not_le, Int.not_lt, beq_iff_eq, beq_eq_false_iff_ne, ne_eq, Int.ofNat_eq_natCast, Int.toNat_natCast, List.length_replicate, ncast, Nat.sub_zero, List.drop_zero, Cue.eta, Tie.eta, Edge.eta, Link.eta, Node.eta] at *)
  all_goals (try simp only [modL_length])
  all_goals first
    | omega
    | (have hin : i = n := by omega
       subst hin
       rw [List.drop_eq_nil_of_le (by omega), List.append_nil] at hc
       subst hc; subst hq
       refine ⟨?_, ?_, ?_⟩ <;> rfl)
    | (have hin : i < n := by omega
       have e1 : IntKind.i64.wrap (q + 1) = q + 1 := by rw [wrap_i64 (by omega) (by omega)]
       have e2 : IntKind.i64.wrap (q + 1 + 1) = q + 2 := by rw [wrap_i64 (by omega) (by omega)]; omega
       have e3 : IntKind.i64.wrap (q + 2 + 1) = q + 3 := by rw [wrap_i64 (by omega) (by omega)]; omega
       have e4 : IntKind.i64.wrap (q + 3 + 1) = q + 4 := by rw [wrap_i64 (by omega) (by omega)]; omega
       have e5 : IntKind.i64.wrap (q + 4 + 1) = q + 5 := by rw [wrap_i64 (by omega) (by omega)]; omega
       simp only [e1, e2, e3, e4, e5, wrap_succ (show i < 9223372036854775807 by omega), modL_modL]
       refine ⟨(ih hin).same ?_ ⟨rfl, rfl, rfl⟩⟩
       rw [← markTi_step (k := k) (i := i) (l := l) (by omega), ← hq, ← hc, show k + 5 * ((i + 1 : Nat) : Int) = q + 5 by omega]
       rfl)
    | skip
def nLen (q : Node) : Nat := q.label.length + 2
def kN (k : Int) (l : List Node) (i : Nat) : Int := k + (((l.take i).map nLen).sum : Nat)
theorem kN_zero (k : Int) (l : List Node) : kN k l 0 = k := by simp [kN]
theorem kN_succ {k : Int} {l : List Node} {i : Nat} (h : i < l.length) : kN k l (i + 1) = kN k l i + (l.getD i Node.z).label.length + 2 := by
  unfold kN
  rw [List.take_add_one, List.getElem?_eq_getElem h, getD_get h, Option.toList_some, List.map_append, List.sum_append, List.map_cons, List.map_nil, List.sum_cons, List.sum_nil]
  unfold nLen
  omega
theorem kN_mono (k : Int) (l : List Node) (i : Nat) : ∀ d, kN k l i ≤ kN k l (i + d)
  | 0 => Int.le_refl _
  | d + 1 => by
    have := kN_mono k l i d
    by_cases h : i + d < l.length
    · rw [← Nat.add_assoc, kN_succ h]; omega
    · have h1 : kN k l (i + d + 1) = kN k l (i + d) := by unfold kN; rw [List.take_of_length_le (by omega), List.take_of_length_le (by omega)]
      rw [← Nat.add_assoc]
      omega
def mNd (k : Int) (n : Nat) : Node := ⟨mT k, markI (k + 1) n, k + 1 + n⟩
def mNS (k : Int) (l : List Node) (i : Nat) : List Node := (List.range i).map fun j => mNd (kN k l j) (l.getD j Node.z).label.length
theorem mNS_len (k : Int) (l : List Node) (i : Nat) : (mNS k l i).length = i := by simp [mNS]
theorem mNS_succ (k : Int) (l : List Node) (i : Nat) : mNS k l (i + 1) = mNS k l i ++ [mNd (kN k l i) (l.getD i Node.z).label.length] := by simp [mNS, List.range_succ]
theorem mNS_step {k : Int} {i : Nat} {l : List Node} (hi : i < l.length) : (mNS k l i ++ l.drop i).set i (mNd (kN k l i) (l.getD i Node.z).label.length) = mNS k l (i + 1) ++ l.drop (i + 1) := by
  rw [List.set_append_right _ _ (by rw [mNS_len]; omega), mNS_len, Nat.sub_self, mNS_succ, List.append_assoc, List.drop_eq_getElem_cons hi]; rfl
theorem mNS_here {k : Int} {i : Nat} {l : List Node} (hi : i < l.length) : (mNS k l i ++ l.drop i).getD i Node.z = l.getD i Node.z := by
  rw [List.getD_eq_getElem?_getD, List.getElem?_append_right (by rw [mNS_len]; omega), mNS_len, Nat.sub_self, List.getElem?_drop, Nat.add_zero, List.getD_eq_getElem?_getD]
theorem modL_get {α : Type} {z : α} {l : List α} {n : Nat} {f : α → α} (h : n < l.length) : (modL z l n f).getD n z = f (l.getD n z) := by simp [modL, List.getD_eq_getElem?_getD, h]
theorem markNodeS_ok (l : List Node) (k : Int) (hl : l.length ≤ maxLen) (hx : ∀ q ∈ l, q.label.length ≤ maxLen) (hk : 0 < k ∧ kN k l l.length ≤ 4611686018427387904) :
    SCallW Tryz.prog 50 [wR l.length, bI1 k] [(lrt 0, .osl (.node true none l))] [.rf (lrt 0, []) true 0 l.length] (.v (bI1 (kN k l l.length))) [(lrt 0, .osl (.node true none (mNS k l l.length)))] [.rf (lrt 0, []) true 0 l.length] := by
  refine SCallW.of X50_ok (fn := Tryz.f50) (c := Tryz.f50.body.getD .skip) (dr := fun n => look 0 [] n) (r := (_, _, _)) Tryz.func50 rfl (by kernel_rfl) (by kernel_rfl) (by kernel_rfl) ?_
  generalize hn : l.length = n at *
  refine SExW.go (X := X50) X50_ok (fun n => look [] [(2, [0, 1, 5, 4294967296])] n) (fun _ => none) oraL_nil 60 1 ?_
  intro M R L N hM hAnd hImp hR hL hN
  cases M
  cbv
  repeat' first | (refine hAnd _ _ ?_ ?_) | (refine hImp _ _ (fun h => ?_)) | (refine hR _ ?_) | (refine hL _ _ (Hd.out ?_); generalize hks : (List.cons _ _ : List K) = ks) | (refine hN _ _ ?_; cbv)
  all_goals (clear hAnd hImp hR hL hN)
  all_goals (cases hM; try dsimp only)
  all_goals (try simp only [Bool.not_eq_true', Bool.not_eq_false', decide_eq_true_eq, decide_eq_false_iff_not, Int.not_le, Int.not_lt, beq_iff_eq, beq_eq_false_iff_ne, ne_eq, Int.ofNat_eq_natCast, Int.toNat_natCast, List.length_replicate, ncast, Nat.sub_zero, List.drop_zero, Cue.eta, Tie.eta, Edge.eta, Link.eta, Node.eta] at *)
  refine ⟨SExW.same (SExW.idx n (fun i => ⟨35, [(0, bR 41000000 n), (1, bI (kN k l i)), (5, bI i), (4294967296, bR 41000000 n)], [(41000000, .osl (.node true none (mNS k l i ++ l.drop i)))]⟩) (fun _ => (.v (bI1 (kN k l n)), [(lrt 0, .osl (.node true none (mNS k l n)))], [.rf (lrt 0, []) true 0 n])) ?_) ?_ ⟨rfl, rfl, rfl⟩⟩
  rotate_left
  · rw [kN_zero]; rfl
  intro i hi ih
  rw [← hks]
  obtain ⟨c, hc⟩ : ∃ c, c = mNS k l i ++ l.drop i := ⟨_, rfl⟩
  have hcl : c.length = n := by rw [hc, List.length_append, mNS_len, List.length_drop]; omega
  rw [← hc]
  obtain ⟨q, hq⟩ : ∃ q, q = kN k l i := ⟨_, rfl⟩
  rw [← hq]
  obtain ⟨f, hf⟩ : ∃ f, f = mT := ⟨_, rfl⟩
  have hO : SOraOK Tryz.prog (oraL [(84, wMarkT f)]) := by subst hf; exact oraL_cons (w1_ok fun q h => markText_ok q (h _ (.head _)).out) oraL_nil
  obtain ⟨f2, hf2⟩ : ∃ f, f = markI := ⟨_, rfl⟩
  obtain ⟨g2, hg2⟩ : ∃ f, f = addI := ⟨_, rfl⟩
  have hW : SOraWOK Tryz.prog (X50.withW [(26, [(0, 0)])] (oraWL [(26, wMarkI f2 g2)])) := by
    subst hf2 hg2
    exact SX.withW_ok (oraWL_cons wMarkI_ok oraWL_nil)
  unfold maxLen at hl
  refine SExW.go (X := (X50.withW [(26, [(0, 0)])] (oraWL [(26, wMarkI f2 g2)]))) X50_ok (fun n => look [] [(2, [0, 1, 5, 4294967296])] n) (fun _ => none) hO 90 1 ?_ hW
  intro M R L N hM hAnd hImp hR hL hN
  cases M
  cbv
  repeat' first | (refine hAnd _ _ ?_ ?_) | (refine hImp _ _ (fun h => ?_)) | (refine hR _ ?_) | (refine hL _ _ (Hd.out ?_); try rw [hks]) | (refine hN _ _ ?_; cbv)
  all_goals (clear hAnd hImp hR hL hN; try clear hks)
  all_goals (cases hM; try dsimp only)
  all_goals (try simp only [Bool.not_eq_true', Bool.not_eq_false', decide_eq_true_eq, decide_eq_false_iff_not, Int.not_le, Int.not_lt, beq_iff_eq, beq_eq_false_iff_ne, ne_eq, Int.ofNat_eq_natCast, Int.toNat_natCast, List.length_replicate, ncast, Nat.sub_zero, List.drop_zero, Cue.eta, Tie.eta, Edge.eta, Link.eta, Node.eta] at *)
  all_goals (clear hW)
  all_goals (try simp only [modL_length])
  all_goals (try simp only [modL_get (l := c) (n := i) (z := Node.z) (by omega)])
  all_goals (have hb0 := kN_mono k l 0 i; rw [Nat.zero_add, kN_zero, ← hq] at hb0)
  all_goals first
    | omega
    | (have hin : i = n := by omega
       subst hin
       rw [List.drop_eq_nil_of_le (by omega), List.append_nil] at hc
       subst hc; subst hq
       refine ⟨?_, ?_, ?_⟩ <;> rfl)
    | skip
  all_goals (have hin : i < n := by omega)
  all_goals (have h3 := kN_succ (k := k) (l := l) (i := i) (by omega); have h4 := kN_mono k l (i + 1) (n - (i + 1)); rw [show i + 1 + (n - (i + 1)) = n by omega] at h4)
  all_goals (have h6 : c.getD i Node.z = l.getD i Node.z := by rw [hc, mNS_here (by omega)])
  all_goals (have h7 := hx _ (mem_getD (z := Node.z) (show i < l.length by omega)).out)
  all_goals (have e1 : IntKind.i64.wrap (q + 1) = q + 1 := by rw [wrap_i64 (by omega) (by omega)])
  all_goals (simp only [e1, h6] at *)
  all_goals first
    | exact ⟨by omega⟩
    | (subst hf2; exact (markI_len _ _).symm)
    | exact ⟨rfl, rfl, rfl, h7, by omega, by omega⟩
    | skip
  all_goals (subst hf hf2 hg2)
  all_goals (have e2 : addI (q + 1) (l.getD i Node.z).label.length = q + 1 + (l.getD i Node.z).label.length := rfl)
  all_goals (have e3 : IntKind.i64.wrap (q + 1 + (l.getD i Node.z).label.length + 1) = q + (l.getD i Node.z).label.length + 2 := by rw [wrap_i64 (by omega) (by omega)]; omega)
  all_goals (simp only [e2, e3, modL_modL, wrap_succ (show i < 9223372036854775807 by omega)])
  all_goals (refine ⟨(ih hin).same ?_ ⟨rfl, rfl, rfl⟩⟩)
  all_goals (rw [kN_succ (by omega), ← mNS_step (by omega), ← hq, ← hc])
  all_goals rfl
structure MkN (p : SP) (n m : Nat) (l : List Node) (k b : Int) : Prop where out : p = (lrt 0, []) ∧ m = n ∧ l.length = n ∧ n ≤ maxLen ∧ (∀ q ∈ l, q.label.length ≤ maxLen) ∧ 0 < k ∧ b ≤ 4611686018427387904
structure MkT {α : Type} (p : SP) (n m : Nat) (l : List α) (k : Int) : Prop where out : p = (lrt 0, []) ∧ m = n ∧ l.length = n ∧ n ≤ maxLen ∧ 0 < k ∧ k + 5 * n ≤ 4611686018427387904
def addT (k : Int) (n : Nat) : Int := k + 5 * n
def gN (k : Int) (l : List Node) : Int := kN k l l.length
def fN (k : Int) (l : List Node) : List Node := mNS k l l.length
def wMarkTi (f : Int → Nat → List Tie) (g : Int → Nat → Int) : WrW
  | [(false, [.rf p true 0 n]), (false, [.fz (.int .i64 k)])], [(.sl m, .osl (.tie l))] => some ([MkT p n m l k], (.v (bI1 (g k n)), [(lrt 0, .osl (.tie (f k n)))], [.rf (lrt 0, []) true 0 n]))
  | _, _ => none
theorem wMarkTi_ok : WrWOK Tryz.prog 51 (wMarkTi markTi addT) := by
  intro xs ls
  unfold wMarkTi
  split
  · refine R.Sim.mk fun hp => ?_
    obtain ⟨rfl, rfl, rfl, h1, h2, h3⟩ := (hp _ (.head _)).out
    exact markTieS_ok _ _ h1 ⟨h2, h3⟩
  · exact R.Sim.none'
def wMarkN (f : Int → List Node → List Node) (g : Int → List Node → Int) : WrW
  | [(false, [.rf p true 0 n]), (false, [.fz (.int .i64 k)])], [(.sl m, .osl (.node true none l))] => some ([MkN p n m l k (g k l)], (.v (bI1 (g k l)), [(lrt 0, .osl (.node true none (f k l)))], [.rf (lrt 0, []) true 0 n]))
  | _, _ => none
theorem wMarkN_ok : WrWOK Tryz.prog 50 (wMarkN fN gN) := by
  intro xs ls
  unfold wMarkN
  split
  · refine R.Sim.mk fun hp => ?_
    obtain ⟨rfl, rfl, rfl, h1, h2, h3, h4⟩ := (hp _ (.head _)).out
    exact markNodeS_ok _ _ h1 h2 ⟨h3, h4⟩
  · exact R.Sim.none'
theorem fN_len (k : Int) (l : List Node) : (fN k l).length = l.length := mNS_len _ _ _
theorem markShow_ok (cs : List Node) (ps : List Tie) (hr : Int) (k : Int) (h1 : cs.length ≤ maxLen) (h2 : ps.length ≤ maxLen) (h3 : ∀ q ∈ cs, q.label.length ≤ maxLen) (hk : 0 < k ∧ gN k cs + 5 * ps.length ≤ 4611686018427387904) :
    SCallW Tryz.prog 18 [(true, [.rf (lrt 0, []) true 0 cs.length, .rf (lrt 1, []) true 0 ps.length, .fz (.int .i64 hr)]), bI1 k] [(lrt 0, .osl (.node true none cs)), (lrt 1, .osl (.tie ps))]
      [.rf (lrt 0, []) true 0 cs.length, .rf (lrt 1, []) true 0 ps.length] (.v (bI1 (addT (gN k cs) ps.length)))
      [(8192, .obx [.osl (.node true none (fN k cs)), .osl (.tie (markTi (gN k cs) ps.length)), .fz (.int .i64 hr)])] [.rf (8192, [((true, 0), 0)]) true 0 cs.length, .rf (8192, [((true, 0), 1)]) true 0 ps.length] := by
  refine SCallW.of X18_ok (fn := Tryz.f18) (c := Tryz.f18.body.getD .skip) (dr := fun n => look 0 [] n) (r := (_, _, _)) Tryz.func18 rfl (by kernel_rfl) (by kernel_rfl) (by kernel_rfl) ?_
  obtain ⟨f1, hf1⟩ : ∃ f, f = fN := ⟨_, rfl⟩
  obtain ⟨f2, hf2⟩ : ∃ f, f = markTi := ⟨_, rfl⟩
  obtain ⟨g1, hg1⟩ : ∃ f, f = gN := ⟨_, rfl⟩
  obtain ⟨g2, hg2⟩ : ∃ f, f = addT := ⟨_, rfl⟩
  have hpos : 0 < g1 k cs := by rw [hg1]; have := kN_mono k cs 0 cs.length; rw [kN_zero, Nat.zero_add] at this; unfold gN; omega
  rw [← hg1] at hk
  have hW : SOraWOK Tryz.prog (X18.withW [(50, [(0, 0)]), (51, [(0, 0)])] (oraWL [(50, wMarkN f1 g1), (51, wMarkTi f2 g2)])) := by
    subst hf1 hf2 hg1 hg2
    exact SX.withW_ok (oraWL_cons wMarkN_ok (oraWL_cons wMarkTi_ok oraWL_nil))
  generalize hn : cs.length = n at *
  generalize hm : ps.length = m at *
  refine SExW.go (X := (X18.withW [(50, [(0, 0)]), (51, [(0, 0)])] (oraWL [(50, wMarkN f1 g1), (51, wMarkTi f2 g2)]))) X18_ok (fun n => look [] [] n) (fun _ => none) oraL_nil 90 2 ?_ hW
  intro M R L N hM hAnd hImp hR hL hN
  cases M
  cbv
  repeat' first | (refine hAnd _ _ ?_ ?_) | (refine hImp _ _ (fun h => ?_)) | (refine hR _ ?_) | (refine hL _ _ (Hd.out ?_); try rw [hks]) | (refine hN _ _ ?_; cbv)
  all_goals (clear hAnd hImp hR hL hN; try clear hks)
  all_goals (cases hM; try dsimp only)
  all_goals (try simp only [Bool.not_eq_true', Bool.not_eq_false', decide_eq_true_eq, decide_eq_false_iff_not, Int.not_le, Int.not_lt, beq_iff_eq, beq_eq_false_iff_ne, ne_eq, Int.ofNat_eq_natCast, Int.toNat_natCast, List.length_replicate, ncast, Nat.sub_zero, List.drop_zero, Cue.eta, Tie.eta, Edge.eta, Link.eta, Node.eta] at *)
  all_goals (clear hW)
  all_goals (subst hf1 hf2 hg1 hg2 hn hm)
  all_goals first
    | rfl
    | exact (fN_len _ _).symm
    | exact (markTi_len _ _).symm
    | exact ⟨rfl, rfl, rfl, h1, h3, hk.1, by omega⟩
    | exact ⟨rfl, rfl, rfl, h2, hpos, by omega⟩
    | (refine ⟨?_, ?_, ?_⟩ <;> rfl)
    | skip
structure MkSh (p q : SP) (n n' m m' : Nat) (cs : List Node) (ps : List Tie) (k b : Int) : Prop where out : (p = (lrt 0, []) ∧ q = (lrt 1, []) ∧ n' = n ∧ m' = m) ∧ cs.length = n ∧ ps.length = m ∧ n ≤ maxLen ∧ m ≤ maxLen ∧ (∀ q ∈ cs, q.label.length ≤ maxLen) ∧ 0 < k ∧ b ≤ 4611686018427387904
def wMarkShow (f1 : Int → List Node → List Node) (f2 : Int → List Node → Nat → List Tie) (g : Int → List Node → Nat → Int) : WrW
  | [(true, [.rf p true 0 n, .rf q true 0 m, .fz (.int .i64 hr)]), (false, [.fz (.int .i64 k)])], [(.sl n', .osl (.node true none cs)), (.sl m', .osl (.tie ps))] => some ([MkSh p q n n' m m' cs ps k (g k cs m)], (.v (bI1 (g k cs m)), [(8192, .obx [.osl (.node true none (f1 k cs)), .osl (.tie (f2 k cs m)), .fz (.int .i64 hr)])], [.rf (8192, [((true, 0), 0)]) true 0 n, .rf (8192, [((true, 0), 1)]) true 0 m]))
  | _, _ => none
def shT (k : Int) (cs : List Node) (m : Nat) : List Tie := markTi (gN k cs) m
def shG (k : Int) (cs : List Node) (m : Nat) : Int := addT (gN k cs) m
theorem wMarkShow_ok : WrWOK Tryz.prog 18 (wMarkShow fN shT shG) := by
  intro xs ls
  unfold wMarkShow
  split
  · refine R.Sim.mk fun hp => ?_
    obtain ⟨⟨rfl, rfl, rfl, rfl⟩, rfl, rfl, h1, h2, h3, h4, h5⟩ := (hp _ (.head _)).out
    exact markShow_ok _ _ _ _ h1 h2 h3 ⟨h4, by unfold shG addT at h5; omega⟩
  · exact R.Sim.none'
theorem markState_ok (nw : Int) (cs : List Int) (ps : List Int) (k : Int) (h1 : cs.length ≤ maxLen) (h2 : ps.length ≤ maxLen) (hk : 0 < k ∧ k + cs.length + ps.length ≤ 4611686018427387904) :
    SCallW Tryz.prog 19 [(true, [.fz (.int .i64 nw), .rf (lrt 0, []) true 0 cs.length, .rf (lrt 1, []) true 0 ps.length]), bI1 k] [(lrt 0, .osl (.i cs)), (lrt 1, .osl (.i ps))]
      [.rf (lrt 0, []) true 0 cs.length, .rf (lrt 1, []) true 0 ps.length] (.v (bI1 (addI (addI k cs.length) ps.length)))
      [(8192, .obx [.fz (.int .i64 nw), .osl (.i (markI k cs.length)), .osl (.i (markI (addI k cs.length) ps.length))])] [.rf (8192, [((true, 0), 1)]) true 0 cs.length, .rf (8192, [((true, 0), 2)]) true 0 ps.length] := by
  refine SCallW.of X19_ok (fn := Tryz.f19) (c := Tryz.f19.body.getD .skip) (dr := fun n => look 0 [] n) (r := (_, _, _)) Tryz.func19 rfl (by kernel_rfl) (by kernel_rfl) (by kernel_rfl) ?_
  generalize hn : cs.length = n at *
  generalize hm : ps.length = m at *
  obtain ⟨f2, hf2⟩ : ∃ f, f = markI := ⟨_, rfl⟩
  obtain ⟨g2, hg2⟩ : ∃ f, f = addI := ⟨_, rfl⟩
  have hW : SOraWOK Tryz.prog (X19.withW [(26, [(0, 0)])] (oraWL [(26, wMarkI f2 g2)])) := by
    subst hf2 hg2
    exact SX.withW_ok (oraWL_cons wMarkI_ok oraWL_nil)
  refine SExW.go (X := (X19.withW [(26, [(0, 0)])] (oraWL [(26, wMarkI f2 g2)]))) X19_ok (fun n => look [] [] n) (fun _ => none) oraL_nil 90 2 ?_ hW
  intro M R L N hM hAnd hImp hR hL hN
  cases M
  cbv
  repeat' first | (refine hAnd _ _ ?_ ?_) | (refine hImp _ _ (fun h => ?_)) | (refine hR _ ?_) | (refine hL _ _ (Hd.out ?_); try rw [hks]) | (refine hN _ _ ?_; cbv)
  all_goals (clear hAnd hImp hR hL hN; try clear hks)
  all_goals (cases hM; try dsimp only)
  all_goals (try simp only [Bool.not_eq_true', Bool.not_eq_false', decide_eq_true_eq, decide_eq_false_iff_not, Int.not_le, Int.not_lt, beq_iff_eq, beq_eq_false_iff_ne, ne_eq, Int.ofNat_eq_natCast, Int.toNat_natCast, List.length_replicate, ncast, Nat.sub_zero, List.drop_zero, Cue.eta, Tie.eta, Edge.eta, Link.eta, Node.eta] at *)
  all_goals (clear hW)
  all_goals (subst hf2 hg2 hn hm)
  all_goals first
    | rfl
    | exact (markI_len _ _).symm
    | exact ⟨rfl, rfl, rfl, h1, by omega, by omega⟩
    | exact ⟨rfl, rfl, rfl, h2, by unfold addI; omega, by unfold addI; omega⟩
    | (refine ⟨?_, ?_, ?_⟩ <;> rfl)
    | skip
structure MkSt (p q : SP) (n n' m m' : Nat) (cs ps : List Int) (k : Int) : Prop where out : (p = (lrt 0, []) ∧ q = (lrt 1, []) ∧ n' = n ∧ m' = m) ∧ cs.length = n ∧ ps.length = m ∧ n ≤ maxLen ∧ m ≤ maxLen ∧ 0 < k ∧ k + n + m ≤ 4611686018427387904
def wMarkState (f1 : Int → Nat → List Int) (f2 : Int → Nat → Nat → List Int) (g : Int → Nat → Nat → Int) : WrW
  | [(true, [.fz (.int .i64 nw), .rf p true 0 n, .rf q true 0 m]), (false, [.fz (.int .i64 k)])], [(.sl n', .osl (.i cs)), (.sl m', .osl (.i ps))] => some ([MkSt p q n n' m m' cs ps k], (.v (bI1 (g k n m)), [(8192, .obx [.fz (.int .i64 nw), .osl (.i (f1 k n)), .osl (.i (f2 k n m))])], [.rf (8192, [((true, 0), 1)]) true 0 n, .rf (8192, [((true, 0), 2)]) true 0 m]))
  | _, _ => none
def stF (k : Int) (n m : Nat) : List Int := markI (addI k n) m
def stG (k : Int) (n m : Nat) : Int := addI (addI k n) m
theorem wMarkState_ok : WrWOK Tryz.prog 19 (wMarkState markI stF stG) := by
  intro xs ls
  unfold wMarkState
  split
  · refine R.Sim.mk fun hp => ?_
    obtain ⟨⟨rfl, rfl, rfl, rfl⟩, rfl, rfl, h1, h2, h3, h4⟩ := (hp _ (.head _)).out
    exact markState_ok _ _ _ _ h1 h2 ⟨h3, h4⟩
  · exact R.Sim.none'
end Go.Proofs.YtececadpjelanaaGreat.Ai
namespace Go.Proofs.YtececadpjelanaaGreat.Ai
open Go
set_option maxRecDepth 100000
set_option linter.unusedVariables false
set_option linter.unusedSimpArgs false
set_option linter.unusedSectionVars false
variable [MemoCtx]
theorem kN_le {l : List Node} (k : Int) (h : ∀ q ∈ l, q.label.length ≤ 1048576) : ∀ i, i ≤ l.length → kN k l i ≤ k + i * 1048578
  | 0, _ => by rw [kN_zero]; omega
  | i + 1, hi => by
    have h1 := kN_le k h i (by omega)
    have h2 := h _ (mem_getD (z := Node.z) (show i < l.length by omega)).out
    rw [kN_succ (by omega)]
    omega
structure ShGT (n : Int) (g : Int) : Prop where
  lo : 0 < g
  hi : g ≤ 4000000000000
theorem shG_in {t : Show} {n : Int} (h : ShowSz t n) : ShGT n (shG 1 t.nodes t.ties.length) ∧ gN 1 t.nodes ≤ 4000000000000 := by
  have h1 := kN_le 1 h.labs t.nodes.length (Nat.le_refl _)
  have h2 := kN_mono 1 t.nodes 0 t.nodes.length
  rw [kN_zero, Nat.zero_add] at h2
  have h3 := h.len
  have h4 := h.tlen
  unfold shG addT gN
  exact ⟨⟨by omega, by omega⟩, by omega⟩
theorem stF_len (k : Int) (n m : Nat) : (stF k n m).length = m := markI_len _ _
end Go.Proofs.YtececadpjelanaaGreat.Ai
namespace Go.Proofs.YtececadpjelanaaGreat.Ai
open Go
set_option maxRecDepth 100000
set_option linter.unusedVariables false
set_option linter.unusedSimpArgs false
set_option linter.unusedSectionVars false
variable [MemoCtx]
def selL (q : Nat → Bool) (i : Nat) : List Int := ((List.range i).filter q).map fun (j : Nat) => (j : Int)
theorem selL_yes {q : Nat → Bool} {i : Nat} (h : q i = true) : selL q (i + 1) = selL q i ++ [(i : Int)] := by
  simp only [selL, List.range_succ, List.filter_append, List.map_append, List.filter_cons, List.filter_nil, h, if_true, List.map_cons, List.map_nil]
theorem selL_no {q : Nat → Bool} {i : Nat} (h : q i = false) : selL q (i + 1) = selL q i := by
  simp only [selL, List.range_succ, List.filter_append, List.map_append, List.filter_cons, List.filter_nil, h, Bool.false_eq_true, if_false, List.map_nil, List.append_nil]
theorem selL_len (q : Nat → Bool) (i : Nat) : (selL q i).length ≤ i := by
  simp only [selL, List.length_map]
  exact Nat.le_trans (List.length_filter_le _ _) (by simp)
end Go.Proofs.YtececadpjelanaaGreat.Ai
namespace Go.Proofs.YtececadpjelanaaGreat.Ai
open Go
set_option maxRecDepth 100000
set_option linter.unusedVariables false
set_option linter.unusedSimpArgs false
set_option linter.unusedSectionVars false
variable [MemoCtx]
def btS (s : Int) (i : Nat) : Bool := decide (IntKind.i64.wrap (((BitVec.ofInt IntKind.i64.bits (s.fdiv (2 ^ min i IntKind.i64.bits)) &&& BitVec.ofInt IntKind.i64.bits 1).toNat : Nat) : Int) = 1)
def memP (l : List Int) (s : Int) (i : Nat) : List Int := ((List.range i).filter (btS s)).map fun j => l.getD j 0
def memL (l : List Int) (s : Int) : List Int := memP l s l.length
theorem memP_yes {l : List Int} {s : Int} {i : Nat} (h : btS s i = true) : memP l s (i + 1) = memP l s i ++ [l.getD i 0] := by
  simp only [memP, List.range_succ, List.filter_append, List.map_append, List.filter_cons, List.filter_nil, h, if_true, List.map_cons, List.map_nil]
theorem memP_no {l : List Int} {s : Int} {i : Nat} (h : btS s i = false) : memP l s (i + 1) = memP l s i := by
  simp only [memP, List.range_succ, List.filter_append, List.map_append, List.filter_cons, List.filter_nil, h, Bool.false_eq_true, if_false, List.map_nil, List.append_nil]
theorem memP_len (l : List Int) (s : Int) (i : Nat) : (memP l s i).length ≤ i := by
  simp only [memP, List.length_map]
  exact Nat.le_trans (List.length_filter_le _ _) (by simp)
theorem implMembers_ok (l : List Int) (s : Int) (h1 : l.length ≤ 1048576) : SCall Tryz.prog 80 [aIs l, aI s] (rUs (memL l s)) := by
  refine SCall.of X80_ok (fn := Tryz.f80) (c := Tryz.f80.body.getD .skip) (dr := fun n => look 0 [] n) Tryz.func80 rfl (by kernel_rfl) (by kernel_rfl) (by kernel_rfl) ?_
  refine SEx.go (X := X80) X80_ok (fun n => look [] [(3, [1, 5, 8, 9, 10])] n) (fun _ => none) oraL_nil 60 ?_
  intro M R L N hM hAnd hImp hR hL hN
  cases M
  cbv
  repeat' first | (refine hAnd _ _ ?_ ?_) | (refine hImp _ _ (fun h => ?_)) | (refine hR _ ?_) | (refine hL _ _ (Hd.out ?_); generalize hks : (List.cons _ _ : List K) = ks) | (refine hN _ _ ?_; cbv)
  all_goals (clear hAnd hImp hR hL hN)
  all_goals (cases hM; try dsimp only)
  all_goals (try simp only [Bool.not_eq_true', Bool.not_eq_false', decide_eq_true_eq, decide_eq_false_iff_not, Int.not_le, Int.not_lt, beq_iff_eq, beq_eq_false_iff_ne, ne_eq, Int.ofNat_eq_natCast, Int.toNat_natCast, List.length_replicate, ncast, Nat.sub_zero, List.drop_zero, Cue.eta, Tie.eta, Edge.eta, Link.eta, Node.eta] at *)
  obtain ⟨m, hm⟩ : ∃ m, m = l.length := ⟨_, rfl⟩
  refine ⟨SEx.same (SEx.idx m (fun i => ⟨26, [(1, bI s), (5, bR 20480 (memP l s i).length), (8, bL (.i l)), (9, bI m), (10, bI i)], [(20480, .osl (.i (memP l s i)))]⟩) (fun _ => rUs (memP l s m)) ?_) (by rw [hm]; rfl) (by rw [hm]; rfl)⟩
  intro i hi ih
  rw [← hks]
  obtain ⟨u, hu⟩ : ∃ u, u = memP l s i := ⟨_, rfl⟩
  have hul : u.length ≤ i := by rw [hu]; exact memP_len _ _ _
  rw [← hu]
  obtain ⟨n, hn⟩ : ∃ n, n = u.length := ⟨_, rfl⟩
  rw [← hn] at hul ⊢
  refine SEx.go (X := X80) X80_ok (fun n => look [] [(3, [1, 5, 8, 9, 10])] n) (fun _ => none) oraL_nil 60 ?_
  intro M R L N hM hAnd hImp hR hL hN
  cases M
  cbv
  repeat' first | (refine hAnd _ _ ?_ ?_) | (refine hImp _ _ (fun h => ?_)) | (refine hR _ ?_) | (refine hL _ _ (Hd.out ?_); try first | rw [hks] | rw [hk2] | rw [hk3]) | (refine hN _ _ ?_; cbv)
  all_goals (clear hAnd hImp hR hL hN; try clear hks; try clear hk2; try clear hk3)
  all_goals (cases hM; try dsimp only)
  all_goals (try simp only [Bool.not_eq_true', Bool.not_eq_false', decide_eq_true_eq, decide_eq_false_iff_not, Int.not_le, Int.not_lt, beq_iff_eq, beq_eq_false_iff_ne, ne_eq, Int.ofNat_eq_natCast, Int.toNat_natCast, List.length_replicate, ncast, Nat.sub_zero, List.drop_zero, Cue.eta, Tie.eta, Edge.eta, Link.eta, Node.eta] at *)
  all_goals try simp only [List.length_append, List.length_cons, List.length_nil, List.length_set] at *
  all_goals (try omega)
  all_goals (try (have := lim_ge; omega))
  all_goals (try simp only [wrap_succ (show i < 9223372036854775807 by omega)])
  all_goals first
    | (have ih' := ih (by omega)
       rw [memP_yes (show btS s i = true by unfold btS; exact decide_eq_true (by assumption)), ← hu, List.length_append] at ih'
       exact ⟨ih'.same rfl rfl⟩)
    | (have ih' := ih (by omega)
       rw [memP_no (show btS s i = false by unfold btS; exact decide_eq_false (by assumption)), ← hu, ← hn] at ih'
       exact ⟨ih'.same rfl rfl⟩)
    | (obtain rfl : i = m := by omega
       rw [hu]; rfl)
    | skip
theorem specSome_ok (l : List Int) (s : Int) (h1 : l.length ≤ 1048576) : SCall Tryz.prog 43 [aIs l, aI s] (rUs (memL l s)) := by
  refine SCall.of X43_ok (fn := Tryz.f43) (c := Tryz.f43.body.getD .skip) (dr := fun n => look 0 [] n) Tryz.func43 rfl (by kernel_rfl) (by kernel_rfl) (by kernel_rfl) ?_
  refine SEx.go (X := X43) X43_ok (fun n => look [] [(3, [1, 5, 9, 10, 11])] n) (fun _ => none) oraL_nil 60 ?_
  intro M R L N hM hAnd hImp hR hL hN
  cases M
  cbv
  repeat' first | (refine hAnd _ _ ?_ ?_) | (refine hImp _ _ (fun h => ?_)) | (refine hR _ ?_) | (refine hL _ _ (Hd.out ?_); generalize hks : (List.cons _ _ : List K) = ks) | (refine hN _ _ ?_; cbv)
  all_goals (clear hAnd hImp hR hL hN)
  all_goals (cases hM; try dsimp only)
  all_goals (try simp only [Bool.not_eq_true', Bool.not_eq_false', decide_eq_true_eq, decide_eq_false_iff_not, Int.not_le, Int.not_lt, beq_iff_eq, beq_eq_false_iff_ne, ne_eq, Int.ofNat_eq_natCast, Int.toNat_natCast, List.length_replicate, ncast, Nat.sub_zero, List.drop_zero, Cue.eta, Tie.eta, Edge.eta, Link.eta, Node.eta] at *)
  obtain ⟨m, hm⟩ : ∃ m, m = l.length := ⟨_, rfl⟩
  refine ⟨SEx.same (SEx.idx m (fun i => ⟨28, [(1, bI s), (5, bR 20480 (memP l s i).length), (9, bL (.i l)), (10, bI m), (11, bI i)], [(20480, .osl (.i (memP l s i)))]⟩) (fun _ => rUs (memP l s m)) ?_) (by rw [hm]; rfl) (by rw [hm]; rfl)⟩
  intro i hi ih
  rw [← hks]
  obtain ⟨u, hu⟩ : ∃ u, u = memP l s i := ⟨_, rfl⟩
  have hul : u.length ≤ i := by rw [hu]; exact memP_len _ _ _
  rw [← hu]
  obtain ⟨n, hn⟩ : ∃ n, n = u.length := ⟨_, rfl⟩
  rw [← hn] at hul ⊢
  have hwu : IntKind.u64.wrap (i : Int) = (i : Int) := wrap_u64 (by omega)
  refine SEx.go (X := X43) X43_ok (fun n => look [] [(3, [1, 5, 9, 10, 11])] n) (fun _ => none) oraL_nil 60 ?_
  intro M R L N hM hAnd hImp hR hL hN
  cases M
  cbv
  repeat' first | (refine hAnd _ _ ?_ ?_) | (refine hImp _ _ (fun h => ?_)) | (refine hR _ ?_) | (refine hL _ _ (Hd.out ?_); try first | rw [hks] | rw [hk2] | rw [hk3]) | (refine hN _ _ ?_; cbv)
  all_goals (clear hAnd hImp hR hL hN; try clear hks; try clear hk2; try clear hk3)
  all_goals (cases hM; try dsimp only)
  all_goals (try simp only [Bool.not_eq_true', Bool.not_eq_false', decide_eq_true_eq, decide_eq_false_iff_not, Int.not_le, Int.not_lt, beq_iff_eq, beq_eq_false_iff_ne, ne_eq, Int.ofNat_eq_natCast, Int.toNat_natCast, List.length_replicate, ncast, Nat.sub_zero, List.drop_zero, Cue.eta, Tie.eta, Edge.eta, Link.eta, Node.eta] at *)
  all_goals (try simp only [hwu, Int.toNat_natCast] at *)
  all_goals try simp only [List.length_append, List.length_cons, List.length_nil, List.length_set] at *
  all_goals (try omega)
  all_goals (try (have := lim_ge; omega))
  all_goals (try simp only [wrap_succ (show i < 9223372036854775807 by omega)])
  all_goals first
    | (have ih' := ih (by omega)
       rw [memP_yes (show btS s i = true by unfold btS; exact decide_eq_true (by assumption)), ← hu, List.length_append] at ih'
       exact ⟨ih'.same rfl rfl⟩)
    | (have ih' := ih (by omega)
       rw [memP_no (show btS s i = false by unfold btS; exact decide_eq_false (by assumption)), ← hu, ← hn] at ih'
       exact ⟨ih'.same rfl rfl⟩)
    | (obtain rfl : i = m := by omega
       rw [hu]; rfl)
    | skip
def wMem (f : List Int → Int → List Int) : Wr := w2 dcIs dcI (fun l s => rUs (f l s)) (fun l _ => [LLe l 1048576])
theorem wMemS_ok : WrOK Tryz.prog 43 (wMem memL) := w2_ok fun l s h => specSome_ok l s (h _ (.head _)).out
end Go.Proofs.YtececadpjelanaaGreat.Ai
