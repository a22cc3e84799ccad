/- Ties that are late; states that are broken, or over. -/
import Derived.Test.YtciphddcdiifgaaTy
import Derived.Test.YtciphddcdiifgaaU
import Derived.Test.YtciphddcdiifgaaOB
import Derived.Test.YtciphddcdiifgaaSN
import Derived.Test.YtciphddcdiifgaaLB
import Derived.Test.YtciphddcdiifgaaLH
import Derived.Test.YtciphddcdiifgaaLI
import Derived.Test.YtciphddcdiifgaaLJ
import Derived.Test.YtciphddcdiifgaaLM
namespace Go.Proofs.Ytciphddcdiifgaa.Ai
open Go
set_option maxRecDepth 100000
set_option linter.unusedVariables false
set_option linter.unusedSimpArgs false
def labI (l v : List Int) : Int := labF v l 1
def wLabState (f : List Int → List Int → Int) : Wr := w2 dcIs dcIs (fun l v => rI (f l v)) (fun l v => [LabT l, ValT v])
theorem wLabState_ok : WrOK Try.prog 83 (wLabState labI) := w2_ok fun l v h => specLabState_ok l v (h _ (.head _)).out (h _ (.tail _ (.head _))).out
def wNodeState (f : Show → State → Int → Int) : Wr := w3 dcShow dcState dcI (fun t x i => rI (f t x i)) (fun t x i => [StLe t x, StT t x, InX i t.nodes])
theorem wNodeState_ok : WrOK Try.prog 87 (wNodeState nsI) := w3_ok fun t x i h => nodeState_ok t x i (h _ (.head _)) (h _ (.tail _ (.head _))) (h _ (.tail _ (.tail _ (.head _)))).out
structure TieT (t : Show) (q : Tie) : Prop where
  src : 0 ≤ q.src ∧ q.src < t.nodes.length
  dst : 0 ≤ q.dst ∧ q.dst < t.nodes.length
theorem showB_tie {t : Show} (h : showB t = true) {q : Tie} (hq : q ∈ t.ties) : TieT t q := by
  have hn := showB_len h
  unfold showB tiesB at h
  simp only [Bool.and_eq_true] at h
  obtain ⟨i, hi⟩ := allF_mem h.2.2.1.1 hq
  unfold tieB at hi
  rw [Bool.and_eq_true, decide_eq_true_eq] at hi
  exact ⟨by omega, by omega⟩
def lateB (t : Show) (x : State) (q : Tie) : Bool :=
  if ¬ x.times.getD q.src.toNat 0 = -1 ∧ ¬ x.times.getD q.dst.toNat 0 = -1 then !(decide (q.low ≤ x.times.getD q.dst.toNat 0 - x.times.getD q.src.toNat 0) && decide (x.times.getD q.dst.toNat 0 - x.times.getD q.src.toNat 0 ≤ q.high))
  else if q.free = true then false
  else if ¬ x.times.getD q.src.toNat 0 = -1 then decide (nsI t x q.dst = 1) && decide (q.high < x.now - x.times.getD q.src.toNat 0)
  else if ¬ x.times.getD q.dst.toNat 0 = -1 then decide (nsI t x q.src = 1) && decide (x.times.getD q.dst.toNat 0 - x.now < q.low)
  else false
theorem specLate_ok (t : Show) (x : State) (q : Tie) (h : StT t x) (hq : TieT t q) : SCall Try.prog 82 [aShow t, aState x, aTie q] (rB (lateB t x q)) := by
  refine SCall.of X82_ok (fn := Try.f82) (c := Try.f82.body.getD .skip) (dr := fun n => look 0 [(8, 18), (10, 18)] n) Try.func82 rfl (by kernel_rfl) (by kernel_rfl) (by kernel_rfl) ?_
  obtain ⟨f0, hf0⟩ : ∃ f, f = l01InB := ⟨_, rfl⟩
  obtain ⟨f1, hf1⟩ : ∃ f, f = labI := ⟨_, rfl⟩
  have hO : SOraOK Try.prog (oraL [(40, wL01 f0), (83, wLabState f1)]) := by
    subst hf0 hf1
    exact oraL_cons wL01_ok (oraL_cons wLabState_ok oraL_nil)
  have hv := h.vals
  have hn := h.now
  have hh := showB_hor h.sh
  have ht := h.time
  have hl : ∀ n ∈ t.nodes, labelB n.label = true := fun n hn => showB_label h.sh hn
  have h5 := hq.src
  have h6 := hq.dst
  have hr : lateB t x q = if ¬ x.times.getD q.src.toNat 0 = -1 ∧ ¬ x.times.getD q.dst.toNat 0 = -1 then !(f0 (x.times.getD q.dst.toNat 0 - x.times.getD q.src.toNat 0) q.low q.high)
    else if q.free = true then false
    else if ¬ x.times.getD q.src.toNat 0 = -1 then decide (f1 (t.nodes.getD q.dst.toNat Node.z).label x.vals = 1) && decide (q.high < x.now - x.times.getD q.src.toNat 0)
    else if ¬ x.times.getD q.dst.toNat 0 = -1 then decide (f1 (t.nodes.getD q.src.toNat Node.z).label x.vals = 1) && decide (x.times.getD q.dst.toNat 0 - x.now < q.low)
    else false := by rw [hf0, hf1]; rfl
  rw [hr]
  clear h hq hr
  obtain ⟨ns, ts, hr⟩ := t
  obtain ⟨now, times, vals⟩ := x
  obtain ⟨x1, x2, x3, x4, x5⟩ := q
  dsimp only at hv hn hh ht h5 h6 hl ⊢
  have hta := ht x1.toNat
  have htb := ht x2.toNat
  have hw1 : IntKind.i64.wrap (times.getD x2.toNat 0 - times.getD x1.toNat 0) = times.getD x2.toNat 0 - times.getD x1.toNat 0 := wrap_i64 (by omega) (by omega)
  have hw2 : IntKind.i64.wrap (now - times.getD x1.toNat 0) = now - times.getD x1.toNat 0 := wrap_i64 (by omega) (by omega)
  have hw3 : IntKind.i64.wrap (times.getD x2.toNat 0 - now) = times.getD x2.toNat 0 - now := wrap_i64 (by omega) (by omega)
  refine SEx.go (X := X82) X82_ok (fun n => look [] [] n) (fun _ => none) hO 60 ?_
  intro M R L N hM hAnd hImp hR hL hN
  cases M
  cbv
  repeat' first | (refine hAnd _ _ ?_ ?_) | (refine hImp _ _ (fun h => ?_)) | (refine hR _ ?_) | (refine hL _ _ (Hd.out ?_); try first | rw [hks] | rw [hk2] | rw [hk3]) | (refine hN _ _ ?_; cbv)
  all_goals (clear hAnd hImp hR hL hN; try clear hks; try clear hk2; try clear hk3)
  all_goals (cases hM; try dsimp only)
  all_goals (try simp only [Bool.not_eq_true', Bool.not_eq_false', decide_eq_true_eq, decide_eq_false_iff_not, Int.not_le, Int.not_lt, beq_iff_eq, beq_eq_false_iff_ne, ne_eq, Int.ofNat_eq_natCast, Int.toNat_natCast, List.length_replicate, ncast, Nat.sub_zero, List.drop_zero, Cue.eta, Tie.eta, Edge.eta, Link.eta, Node.eta] at *)
  all_goals (clear hO ht)
  all_goals (try simp only [hw1, hw2, hw3] at *)
  all_goals first
    | omega
    | contradiction
    | exact ⟨hv⟩
    | exact ⟨hl _ (mem_getD (z := Node.z) (by omega)).out⟩
    | (refine er_via ?_ _; delta Node.label at *; clear hl; simp_all; done)
    | skip
theorem allF_Rn {α : Type} {p : Nat → α → Bool} (z : α) : ∀ (l : List α) (n : Nat), allF p l n = allR (fun i => p (n + i) (l.getD i z)) l.length
  | [], n => rfl
  | a :: r, n => by
    unfold allF allR
    rw [List.length_cons, List.range_succ_eq_map, List.all_cons, List.all_map, allF_Rn z r (n + 1)]
    show (p n a && _) = (p n a && _)
    congr 1
    unfold allR
    congr 1
    funext i
    show p (n + 1 + i) _ = p (n + (i + 1)) _
    rw [show n + 1 + i = n + (i + 1) by omega]
    rfl
theorem allF_R {α : Type} {p : Nat → α → Bool} (z : α) (l : List α) : allF p l 0 = allR (fun i => p i (l.getD i z)) l.length := by
  rw [allF_Rn z l 0]; simp only [Nat.zero_add]
def overP (t : Show) (x : State) (i : Nat) : Bool := !(decide (x.times.getD i 0 = -1) && decide (0 ≤ nsI t x i))
def overB (t : Show) (x : State) : Bool := allR (overP t x) t.nodes.length
def brokenB (t : Show) (x : State) : Bool := !(allF (fun _ q => !lateB t x q) t.ties 0 && (decide (x.now ≤ t.hor) || overB t x))
theorem specDone_ok (t : Show) (x : State) (hs : ShowLe t) (h : StT t x) : SCall Try.prog 54 [aShow t, aState x] (rB (overB t x)) := by
  refine SCall.of X54_ok (fn := Try.f54) (c := Try.f54.body.getD .skip) (dr := fun n => look 0 [] n) Try.func54 rfl (by kernel_rfl) (by kernel_rfl) (by kernel_rfl) ?_
  obtain ⟨f1, hf1⟩ : ∃ f, f = labI := ⟨_, rfl⟩
  have hO : SOraOK Try.prog (oraL [(83, wLabState f1)]) := by
    subst hf1
    exact oraL_cons wLabState_ok oraL_nil
  have hv := h.vals
  have hn := h.now
  have h1 := showB_len h.sh
  have hl : ∀ n ∈ t.nodes, labelB n.label = true := fun n hn => showB_label h.sh hn
  obtain ⟨p, hp⟩ : ∃ p : Nat → Node → Bool, p = fun i q => !(decide (x.times.getD i 0 = -1) && decide (0 ≤ f1 q.label x.vals)) := ⟨_, rfl⟩
  have hr : overB t x = (allF p t.nodes 0 && true) := by
    rw [Bool.and_true, allF_R Node.z, hp, hf1]; rfl
  rw [hr]
  clear h hs hr
  obtain ⟨ns, ts, hr⟩ := t
  obtain ⟨now, times, vals⟩ := x
  dsimp only at hv hn h1 hl hp ⊢
  refine SEx.go (X := X54) X54_ok (fun n => look [] [(2, [3, 8, 9, 10])] n) (fun _ => none) hO 60 ?_
  intro M R L N hM hAnd hImp hR hL hN
  cases M
  cbv
  repeat' first | (refine hAnd _ _ ?_ ?_) | (refine hImp _ _ (fun h => ?_)) | (refine hR _ ?_) | (refine hL _ _ (Hd.out ?_); generalize hks : (List.cons _ _ : List K) = ks) | (refine hN _ _ ?_; cbv)
  all_goals (clear hAnd hImp hR hL hN)
  all_goals (cases hM; try dsimp only)
  all_goals (try simp only [Bool.not_eq_true', Bool.not_eq_false', decide_eq_true_eq, decide_eq_false_iff_not, Int.not_le, Int.not_lt, beq_iff_eq, beq_eq_false_iff_ne, ne_eq, Int.ofNat_eq_natCast, Int.toNat_natCast, List.length_replicate, ncast, Nat.sub_zero, List.drop_zero, Cue.eta, Tie.eta, Edge.eta, Link.eta, Node.eta] at *)
  obtain ⟨m, hm⟩ : ∃ m, m = ns.length := ⟨_, rfl⟩
  refine ⟨SEx.same (SEx.idx m (fun i => ⟨30, [(3, bP 12288), (8, bL (.node false none ns)), (9, bI m), (10, bI i)], [(12288, .obx [.fz (.int .i64 now), .fz (.sl (.i times)), .fz (.sl (.i vals))])]⟩) (fun i => rB (allF p (ns.drop i) i && true)) ?_) (by rw [hm]; rfl) rfl⟩
  intro i hi ih
  rw [← hks]
  have hl2 : i < m → LoopB _ _ _ := fun h => LoopB.of p ns i true Node.z (by omega)
  have he : i = m → (allF p (ns.drop i) i && true) = true := fun h => allF_end_and (by omega)
  refine SEx.go (X := X54) X54_ok (fun n => look [] [(2, [3, 8, 9, 10])] n) (fun _ => none) hO 60 ?_
  intro M R L N hM hAnd hImp hR hL hN
  cases M
  cbv
  repeat' first | (refine hAnd _ _ ?_ ?_) | (refine hImp _ _ (fun h => ?_)) | (refine hR _ ?_) | (refine hL _ _ (Hd.out ?_); try first | rw [hks] | rw [hk2] | rw [hk3]) | (refine hN _ _ ?_; cbv)
  all_goals (clear hAnd hImp hR hL hN; try clear hks; try clear hk2; try clear hk3)
  all_goals (cases hM; try dsimp only)
  all_goals (try simp only [Bool.not_eq_true', Bool.not_eq_false', decide_eq_true_eq, decide_eq_false_iff_not, Int.not_le, Int.not_lt, beq_iff_eq, beq_eq_false_iff_ne, ne_eq, Int.ofNat_eq_natCast, Int.toNat_natCast, List.length_replicate, ncast, Nat.sub_zero, List.drop_zero, Cue.eta, Tie.eta, Edge.eta, Link.eta, Node.eta] at *)
  all_goals (try simp only [wrap_succ (show i < 9223372036854775807 by omega)] at *)
  all_goals first
    | omega
    | exact ⟨hv⟩
    | exact ⟨hl _ (mem_getD (z := Node.z) (by omega)).out⟩
    | (refine er_via ?_ _; rw [he (by omega)]; done)
    | (refine (hl2 (by omega)).stop _ ?_; rw [hp]; delta Node.label at *; clear hl2 he ih hl; simp_all; done)
    | (refine ⟨(ih (by omega)).same rfl ((hl2 (by omega)).go ?_)⟩; rw [hp]; delta Node.label at *; clear hl2 he ih hl; simp_all; done)
    | skip
theorem specBroken_ok (t : Show) (x : State) (hs : ShowLe t) (h : StT t x) : SCall Try.prog 53 [aShow t, aState x] (rB (brokenB t x)) := by
  refine SCall.of X53_ok (fn := Try.f53) (c := Try.f53.body.getD .skip) (dr := fun n => look 0 [] n) Try.func53 rfl (by kernel_rfl) (by kernel_rfl) (by kernel_rfl) ?_
  obtain ⟨f1, hf1⟩ : ∃ f, f = labI := ⟨_, rfl⟩
  obtain ⟨f2, hf2⟩ : ∃ f, f = lateB := ⟨_, rfl⟩
  have hO : SOraOK Try.prog (oraL [(83, wLabState f1), (82, w3 dcShow dcState dcTie (fun t x q => rB (f2 t x q)) (fun t x q => [StT t x, TieT t q]))]) := by
    subst hf1 hf2
    exact oraL_cons wLabState_ok (oraL_cons (w3_ok fun t x q h => specLate_ok t x q (h _ (.head _)) (h _ (.tail _ (.head _)))) oraL_nil)
  have hv := h.vals
  have hn := h.now
  have h1 := showB_len h.sh
  have h2 := showB_ties h.sh
  have hl : ∀ n ∈ t.nodes, labelB n.label = true := fun n hn => showB_label h.sh hn
  have ht : ∀ q ∈ t.ties, TieT t q := fun q hq => showB_tie h.sh hq
  obtain ⟨p, hp⟩ : ∃ p : Nat → Node → Bool, p = fun i q => !(decide (t.hor < x.now) && (decide (x.times.getD i 0 = -1) && decide (0 ≤ f1 q.label x.vals))) := ⟨_, rfl⟩
  obtain ⟨pt, hpt⟩ : ∃ p : Nat → Tie → Bool, p = fun _ q => !f2 t x q := ⟨_, rfl⟩
  have e : allF p t.nodes 0 = (decide (x.now ≤ t.hor) || overB t x) := by
    rw [allF_R Node.z, hp, hf1]
    by_cases hc : t.hor < x.now
    · rw [decide_eq_true hc, decide_eq_false (show ¬ x.now ≤ t.hor by omega), Bool.false_or]; rfl
    · rw [decide_eq_false hc, decide_eq_true (show x.now ≤ t.hor by omega), Bool.true_or]
      exact allR_yes fun j hj => rfl
  obtain ⟨d, hd⟩ : ∃ d, d = allF p t.nodes 0 := ⟨_, rfl⟩
  have hr : brokenB t x = !(allF pt t.ties 0 && d) := by
    rw [hd, e, hpt, hf2]; rfl
  rw [hr]
  clear hs hr e
  obtain ⟨ns, ts, hr⟩ := t
  obtain ⟨now, times, vals⟩ := x
  dsimp only at hv hn h1 h2 hl hp hd ht ⊢
  refine SEx.go (X := X53) X53_ok (fun n => look [] [(2, [2, 3, 10, 11, 12]), (8, [2, 3, 22, 23, 24])] n) (fun _ => none) hO 60 ?_
  intro M R L N hM hAnd hImp hR hL hN
  cases M
  cbv
  repeat' first | (refine hAnd _ _ ?_ ?_) | (refine hImp _ _ (fun h => ?_)) | (refine hR _ ?_) | (refine hL _ _ (Hd.out ?_); generalize hks : (List.cons _ _ : List K) = ks) | (refine hN _ _ ?_; cbv)
  all_goals (clear hAnd hImp hR hL hN)
  all_goals (cases hM; try dsimp only)
  all_goals (try simp only [Bool.not_eq_true', Bool.not_eq_false', decide_eq_true_eq, decide_eq_false_iff_not, Int.not_le, Int.not_lt, beq_iff_eq, beq_eq_false_iff_ne, ne_eq, Int.ofNat_eq_natCast, Int.toNat_natCast, List.length_replicate, ncast, Nat.sub_zero, List.drop_zero, Cue.eta, Tie.eta, Edge.eta, Link.eta, Node.eta] at *)
  obtain ⟨m, hm⟩ : ∃ m, m = ts.length := ⟨_, rfl⟩
  refine ⟨SEx.same (SEx.idx m (fun i => ⟨51, [(2, bP 8192), (3, bP 12288), (10, bL (.tie ts)), (11, bI m), (12, bI i)], [(8192, .obx [.fz (.sl (.node false none ns)), .fz (.sl (.tie ts)), .fz (.int .i64 hr)]), (12288, .obx [.fz (.int .i64 now), .fz (.sl (.i times)), .fz (.sl (.i vals))])]⟩) (fun i => rB (!(allF pt (ts.drop i) i && d))) ?_) (by rw [hm]; rfl) rfl⟩
  intro i hi ih
  rw [← hks]
  have hl2 : i < m → LoopB _ _ _ := fun h => LoopB.of pt ts i d Tie.z (by omega)
  have he : i = m → (allF pt (ts.drop i) i && d) = d := fun h => allF_end_and (by omega)
  refine SEx.go (X := X53) X53_ok (fun n => look [] [(2, [2, 3, 10, 11, 12]), (8, [2, 3, 22, 23, 24])] n) (fun _ => none) hO 60 ?_
  intro M R L N hM hAnd hImp hR hL hN
  cases M
  cbv
  repeat' first | (refine hAnd _ _ ?_ ?_) | (refine hImp _ _ (fun h => ?_)) | (refine hR _ ?_) | (refine hL _ _ (Hd.out ?_); first | rw [hks] | generalize hk2 : (List.cons _ _ : List K) = k2) | (refine hN _ _ ?_; cbv)
  all_goals (clear hAnd hImp hR hL hN)
  all_goals (cases hM; try dsimp only)
  all_goals (try simp only [Bool.not_eq_true', Bool.not_eq_false', decide_eq_true_eq, decide_eq_false_iff_not, Int.not_le, Int.not_lt, beq_iff_eq, beq_eq_false_iff_ne, ne_eq, Int.ofNat_eq_natCast, Int.toNat_natCast, List.length_replicate, ncast, Nat.sub_zero, List.drop_zero, Cue.eta, Tie.eta, Edge.eta, Link.eta, Node.eta] at *)
  all_goals (try simp only [wrap_succ (show i < 9223372036854775807 by omega)] at *)
  all_goals first
    | omega
    | exact h
    | exact ht _ (mem_getD (z := Tie.z) (by omega)).out
    | (refine (hl2 (by omega)).stopN _ ?_; rw [hpt]; clear hl2 he ih hl ht; simp_all; done)
    | (refine ⟨(ih (by omega)).same rfl ((hl2 (by omega)).goN ?_)⟩; rw [hpt]; clear hl2 he ih hl ht; simp_all; done)
    | skip
  have him : i = m := by omega
  rw [he him, hd]
  clear ih hl2 he hd
  obtain ⟨w, hw⟩ : ∃ w, w = ns.length := ⟨_, rfl⟩
  refine ⟨SEx.same (SEx.idx w (fun i => ⟨51, [(2, bP 8192), (3, bP 12288), (22, bL (.node false none ns)), (23, bI w), (24, bI i)], [(8192, .obx [.fz (.sl (.node false none ns)), .fz (.sl (.tie ts)), .fz (.int .i64 hr)]), (12288, .obx [.fz (.int .i64 now), .fz (.sl (.i times)), .fz (.sl (.i vals))])]⟩) (fun i => rB (!(allF p (ns.drop i) i && true))) ?_) (by rw [hw]; rfl) (by rw [Bool.and_true]; rfl)⟩
  intro k hk ih
  rw [← hk2]
  have hl2 : k < w → LoopB _ _ _ := fun h => LoopB.of p ns k true Node.z (by omega)
  have he : k = w → (allF p (ns.drop k) k && true) = true := fun h => allF_end_and (by omega)
  refine SEx.go (X := X53) X53_ok (fun n => look [] [(2, [2, 3, 10, 11, 12]), (8, [2, 3, 22, 23, 24])] n) (fun _ => none) hO 60 ?_
  intro M R L N hM hAnd hImp hR hL hN
  cases M
  cbv
  repeat' first | (refine hAnd _ _ ?_ ?_) | (refine hImp _ _ (fun h => ?_)) | (refine hR _ ?_) | (refine hL _ _ (Hd.out ?_); try first | rw [hks] | rw [hk2] | rw [hk3]) | (refine hN _ _ ?_; cbv)
  all_goals (clear hAnd hImp hR hL hN; try clear hks; try clear hk2; try clear hk3)
  all_goals (cases hM; try dsimp only)
  all_goals (try simp only [Bool.not_eq_true', Bool.not_eq_false', decide_eq_true_eq, decide_eq_false_iff_not, Int.not_le, Int.not_lt, beq_iff_eq, beq_eq_false_iff_ne, ne_eq, Int.ofNat_eq_natCast, Int.toNat_natCast, List.length_replicate, ncast, Nat.sub_zero, List.drop_zero, Cue.eta, Tie.eta, Edge.eta, Link.eta, Node.eta] at *)
  all_goals (try simp only [wrap_succ (show k < 9223372036854775807 by omega)] at *)
  all_goals first
    | omega
    | exact ⟨hv⟩
    | exact ⟨hl _ (mem_getD (z := Node.z) (by omega)).out⟩
    | (refine er_via ?_ _; rw [he (by omega)]; rfl)
    | (refine (hl2 (by omega)).stopN _ ?_; rw [hp]; delta Node.label at *; clear hl2 he ih hl ht; simp_all; done)
    | (refine ⟨(ih (by omega)).same rfl ((hl2 (by omega)).goN ?_)⟩; rw [hp]; delta Node.label at *; clear hl2 he ih hl ht; simp_all; done)
    | (refine ⟨(ih (by omega)).same rfl ((hl2 (by omega)).goN ?_)⟩; rw [hp]; dsimp only; rw [decide_eq_false (show ¬ hr < now by omega)]; rfl)
    | skip
end Go.Proofs.Ytciphddcdiifgaa.Ai
