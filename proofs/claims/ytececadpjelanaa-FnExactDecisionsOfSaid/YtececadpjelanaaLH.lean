/- Ties that are right. -/
import Derived.Test.YtececadpjelanaaTy
import Derived.Test.YtececadpjelanaaLG
namespace Go.Proofs.Ytececadpjelanaa.Ai
open Go
set_option maxRecDepth 100000
set_option linter.unusedVariables false
set_option linter.unusedSimpArgs false
def nd (ns : List Node) (x : Int) : Node := ns.getD x.toNat Node.z
def tieB (ns : List Node) (ts : List Tie) (i : Nat) (q : Tie) : Bool :=
  decide (0 ≤ q.src ∧ q.src ≤ ns.length - 1 ∧ 0 ≤ q.dst ∧ q.dst ≤ ns.length - 1 ∧ ¬ q.src = q.dst ∧ -20 ≤ q.low ∧ q.high ≤ 20 ∧ q.low ≤ q.high) && (!q.free || (decide (1 ≤ q.low ∧ ¬ q.dst = 0 ∧ (nd ns q.dst).watch = 0) && sameL (nd ns q.src).label (nd ns q.dst).label && decide (freeI ts q.dst = i)))
theorem specTie_ok (t : Show) (i : Int) (hi : 0 ≤ i ∧ i < t.ties.length) (h1 : t.nodes.length ≤ maxLen) (h2 : t.ties.length ≤ maxLen) (h3 : ∀ q ∈ t.nodes, q.label.length ≤ maxLen) : SCall Try.prog 63 [aShow t, aI i] (rB (tieB t.nodes t.ties i.toNat (t.ties.getD i.toNat Tie.z))) := by
  refine SCall.of X63_ok (fn := Try.f63) (c := Try.f63.body.getD .skip) (dr := fun n => look 0 [(5, 45)] n) Try.func63 rfl (by kernel_rfl) (by kernel_rfl) (by kernel_rfl) ?_
  obtain ⟨f0, hf0⟩ : ∃ f, f = l01InB := ⟨_, rfl⟩
  obtain ⟨f1, hf1⟩ : ∃ f, f = sameL := ⟨_, rfl⟩
  obtain ⟨f2, hf2⟩ : ∃ f, f = freeI := ⟨_, rfl⟩
  have hO : SOraOK Try.prog (oraL [(43, wL01 f0), (79, wSameL f1), (46, wFree f2)]) := by subst hf0 hf1 hf2; exact oraL_cons wL01_ok (oraL_cons wSameS_ok (oraL_cons wFreeS_ok oraL_nil))
  obtain ⟨ns, ts, hr⟩ := t
  have hi : 0 ≤ i ∧ i < ts.length := hi
  have h1 : ns.length ≤ maxLen := h1
  have h2 : ts.length ≤ maxLen := h2
  have h3 : ∀ q ∈ ns, q.label.length ≤ maxLen := h3
  show SEx _ _ _ _ _ _ (rB (tieB ns ts i.toNat (ts.getD i.toNat Tie.z)))
  obtain ⟨n, rfl⟩ : ∃ n : Nat, i = n := ⟨i.toNat, by omega⟩
  refine SEx.go (X := X63) X63_ok (fun n => look [] [] n) (fun _ => none) hO 60 ?_
  intro M R L N hM hAnd hImp hR hL hN
  cases M
  cbv
  repeat' first | (refine hAnd _ _ ?_ ?_) | (refine hImp _ _ (fun h => ?_)) | (refine hR _ ?_) | (refine hL _ _ (Hd.out ?_); try first | rw [hks] | rw [hk2] | rw [hk3]) | (refine hN _ _ ?_; cbv)
  all_goals (clear hAnd hImp hR hL hN; try clear hks; try clear hk2; try clear hk3)
  all_goals (cases hM; try dsimp only)
  all_goals (try simp only [Bool.not_eq_true', Bool.not_eq_false', decide_eq_true_eq, decide_eq_false_iff_not, Int.not_le, Int.not_lt, beq_iff_eq, beq_eq_false_iff_ne, ne_eq, Int.ofNat_eq_natCast, Int.toNat_natCast, List.length_replicate, ncast, Nat.sub_zero, List.drop_zero, Cue.eta, Tie.eta, Edge.eta, Link.eta, Node.eta] at *)
  all_goals (have hQ := mem_getD (z := Tie.z) (l := ts) (i := n) (by omega); generalize ts.getD n Tie.z = q at *; obtain ⟨x1, x2, x3, x4, x5⟩ := q)
  all_goals (clear hO; subst hf0 hf1 hf2; unfold maxLen at h1 h2; try dsimp only at *)
  all_goals (try simp only [wrap_i64 (n := (ns.length : Int) - 1) (by omega) (by omega), l01InB, Bool.and_eq_true, Bool.and_eq_false_iff, decide_eq_true_eq, decide_eq_false_iff_not] at *)
  all_goals first
    | omega
    | exact ⟨h2⟩
    | exact ⟨h3 _ (mem_getD (z := Node.z) (by omega)).out⟩
    | (simp only [er_B]; symm; rw [Bool.eq_false_iff]; intro h; simp only [tieB, Bool.and_eq_true, Bool.or_eq_true, Bool.not_eq_true', decide_eq_true_eq] at h; simp only [nd] at h; first | omega | (simp_all; done) | (simp_all; omega))
    | (simp only [er_B]; symm; simp only [tieB, Bool.and_eq_true, Bool.or_eq_true, Bool.not_eq_true', decide_eq_true_eq]; first | (refine ⟨by omega, .inl ?_⟩; assumption) | (refine ⟨by omega, .inr ⟨⟨by omega, ?_⟩, ?_⟩⟩ <;> assumption))
    | (simp only [er_B]; simp only [tieB, nd]; rw [Bool.eq_iff_iff]; simp only [Bool.and_eq_true, Bool.or_eq_true, Bool.not_eq_true', decide_eq_true_eq, beq_iff_eq]; constructor; (· intro h; exact ⟨by omega, .inr ⟨⟨⟨by assumption, by assumption, by assumption⟩, by assumption⟩, h⟩⟩); (· rintro ⟨-, h | h⟩; (· have := h.symm.trans (by assumption : _ = true); cases this); (· exact h.2)))
    | (simp only [er_B]; rw [Bool.eq_iff_iff]; simp only [tieB, Bool.and_eq_true, Bool.or_eq_true, Bool.not_eq_true', decide_eq_true_eq, beq_iff_eq]; simp only [nd]; constructor; (· intro h; exact ⟨by omega, .inr ⟨⟨⟨by assumption, by assumption, by assumption⟩, by assumption⟩, h⟩⟩); (· rintro ⟨-, h | h⟩; (· have := h.symm.trans (by assumption : _ = true); cases this); (· exact h.2)))
def dcC1 {α : Type} (k : Nat) (g : Bool) (d : Dc α) (hg : ∀ a, (d.enc a).1 = g) : Dc α := ⟨fun a => aF k [.ptr (d.enc a).2], fun | (false, [.fn f [.ptr x]]) => (match nq f k with | true => d.dec (g, x) | false => none) | _ => none, by
  intro x a h
  split at h
  · split at h
    · rename_i hk
      obtain rfl := nq_iff.1 hk
      have := d.ok _ _ h
      have e := congrArg Prod.snd this
      simp only [v1er] at e
      simp only [v1er, D.erL, D.er, aF, e]
    · cases h
  · cases h⟩
theorem areTies1_ok (u t : Tie) : SCall Try.prog 85 [aTie u, (false, [.ptr t.d])] (rB (u.free && u.dst == t.dst)) := by
  refine SCall.of X85_ok (fn := Try.f85) (c := Try.f85.body.getD .skip) (dr := fun n => look 0 [] n) Try.func85 rfl (by kernel_rfl) (by kernel_rfl) (by kernel_rfl) ?_
  obtain ⟨x1, x2, x3, x4, x5⟩ := u
  obtain ⟨y1, y2, y3, y4, y5⟩ := t
  refine SEx.go (X := X85) X85_ok (fun n => look [] [] n) (fun _ => none) oraL_nil 60 ?_
  intro M R L N hM hAnd hImp hR hL hN
  cases M
  cbv
  repeat' first | (refine hAnd _ _ ?_ ?_) | (refine hImp _ _ (fun h => ?_)) | (refine hR _ ?_) | (refine hL _ _ (Hd.out ?_); try first | rw [hks] | rw [hk2] | rw [hk3]) | (refine hN _ _ ?_; cbv)
  all_goals (clear hAnd hImp hR hL hN; try clear hks; try clear hk2; try clear hk3)
  all_goals (cases hM; try dsimp only)
  all_goals (try simp only [Bool.not_eq_true', Bool.not_eq_false', decide_eq_true_eq, decide_eq_false_iff_not, Int.not_le, Int.not_lt, beq_iff_eq, beq_eq_false_iff_ne, ne_eq, Int.ofNat_eq_natCast, Int.toNat_natCast, List.length_replicate, ncast, Nat.sub_zero, List.drop_zero, Cue.eta, Tie.eta, Edge.eta, Link.eta, Node.eta] at *)
  all_goals simp only [er_B]
  all_goals (rw [show x5 = _ by assumption]; rfl)
def dcTc (k : Nat) : Dc Tie := dcC1 k true dcTie fun _ => rfl
def tieI (ns : List Node) (ts : List Tie) (i : Nat) (q : Tie) : Bool :=
  decide (0 ≤ q.src ∧ q.src ≤ ns.length - 1 ∧ 0 ≤ q.dst ∧ q.dst ≤ ns.length - 1 ∧ ¬ q.src = q.dst ∧ -20 ≤ q.low ∧ q.high ≤ 20 ∧ q.low ≤ q.high) && (!q.free || (decide (1 ≤ q.low ∧ ¬ q.dst = 0 ∧ (nd ns q.dst).watch = 0) && sameL (nd ns q.dst).label (nd ns q.src).label && !((ts.take i).any fun u => u.free && u.dst == q.dst)))
theorem areTies_ok (t : Show) (h1 : t.nodes.length ≤ maxLen) (h2 : t.ties.length ≤ maxLen) (h3 : ∀ q ∈ t.nodes, q.label.length ≤ maxLen) : SCall Try.prog 66 [aShow t] (rB (allF (tieI t.nodes t.ties) t.ties 0 && decide (t.ties.length ≤ 14))) := by
  refine SCall.of X66_ok (fn := Try.f66) (c := Try.f66.body.getD .skip) (dr := fun n => look 0 [(7, 33)] n) Try.func66 rfl (by kernel_rfl) (by kernel_rfl) (by kernel_rfl) ?_
  obtain ⟨f0, hf0⟩ : ∃ f, f = isNodeB := ⟨_, rfl⟩
  obtain ⟨f1, hf1⟩ : ∃ f, f = sameL := ⟨_, rfl⟩
  obtain ⟨f2, hf2⟩ : ∃ f, f = spanB := ⟨_, rfl⟩
  obtain ⟨f3, hf3⟩ : ∃ f : List Tie → Tie → Bool, f = fun l q => l.any fun u => u.free && u.dst == q.dst := ⟨_, rfl⟩
  have hO : SOraOK Try.prog (oraL [(81, wIsNode f0), (82, wSpan f2), (83, wSameL f1), (84, w2 dcTies (dcTc 85) (fun l q => rB (f3 l q)) (fun l q => [LLe l maxLen]))]) := by
    subst hf0 hf1 hf2 hf3
    exact oraL_cons wIsNode_ok (oraL_cons wSpan_ok (oraL_cons wSameI_ok (oraL_cons (w2_ok fun l q h => contFuncTie_ok l _ _ _ (fun u _ => areTies1_ok u q) (h _ (.head _)).out) oraL_nil)))
  obtain ⟨ns, ts, hr⟩ := t
  have h1 : ns.length ≤ maxLen := h1
  have h2 : ts.length ≤ maxLen := h2
  have h3 : ∀ q ∈ ns, q.label.length ≤ maxLen := h3
  unfold maxLen at h1 h2
  show SEx _ _ _ _ _ _ (rB (allF (tieI ns ts) ts 0 && decide (ts.length ≤ 14)))
  obtain ⟨c, hc⟩ : ∃ c, c = decide (ts.length ≤ 14) := ⟨_, rfl⟩
  obtain ⟨p, hp⟩ : ∃ p, p = tieI ns ts := ⟨_, rfl⟩
  rw [← hc, ← hp]
  refine SEx.go (X := X66) X66_ok (fun n => look [] [(2, [1, 6, 7, 8])] n) (fun _ => none) hO 60 ?_
  intro M R L N hM hAnd hImp hR hL hN
  cases M
  cbv
  repeat' first | (refine hAnd _ _ ?_ ?_) | (refine hImp _ _ (fun h => ?_)) | (refine hR _ ?_) | (refine hL _ _ (Hd.out ?_); generalize hks : (List.cons _ _ : List K) = ks) | (refine hN _ _ ?_; cbv)
  all_goals (clear hAnd hImp hR hL hN)
  all_goals (cases hM; try dsimp only)
  all_goals (try simp only [Bool.not_eq_true', Bool.not_eq_false', decide_eq_true_eq, decide_eq_false_iff_not, Int.not_le, Int.not_lt, beq_iff_eq, beq_eq_false_iff_ne, ne_eq, Int.ofNat_eq_natCast, Int.toNat_natCast, List.length_replicate, ncast, Nat.sub_zero, List.drop_zero, Cue.eta, Tie.eta, Edge.eta, Link.eta, Node.eta] at *)
  obtain ⟨m, hm⟩ : ∃ m, m = ts.length := ⟨_, rfl⟩
  refine ⟨SEx.same (SEx.idx m (fun i => ⟨105, [(1, bP 4096), (6, bL (.tie ts)), (7, bI m), (8, bI i)], [(4096, .obx [.fz (.sl (.node false none ns)), .fz (.sl (.tie ts)), .fz (.int .i64 hr)])]⟩) (fun i => rB (allF p (ts.drop i) i && c)) ?_) (by rw [hm]; rfl) rfl⟩
  intro i hi ih
  rw [← hks]
  have hl : i < m → LoopB _ _ _ := fun h => LoopB.of p ts i c Tie.z (by omega)
  have he : i = m → (allF p (ts.drop i) i && c) = c := fun h => allF_end_and (by omega)
  refine SEx.go (X := X66) X66_ok (fun n => look [] [(2, [1, 6, 7, 8])] n) (fun _ => none) hO 60 ?_
  intro M R L N hM hAnd hImp hR hL hN
  cases M
  cbv
  repeat' first | (refine hAnd _ _ ?_ ?_) | (refine hImp _ _ (fun h => ?_)) | (refine hR _ ?_) | (refine hL _ _ (Hd.out ?_); try first | rw [hks] | rw [hk2] | rw [hk3]) | (refine hN _ _ ?_; cbv)
  all_goals (clear hAnd hImp hR hL hN; try clear hks; try clear hk2; try clear hk3)
  all_goals (cases hM; try dsimp only)
  all_goals (try simp only [Bool.not_eq_true', Bool.not_eq_false', decide_eq_true_eq, decide_eq_false_iff_not, Int.not_le, Int.not_lt, beq_iff_eq, beq_eq_false_iff_ne, ne_eq, Int.ofNat_eq_natCast, Int.toNat_natCast, List.length_replicate, ncast, Nat.sub_zero, List.drop_zero, Cue.eta, Tie.eta, Edge.eta, Link.eta, Node.eta] at *)
  all_goals (clear hO; subst hf0 hf1 hf2 hf3)
  all_goals (try simp only [wrap_succ (show i < 9223372036854775807 by omega)])
  all_goals (try refine ⟨(ih (by omega)).same rfl ?_⟩)
  all_goals (clear ih)
  all_goals (generalize ts.getD i Tie.z = q at *; obtain ⟨x1, x2, x3, x4, x5⟩ := q; try dsimp only at *)
  all_goals (try simp only [isNodeB, spanB, Bool.and_eq_true, Bool.and_eq_false_iff, decide_eq_true_eq, decide_eq_false_iff_not] at *)
  all_goals first
    | omega
    | exact ⟨h3 _ (mem_getD (z := Node.z) (by omega)).out⟩
    | (refine ⟨?_⟩; simp only [List.length_take]; omega)
    | (rw [he (by omega), hc]; simp only [er_B]; apply decide_eq_decide.2; omega)
    | (refine (hl (by omega)).stop _ ?_; clear hl he; rw [hp, Bool.eq_false_iff]; intro h; simp only [tieI, Bool.and_eq_true, Bool.or_eq_true, Bool.not_eq_true', decide_eq_true_eq] at h; simp only [nd] at h; first | omega | (rcases h with ⟨-, h | h⟩; (· simp_all; done); (· refine absurd h.2 ?_; rw [Bool.not_eq_false]; assumption)) | (generalize ns.getD x2.toNat Node.z = r2 at *; generalize ns.getD x1.toNat Node.z = r1 at *; cases r1; cases r2; simp_all; done) | (simp_all; omega))
    | (refine (hl (by omega)).go ?_; clear hl he; rw [hp]; simp only [tieI, Bool.and_eq_true, Bool.or_eq_true, Bool.not_eq_true', decide_eq_true_eq]; first | (refine ⟨by omega, .inl ?_⟩; assumption) | (refine ⟨by omega, .inr ⟨⟨⟨by omega, by omega, by assumption⟩, ?_⟩, ?_⟩⟩ <;> assumption))
    | trace_state
theorem idxF_take {α : Type} {p : α → Bool} : ∀ {l : List α} {i : Nat} (n : Nat) (z : α), i < l.length → p (l.getD i z) = true → (idxF p l n = (n + i : Nat) ↔ (l.take i).any p = false)
  | [], i, n, z, h, _ => absurd h (Nat.not_lt_zero _)
  | a :: r, 0, n, z, _, hp => by simp only [List.getD_cons_zero] at hp; simp [idxF, hp]
  | a :: r, i + 1, n, z, h, hp => by
    simp only [List.getD_cons_succ] at hp
    simp only [List.length_cons] at h
    have ih := idxF_take (l := r) (i := i) (n + 1) z (by omega) hp
    have hge := (idxF_lt p r (n + 1)).2
    unfold idxF
    simp only [List.take_succ_cons, List.any_cons]
    cases ha : p a with
    | true => simp; omega
    | false =>
      simp only [Bool.false_or, Bool.false_eq_true, if_false]
      rw [← ih, show n + 1 + i = n + (i + 1) by omega]
theorem sameL_comm (a b : List Int) : sameL a b = sameL b a := by
  rw [sameL_eq, sameL_eq, Bool.eq_iff_iff]
  simp only [decide_eq_true_eq]
  exact ⟨fun h => h.symm, fun h => h.symm⟩
theorem tieI_eq {ns : List Node} {ts : List Tie} {i : Nat} {q : Tie} (h : ts[i]? = some q) : tieI ns ts i q = tieB ns ts i q := by
  have hi : i < ts.length := by rw [List.getElem?_eq_some_iff] at h; exact h.1
  have hq : ts.getD i Tie.z = q := by rw [List.getD_eq_getElem?_getD, h]; rfl
  unfold tieI tieB
  cases hf : q.free with
  | false => rfl
  | true =>
    have e : decide (freeI ts q.dst = i) = !((ts.take i).any fun u => u.free && u.dst == q.dst) := by
      have := idxF_take (p := fun u : Tie => u.free && u.dst == q.dst) (l := ts) (i := i) 0 Tie.z hi (by rw [hq, hf]; simp)
      rw [Nat.zero_add] at this
      rw [Bool.eq_iff_iff]
      simp only [decide_eq_true_eq, Bool.not_eq_true']
      exact this
    rw [e, sameL_comm]
theorem ties_eq (ns : List Node) (ts : List Tie) : allF (tieI ns ts) ts 0 = allF (tieB ns ts) ts 0 := allF_congr ts 0 fun i q h => by rw [Nat.zero_add]; exact tieI_eq h
def wTie (f : List Node → List Tie → Nat → Tie → Bool) : Wr := w2 dcShow dcI (fun t i => rB (f t.nodes t.ties i.toNat (t.ties.getD i.toNat Tie.z))) (fun t i => [InX i t.ties, LLe t.nodes maxLen, LLe t.ties maxLen, LabsLe t.nodes maxLen])
theorem wTie_ok : WrOK Try.prog 63 (wTie tieB) := w2_ok fun t i h => specTie_ok t i (h _ (.head _)).out (h _ (.tail _ (.head _))).out (h _ (.tail _ (.tail _ (.head _)))).out (h _ (.tail _ (.tail _ (.tail _ (.head _))))).out
def wAreTies (f : List Node → List Tie → Bool) : Wr := w1 dcShow (fun t => rB (f t.nodes t.ties)) (fun t => [LLe t.nodes maxLen, LLe t.ties maxLen, LabsLe t.nodes maxLen])
def tiesB (ns : List Node) (ts : List Tie) : Bool := allF (tieB ns ts) ts 0 && decide (ts.length ≤ 14)
theorem wAreTies_ok : WrOK Try.prog 66 (wAreTies tiesB) := w1_ok fun t h => by unfold tiesB; rw [← ties_eq]; exact areTies_ok t (h _ (.head _)).out (h _ (.tail _ (.head _))).out (h _ (.tail _ (.tail _ (.head _)))).out
end Go.Proofs.Ytececadpjelanaa.Ai
