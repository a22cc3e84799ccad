/- Shows that are right, the program's side. -/
import Derived.Test.YtececadpjelanaaTy
import Derived.Test.YtececadpjelanaaLI
namespace Go.Proofs.Ytececadpjelanaa.Ai
open Go
set_option maxRecDepth 100000
set_option linter.unusedVariables false
set_option linter.unusedSimpArgs false
def dcC2 {α β : Type} (k : Nat) (g h : Bool) (d : Dc α) (e : Dc β) : Dc (α × β) := ⟨fun a => aF k [.ptr (d.enc a.1).2, .ptr (e.enc a.2).2], fun | (false, [.fn f [.ptr x, .ptr y]]) => (match nq f k with | true => (match d.dec (g, x), e.dec (h, y) with | some a, some b => some (a, b) | _, _ => none) | false => none) | _ => none, by
  intro x a hh
  split at hh
  · split at hh
    · rename_i hk
      obtain rfl := nq_iff.1 hk
      split at hh
      · rename_i a' b' ha hb
        simp only [Option.some.injEq] at hh
        subst hh
        have e1 := congrArg Prod.snd (d.ok _ _ ha)
        have e2 := congrArg Prod.snd (e.ok _ _ hb)
        simp only [v1er] at e1 e2
        simp only [v1er, D.erL, D.er, aF, e1, e2]
      · cases hh
    · cases hh
  · cases hh⟩
structure LabIn (l : List Int) : Prop where out : ∀ x ∈ l, inI x ∧ 0 < propI x
theorem propI_pos {x : Int} (h0 : ¬ x = 0) (h1 : -3 ≤ x) (h2 : x ≤ 3) : 0 < propI x := by
  unfold propI
  split
  · rw [wrap_i64 (by omega) (by omega)]; omega
  · omega
theorem propI_le {x : Int} (h1 : -3 ≤ x) (h2 : x ≤ 3) : propI x ≤ 3 := by
  unfold propI
  split
  · rw [wrap_i64 (by omega) (by omega)]; omega
  · omega
theorem labelB_mem {l : List Int} (h : labelB l = true) {x : Int} (hx : x ∈ l) : ¬ x = 0 ∧ -3 ≤ x ∧ x ≤ 3 := by
  obtain ⟨i, hi, rfl⟩ := List.mem_iff_getElem.1 hx
  have := of_decide_eq_true (allR_get h i hi)
  rw [getD_get hi] at this
  exact ⟨this.1, this.2.1, this.2.2.1⟩
theorem labelB_in {l : List Int} (h : labelB l = true) : ∀ x ∈ l, inI x ∧ 0 < propI x := fun x hx => by
  have ⟨h1, h2, h3⟩ := labelB_mem h hx
  exact ⟨by rw [inI_iff]; omega, propI_pos h1 h2 h3⟩
theorem allF_mem {α : Type} {p : Nat → α → Bool} : ∀ {l : List α} {n : Nat} {q : α}, allF p l n = true → q ∈ l → ∃ i, p i q = true
  | a :: r, n, q, h, hq => by
    unfold allF at h
    rw [Bool.and_eq_true] at h
    rcases List.mem_cons.1 hq with rfl | hq
    · exact ⟨n, h.1⟩
    · exact allF_mem h.2 hq
theorem nodesB_node {cs : List Node} (h : nodesB cs = true) {q : Node} (hq : q ∈ cs) : nodeB q = true := by
  unfold nodesB at h
  rw [Bool.and_eq_true] at h
  obtain ⟨i, hi⟩ := allF_mem h.2 hq
  unfold ndP at hi
  rw [Bool.and_eq_true] at hi
  exact hi.1
theorem nodeB_label {q : Node} (h : nodeB q = true) : labelB q.label = true := by
  unfold nodeB at h
  simp only [Bool.and_eq_true] at h
  exact h.1.2
def badL (l : List Int) (t : Show) (q : Node) : Bool := l.any fun x => !wdB t.nodes q.label x
theorem implShowOk_ok (t : Show) (ht : ShowLe t) : SCall Try.prog 50 [aShow t] (rB (showB t)) := by
  refine SCall.of X50_ok (fn := Try.f50) (c := Try.f50.body.getD .skip) (dr := fun n => look 0 [] n) Try.func50 rfl (by kernel_rfl) (by kernel_rfl) (by kernel_rfl) ?_
  have h1 := ht.len
  have h2 := ht.tlen
  have h3 := ht.nodes
  clear ht
  obtain ⟨f1, hf1⟩ : ∃ f, f = nodesB := ⟨_, rfl⟩
  obtain ⟨f2, hf2⟩ : ∃ f, f = tiesB := ⟨_, rfl⟩
  obtain ⟨f3, hf3⟩ : ∃ f, f = badL := ⟨_, rfl⟩
  have hO : SOraOK Try.prog (oraL [(65, wAreNodes f1), (66, wAreTies f2), (67, w2 dcIs (dcC2 68 true true dcShow dcNode) (fun l x => rB (f3 l x.1 x.2)) (fun l x => [LLe l maxLen, LabIn l, LLe x.1.nodes maxLen, NdsOk x.1.nodes, NdOk x.2]))]) := by
    subst hf1 hf2 hf3
    exact oraL_cons wAreNodes_ok (oraL_cons wAreTies_ok (oraL_cons (w2_ok fun l x h => by
      have g1 := (h _ (.head _)).out
      have g2 := (h _ (.tail _ (.head _))).out
      have g3 := (h _ (.tail _ (.tail _ (.head _)))).out
      have g4 := (h _ (.tail _ (.tail _ (.tail _ (.head _))))).out
      have g5 := h _ (.tail _ (.tail _ (.tail _ (.tail _ (.head _)))))
      exact contFuncI_ok l _ _ _ (fun y hy => showOk1_ok y x.1 x.2 g3 (fun q hq => ⟨(g4 q hq).len, (g4 q hq).all⟩) ⟨g5.len, g5.all⟩ (g2 y hy).1 (g2 y hy).2) g1) oraL_nil))
  obtain ⟨ns, ts, hr⟩ := t
  have h1 : ns.length ≤ maxLen := h1
  have h2 : ts.length ≤ maxLen := h2
  have h3 : ∀ q ∈ ns, NdOk q := h3
  have h1' := h1
  unfold maxLen at h1'
  obtain ⟨d, hd⟩ : ∃ a, a = horB hr := ⟨_, rfl⟩
  obtain ⟨p, hp⟩ : ∃ p : Nat → Node → Bool, p = fun _ q => labsP ns q := ⟨_, rfl⟩
  have hs : showB ⟨ns, ts, hr⟩ = (f1 ns && (f2 ns ts && (d && allF p ns 0))) := by
    rw [hf1, hp, hf2, hd]; unfold showB labsB; dsimp only
    generalize allF (fun _ q => labsP ns q) ns 0 = a
    generalize tiesB ns ts = b
    generalize horB hr = c
    generalize nodesB ns = e
    revert a b c e; decide
  rw [hs]
  clear hs
  refine SEx.go (X := X50) X50_ok (fun n => look [] [(4, [1, 24, 25, 26])] n) (fun _ => none) hO 60 ?_
  intro M R L N hM hAnd hImp hR hL hN
  cases M
  cbv
  repeat' first | (refine hAnd _ _ ?_ ?_) | (refine hImp _ _ (fun h => ?_)) | (refine hR _ ?_) | (refine hL _ _ (Hd.out ?_); generalize hks : (List.cons _ _ : List K) = ks) | (refine hN _ _ ?_; cbv)
  all_goals (clear hAnd hImp hR hL hN)
  all_goals (cases hM; try dsimp only)
  all_goals (try simp only [Bool.not_eq_true', Bool.not_eq_false', decide_eq_true_eq, decide_eq_false_iff_not, Int.not_le, Int.not_lt, beq_iff_eq, beq_eq_false_iff_ne, ne_eq, Int.ofNat_eq_natCast, Int.toNat_natCast, List.length_replicate, ncast, Nat.sub_zero, List.drop_zero, Cue.eta, Tie.eta, Edge.eta, Link.eta, Node.eta] at *)
  all_goals first
    | exact ⟨h1⟩
    | exact ⟨h2⟩
    | exact ⟨h3⟩
    | exact ⟨fun q hq => (h3 q hq).len⟩
    | (refine er_via ?_ _; rw [show f1 ns = false by assumption]; rfl)
    | (refine er_via ?_ _; rw [show f2 ns ts = false by assumption]; simp; done)
    | (refine er_via ?_ _; rw [hd, horB, decide_eq_false (by omega)]; simp; done)
    | (refine er_via ?_ _; rw [hd, horB, decide_eq_false (show ¬ hr ≤ 10 by omega)]; simp; done)
    | skip
  have hn1 : nodesB ns = true := by rw [← hf1]; assumption
  rw [show f1 ns = true by assumption, show f2 ns ts = true by assumption, show d = true by rw [hd, horB, decide_eq_true (by omega), decide_eq_true (by omega)]; rfl, Bool.true_and, Bool.true_and, Bool.true_and]
  obtain ⟨m, hm⟩ : ∃ m, m = ns.length := ⟨_, rfl⟩
  refine ⟨SEx.same (SEx.idx m (fun i => ⟨35, [(1, bP 4096), (24, bL (.node false none ns)), (25, bI m), (26, bI i)], [(4096, .obx [.fz (.sl (.node false none ns)), .fz (.sl (.tie ts)), .fz (.int .i64 hr)])]⟩) (fun i => rB (allF p (ns.drop i) i && true)) ?_) (by rw [hm]; rfl) (by rw [Bool.and_true]; rfl)⟩
  intro i hi ih
  rw [← hks]
  have hl : i < m → LoopB _ _ _ := fun h => LoopB.of p ns i true Node.z (by omega)
  have he : i = m → (allF p (ns.drop i) i && true) = true := fun h => allF_end_and (by omega)
  have hmem : i < m → Mem (ns.getD i Node.z) ns := fun h => mem_getD (by omega)
  have hps : ∀ q : Node, f3 q.label ⟨ns, ts, hr⟩ q = !p i q := fun q => by
    rw [hf3, hp]; show (q.label.any fun x => !wdB ns q.label x) = !allF (fun _ x => wdB ns q.label x) q.label 0; rw [all_allF, List.not_all_eq_any_not]
  refine SEx.go (X := X50) X50_ok (fun n => look [] [(4, [1, 24, 25, 26])] n) (fun _ => none) hO 60 ?_
  intro M R L N hM hAnd hImp hR hL hN
  cases M
  cbv
  repeat' first | (refine hAnd _ _ ?_ ?_) | (refine hImp _ _ (fun h => ?_)) | (refine hR _ ?_) | (refine hL _ _ (Hd.out ?_); try first | rw [hks] | rw [hk2] | rw [hk3]) | (refine hN _ _ ?_; cbv)
  all_goals (clear hAnd hImp hR hL hN; try clear hks; try clear hk2; try clear hk3)
  all_goals (cases hM; try dsimp only)
  all_goals (try simp only [Bool.not_eq_true', Bool.not_eq_false', decide_eq_true_eq, decide_eq_false_iff_not, Int.not_le, Int.not_lt, beq_iff_eq, beq_eq_false_iff_ne, ne_eq, Int.ofNat_eq_natCast, Int.toNat_natCast, List.length_replicate, ncast, Nat.sub_zero, List.drop_zero, Cue.eta, Tie.eta, Edge.eta, Link.eta, Node.eta] at *)
  all_goals (try simp only [wrap_succ (show i < 9223372036854775807 by omega)])
  all_goals first
    | omega
    | exact ⟨h1⟩
    | exact ⟨h3⟩
    | exact ⟨(h3 _ (hmem (by omega)).out).len⟩
    | exact ⟨labelB_in (nodeB_label (nodesB_node hn1 (hmem (by omega)).out))⟩
    | exact h3 _ (hmem (by omega)).out
    | (refine er_via ?_ _; rw [he (by omega)]; done)
    | (refine (hl (by omega)).stop _ ?_; have hx := hps (ns.getD i Node.z); simp_all; done)
    | (refine ⟨(ih (by omega)).same rfl ((hl (by omega)).go ?_)⟩; clear ih; have hx := hps (ns.getD i Node.z); simp_all; done)
    | skip
def wShowOk (f : Show → Bool) : Wr := w1 dcShow (fun t => rB (f t)) (fun t => [ShowLe t])
theorem wShowOkS_ok : WrOK Try.prog 42 (wShowOk showB) := w1_ok fun t h => specShowOk_ok t (h _ (.head _))
theorem wShowOkI_ok : WrOK Try.prog 50 (wShowOk showB) := w1_ok fun t h => implShowOk_ok t (h _ (.head _))
theorem showB_hor {t : Show} (h : showB t = true) : 1 ≤ t.hor ∧ t.hor ≤ 10 := by
  unfold showB horB at h
  simp only [Bool.and_eq_true, decide_eq_true_eq] at h
  exact h.2.2.2
theorem showB_len {t : Show} (h : showB t = true) : 1 ≤ t.nodes.length ∧ t.nodes.length ≤ 7 := by
  unfold showB nodesB headB at h
  simp only [Bool.and_eq_true, decide_eq_true_eq] at h
  omega
theorem showB_label {t : Show} (h : showB t = true) {q : Node} (hq : q ∈ t.nodes) : labelB q.label = true := by
  unfold showB at h
  rw [Bool.and_eq_true] at h
  exact nodeB_label (nodesB_node h.1 hq)
end Go.Proofs.Ytececadpjelanaa.Ai
