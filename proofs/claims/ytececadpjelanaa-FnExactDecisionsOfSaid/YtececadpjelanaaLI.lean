/- Nodes that are right; who is watched. -/
import Derived.Test.YtececadpjelanaaTy
import Derived.Test.YtececadpjelanaaLH
namespace Go.Proofs.Ytececadpjelanaa.Ai
open Go
set_option maxRecDepth 100000
set_option linter.unusedVariables false
set_option linter.unusedSimpArgs false
def negI (x : Int) : Int := IntKind.i64.wrap (-x)
def labAt (cs : List Node) (x : Int) : List Int := (cs.getD x.toNat Node.z).label
def wdB (cs : List Node) (l : List Int) (x : Int) : Bool := decide (0 ≤ watI cs (propI x)) && (!hasB (labAt cs (watI cs (propI x))) x && (!hasB (labAt cs (watI cs (propI x))) (negI x) && implB l (labAt cs (watI cs (propI x)))))
def wWatcherN (f : List Node → Int → Int) : Wr := w2 dcShow dcI (fun t p => rI (f t.nodes p)) (fun t p => [LLe t.nodes maxLen])
theorem wWatcherN_ok : WrOK Try.prog 45 (wWatcherN watI) := w2_ok fun t p h => specWatcher_ok t p (h _ (.head _)).out
def wNamed (f : List Node → ByteArray → Int) : Wr := w2 dcShow dcS (fun t p => rI (f t.nodes p)) (fun t p => [LLe t.nodes maxLen])
def nameI (l : List Node) (s : ByteArray) : Int := idxF (fun q => eqS q.name s) l 0
theorem wNamed_ok : WrOK Try.prog 76 (wNamed nameI) := w2_ok fun t p h => nodeNamed_ok t p (h _ (.head _)).out
theorem watI_lt (l : List Node) (p : Int) : watI l p < l.length ∧ (0 ≤ watI l p ∨ watI l p = -1) := by
  unfold watI
  have := idxF_lt (fun q : Node => q.watch == p) l 0
  omega
theorem isWatched_ok (t : Show) (l : List Int) (x : Int) (h1 : t.nodes.length ≤ maxLen) (h2 : ∀ q ∈ t.nodes, LsOk q.label) (hl : LsOk l) (hx : inI x) (hp : 0 < propI x) : SCall Try.prog 69 [aShow t, aIs l, aI x] (rB (wdB t.nodes l x)) := by
  refine SCall.of X69_ok (fn := Try.f69) (c := Try.f69.body.getD .skip) (dr := fun n => look 0 [(1, 3)] n) Try.func69 rfl (by kernel_rfl) (by kernel_rfl) (by kernel_rfl) ?_
  obtain ⟨f0, hf0⟩ : ∃ f, f = propI := ⟨_, rfl⟩
  obtain ⟨f1, hf1⟩ : ∃ f, f = watI := ⟨_, rfl⟩
  obtain ⟨f2, hf2⟩ : ∃ f, f = hasB := ⟨_, rfl⟩
  obtain ⟨f3, hf3⟩ : ∃ f, f = implB := ⟨_, rfl⟩
  have hO : SOraOK Try.prog (oraL [(86, wProp f0), (71, wWatcher f1), (87, wHas f2), (88, wImplies f3)]) := by
    subst hf0 hf1 hf2 hf3
    exact oraL_cons wPropI_ok (oraL_cons wWatcherI_ok (oraL_cons wHasI_ok (oraL_cons wImpliesI_ok oraL_nil)))
  obtain ⟨ns, ts, hr⟩ := t
  have h1 : ns.length ≤ maxLen := h1
  have h2 : ∀ q ∈ ns, LsOk q.label := h2
  show SEx _ _ _ _ _ _ (rB (wdB ns l x))
  rw [← hf0] at hp
  have hlt : f1 ns (f0 x) < ns.length := by rw [hf1]; exact (watI_lt _ _).1
  refine SEx.go (X := X69) X69_ok (fun n => look [] [] n) (fun _ => none) hO 60 ?_
  intro M R L N hM hAnd hImp hR hL hN
  cases M
  cbv
  repeat' first | (refine hAnd _ _ ?_ ?_) | (refine hImp _ _ (fun h => ?_)) | (refine hR _ ?_) | (refine hL _ _ (Hd.out ?_); try first | rw [hks] | rw [hk2] | rw [hk3]) | (refine hN _ _ ?_; cbv)
  all_goals (clear hAnd hImp hR hL hN; try clear hks; try clear hk2; try clear hk3)
  all_goals (cases hM; try dsimp only)
  all_goals (try simp only [Bool.not_eq_true', Bool.not_eq_false', decide_eq_true_eq, decide_eq_false_iff_not, Int.not_le, Int.not_lt, beq_iff_eq, beq_eq_false_iff_ne, ne_eq, Int.ofNat_eq_natCast, Int.toNat_natCast, List.length_replicate, ncast, Nat.sub_zero, List.drop_zero, Cue.eta, Tie.eta, Edge.eta, Link.eta, Node.eta] at *)
  all_goals (clear hO; subst hf0 hf1 hf2 hf3)
  all_goals first
    | exact ⟨hx⟩
    | exact ⟨h1⟩
    | exact ⟨hp⟩
    | exact hl
    | omega
    | exact ⟨(h2 _ (mem_getD (z := Node.z) (by omega)).out).len⟩
    | exact h2 _ (mem_getD (z := Node.z) (by omega)).out
    | (simp only [er_B]; unfold wdB labAt negI; delta Node.label; rw [decide_eq_false (by omega)]; rfl)
    | (simp only [er_B]; unfold wdB labAt negI; delta Node.label; rw [decide_eq_true (by omega)]; simp_all; done)
    | skip
structure PosP (x : Int) : Prop where out : 0 < propI x
structure LabsOk (cs : List Node) : Prop where out : ∀ q ∈ cs, LsOk q.label
theorem showOk1_ok (x : Int) (t : Show) (q : Node) (h1 : t.nodes.length ≤ maxLen) (h2 : ∀ q ∈ t.nodes, LsOk q.label) (hl : LsOk q.label) (hx : inI x) (hp : 0 < propI x) : SCall Try.prog 68 [aI x, (false, [.ptr t.d]), (false, [.ptr q.d])] (rB (!wdB t.nodes q.label x)) := by
  refine SCall.of X68_ok (fn := Try.f68) (c := Try.f68.body.getD .skip) (dr := fun n => look 0 [] n) Try.func68 rfl (by kernel_rfl) (by kernel_rfl) (by kernel_rfl) ?_
  obtain ⟨f, hf⟩ : ∃ f, f = wdB := ⟨_, rfl⟩
  have hO : SOraOK Try.prog (oraL [(69, w3 dcShow dcIs dcI (fun t l x => rB (f t.nodes l x)) (fun t l x => [LLe t.nodes maxLen, LabsOk t.nodes, LsOk l, IIn x, PosP x]))]) := by
    subst hf
    exact oraL_cons (w3_ok fun t l x h => isWatched_ok t l x (h _ (.head _)).out (h _ (.tail _ (.head _))).out (h _ (.tail _ (.tail _ (.head _)))) (h _ (.tail _ (.tail _ (.tail _ (.head _))))).out (h _ (.tail _ (.tail _ (.tail _ (.tail _ (.head _)))))).out) oraL_nil
  obtain ⟨ns, ts, hr⟩ := t
  obtain ⟨x1, x2, x3⟩ := q
  have h1 : ns.length ≤ maxLen := h1
  have h2 : ∀ q ∈ ns, LsOk q.label := h2
  have hl : LsOk x2 := hl
  refine SEx.go (X := X68) X68_ok (fun n => look [] [] n) (fun _ => none) hO 60 ?_
  intro M R L N hM hAnd hImp hR hL hN
  cases M
  cbv
  repeat' first | (refine hAnd _ _ ?_ ?_) | (refine hImp _ _ (fun h => ?_)) | (refine hR _ ?_) | (refine hL _ _ (Hd.out ?_); try first | rw [hks] | rw [hk2] | rw [hk3]) | (refine hN _ _ ?_; cbv)
  all_goals (clear hAnd hImp hR hL hN; try clear hks; try clear hk2; try clear hk3)
  all_goals (cases hM; try dsimp only)
  all_goals (try simp only [Bool.not_eq_true', Bool.not_eq_false', decide_eq_true_eq, decide_eq_false_iff_not, Int.not_le, Int.not_lt, beq_iff_eq, beq_eq_false_iff_ne, ne_eq, Int.ofNat_eq_natCast, Int.toNat_natCast, List.length_replicate, ncast, Nat.sub_zero, List.drop_zero, Cue.eta, Tie.eta, Edge.eta, Link.eta, Node.eta] at *)
  all_goals first
    | exact ⟨h1⟩
    | exact ⟨h2⟩
    | exact hl
    | exact ⟨hx⟩
    | exact ⟨hp⟩
    | (subst hf; rfl)
def ndP (cs : List Node) (i : Nat) (q : Node) : Bool := nodeB q && (decide (nameI cs q.name = i) && (decide (q.watch = 0) || decide (watI cs q.watch = i)))
def labsP (cs : List Node) (q : Node) : Bool := allF (fun _ x => wdB cs q.label x) q.label 0
def headB (cs : List Node) : Bool := decide (1 ≤ (cs.length : Int) ∧ (cs.length : Int) ≤ 7) && (decide (((nd cs 0).label.length : Int) ≤ 0) && decide ((nd cs 0).watch = 0))
theorem specNodes_ok (t : Show) (h1 : t.nodes.length ≤ maxLen) (h2 : ∀ q ∈ t.nodes, NdOk q) : SCall Try.prog 62 [aShow t] (rB (headB t.nodes && (allF (ndP t.nodes) t.nodes 0 && allF (fun _ q => labsP t.nodes q) t.nodes 0))) := by
  refine SCall.of X62_ok (fn := Try.f62) (c := Try.f62.body.getD .skip) (dr := fun n => look 0 [(15, 3), (16, 32)] n) Try.func62 rfl (by kernel_rfl) (by kernel_rfl) (by kernel_rfl) ?_
  obtain ⟨f0, hf0⟩ : ∃ f, f = l01InB := ⟨_, rfl⟩
  obtain ⟨f1, hf1⟩ : ∃ f, f = nodeB := ⟨_, rfl⟩
  obtain ⟨f2, hf2⟩ : ∃ f, f = nameI := ⟨_, rfl⟩
  obtain ⟨f3, hf3⟩ : ∃ f, f = watI := ⟨_, rfl⟩
  obtain ⟨f4, hf4⟩ : ∃ f, f = propI := ⟨_, rfl⟩
  obtain ⟨f5, hf5⟩ : ∃ f, f = hasB := ⟨_, rfl⟩
  obtain ⟨f6, hf6⟩ : ∃ f, f = implB := ⟨_, rfl⟩
  have hO : SOraOK Try.prog (oraL [(43, wL01 f0), (75, wNodeOk f1), (76, wNamed f2), (45, wWatcherN f3), (64, wProp f4), (77, wHas f5), (78, wImplies f6)]) := by
    subst hf0 hf1 hf2 hf3 hf4 hf5 hf6
    exact oraL_cons wL01_ok (oraL_cons wNodeOkS_ok (oraL_cons wNamed_ok (oraL_cons wWatcherN_ok (oraL_cons wPropS_ok (oraL_cons wHasS_ok (oraL_cons wImpliesS_ok oraL_nil))))))
  obtain ⟨cs, ts, hr⟩ := t
  have h1 : cs.length ≤ maxLen := h1
  have h2 : ∀ q ∈ cs, NdOk q := h2
  unfold maxLen at h1
  show SEx _ _ _ _ _ _ (rB (headB cs && (allF (ndP cs) cs 0 && allF (fun _ q => labsP cs q) cs 0)))
  obtain ⟨c, hc⟩ : ∃ c, c = allF (fun _ q => labsP cs q) cs 0 := ⟨_, rfl⟩
  obtain ⟨p, hp⟩ : ∃ p, p = ndP cs := ⟨_, rfl⟩
  rw [← hc, ← hp]
  refine SEx.go (X := X62) X62_ok (fun n => look [] [(4, [1, 33, 34, 35]), (10, [1, 66, 67, 68]), (13, [1, 6, 66, 67, 68, 73, 74, 75])] n) (fun _ => none) hO 60 ?_
  intro M R L N hM hAnd hImp hR hL hN
  cases M
  cbv
  repeat' first | (refine hAnd _ _ ?_ ?_) | (refine hImp _ _ (fun h => ?_)) | (refine hR _ ?_) | (refine hL _ _ (Hd.out ?_); generalize hks : (List.cons _ _ : List K) = ks) | (refine hN _ _ ?_; cbv)
  all_goals (clear hAnd hImp hR hL hN)
  all_goals (cases hM; try dsimp only)
  all_goals (try simp only [Bool.not_eq_true', Bool.not_eq_false', decide_eq_true_eq, decide_eq_false_iff_not, Int.not_le, Int.not_lt, beq_iff_eq, beq_eq_false_iff_ne, ne_eq, Int.ofNat_eq_natCast, Int.toNat_natCast, List.length_replicate, ncast, Nat.sub_zero, List.drop_zero, Cue.eta, Tie.eta, Edge.eta, Link.eta, Node.eta] at *)
  all_goals (try simp only [hf0, l01InB, Bool.and_eq_true, Bool.and_eq_false_iff, decide_eq_true_eq, decide_eq_false_iff_not] at *)
  all_goals first
    | omega
    | (refine er_via ?_ _; unfold headB nd; delta Node.label Node.watch; rw [decide_eq_false (by omega)]; rfl)
    | (refine er_via ?_ _; unfold headB nd; delta Node.label Node.watch; rw [Bool.and_assoc, decide_eq_true (by omega), Bool.true_and, decide_eq_false (by omega)]; rfl)
    | (refine er_via ?_ _; unfold headB nd; delta Node.label Node.watch; rw [decide_eq_true (by omega), decide_eq_true (by omega), decide_eq_false (by assumption)]; rfl)
    | skip
  have hh : headB cs = true := by
    unfold headB nd; delta Node.label Node.watch; rw [decide_eq_true (by omega), decide_eq_true (by omega), decide_eq_true (by assumption)]; rfl
  rw [hh, Bool.true_and]
  obtain ⟨m, hm⟩ : ∃ m, m = cs.length := ⟨_, rfl⟩
  refine ⟨SEx.same (SEx.idx m (fun i => ⟨120, [(1, bP 4096), (33, bL (.node false none cs)), (34, bI m), (35, bI i)], [(4096, .obx [.fz (.sl (.node false none cs)), .fz (.sl (.tie ts)), .fz (.int .i64 hr)])]⟩) (fun i => rB (allF p (cs.drop i) i && c)) ?_) (by rw [hm]; rfl) rfl⟩
  intro i hi ih
  rw [← hks]
  have hl : i < m → LoopB _ _ _ := fun h => LoopB.of p cs i c Node.z (by omega)
  have he : i = m → (allF p (cs.drop i) i && c) = c := fun h => allF_end_and (by omega)
  refine SEx.go (X := X62) X62_ok (fun n => look [] [(4, [1, 33, 34, 35]), (10, [1, 66, 67, 68]), (13, [1, 6, 66, 67, 68, 73, 74, 75])] n) (fun _ => none) hO 60 ?_
  intro M R L N hM hAnd hImp hR hL hN
  cases M
  cbv
  repeat' first | (refine hAnd _ _ ?_ ?_) | (refine hImp _ _ (fun h => ?_)) | (refine hR _ ?_) | (refine hL _ _ (Hd.out ?_); first | rw [hks] | generalize hk2 : (List.cons _ _ : List K) = k2) | (refine hN _ _ ?_; cbv)
  all_goals (clear hAnd hImp hR hL hN)
  all_goals (cases hM; try dsimp only)
  all_goals (try simp only [Bool.not_eq_true', Bool.not_eq_false', decide_eq_true_eq, decide_eq_false_iff_not, Int.not_le, Int.not_lt, beq_iff_eq, beq_eq_false_iff_ne, ne_eq, Int.ofNat_eq_natCast, Int.toNat_natCast, List.length_replicate, ncast, Nat.sub_zero, List.drop_zero, Cue.eta, Tie.eta, Edge.eta, Link.eta, Node.eta] at *)
  all_goals (try simp only [wrap_succ (show i < 9223372036854775807 by omega)])
  all_goals first
    | omega
    | exact h2 _ (mem_getD (z := Node.z) (by omega)).out
    | exact ⟨h1⟩
    | (refine (hl (by omega)).stop _ ?_; subst hf1 hf2 hf3; rw [hp]; unfold ndP; delta Node.name Node.watch; simp_all; done)
    | (refine ⟨(ih (by omega)).same rfl ((hl (by omega)).go ?_)⟩; clear ih; subst hf1 hf2 hf3; rw [hp]; unfold ndP; delta Node.name Node.watch; simp_all; done)
    | skip
  have him : i = m := by omega
  rw [he him]
  clear ih hl he
  obtain ⟨pl, hpl⟩ : ∃ pl : Nat → Node → Bool, pl = fun _ q => labsP cs q := ⟨_, rfl⟩
  rw [← hpl] at hc
  refine ⟨SEx.same (SEx.idx m (fun i => ⟨120, [(1, bP 4096), (66, bL (.node false none cs)), (67, bI m), (68, bI i)], [(4096, .obx [.fz (.sl (.node false none cs)), .fz (.sl (.tie ts)), .fz (.int .i64 hr)])]⟩) (fun i => rB (allF pl (cs.drop i) i && true)) ?_) (by rw [hm]; rfl) (by rw [hc, Bool.and_true]; rfl)⟩
  intro k hk ih
  rw [← hk2]
  have hl : k < m → LoopB _ _ _ := fun h => LoopB.of pl cs k true Node.z (by omega)
  have he : k = m → (allF pl (cs.drop k) k && true) = true := fun h => allF_end_and (by omega)
  refine SEx.go (X := X62) X62_ok (fun n => look [] [(4, [1, 33, 34, 35]), (10, [1, 66, 67, 68]), (13, [1, 6, 66, 67, 68, 73, 74, 75])] n) (fun _ => none) hO 60 ?_
  intro M R L N hM hAnd hImp hR hL hN
  cases M
  cbv
  repeat' first | (refine hAnd _ _ ?_ ?_) | (refine hImp _ _ (fun h => ?_)) | (refine hR _ ?_) | (refine hL _ _ (Hd.out ?_); first | rw [hks] | rw [hk2] | generalize hk3 : (List.cons _ _ : List K) = k3) | (refine hN _ _ ?_; cbv)
  all_goals (clear hAnd hImp hR hL hN)
  all_goals (cases hM; try dsimp only)
  all_goals (try simp only [Bool.not_eq_true', Bool.not_eq_false', decide_eq_true_eq, decide_eq_false_iff_not, Int.not_le, Int.not_lt, beq_iff_eq, beq_eq_false_iff_ne, ne_eq, Int.ofNat_eq_natCast, Int.toNat_natCast, List.length_replicate, ncast, Nat.sub_zero, List.drop_zero, Cue.eta, Tie.eta, Edge.eta, Link.eta, Node.eta] at *)
  all_goals first
    | omega
    | (refine er_via ?_ _; rw [he (by omega)]; done)
    | skip
  have hkm : k < m := by omega
  obtain ⟨q, hq⟩ : ∃ q, q = cs.getD k Node.z := ⟨_, rfl⟩
  have hnq : NdOk q := by rw [hq]; exact h2 _ (mem_getD (z := Node.z) (by omega)).out
  obtain ⟨d, hd⟩ : ∃ d, d = (allF pl (cs.drop (k + 1)) (k + 1) && true) := ⟨_, rfl⟩
  have hs : (allF pl (cs.drop k) k && true) = (allF (fun _ x => wdB cs q.label x) (q.label.drop 0) 0 && d) := by
    rw [allF_at Node.z (show k < cs.length by omega), hd, ← hq, hpl, Bool.and_assoc]; rfl
  rw [hs]
  rw [← hd] at ih
  clear hl he hs hd
  obtain ⟨x1, x2, x3⟩ := q
  obtain ⟨w, hw⟩ : ∃ w, w = x2.length := ⟨_, rfl⟩
  have hlw := hnq.len
  have hall := hnq.all
  dsimp only at hlw hall
  unfold maxLen at hlw
  refine ⟨SEx.same (SEx.idx w (fun j => ⟨120, [(1, bP 4096), (6, bP 24576), (66, bL (.node false none cs)), (67, bI m), (68, bI k), (73, bL (.i x2)), (74, bI w), (75, bI j)], [(4096, .obx [.fz (.sl (.node false none cs)), .fz (.sl (.tie ts)), .fz (.int .i64 hr)]), (24576, .obx [.fz (.str x1), .fz (.sl (.i x2)), .fz (.int .i64 x3)])]⟩) (fun j => rB (allF (fun _ x => wdB cs x2 x) (x2.drop j) j && d)) ?_) (by rw [hw, ← hq]; rfl) rfl⟩
  intro j hj ihj
  rw [← hk3]
  have hl : j < w → LoopB _ _ _ := fun h => LoopB.of (fun _ x => wdB cs x2 x) x2 j d (0 : Int) (by omega)
  have he : j = w → (allF (fun _ x => wdB cs x2 x) (x2.drop j) j && d) = d := fun h => allF_end_and (by omega)
  have hlt : ∀ x, f3 cs x < cs.length := fun x => by rw [hf3]; exact (watI_lt _ _).1
  refine SEx.go (X := X62) X62_ok (fun n => look [] [(4, [1, 33, 34, 35]), (10, [1, 66, 67, 68]), (13, [1, 6, 66, 67, 68, 73, 74, 75])] n) (fun _ => none) hO 60 ?_
  intro M R L N hM hAnd hImp hR hL hN
  cases M
  cbv
  repeat' first | (refine hAnd _ _ ?_ ?_) | (refine hImp _ _ (fun h => ?_)) | (refine hR _ ?_) | (refine hL _ _ (Hd.out ?_); try first | rw [hks] | rw [hk2] | rw [hk3]) | (refine hN _ _ ?_; cbv)
  all_goals (clear hAnd hImp hR hL hN; try clear hks; try clear hk2; try clear hk3)
  all_goals (cases hM; try dsimp only)
  all_goals (try simp only [Bool.not_eq_true', Bool.not_eq_false', decide_eq_true_eq, decide_eq_false_iff_not, Int.not_le, Int.not_lt, beq_iff_eq, beq_eq_false_iff_ne, ne_eq, Int.ofNat_eq_natCast, Int.toNat_natCast, List.length_replicate, ncast, Nat.sub_zero, List.drop_zero, Cue.eta, Tie.eta, Edge.eta, Link.eta, Node.eta] at *)
  all_goals (try simp only [wrap_succ (show j < 9223372036854775807 by omega)])
  all_goals (try have h5 := hlt (f4 (x2.getD j 0)))
  all_goals first
    | omega
    | exact ⟨h1⟩
    | exact ⟨hall _ (mem_getD (z := (0 : Int)) (by omega)).out⟩
    | exact ⟨(h2 _ (mem_getD (z := Node.z) (by omega)).out).len⟩
    | exact ⟨hlw, hall⟩
    | exact ⟨(h2 _ (mem_getD (z := Node.z) (by omega)).out).len, (h2 _ (mem_getD (z := Node.z) (by omega)).out).all⟩
    | (have hjw : j = w := by omega
       rw [he hjw]
       simp only [wrap_succ (show k < 9223372036854775807 by omega)]
       exact ⟨(ih hkm).same rfl rfl⟩)
    | (refine (hl (by omega)).stop _ ?_; subst hf3 hf4 hf5 hf6; unfold wdB labAt negI; delta Node.label; rw [decide_eq_false (by omega)]; rfl)
    | (refine (hl (by omega)).stop _ ?_; subst hf3 hf4 hf5 hf6; unfold wdB labAt negI; delta Node.label; rw [decide_eq_true (by omega)]; simp_all; done)
    | (refine ⟨(ihj (by omega)).same rfl ((hl (by omega)).go ?_)⟩; clear ih ihj; subst hf3 hf4 hf5 hf6; unfold wdB labAt negI; delta Node.label; rw [decide_eq_true (by omega)]; simp_all; done)
    | skip
def clashB (q m : Node) : Bool := eqS m.name q.name || (decide (¬ q.watch = 0) && m.watch == q.watch)
def ndI (cs : List Node) (i : Nat) (q : Node) : Bool := nodeB q && allF (fun _ m => !clashB q m) (cs.take i) 0
theorem areNodes_ok (t : Show) (h1 : t.nodes.length ≤ maxLen) (h2 : ∀ q ∈ t.nodes, NdOk q) : SCall Try.prog 65 [aShow t] (rB (headB t.nodes && allF (ndI t.nodes) t.nodes 0)) := by
  refine SCall.of X65_ok (fn := Try.f65) (c := Try.f65.body.getD .skip) (dr := fun n => look 0 [] n) Try.func65 rfl (by kernel_rfl) (by kernel_rfl) (by kernel_rfl) ?_
  obtain ⟨f1, hf1⟩ : ∃ f, f = nodeB := ⟨_, rfl⟩
  have hO : SOraOK Try.prog (oraL [(80, wNodeOk f1)]) := by
    subst hf1
    exact oraL_cons wNodeOkI_ok oraL_nil
  obtain ⟨cs, ts, hr⟩ := t
  have h1 : cs.length ≤ maxLen := h1
  have h2 : ∀ q ∈ cs, NdOk q := h2
  unfold maxLen at h1
  show SEx _ _ _ _ _ _ (rB (headB cs && allF (ndI cs) cs 0))
  obtain ⟨p, hp⟩ : ∃ p, p = ndI cs := ⟨_, rfl⟩
  rw [← hp]
  refine SEx.go (X := X65) X65_ok (fun n => look [] [(4, [1, 35, 36, 37]), (9, [1, 4, 35, 36, 37, 48, 49, 50])] n) (fun _ => none) hO 60 ?_
  intro M R L N hM hAnd hImp hR hL hN
  cases M
  cbv
  repeat' first | (refine hAnd _ _ ?_ ?_) | (refine hImp _ _ (fun h => ?_)) | (refine hR _ ?_) | (refine hL _ _ (Hd.out ?_); generalize hks : (List.cons _ _ : List K) = ks) | (refine hN _ _ ?_; cbv)
  all_goals (clear hAnd hImp hR hL hN)
  all_goals (cases hM; try dsimp only)
  all_goals (try simp only [Bool.not_eq_true', Bool.not_eq_false', decide_eq_true_eq, decide_eq_false_iff_not, Int.not_le, Int.not_lt, beq_iff_eq, beq_eq_false_iff_ne, ne_eq, Int.ofNat_eq_natCast, Int.toNat_natCast, List.length_replicate, ncast, Nat.sub_zero, List.drop_zero, Cue.eta, Tie.eta, Edge.eta, Link.eta, Node.eta] at *)
  all_goals first
    | omega
    | (refine er_via ?_ _; unfold headB nd; delta Node.label Node.watch; rw [decide_eq_false (by omega)]; rfl)
    | (refine er_via ?_ _; unfold headB nd; delta Node.label Node.watch; rw [Bool.and_assoc, decide_eq_true (by omega), Bool.true_and, decide_eq_false (by omega)]; rfl)
    | (refine er_via ?_ _; unfold headB nd; delta Node.label Node.watch; rw [decide_eq_true (by omega), decide_eq_true (by omega), decide_eq_false (by assumption)]; rfl)
    | skip
  have hh : headB cs = true := by
    unfold headB nd; delta Node.label Node.watch; rw [decide_eq_true (by omega), decide_eq_true (by omega), decide_eq_true (by assumption)]; rfl
  rw [hh, Bool.true_and]
  obtain ⟨m, hm⟩ : ∃ m, m = cs.length := ⟨_, rfl⟩
  refine ⟨SEx.same (SEx.idx m (fun i => ⟨73, [(1, bP 4096), (35, bL (.node false none cs)), (36, bI m), (37, bI i)], [(4096, .obx [.fz (.sl (.node false none cs)), .fz (.sl (.tie ts)), .fz (.int .i64 hr)])]⟩) (fun i => rB (allF p (cs.drop i) i && true)) ?_) (by rw [hm]; rfl) (by rw [Bool.and_true]; rfl)⟩
  intro i hi ih
  rw [← hks]
  have hl : i < m → LoopB _ _ _ := fun h => LoopB.of p cs i true Node.z (by omega)
  have he : i = m → (allF p (cs.drop i) i && true) = true := fun h => allF_end_and (by omega)
  refine SEx.go (X := X65) X65_ok (fun n => look [] [(4, [1, 35, 36, 37]), (9, [1, 4, 35, 36, 37, 48, 49, 50])] n) (fun _ => none) hO 60 ?_
  intro M R L N hM hAnd hImp hR hL hN
  cases M
  cbv
  repeat' first | (refine hAnd _ _ ?_ ?_) | (refine hImp _ _ (fun h => ?_)) | (refine hR _ ?_) | (refine hL _ _ (Hd.out ?_); first | rw [hks] | generalize hk2 : (List.cons _ _ : List K) = k2) | (refine hN _ _ ?_; cbv)
  all_goals (clear hAnd hImp hR hL hN)
  all_goals (cases hM; try dsimp only)
  all_goals (try simp only [Bool.not_eq_true', Bool.not_eq_false', decide_eq_true_eq, decide_eq_false_iff_not, Int.not_le, Int.not_lt, beq_iff_eq, beq_eq_false_iff_ne, ne_eq, Int.ofNat_eq_natCast, Int.toNat_natCast, List.length_replicate, ncast, Nat.sub_zero, List.drop_zero, Cue.eta, Tie.eta, Edge.eta, Link.eta, Node.eta] at *)
  all_goals (try simp only [wrap_succ (show i < 9223372036854775807 by omega)])
  all_goals first
    | omega
    | exact h2 _ (mem_getD (z := Node.z) (by omega)).out
    | (refine er_via ?_ _; rw [he (by omega)]; done)
    | (refine (hl (by omega)).stop _ ?_; subst hf1; rw [hp]; unfold ndI; simp_all; done)
    | skip
  have him : i < m := by omega
  have hq1 : f1 (cs.getD i Node.z) = true := by assumption
  obtain ⟨q, hq⟩ : ∃ q, q = cs.getD i Node.z := ⟨_, rfl⟩
  rw [← hq] at hq1
  obtain ⟨l, hll⟩ : ∃ l, l = cs.take i := ⟨_, rfl⟩
  obtain ⟨d, hd⟩ : ∃ d, d = (allF p (cs.drop (i + 1)) (i + 1) && true) := ⟨_, rfl⟩
  have hs : (allF p (cs.drop i) i && true) = (allF (fun _ m => !clashB q m) (l.drop 0) 0 && d) := by
    rw [allF_at Node.z (show i < cs.length by omega), hd, ← hq, hp, Bool.and_assoc, ndI, ← hf1, hq1, ← hll, Bool.true_and]; rfl
  rw [hs]
  rw [← hd] at ih
  clear hl he hs hd
  obtain ⟨x1, x2, x3⟩ := q
  obtain ⟨w, hw⟩ : ∃ w, w = l.length := ⟨_, rfl⟩
  have hwl : w ≤ cs.length := by rw [hw, hll, List.length_take]; omega
  refine ⟨SEx.same (SEx.idx w (fun j => ⟨73, [(1, bP 4096), (4, bP 16384), (35, bL (.node false none cs)), (36, bI m), (37, bI i), (48, bL (.node false none l)), (49, bI w), (50, bI j)], [(4096, .obx [.fz (.sl (.node false none cs)), .fz (.sl (.tie ts)), .fz (.int .i64 hr)]), (16384, .obx [.fz (.str x1), .fz (.sl (.i x2)), .fz (.int .i64 x3)])]⟩) (fun j => rB (allF (fun _ m => !clashB ⟨x1, x2, x3⟩ m) (l.drop j) j && d)) ?_) (by rw [hw, ← hq, hll]; rfl) rfl⟩
  intro j hj ihj
  rw [← hk2]
  have hl : j < w → LoopB _ _ _ := fun h => LoopB.of (fun _ m => !clashB ⟨x1, x2, x3⟩ m) l j d Node.z (by omega)
  have he : j = w → (allF (fun _ m => !clashB ⟨x1, x2, x3⟩ m) (l.drop j) j && d) = d := fun h => allF_end_and (by omega)
  refine SEx.go (X := X65) X65_ok (fun n => look [] [(4, [1, 35, 36, 37]), (9, [1, 4, 35, 36, 37, 48, 49, 50])] n) (fun _ => none) hO 60 ?_
  intro M R L N hM hAnd hImp hR hL hN
  cases M
  cbv
  repeat' first | (refine hAnd _ _ ?_ ?_) | (refine hImp _ _ (fun h => ?_)) | (refine hR _ ?_) | (refine hL _ _ (Hd.out ?_); try first | rw [hks] | rw [hk2] | rw [hk3]) | (refine hN _ _ ?_; cbv)
  all_goals (clear hAnd hImp hR hL hN; try clear hks; try clear hk2; try clear hk3)
  all_goals (cases hM; try dsimp only)
  all_goals (try simp only [Bool.not_eq_true', Bool.not_eq_false', decide_eq_true_eq, decide_eq_false_iff_not, Int.not_le, Int.not_lt, beq_iff_eq, beq_eq_false_iff_ne, ne_eq, Int.ofNat_eq_natCast, Int.toNat_natCast, List.length_replicate, ncast, Nat.sub_zero, List.drop_zero, Cue.eta, Tie.eta, Edge.eta, Link.eta, Node.eta] at *)
  all_goals (try simp only [wrap_succ (show j < 9223372036854775807 by omega)])
  all_goals first
    | omega
    | (refine (hl (by omega)).stop _ ?_; unfold clashB eqS; delta Node.name Node.watch; simp_all; done)
    | (refine ⟨(ihj (by omega)).same rfl ((hl (by omega)).go ?_)⟩; clear ih ihj; unfold clashB eqS; delta Node.name Node.watch; simp_all; done)
    | (rw [he (by omega)]; simp only [wrap_succ (show i < 9223372036854775807 by omega)]; exact ⟨(ih (by omega)).same rfl rfl⟩)
    | skip
theorem any_or {α : Type} (p q : α → Bool) : ∀ l : List α, (l.any fun x => p x || q x) = (l.any p || l.any q)
  | [] => rfl
  | a :: r => by simp only [List.any_cons, any_or p q r]; cases p a <;> cases q a <;> cases r.any p <;> cases r.any q <;> rfl
theorem any_and {α : Type} (c : Bool) (q : α → Bool) : ∀ l : List α, (l.any fun x => c && q x) = (c && l.any q)
  | [] => by simp
  | a :: r => by simp only [List.any_cons, any_and c q r]; cases c <;> rfl
theorem eqS_self (s : ByteArray) : eqS s s = true := by unfold eqS; simp
theorem ndI_eq {cs : List Node} {i : Nat} {q : Node} (h : cs[i]? = some q) : ndI cs i q = ndP cs i q := by
  have hi : i < cs.length := by rw [List.getElem?_eq_some_iff] at h; exact h.1
  have hq : cs.getD i Node.z = q := by rw [List.getD_eq_getElem?_getD, h]; rfl
  have e1 : decide (nameI cs q.name = i) = !((cs.take i).any fun r => eqS r.name q.name) := by
    have := idxF_take (p := fun r : Node => eqS r.name q.name) (l := cs) (i := i) 0 Node.z hi (by rw [hq]; exact eqS_self _)
    rw [Nat.zero_add] at this
    rw [Bool.eq_iff_iff]
    simp only [decide_eq_true_eq, Bool.not_eq_true']
    exact this
  have e2 : decide (watI cs q.watch = i) = !((cs.take i).any fun r => r.watch == q.watch) := by
    have := idxF_take (p := fun r : Node => r.watch == q.watch) (l := cs) (i := i) 0 Node.z hi (by rw [hq]; exact beq_self_eq_true _)
    rw [Nat.zero_add] at this
    rw [Bool.eq_iff_iff]
    simp only [decide_eq_true_eq, Bool.not_eq_true']
    exact this
  have e3 : allF (fun _ m => !clashB q m) (cs.take i) 0 = !(((cs.take i).any fun r => eqS r.name q.name) || (decide (¬ q.watch = 0) && (cs.take i).any fun r => r.watch == q.watch)) := by
    rw [all_allF, ← any_and, ← any_or, List.not_any_eq_all_not]; rfl
  unfold ndI ndP
  rw [e1, e2, e3, Bool.not_or, Bool.not_and, decide_not, Bool.not_not]
theorem nodes_eq (cs : List Node) : allF (ndI cs) cs 0 = allF (ndP cs) cs 0 := allF_congr cs 0 fun i q h => by rw [Nat.zero_add]; exact ndI_eq h
structure NdsOk (cs : List Node) : Prop where out : ∀ q ∈ cs, NdOk q
def nodesB (cs : List Node) : Bool := headB cs && allF (ndP cs) cs 0
def labsB (cs : List Node) : Bool := allF (fun _ q => labsP cs q) cs 0
def wAreNodes (f : List Node → Bool) : Wr := w1 dcShow (fun t => rB (f t.nodes)) (fun t => [LLe t.nodes maxLen, NdsOk t.nodes])
def nlB (cs : List Node) : Bool := nodesB cs && labsB cs
theorem wSpecNodes_ok : WrOK Try.prog 62 (wAreNodes nlB) := w1_ok fun t h => by
  unfold nlB nodesB labsB
  rw [Bool.and_assoc]
  exact specNodes_ok t (h _ (.head _)).out (h _ (.tail _ (.head _))).out
theorem wAreNodes_ok : WrOK Try.prog 65 (wAreNodes nodesB) := w1_ok fun t h => by
  unfold nodesB
  rw [← nodes_eq]
  exact areNodes_ok t (h _ (.head _)).out (h _ (.tail _ (.head _))).out
def horB (n : Int) : Bool := decide (1 ≤ n) && decide (n ≤ 10)
def showB (t : Show) : Bool := nodesB t.nodes && (labsB t.nodes && (tiesB t.nodes t.ties && horB t.hor))
structure ShowLe (t : Show) : Prop where
  len : t.nodes.length ≤ maxLen
  tlen : t.ties.length ≤ maxLen
  nodes : ∀ q ∈ t.nodes, NdOk q
theorem specShowOk_ok (t : Show) (ht : ShowLe t) : SCall Try.prog 42 [aShow t] (rB (showB t)) := by
  refine SCall.of X42_ok (fn := Try.f42) (c := Try.f42.body.getD .skip) (dr := fun n => look 0 [] n) Try.func42 rfl (by kernel_rfl) (by kernel_rfl) (by kernel_rfl) ?_
  have h1 := ht.len
  have h2 := ht.tlen
  have h3 := ht.nodes
  clear ht
  obtain ⟨f1, hf1⟩ : ∃ f, f = nlB := ⟨_, rfl⟩
  obtain ⟨f3, hf3⟩ : ∃ f, f = l01InB := ⟨_, rfl⟩
  obtain ⟨f4, hf4⟩ : ∃ f, f = tieB := ⟨_, rfl⟩
  have hO : SOraOK Try.prog (oraL [(62, wAreNodes f1), (43, wL01 f3), (63, wTie f4)]) := by
    subst hf1 hf3 hf4
    exact oraL_cons wSpecNodes_ok (oraL_cons wL01_ok (oraL_cons wTie_ok oraL_nil))
  obtain ⟨ns, ts, hr⟩ := t
  have h1 : ns.length ≤ maxLen := h1
  have h2 : ts.length ≤ maxLen := h2
  have h3 : ∀ q ∈ ns, NdOk q := h3
  unfold maxLen at h2
  obtain ⟨a, ha⟩ : ∃ a, a = decide (ts.length ≤ 14) := ⟨_, rfl⟩
  obtain ⟨d, hd⟩ : ∃ a, a = horB hr := ⟨_, rfl⟩
  obtain ⟨p, hp⟩ : ∃ p : Nat → Tie → Bool, p = f4 ns ts := ⟨_, rfl⟩
  have hs : showB ⟨ns, ts, hr⟩ = (f1 ns && (allF p ts 0 && (a && d))) := by
    rw [hf1, hp, hf4, ha, hd]; unfold showB tiesB nlB; rw [Bool.and_assoc, Bool.and_assoc]
  rw [hs]
  have hdd : f3 hr 1 10 = d := by rw [hf3, hd]; rfl
  clear hd hs
  refine SEx.go (X := X42) X42_ok (fun n => look [] [(4, [1, 21, 22])] n) (fun _ => none) hO 60 ?_
  intro M R L N hM hAnd hImp hR hL hN
  cases M
  cbv
  repeat' first | (refine hAnd _ _ ?_ ?_) | (refine hImp _ _ (fun h => ?_)) | (refine hR _ ?_) | (refine hL _ _ (Hd.out ?_); generalize hks : (List.cons _ _ : List K) = ks) | (refine hN _ _ ?_; cbv)
  all_goals (clear hAnd hImp hR hL hN)
  all_goals (cases hM; try dsimp only)
  all_goals (try simp only [Bool.not_eq_true', Bool.not_eq_false', decide_eq_true_eq, decide_eq_false_iff_not, Int.not_le, Int.not_lt, beq_iff_eq, beq_eq_false_iff_ne, ne_eq, Int.ofNat_eq_natCast, Int.toNat_natCast, List.length_replicate, ncast, Nat.sub_zero, List.drop_zero, Cue.eta, Tie.eta, Edge.eta, Link.eta, Node.eta] at *)
  all_goals (try rw [hdd] at *)
  all_goals first
    | exact ⟨h1⟩
    | exact ⟨h3⟩
    | (refine er_via ?_ _; simp_all; done)
    | (refine er_via ?_ _; rw [ha, decide_eq_false (by omega)]; simp; done)
    | skip
  rw [show f1 ns = true by assumption, Bool.true_and, show a = true by rw [ha]; exact decide_eq_true (by omega), show d = true by assumption, Bool.true_and]
  obtain ⟨m, hm⟩ : ∃ m, m = ts.length := ⟨_, rfl⟩
  refine ⟨SEx.same (SEx.idx m (fun i => ⟨30, [(1, bP 4096), (21, bI m), (22, bI i)], [(4096, .obx [.fz (.sl (.node false none ns)), .fz (.sl (.tie ts)), .fz (.int .i64 hr)])]⟩) (fun i => rB (allF p (ts.drop i) i && true)) ?_) (by rw [hm]; rfl) rfl⟩
  intro i hi ih
  rw [← hks]
  have hl : i < m → LoopB _ _ _ := fun h => LoopB.of p ts i true Tie.z (by omega)
  have he : i = m → (allF p (ts.drop i) i && true) = true := fun h => allF_end_and (by omega)
  refine SEx.go (X := X42) X42_ok (fun n => look [] [(4, [1, 21, 22])] n) (fun _ => none) hO 60 ?_
  intro M R L N hM hAnd hImp hR hL hN
  cases M
  cbv
  repeat' first | (refine hAnd _ _ ?_ ?_) | (refine hImp _ _ (fun h => ?_)) | (refine hR _ ?_) | (refine hL _ _ (Hd.out ?_); try first | rw [hks] | rw [hk2] | rw [hk3]) | (refine hN _ _ ?_; cbv)
  all_goals (clear hAnd hImp hR hL hN; try clear hks; try clear hk2; try clear hk3)
  all_goals (cases hM; try dsimp only)
  all_goals (try simp only [Bool.not_eq_true', Bool.not_eq_false', decide_eq_true_eq, decide_eq_false_iff_not, Int.not_le, Int.not_lt, beq_iff_eq, beq_eq_false_iff_ne, ne_eq, Int.ofNat_eq_natCast, Int.toNat_natCast, List.length_replicate, ncast, Nat.sub_zero, List.drop_zero, Cue.eta, Tie.eta, Edge.eta, Link.eta, Node.eta] at *)
  all_goals (try simp only [wrap_succ (show i < 9223372036854775807 by omega)])
  all_goals first
    | omega
    | exact ⟨h1⟩
    | exact ⟨h2⟩
    | exact ⟨fun q hq => (h3 q hq).len⟩
    | exact ⟨⟨by omega, by omega⟩⟩
    | (refine er_via ?_ _; rw [he (by omega)]; done)
    | (refine (hl (by omega)).stop _ ?_; rw [hp]; assumption)
    | (refine ⟨(ih (by omega)).same rfl ((hl (by omega)).go ?_)⟩; rw [hp]; assumption)
    | skip
end Go.Proofs.Ytececadpjelanaa.Ai
