/- Nodes. -/
import Derived.Test.YtececadpjelanaaTy
import Derived.Test.YtececadpjelanaaTA
namespace Go.Proofs.Ytececadpjelanaa.Ai
open Go
set_option maxRecDepth 100000
set_option linter.unusedVariables false
set_option linter.unusedSimpArgs false
def szNodeI (q : Node) (n : Int) : Int := if n < q.name.size then -1 else szL q.label (n - q.name.size)
def wSzIntSF (g : List Int → Int → Int) : Wr := w2 dcIs dcI (fun l n => rI (g l n)) (fun l n => [LLe l maxLen, IRng n])
theorem wSzIntSF_ok : WrOK Try.prog 25 (wSzIntSF szL) := wSzIntS_ok
theorem szL_le {α : Type} (l : List α) {n : Int} (h : 0 ≤ n) : szL l n ≤ n := by unfold szL; split <;> omega
theorem szNode_ok (q : Node) (n : Int) (hs : q.name.size ≤ maxLen) (hl : q.label.length ≤ maxLen) (hn : 0 ≤ n ∧ n ≤ 9223372036854775807) : SCall Try.prog 41 [aNode q, aI n] (rI (szNodeI q n)) := by
  refine SCall.of X41_ok (fn := Try.f41) (c := Try.f41.body.getD .skip) (dr := fun n => look 0 [] n) Try.func41 rfl (by kernel_rfl) (by kernel_rfl) (by kernel_rfl) ?_
  unfold maxLen at hs
  obtain ⟨g, hg⟩ : ∃ g : List Int → Int → Int, g = szL := ⟨_, rfl⟩
  have hO : SOraOK Try.prog (oraL [(25, wSzIntSF g)]) := by subst hg; exact oraL_cons wSzIntSF_ok oraL_nil
  obtain ⟨x1, x2, x3⟩ := q
  have hs : x1.size ≤ 2 ^ 63 - 1 := hs
  have hl : x2.length ≤ maxLen := hl
  refine SEx.go (X := X41) X41_ok (fun n => look [] [] n) (fun _ => none) hO 60 ?_
  intro M R L N hM hAnd hImp hR hL hN
  cases M
  cbv
  repeat' first | (refine hAnd _ _ ?_ ?_) | (refine hImp _ _ (fun h => ?_)) | (refine hR _ ?_) | (refine hL _ _ (Hd.out ?_); try first | rw [hks] | rw [hk2] | rw [hk3]) | (refine hN _ _ ?_; cbv)
  all_goals (clear hAnd hImp hR hL hN; try clear hks; try clear hk2; try clear hk3)
  all_goals (cases hM; try dsimp only)
  all_goals (try simp only [Bool.not_eq_true', Bool.not_eq_false', decide_eq_true_eq, decide_eq_false_iff_not, Int.not_le, Int.not_lt, beq_iff_eq, beq_eq_false_iff_ne, ne_eq, Int.ofNat_eq_natCast, Int.toNat_natCast, List.length_replicate, ncast, Nat.sub_zero, List.drop_zero, Cue.eta, Tie.eta, Edge.eta, Link.eta, Node.eta] at *)
  all_goals (try rw [wrap_i64 (by omega) (by omega)] at *)
  all_goals first
    | exact ⟨hl⟩
    | exact ⟨⟨by omega, by omega⟩⟩
    | (simp only [er_I, szNodeI]; rw [if_pos (by omega)]; done)
    | (subst hg; simp only [er_I, szNodeI]; rw [if_neg (by omega)]; done)
    | (subst hg; simp only [er_I, szNodeI]; rw [if_neg (by omega)]; unfold szL at *; split <;> omega)
theorem szNodeI_le (q : Node) {n : Int} (h : 0 ≤ n) : szNodeI q n ≤ n := by
  unfold szNodeI
  split
  · omega
  · have := szL_le q.label (n := n - q.name.size) (by omega)
    omega
structure NodeLe (q : Node) (n : Nat) : Prop where
  name : q.name.size ≤ n
  label : q.label.length ≤ n
theorem szNodeI_ge {q : Node} {n : Int} (h : 0 ≤ szNodeI q n) : (q.name.size : Int) ≤ n ∧ (q.label.length : Int) ≤ n := by
  unfold szNodeI szL at h
  split at h
  · omega
  · split at h <;> omega
def wSzNode (f : Node → Int → Int) : Wr := w2 dcNode dcI (fun q n => rI (f q n)) (fun q n => [NodeLe q maxLen, IRng n])
theorem wSzNode_ok : WrOK Try.prog 41 (wSzNode szNodeI) := w2_ok fun q n h => szNode_ok q n (h _ (.head _)).name (h _ (.head _)).label (h _ (.tail _ (.head _))).out
def szF {α : Type} (f : α → Int → Int) : List α → Int → Int
  | [], n => n
  | q :: r, n => if f q n < 0 then -1 else szF f r (f q n)
theorem szF_drop {α : Type} {f : α → Int → Int} {l : List α} {i : Nat} {m : Int} (z : α) (h : i < l.length) : szF f (l.drop i) m = if f (l.getD i z) m < 0 then -1 else szF f (l.drop (i + 1)) (f (l.getD i z) m) := by
  rw [List.drop_eq_getElem_cons h, getD_get h]
  rfl
def szNodeSI (l : List Node) (n : Int) : Int := if n < l.length then -1 else szF szNodeI l (n - l.length)
theorem szNodeS_ok (l : List Node) (n : Int) (hs : l.length ≤ maxLen) (hq : ∀ q ∈ l, NodeLe q maxLen) (hn : 0 ≤ n ∧ n ≤ 9223372036854775807) : SCall Try.prog 23 [aNodes l, aI n] (rI (szNodeSI l n)) := by
  refine SCall.of X23_ok (fn := Try.f23) (c := Try.f23.body.getD .skip) (dr := fun n => look 0 [] n) Try.func23 rfl (by kernel_rfl) (by kernel_rfl) (by kernel_rfl) ?_
  unfold maxLen at hs
  obtain ⟨g, hg⟩ : ∃ g, g = szNodeI := ⟨_, rfl⟩
  have hO : SOraOK Try.prog (oraL [(41, wSzNode g)]) := by subst hg; exact oraL_cons wSzNode_ok oraL_nil
  refine SEx.go (X := X23) X23_ok (fun n => look [] [(5, [0, 1, 5])] n) (fun _ => none) hO 60 ?_
  intro M R L N hM hAnd hImp hR hL hN
  cases M
  cbv
  repeat' first | (refine hAnd _ _ ?_ ?_) | (refine hImp _ _ (fun h => ?_)) | (refine hR _ ?_) | (refine hL _ _ (Hd.out ?_); generalize hks : (List.cons _ _ : List K) = ks) | (refine hN _ _ ?_; cbv)
  all_goals (clear hAnd hImp hR hL hN)
  all_goals (cases hM; try dsimp only)
  all_goals (try simp only [Bool.not_eq_true', Bool.not_eq_false', decide_eq_true_eq, decide_eq_false_iff_not, Int.not_le, Int.not_lt, beq_iff_eq, beq_eq_false_iff_ne, ne_eq, Int.ofNat_eq_natCast, Int.toNat_natCast, List.length_replicate, ncast, Nat.sub_zero, List.drop_zero, Cue.eta, Tie.eta, Edge.eta, Link.eta, Node.eta] at *)
  · rw [wrap_i64 (by omega) (by omega)] at *
    simp only [er_I, szNodeSI]
    split <;> omega
  rw [wrap_i64 (by omega) (by omega)] at *
  have h0 : 0 ≤ n - l.length := by assumption
  rw [show szNodeSI l n = szF szNodeI (l.drop 0) (n - l.length) by unfold szNodeSI; rw [if_neg (by omega)]; rfl]
  refine ⟨SEx.same (SEx.ind (fun x : Nat × Int => ⟨27, [(0, bL (.node false none l)), (1, .v (false, [.fz (.int .i64 x.2)])), (5, bI x.1)], []⟩) (fun x => rI (szF szNodeI (l.drop x.1) x.2)) (fun x => x.1 ≤ l.length ∧ 0 ≤ x.2 ∧ x.2 ≤ n) (fun x => l.length - x.1) (0, n - l.length) ⟨by omega, h0, by omega⟩ ?_) rfl rfl⟩
  rintro ⟨i, m⟩ ⟨hi, hm1, hm2⟩ ih
  dsimp only at hi hm1 hm2 ih ⊢
  rw [← hks]
  refine SEx.go (X := X23) X23_ok (fun n => look [] [(5, [0, 1, 5])] n) (fun _ => none) hO 60 ?_
  intro M R L N hM hAnd hImp hR hL hN
  cases M
  cbv
  repeat' first | (refine hAnd _ _ ?_ ?_) | (refine hImp _ _ (fun h => ?_)) | (refine hR _ ?_) | (refine hL _ _ (Hd.out ?_); try first | rw [hks] | rw [hk2] | rw [hk3]) | (refine hN _ _ ?_; cbv)
  all_goals (clear hAnd hImp hR hL hN; try clear hks; try clear hk2; try clear hk3)
  all_goals (cases hM; try dsimp only)
  all_goals (try simp only [Bool.not_eq_true', Bool.not_eq_false', decide_eq_true_eq, decide_eq_false_iff_not, Int.not_le, Int.not_lt, beq_iff_eq, beq_eq_false_iff_ne, ne_eq, Int.ofNat_eq_natCast, Int.toNat_natCast, List.length_replicate, ncast, Nat.sub_zero, List.drop_zero, Cue.eta, Tie.eta, Edge.eta, Link.eta, Node.eta] at *)
  all_goals first
    | omega
    | exact hq _ (mem_getD (z := Node.z) (by omega)).out
    | exact ⟨⟨hm1, by omega⟩⟩
    | (subst hg
       have hi' : i < l.length := by omega
       rw [szF_drop Node.z hi', if_pos (by assumption)]
       rfl)
    | (subst hg
       have hi' : i < l.length := by omega
       have h2 : 0 ≤ szNodeI (l.getD i Node.z) m := by assumption
       have h3 := szNodeI_le (l.getD i Node.z) hm1
       simp only [wrap_succ (show i < 9223372036854775807 by omega)]
       exact ⟨(ih (i + 1, szNodeI (l.getD i Node.z) m) ⟨by show i + 1 ≤ l.length; omega, h2, by show szNodeI _ m ≤ n; omega⟩ (by show l.length - (i + 1) < _; omega)).same rfl (by rw [szF_drop Node.z hi', if_neg (by omega)])⟩)
    | (obtain rfl : i = l.length := by omega
       rw [List.drop_length]
       rfl)
    | trace_state
theorem toNode_ok (q : Node) (hl : q.label.length ≤ 1048576) : SCall Try.prog 48 [aNode q] (rNode q) := by
  refine SCall.of X48_ok (fn := Try.f48) (c := Try.f48.body.getD .skip) (dr := fun n => look 0 [] n) Try.func48 rfl (by kernel_rfl) (by kernel_rfl) (by kernel_rfl) ?_
  have hO : SOraOK Try.prog (oraL [(30, wToIntS)]) := oraL_cons wToIntS_ok oraL_nil
  obtain ⟨x1, x2, x3⟩ := q
  have hl : x2.length ≤ 1048576 := hl
  refine SEx.go (X := X48) X48_ok (fun n => look [] [] n) (fun _ => none) hO 60 ?_
  intro M R L N hM hAnd hImp hR hL hN
  cases M
  cbv
  repeat' first | (refine hAnd _ _ ?_ ?_) | (refine hImp _ _ (fun h => ?_)) | (refine hR _ ?_) | (refine hL _ _ (Hd.out ?_); try first | rw [hks] | rw [hk2] | rw [hk3]) | (refine hN _ _ ?_; cbv)
  all_goals (clear hAnd hImp hR hL hN; try clear hks; try clear hk2; try clear hk3)
  all_goals (cases hM; try dsimp only)
  all_goals (try simp only [Bool.not_eq_true', Bool.not_eq_false', decide_eq_true_eq, decide_eq_false_iff_not, Int.not_le, Int.not_lt, beq_iff_eq, beq_eq_false_iff_ne, ne_eq, Int.ofNat_eq_natCast, Int.toNat_natCast, List.length_replicate, ncast, Nat.sub_zero, List.drop_zero, Cue.eta, Tie.eta, Edge.eta, Link.eta, Node.eta] at *)
  all_goals first
    | rfl
    | exact ⟨hl⟩
theorem eqNode_ok (q : Node) (hl : q.label.length ≤ maxLen) : SCall Try.prog 56 [aNode q, aNode q] (rB true) := by
  refine SCall.of X56_ok (fn := Try.f56) (c := Try.f56.body.getD .skip) (dr := fun n => look 0 [] n) Try.func56 rfl (by kernel_rfl) (by kernel_rfl) (by kernel_rfl) ?_
  have hO : SOraOK Try.prog (oraL [(11, wEqIntS)]) := oraL_cons wEqIntS_ok oraL_nil
  obtain ⟨x1, x2, x3⟩ := q
  have hl : x2.length ≤ maxLen := hl
  refine SEx.go (X := X56) X56_ok (fun n => look [] [] n) (fun _ => none) hO 60 ?_
  intro M R L N hM hAnd hImp hR hL hN
  cases M
  cbv
  repeat' first | (refine hAnd _ _ ?_ ?_) | (refine hImp _ _ (fun h => ?_)) | (refine hR _ ?_) | (refine hL _ _ (Hd.out ?_); try first | rw [hks] | rw [hk2] | rw [hk3]) | (refine hN _ _ ?_; cbv)
  all_goals (clear hAnd hImp hR hL hN; try clear hks; try clear hk2; try clear hk3)
  all_goals (cases hM; try dsimp only)
  all_goals (try simp only [Bool.not_eq_true', Bool.not_eq_false', decide_eq_true_eq, decide_eq_false_iff_not, Int.not_le, Int.not_lt, beq_iff_eq, beq_eq_false_iff_ne, ne_eq, Int.ofNat_eq_natCast, Int.toNat_natCast, List.length_replicate, ncast, Nat.sub_zero, List.drop_zero, Cue.eta, Tie.eta, Edge.eta, Link.eta, Node.eta] at *)
  all_goals first
    | exact absurd trivial (by assumption)
    | rfl
    | exact ⟨rfl⟩
    | exact ⟨hl⟩
    | (exfalso; simp_all; done)
structure LabLe (q : Node) (n : Nat) : Prop where out : q.label.length ≤ n
def wToNode : Wr := w1 dcNode rNode (fun q => [LabLe q 1048576])
theorem wToNode_ok : WrOK Try.prog 48 wToNode := w1_ok fun q h => toNode_ok q (h _ (.head _)).out
def wEqNode : Wr := w2 dcNode dcNode (fun _ _ => rB true) (fun q r => [Same q r, LabLe q maxLen])
theorem wEqNode_ok : WrOK Try.prog 56 wEqNode := w2_ok fun q r h => by
  obtain rfl := (h _ (.head _)).out
  exact eqNode_ok q (h _ (.tail _ (.head _))).out
theorem node_fill {fl : List Node} {i : Nat} (h : i < fl.length) (s : ByteArray) (lab : List Int) (w : Int) :
    modL Node.z ((fl.set i ⟨s, (fl.getD i Node.z).2, (fl.getD i Node.z).3⟩).set i ⟨((fl.set i ⟨s, (fl.getD i Node.z).2, (fl.getD i Node.z).3⟩).getD i Node.z).1, lab, ((fl.set i ⟨s, (fl.getD i Node.z).2, (fl.getD i Node.z).3⟩).getD i Node.z).3⟩) i (fun q => ⟨q.name, q.label, w⟩) = fl.set i ⟨s, lab, w⟩ := by
  simp [modL, List.getD_eq_getElem?_getD, h]
theorem toNodeS_ok (l : List Node) (hs : l.length ≤ 1048576) (hl : ∀ q ∈ l, q.label.length ≤ 1048576) : SCall Try.prog 28 [aNodes l] (rNodes l) := by
  refine SCall.of X28_ok (fn := Try.f28) (c := Try.f28.body.getD .skip) (dr := fun n => look 0 [] n) Try.func28 rfl (by kernel_rfl) (by kernel_rfl) (by kernel_rfl) ?_
  have hO : SOraOK Try.prog (oraL [(48, wToNode)]) := oraL_cons wToNode_ok oraL_nil
  refine SEx.go (X := X28) X28_ok (fun n => look [] [(3, [0, 3, 4])] n) (fun _ => none) hO 60 ?_
  intro M R L N hM hAnd hImp hR hL hN
  cases M
  cbv
  repeat' first | (refine hAnd _ _ ?_ ?_) | (refine hImp _ _ (fun h => ?_)) | (refine hR _ ?_) | (refine hL _ _ (Hd.out ?_); generalize hks : (List.cons _ _ : List K) = ks) | (refine hN _ _ ?_; cbv)
  all_goals (clear hAnd hImp hR hL hN)
  all_goals (cases hM; try dsimp only)
  all_goals (try simp only [Bool.not_eq_true', Bool.not_eq_false', decide_eq_true_eq, decide_eq_false_iff_not, Int.not_le, Int.not_lt, beq_iff_eq, beq_eq_false_iff_ne, ne_eq, Int.ofNat_eq_natCast, Int.toNat_natCast, List.length_replicate, ncast, Nat.sub_zero, List.drop_zero, Cue.eta, Tie.eta, Edge.eta, Link.eta, Node.eta] at *)
  · have := lim_ge; omega
  generalize hn : l.length = n at *
  refine ⟨SEx.same (SEx.idx n (fun i : Nat => ⟨23, [(0, bL (.node false none l)), (3, bR 12288 n), (4, bI i)], [(12288, .osl (.node true none (fillL ⟨⟨#[]⟩, [], 0⟩ l n i)))]⟩) (fun _ => rNodes l) ?_) rfl rfl⟩
  intro i hi ih
  rw [← hks]
  obtain ⟨fl, hfl⟩ : ∃ x, x = fillL (⟨⟨#[]⟩, [], 0⟩ : Node) l n i := ⟨_, rfl⟩
  have hf := fillL_len (z := (⟨⟨#[]⟩, [], 0⟩ : Node)) hn hi
  rw [← hfl] at hf ⊢
  refine SEx.go (X := X28) X28_ok (fun n => look [] [(3, [0, 3, 4])] n) (fun _ => none) hO 60 ?_
  intro M R L N hM hAnd hImp hR hL hN
  cases M
  cbv
  repeat' first | (refine hAnd _ _ ?_ ?_) | (refine hImp _ _ (fun h => ?_)) | (refine hR _ ?_) | (refine hL _ _ (Hd.out ?_); try first | rw [hks] | rw [hk2] | rw [hk3]) | (refine hN _ _ ?_; cbv)
  all_goals (clear hAnd hImp hR hL hN; try clear hks; try clear hk2; try clear hk3)
  all_goals (cases hM; try dsimp only)
  all_goals (try simp only [Bool.not_eq_true', Bool.not_eq_false', decide_eq_true_eq, decide_eq_false_iff_not, Int.not_le, Int.not_lt, beq_iff_eq, beq_eq_false_iff_ne, ne_eq, Int.ofNat_eq_natCast, Int.toNat_natCast, List.length_replicate, ncast, Nat.sub_zero, List.drop_zero, Cue.eta, Tie.eta, Edge.eta, Link.eta, Node.eta] at *)
  all_goals (try simp only [List.length_set, modL_length])
  all_goals (try omega)
  · exact ⟨hl _ (mem_getD (z := Node.z) (by omega)).out⟩
  · simp only [wrap_succ (show i < 9223372036854775807 by omega)]
    have e := fillL_succ (z := (⟨⟨#[]⟩, [], 0⟩ : Node)) (d := Node.z) hn (show i < n by omega)
    have ih' := ih (by omega)
    rw [← e, ← hfl] at ih'
    refine ⟨ih'.same ?_ rfl⟩
    rw [node_fill (by omega)]
    rfl
  · obtain rfl : i = n := by omega
    rw [hfl, fillL_all hn]; rfl
theorem eqNodeS_ok (l : List Node) (hs : l.length ≤ maxLen) (hl : ∀ q ∈ l, q.label.length ≤ maxLen) : SCall Try.prog 33 [aNodes l, aNodes l] (rB true) := by
  refine SCall.of X33_ok (fn := Try.f33) (c := Try.f33.body.getD .skip) (dr := fun n => look 0 [(6, 8)] n) Try.func33 rfl (by kernel_rfl) (by kernel_rfl) (by kernel_rfl) ?_
  unfold maxLen at hs
  have hO : SOraOK Try.prog (oraL [(56, wEqNode)]) := oraL_cons wEqNode_ok oraL_nil
  refine SEx.go (X := X33) X33_ok (fun n => look [] [(4, [0, 1, 5])] n) (fun _ => none) hO 60 ?_
  intro M R L N hM hAnd hImp hR hL hN
  cases M
  cbv
  repeat' first | (refine hAnd _ _ ?_ ?_) | (refine hImp _ _ (fun h => ?_)) | (refine hR _ ?_) | (refine hL _ _ (Hd.out ?_); generalize hks : (List.cons _ _ : List K) = ks) | (refine hN _ _ ?_; cbv)
  all_goals (clear hAnd hImp hR hL hN)
  all_goals (cases hM; try dsimp only)
  all_goals (try simp only [Bool.not_eq_true', Bool.not_eq_false', decide_eq_true_eq, decide_eq_false_iff_not, Int.not_le, Int.not_lt, beq_iff_eq, beq_eq_false_iff_ne, ne_eq, Int.ofNat_eq_natCast, Int.toNat_natCast, List.length_replicate, ncast, Nat.sub_zero, List.drop_zero, Cue.eta, Tie.eta, Edge.eta, Link.eta, Node.eta] at *)
  · exact absurd trivial (by assumption)
  generalize hn : l.length = n at *
  refine ⟨SEx.same (SEx.idx n (fun i : Nat => ⟨27, [(0, bL (.node false none l)), (1, bL (.node false none l)), (5, bI i)], []⟩) (fun _ => rB true) ?_) rfl rfl⟩
  intro i hi ih
  rw [← hks]
  refine SEx.go (X := X33) X33_ok (fun n => look [] [(4, [0, 1, 5])] n) (fun _ => none) hO 60 ?_
  intro M R L N hM hAnd hImp hR hL hN
  cases M
  cbv
  repeat' first | (refine hAnd _ _ ?_ ?_) | (refine hImp _ _ (fun h => ?_)) | (refine hR _ ?_) | (refine hL _ _ (Hd.out ?_); try first | rw [hks] | rw [hk2] | rw [hk3]) | (refine hN _ _ ?_; cbv)
  all_goals (clear hAnd hImp hR hL hN; try clear hks; try clear hk2; try clear hk3)
  all_goals (cases hM; try dsimp only)
  all_goals (try simp only [Bool.not_eq_true', Bool.not_eq_false', decide_eq_true_eq, decide_eq_false_iff_not, Int.not_le, Int.not_lt, beq_iff_eq, beq_eq_false_iff_ne, ne_eq, Int.ofNat_eq_natCast, Int.toNat_natCast, List.length_replicate, ncast, Nat.sub_zero, List.drop_zero, Cue.eta, Tie.eta, Edge.eta, Link.eta, Node.eta] at *)
  all_goals first
    | omega
    | exact absurd trivial (by assumption)
    | rfl
    | exact ⟨rfl⟩
    | contradiction
    | exact ⟨hl _ (mem_getD (z := Node.z) (by omega)).out⟩
    | (simp only [wrap_succ (show i < 9223372036854775807 by omega)]; exact ⟨ih (by omega)⟩)
structure LabsLe (l : List Node) (n : Nat) : Prop where out : ∀ q ∈ l, q.label.length ≤ n
structure NodesLe (l : List Node) (n : Nat) : Prop where out : ∀ q ∈ l, NodeLe q n
def wSzNodeS (f : List Node → Int → Int) : Wr := w2 dcNodes dcI (fun l n => rI (f l n)) (fun l n => [LLe l maxLen, NodesLe l maxLen, IRng n])
theorem wSzNodeS_ok : WrOK Try.prog 23 (wSzNodeS szNodeSI) := w2_ok fun l n h => szNodeS_ok l n (h _ (.head _)).out (h _ (.tail _ (.head _))).out (h _ (.tail _ (.tail _ (.head _)))).out
def wToNodeS : Wr := w1 dcNodes rNodes (fun l => [LLe l 1048576, LabsLe l 1048576])
theorem wToNodeS_ok : WrOK Try.prog 28 wToNodeS := w1_ok fun l h => toNodeS_ok l (h _ (.head _)).out (h _ (.tail _ (.head _))).out
def wEqNodeS : Wr := w2 dcNodes dcNodes (fun _ _ => rB true) (fun l m => [Same l m, LLe l maxLen, LabsLe l maxLen])
theorem wEqNodeS_ok : WrOK Try.prog 33 wEqNodeS := w2_ok fun l m h => by
  obtain rfl := (h _ (.head _)).out
  exact eqNodeS_ok l (h _ (.tail _ (.head _))).out (h _ (.tail _ (.tail _ (.head _)))).out
end Go.Proofs.Ytececadpjelanaa.Ai
