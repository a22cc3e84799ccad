/- The law's proof, part 6 of 10: what of its author's texts it needs; no condition. -/
import Derived.Test.YtececadpjelanaaGreatZbE
namespace Go.Proofs.YtececadpjelanaaGreat.Ai
open Go
set_option maxRecDepth 100000
set_option linter.unusedVariables false
set_option linter.unusedSimpArgs false
set_option linter.unusedSectionVars false
variable [MemoCtx]
theorem specCopy_ok (x : State) (h1 : x.times.length ≤ 1048576) (h2 : x.vals.length ≤ 1048576) : SCall Tryz.prog 86 [aState x] (rState x) := by
  refine SCall.of X86_ok (fn := Tryz.f86) (c := Tryz.f86.body.getD .skip) (dr := fun n => look 0 [(1, 10)] n) Tryz.func86 rfl (by kernel_rfl) (by kernel_rfl) (by kernel_rfl) ?_
  obtain ⟨now, times, vals⟩ := x
  dsimp only at h1 h2
  refine SEx.go (X := X86) X86_ok (fun n => look [] [] n) (fun _ => none) oraL_nil 60 ?_
  intro M R L N hM hAnd hImp hR hL hN
  cases M
  cbv
  repeat' first | (refine hAnd _ _ ?_ ?_) | (refine hImp _ _ (fun h => ?_)) | (refine hR _ ?_) | (refine hL _ _ (Hd.out ?_); try first | rw [hks] | rw [hk2] | rw [hk3]) | (refine hN _ _ ?_; cbv)
  all_goals (clear hAnd hImp hR hL hN; try clear hks; try clear hk2; try clear hk3)
  all_goals (cases hM; try dsimp only)
  all_goals (try simp only [Bool.not_eq_true', Bool.not_eq_false', decide_eq_true_eq, decide_eq_false_iff_not, Int.not_le, Int.not_lt, beq_iff_eq, beq_eq_false_iff_ne, ne_eq, Int.ofNat_eq_natCast, Int.toNat_natCast, List.length_replicate, ncast, Nat.sub_zero, List.drop_zero, Cue.eta, Tie.eta, Edge.eta, Link.eta, Node.eta] at *)
  all_goals first
    | (have := lim_ge; omega)
    | rfl
structure StSz (x : State) : Prop where
  tlen : x.times.length ≤ 1048576
  vlen : x.vals.length ≤ 1048576
def wSpecCopy : Wr := w1 dcState rState (fun x => [StSz x])
theorem wSpecCopy_ok : WrOK Tryz.prog 86 wSpecCopy := w1_ok fun x h => specCopy_ok x (h _ (.head _)).tlen (h _ (.head _)).vlen
end Go.Proofs.YtececadpjelanaaGreat.Ai
namespace Go.Proofs.YtececadpjelanaaGreat.Ai
open Go
set_option maxRecDepth 100000
set_option linter.unusedVariables false
set_option linter.unusedSimpArgs false
set_option linter.unusedSectionVars false
variable [MemoCtx]
def mTie (k : Int) : Tie := ⟨k, k + 1, k + 2, k + 3, decide ((k + 4).tmod 3 = 0)⟩
def markTi (k : Int) (n : Nat) : List Tie := (List.range n).map fun j => mTie (k + 5 * (j : Nat))
theorem markTi_len (k : Int) (n : Nat) : (markTi k n).length = n := by simp [markTi]
theorem markTi_succ (k : Int) (n : Nat) : markTi k (n + 1) = markTi k n ++ [mTie (k + 5 * n)] := by simp [markTi, List.range_succ]
theorem markTi_step {k : Int} {i : Nat} {l : List Tie} (hi : i < l.length) : (markTi k i ++ l.drop i).set i (mTie (k + 5 * i)) = markTi k (i + 1) ++ l.drop (i + 1) := by
  rw [List.set_append_right _ _ (by rw [markTi_len]; omega), markTi_len, Nat.sub_self, markTi_succ, List.append_assoc, List.drop_eq_getElem_cons hi]; rfl
theorem markTieS_ok (l : List Tie) (k : Int) (hl : l.length ≤ maxLen) (hk : 0 < k ∧ k + 5 * l.length ≤ 4611686018427387904) :
    SCallW Tryz.prog 51 [wR l.length, bI1 k] [(lrt 0, .osl (.tie l))] [.rf (lrt 0, []) true 0 l.length] (.v (bI1 (k + 5 * l.length))) [(lrt 0, .osl (.tie (markTi k l.length)))] [.rf (lrt 0, []) true 0 l.length] := by
  refine SCallW.of X51_ok (fn := Tryz.f51) (c := Tryz.f51.body.getD .skip) (dr := fun n => look 0 [] n) (r := (_, _, _)) Tryz.func51 rfl (by kernel_rfl) (by kernel_rfl) (by kernel_rfl) ?_
  generalize hn : l.length = n at *
  refine SExW.go (X := X51) X51_ok (fun n => look [] [(2, [0, 1, 5, 4294967296])] n) (fun _ => none) oraL_nil 60 1 ?_
  intro M R L N hM hAnd hImp hR hL hN
  cases M
  cbv
  repeat' first | (refine hAnd _ _ ?_ ?_) | (refine hImp _ _ (fun h => ?_)) | (refine hR _ ?_) | (refine hL _ _ (Hd.out ?_); generalize hks : (List.cons _ _ : List K) = ks) | (refine hN _ _ ?_; cbv)
  all_goals (clear hAnd hImp hR hL hN)
  all_goals (cases hM; try dsimp only)
  all_goals (try simp only [Bool.not_eq_true', Bool.not_eq_false', decide_eq_true_eq, decide_eq_false_iff_not, Int.not_le, Int.not_lt, beq_iff_eq, beq_eq_false_iff_ne, ne_eq, Int.ofNat_eq_natCast, Int.toNat_natCast, List.length_replicate, ncast, Nat.sub_zero, List.drop_zero, Cue.eta, Tie.eta, Edge.eta, Link.eta, Node.eta] at *)
  refine ⟨SExW.same (SExW.idx n (fun i => ⟨50, [(0, bR 41000000 n), (1, bI (k + 5 * i)), (5, bI i), (4294967296, bR 41000000 n)], [(41000000, .osl (.tie (markTi k i ++ l.drop i)))]⟩) (fun _ => (.v (bI1 (k + 5 * n)), [(lrt 0, .osl (.tie (markTi k n)))], [.rf (lrt 0, []) true 0 n])) ?_) ?_ ⟨rfl, rfl, rfl⟩⟩
  rotate_left
  · rw [show k + 5 * ((0 : Nat) : Int) = k by omega]; rfl
  intro i hi ih
  rw [← hks]
  obtain ⟨c, hc⟩ : ∃ c, c = markTi k i ++ l.drop i := ⟨_, rfl⟩
  have hcl : c.length = n := by rw [hc, List.length_append, markTi_len, List.length_drop]; omega
  rw [← hc]
  obtain ⟨q, hq⟩ : ∃ q, q = k + 5 * (i : Int) := ⟨_, rfl⟩
  rw [← hq]
  unfold maxLen at hl
  refine SExW.go (X := X51) X51_ok (fun n => look [] [(2, [0, 1, 5, 4294967296])] n) (fun _ => none) oraL_nil 90 1 ?_
  intro M R L N hM hAnd hImp hR hL hN
  cases M
  cbv
  repeat' first | (refine hAnd _ _ ?_ ?_) | (refine hImp _ _ (fun h => ?_)) | (refine hR _ ?_) | (refine hL _ _ (Hd.out ?_); try rw [hks]) | (refine hN _ _ ?_; cbv)
  all_goals (clear hAnd hImp hR hL hN; try clear hks)
  all_goals (cases hM; try dsimp only)
  all_goals (try simp only [Bool.not_eq_true', Bool.not_eq_false', decide_eq_true_eq, decide_eq_false_iff_not, Int.not_le, Int.not_lt, beq_iff_eq, beq_eq_false_iff_ne, ne_eq, Int.ofNat_eq_natCast, Int.toNat_natCast, List.length_replicate, ncast, Nat.sub_zero, List.drop_zero, Cue.eta, Tie.eta, Edge.eta, Link.eta, Node.eta] at *)
  all_goals (try simp only [modL_length])
  all_goals first
    | omega
    | (have hin : i = n := by omega
       subst hin
       rw [List.drop_eq_nil_of_le (by omega), List.append_nil] at hc
       subst hc; subst hq
       refine ⟨?_, ?_, ?_⟩ <;> rfl)
    | (have hin : i < n := by omega
       have e1 : IntKind.i64.wrap (q + 1) = q + 1 := by rw [wrap_i64 (by omega) (by omega)]
       have e2 : IntKind.i64.wrap (q + 1 + 1) = q + 2 := by rw [wrap_i64 (by omega) (by omega)]; omega
       have e3 : IntKind.i64.wrap (q + 2 + 1) = q + 3 := by rw [wrap_i64 (by omega) (by omega)]; omega
       have e4 : IntKind.i64.wrap (q + 3 + 1) = q + 4 := by rw [wrap_i64 (by omega) (by omega)]; omega
       have e5 : IntKind.i64.wrap (q + 4 + 1) = q + 5 := by rw [wrap_i64 (by omega) (by omega)]; omega
       simp only [e1, e2, e3, e4, e5, wrap_succ (show i < 9223372036854775807 by omega), modL_modL]
       refine ⟨(ih hin).same ?_ ⟨rfl, rfl, rfl⟩⟩
       rw [← markTi_step (k := k) (i := i) (l := l) (by omega), ← hq, ← hc, show k + 5 * ((i + 1 : Nat) : Int) = q + 5 by omega]
       rfl)
    | skip
def nLen (q : Node) : Nat := q.label.length + 2
def kN (k : Int) (l : List Node) (i : Nat) : Int := k + (((l.take i).map nLen).sum : Nat)
theorem kN_zero (k : Int) (l : List Node) : kN k l 0 = k := by simp [kN]
theorem kN_succ {k : Int} {l : List Node} {i : Nat} (h : i < l.length) : kN k l (i + 1) = kN k l i + (l.getD i Node.z).label.length + 2 := by
  unfold kN
  rw [List.take_add_one, List.getElem?_eq_getElem h, getD_get h, Option.toList_some, List.map_append, List.sum_append, List.map_cons, List.map_nil, List.sum_cons, List.sum_nil]
  unfold nLen
  omega
theorem kN_mono (k : Int) (l : List Node) (i : Nat) : ∀ d, kN k l i ≤ kN k l (i + d)
  | 0 => Int.le_refl _
  | d + 1 => by
    have := kN_mono k l i d
    by_cases h : i + d < l.length
    · rw [← Nat.add_assoc, kN_succ h]; omega
    · have h1 : kN k l (i + d + 1) = kN k l (i + d) := by unfold kN; rw [List.take_of_length_le (by omega), List.take_of_length_le (by omega)]
      rw [← Nat.add_assoc]
      omega
def mNd (k : Int) (n : Nat) : Node := ⟨mT k, markI (k + 1) n, k + 1 + n⟩
def mNS (k : Int) (l : List Node) (i : Nat) : List Node := (List.range i).map fun j => mNd (kN k l j) (l.getD j Node.z).label.length
theorem mNS_len (k : Int) (l : List Node) (i : Nat) : (mNS k l i).length = i := by simp [mNS]
theorem mNS_succ (k : Int) (l : List Node) (i : Nat) : mNS k l (i + 1) = mNS k l i ++ [mNd (kN k l i) (l.getD i Node.z).label.length] := by simp [mNS, List.range_succ]
theorem mNS_step {k : Int} {i : Nat} {l : List Node} (hi : i < l.length) : (mNS k l i ++ l.drop i).set i (mNd (kN k l i) (l.getD i Node.z).label.length) = mNS k l (i + 1) ++ l.drop (i + 1) := by
  rw [List.set_append_right _ _ (by rw [mNS_len]; omega), mNS_len, Nat.sub_self, mNS_succ, List.append_assoc, List.drop_eq_getElem_cons hi]; rfl
theorem mNS_here {k : Int} {i : Nat} {l : List Node} (hi : i < l.length) : (mNS k l i ++ l.drop i).getD i Node.z = l.getD i Node.z := by
  rw [List.getD_eq_getElem?_getD, List.getElem?_append_right (by rw [mNS_len]; omega), mNS_len, Nat.sub_self, List.getElem?_drop, Nat.add_zero, List.getD_eq_getElem?_getD]
theorem modL_get {α : Type} {z : α} {l : List α} {n : Nat} {f : α → α} (h : n < l.length) : (modL z l n f).getD n z = f (l.getD n z) := by simp [modL, List.getD_eq_getElem?_getD, h]
theorem markNodeS_ok (l : List Node) (k : Int) (hl : l.length ≤ maxLen) (hx : ∀ q ∈ l, q.label.length ≤ maxLen) (hk : 0 < k ∧ kN k l l.length ≤ 4611686018427387904) :
    SCallW Tryz.prog 50 [wR l.length, bI1 k] [(lrt 0, .osl (.node true none l))] [.rf (lrt 0, []) true 0 l.length] (.v (bI1 (kN k l l.length))) [(lrt 0, .osl (.node true none (mNS k l l.length)))] [.rf (lrt 0, []) true 0 l.length] := by
  refine SCallW.of X50_ok (fn := Tryz.f50) (c := Tryz.f50.body.getD .skip) (dr := fun n => look 0 [] n) (r := (_, _, _)) Tryz.func50 rfl (by kernel_rfl) (by kernel_rfl) (by kernel_rfl) ?_
  generalize hn : l.length = n at *
  refine SExW.go (X := X50) X50_ok (fun n => look [] [(2, [0, 1, 5, 4294967296])] n) (fun _ => none) oraL_nil 60 1 ?_
  intro M R L N hM hAnd hImp hR hL hN
  cases M
  cbv
  repeat' first | (refine hAnd _ _ ?_ ?_) | (refine hImp _ _ (fun h => ?_)) | (refine hR _ ?_) | (refine hL _ _ (Hd.out ?_); generalize hks : (List.cons _ _ : List K) = ks) | (refine hN _ _ ?_; cbv)
  all_goals (clear hAnd hImp hR hL hN)
  all_goals (cases hM; try dsimp only)
  all_goals (try simp only [Bool.not_eq_true', Bool.not_eq_false', decide_eq_true_eq, decide_eq_false_iff_not, Int.not_le, Int.not_lt, beq_iff_eq, beq_eq_false_iff_ne, ne_eq, Int.ofNat_eq_natCast, Int.toNat_natCast, List.length_replicate, ncast, Nat.sub_zero, List.drop_zero, Cue.eta, Tie.eta, Edge.eta, Link.eta, Node.eta] at *)
  refine ⟨SExW.same (SExW.idx n (fun i => ⟨35, [(0, bR 41000000 n), (1, bI (kN k l i)), (5, bI i), (4294967296, bR 41000000 n)], [(41000000, .osl (.node true none (mNS k l i ++ l.drop i)))]⟩) (fun _ => (.v (bI1 (kN k l n)), [(lrt 0, .osl (.node true none (mNS k l n)))], [.rf (lrt 0, []) true 0 n])) ?_) ?_ ⟨rfl, rfl, rfl⟩⟩
  rotate_left
  · rw [kN_zero]; rfl
  intro i hi ih
  rw [← hks]
  obtain ⟨c, hc⟩ : ∃ c, c = mNS k l i ++ l.drop i := ⟨_, rfl⟩
  have hcl : c.length = n := by rw [hc, List.length_append, mNS_len, List.length_drop]; omega
  rw [← hc]
  obtain ⟨q, hq⟩ : ∃ q, q = kN k l i := ⟨_, rfl⟩
  rw [← hq]
  obtain ⟨f, hf⟩ : ∃ f, f = mT := ⟨_, rfl⟩
  have hO : SOraOK Tryz.prog (oraL [(84, wMarkT f)]) := by subst hf; exact oraL_cons (w1_ok fun q h => markText_ok q (h _ (.head _)).out) oraL_nil
  obtain ⟨f2, hf2⟩ : ∃ f, f = markI := ⟨_, rfl⟩
  obtain ⟨g2, hg2⟩ : ∃ f, f = addI := ⟨_, rfl⟩
  have hW : SOraWOK Tryz.prog (X50.withW [(26, [(0, 0)])] (oraWL [(26, wMarkI f2 g2)])) := by
    subst hf2 hg2
    exact SX.withW_ok (oraWL_cons wMarkI_ok oraWL_nil)
  unfold maxLen at hl
  refine SExW.go (X := (X50.withW [(26, [(0, 0)])] (oraWL [(26, wMarkI f2 g2)]))) X50_ok (fun n => look [] [(2, [0, 1, 5, 4294967296])] n) (fun _ => none) hO 90 1 ?_ hW
  intro M R L N hM hAnd hImp hR hL hN
  cases M
  cbv
  repeat' first | (refine hAnd _ _ ?_ ?_) | (refine hImp _ _ (fun h => ?_)) | (refine hR _ ?_) | (refine hL _ _ (Hd.out ?_); try rw [hks]) | (refine hN _ _ ?_; cbv)
  all_goals (clear hAnd hImp hR hL hN; try clear hks)
  all_goals (cases hM; try dsimp only)
  all_goals (try simp only [Bool.not_eq_true', Bool.not_eq_false', decide_eq_true_eq, decide_eq_false_iff_not, Int.not_le, Int.not_lt, beq_iff_eq, beq_eq_false_iff_ne, ne_eq, Int.ofNat_eq_natCast, Int.toNat_natCast, List.length_replicate, ncast, Nat.sub_zero, List.drop_zero, Cue.eta, Tie.eta, Edge.eta, Link.eta, Node.eta] at *)
  all_goals (clear hW)
  all_goals (try simp only [modL_length])
  all_goals (try simp only [modL_get (l := c) (n := i) (z := Node.z) (by omega)])
  all_goals (have hb0 := kN_mono k l 0 i; rw [Nat.zero_add, kN_zero, ← hq] at hb0)
  all_goals first
    | omega
    | (have hin : i = n := by omega
       subst hin
       rw [List.drop_eq_nil_of_le (by omega), List.append_nil] at hc
       subst hc; subst hq
       refine ⟨?_, ?_, ?_⟩ <;> rfl)
    | skip
  all_goals (have hin : i < n := by omega)
  all_goals (have h3 := kN_succ (k := k) (l := l) (i := i) (by omega); have h4 := kN_mono k l (i + 1) (n - (i + 1)); rw [show i + 1 + (n - (i + 1)) = n by omega] at h4)
  all_goals (have h6 : c.getD i Node.z = l.getD i Node.z := by rw [hc, mNS_here (by omega)])
  all_goals (have h7 := hx _ (mem_getD (z := Node.z) (show i < l.length by omega)).out)
  all_goals (have e1 : IntKind.i64.wrap (q + 1) = q + 1 := by rw [wrap_i64 (by omega) (by omega)])
  all_goals (simp only [e1, h6] at *)
  all_goals first
    | exact ⟨by omega⟩
    | (subst hf2; exact (markI_len _ _).symm)
    | exact ⟨rfl, rfl, rfl, h7, by omega, by omega⟩
    | skip
  all_goals (subst hf hf2 hg2)
  all_goals (have e2 : addI (q + 1) (l.getD i Node.z).label.length = q + 1 + (l.getD i Node.z).label.length := rfl)
  all_goals (have e3 : IntKind.i64.wrap (q + 1 + (l.getD i Node.z).label.length + 1) = q + (l.getD i Node.z).label.length + 2 := by rw [wrap_i64 (by omega) (by omega)]; omega)
  all_goals (simp only [e2, e3, modL_modL, wrap_succ (show i < 9223372036854775807 by omega)])
  all_goals (refine ⟨(ih hin).same ?_ ⟨rfl, rfl, rfl⟩⟩)
  all_goals (rw [kN_succ (by omega), ← mNS_step (by omega), ← hq, ← hc])
  all_goals rfl
structure MkN (p : SP) (n m : Nat) (l : List Node) (k b : Int) : Prop where out : p = (lrt 0, []) ∧ m = n ∧ l.length = n ∧ n ≤ maxLen ∧ (∀ q ∈ l, q.label.length ≤ maxLen) ∧ 0 < k ∧ b ≤ 4611686018427387904
structure MkT {α : Type} (p : SP) (n m : Nat) (l : List α) (k : Int) : Prop where out : p = (lrt 0, []) ∧ m = n ∧ l.length = n ∧ n ≤ maxLen ∧ 0 < k ∧ k + 5 * n ≤ 4611686018427387904
def addT (k : Int) (n : Nat) : Int := k + 5 * n
def gN (k : Int) (l : List Node) : Int := kN k l l.length
def fN (k : Int) (l : List Node) : List Node := mNS k l l.length
def wMarkTi (f : Int → Nat → List Tie) (g : Int → Nat → Int) : WrW
  | [(false, [.rf p true 0 n]), (false, [.fz (.int .i64 k)])], [(.sl m, .osl (.tie l))] => some ([MkT p n m l k], (.v (bI1 (g k n)), [(lrt 0, .osl (.tie (f k n)))], [.rf (lrt 0, []) true 0 n]))
  | _, _ => none
theorem wMarkTi_ok : WrWOK Tryz.prog 51 (wMarkTi markTi addT) := by
  intro xs ls
  unfold wMarkTi
  split
  · refine R.Sim.mk fun hp => ?_
    obtain ⟨rfl, rfl, rfl, h1, h2, h3⟩ := (hp _ (.head _)).out
    exact markTieS_ok _ _ h1 ⟨h2, h3⟩
  · exact R.Sim.none'
def wMarkN (f : Int → List Node → List Node) (g : Int → List Node → Int) : WrW
  | [(false, [.rf p true 0 n]), (false, [.fz (.int .i64 k)])], [(.sl m, .osl (.node true none l))] => some ([MkN p n m l k (g k l)], (.v (bI1 (g k l)), [(lrt 0, .osl (.node true none (f k l)))], [.rf (lrt 0, []) true 0 n]))
  | _, _ => none
theorem wMarkN_ok : WrWOK Tryz.prog 50 (wMarkN fN gN) := by
  intro xs ls
  unfold wMarkN
  split
  · refine R.Sim.mk fun hp => ?_
    obtain ⟨rfl, rfl, rfl, h1, h2, h3, h4⟩ := (hp _ (.head _)).out
    exact markNodeS_ok _ _ h1 h2 ⟨h3, h4⟩
  · exact R.Sim.none'
theorem fN_len (k : Int) (l : List Node) : (fN k l).length = l.length := mNS_len _ _ _
theorem markShow_ok (cs : List Node) (ps : List Tie) (hr : Int) (k : Int) (h1 : cs.length ≤ maxLen) (h2 : ps.length ≤ maxLen) (h3 : ∀ q ∈ cs, q.label.length ≤ maxLen) (hk : 0 < k ∧ gN k cs + 5 * ps.length ≤ 4611686018427387904) :
    SCallW Tryz.prog 18 [(true, [.rf (lrt 0, []) true 0 cs.length, .rf (lrt 1, []) true 0 ps.length, .fz (.int .i64 hr)]), bI1 k] [(lrt 0, .osl (.node true none cs)), (lrt 1, .osl (.tie ps))]
      [.rf (lrt 0, []) true 0 cs.length, .rf (lrt 1, []) true 0 ps.length] (.v (bI1 (addT (gN k cs) ps.length)))
      [(8192, .obx [.osl (.node true none (fN k cs)), .osl (.tie (markTi (gN k cs) ps.length)), .fz (.int .i64 hr)])] [.rf (8192, [((true, 0), 0)]) true 0 cs.length, .rf (8192, [((true, 0), 1)]) true 0 ps.length] := by
  refine SCallW.of X18_ok (fn := Tryz.f18) (c := Tryz.f18.body.getD .skip) (dr := fun n => look 0 [] n) (r := (_, _, _)) Tryz.func18 rfl (by kernel_rfl) (by kernel_rfl) (by kernel_rfl) ?_
  obtain ⟨f1, hf1⟩ : ∃ f, f = fN := ⟨_, rfl⟩
  obtain ⟨f2, hf2⟩ : ∃ f, f = markTi := ⟨_, rfl⟩
  obtain ⟨g1, hg1⟩ : ∃ f, f = gN := ⟨_, rfl⟩
  obtain ⟨g2, hg2⟩ : ∃ f, f = addT := ⟨_, rfl⟩
  have hpos : 0 < g1 k cs := by rw [hg1]; have := kN_mono k cs 0 cs.length; rw [kN_zero, Nat.zero_add] at this; unfold gN; omega
  rw [← hg1] at hk
  have hW : SOraWOK Tryz.prog (X18.withW [(50, [(0, 0)]), (51, [(0, 0)])] (oraWL [(50, wMarkN f1 g1), (51, wMarkTi f2 g2)])) := by
    subst hf1 hf2 hg1 hg2
    exact SX.withW_ok (oraWL_cons wMarkN_ok (oraWL_cons wMarkTi_ok oraWL_nil))
  generalize hn : cs.length = n at *
  generalize hm : ps.length = m at *
  refine SExW.go (X := (X18.withW [(50, [(0, 0)]), (51, [(0, 0)])] (oraWL [(50, wMarkN f1 g1), (51, wMarkTi f2 g2)]))) X18_ok (fun n => look [] [] n) (fun _ => none) oraL_nil 90 2 ?_ hW
  intro M R L N hM hAnd hImp hR hL hN
  cases M
  cbv
  repeat' first | (refine hAnd _ _ ?_ ?_) | (refine hImp _ _ (fun h => ?_)) | (refine hR _ ?_) | (refine hL _ _ (Hd.out ?_); try rw [hks]) | (refine hN _ _ ?_; cbv)
  all_goals (clear hAnd hImp hR hL hN; try clear hks)
  all_goals (cases hM; try dsimp only)
  all_goals (try simp only [Bool.not_eq_true', Bool.not_eq_false', decide_eq_true_eq, decide_eq_false_iff_not, Int.not_le, Int.not_lt, beq_iff_eq, beq_eq_false_iff_ne, ne_eq, Int.ofNat_eq_natCast, Int.toNat_natCast, List.length_replicate, ncast, Nat.sub_zero, List.drop_zero, Cue.eta, Tie.eta, Edge.eta, Link.eta, Node.eta] at *)
  all_goals (clear hW)
  all_goals (subst hf1 hf2 hg1 hg2 hn hm)
  all_goals first
    | rfl
    | exact (fN_len _ _).symm
    | exact (markTi_len _ _).symm
    | exact ⟨rfl, rfl, rfl, h1, h3, hk.1, by omega⟩
    | exact ⟨rfl, rfl, rfl, h2, hpos, by omega⟩
    | (refine ⟨?_, ?_, ?_⟩ <;> rfl)
    | skip
structure MkSh (p q : SP) (n n' m m' : Nat) (cs : List Node) (ps : List Tie) (k b : Int) : Prop where out : (p = (lrt 0, []) ∧ q = (lrt 1, []) ∧ n' = n ∧ m' = m) ∧ cs.length = n ∧ ps.length = m ∧ n ≤ maxLen ∧ m ≤ maxLen ∧ (∀ q ∈ cs, q.label.length ≤ maxLen) ∧ 0 < k ∧ b ≤ 4611686018427387904
def wMarkShow (f1 : Int → List Node → List Node) (f2 : Int → List Node → Nat → List Tie) (g : Int → List Node → Nat → Int) : WrW
  | [(true, [.rf p true 0 n, .rf q true 0 m, .fz (.int .i64 hr)]), (false, [.fz (.int .i64 k)])], [(.sl n', .osl (.node true none cs)), (.sl m', .osl (.tie ps))] => some ([MkSh p q n n' m m' cs ps k (g k cs m)], (.v (bI1 (g k cs m)), [(8192, .obx [.osl (.node true none (f1 k cs)), .osl (.tie (f2 k cs m)), .fz (.int .i64 hr)])], [.rf (8192, [((true, 0), 0)]) true 0 n, .rf (8192, [((true, 0), 1)]) true 0 m]))
  | _, _ => none
def shT (k : Int) (cs : List Node) (m : Nat) : List Tie := markTi (gN k cs) m
def shG (k : Int) (cs : List Node) (m : Nat) : Int := addT (gN k cs) m
theorem wMarkShow_ok : WrWOK Tryz.prog 18 (wMarkShow fN shT shG) := by
  intro xs ls
  unfold wMarkShow
  split
  · refine R.Sim.mk fun hp => ?_
    obtain ⟨⟨rfl, rfl, rfl, rfl⟩, rfl, rfl, h1, h2, h3, h4, h5⟩ := (hp _ (.head _)).out
    exact markShow_ok _ _ _ _ h1 h2 h3 ⟨h4, by unfold shG addT at h5; omega⟩
  · exact R.Sim.none'
theorem markState_ok (nw : Int) (cs : List Int) (ps : List Int) (k : Int) (h1 : cs.length ≤ maxLen) (h2 : ps.length ≤ maxLen) (hk : 0 < k ∧ k + cs.length + ps.length ≤ 4611686018427387904) :
    SCallW Tryz.prog 19 [(true, [.fz (.int .i64 nw), .rf (lrt 0, []) true 0 cs.length, .rf (lrt 1, []) true 0 ps.length]), bI1 k] [(lrt 0, .osl (.i cs)), (lrt 1, .osl (.i ps))]
      [.rf (lrt 0, []) true 0 cs.length, .rf (lrt 1, []) true 0 ps.length] (.v (bI1 (addI (addI k cs.length) ps.length)))
      [(8192, .obx [.fz (.int .i64 nw), .osl (.i (markI k cs.length)), .osl (.i (markI (addI k cs.length) ps.length))])] [.rf (8192, [((true, 0), 1)]) true 0 cs.length, .rf (8192, [((true, 0), 2)]) true 0 ps.length] := by
  refine SCallW.of X19_ok (fn := Tryz.f19) (c := Tryz.f19.body.getD .skip) (dr := fun n => look 0 [] n) (r := (_, _, _)) Tryz.func19 rfl (by kernel_rfl) (by kernel_rfl) (by kernel_rfl) ?_
  generalize hn : cs.length = n at *
  generalize hm : ps.length = m at *
  obtain ⟨f2, hf2⟩ : ∃ f, f = markI := ⟨_, rfl⟩
  obtain ⟨g2, hg2⟩ : ∃ f, f = addI := ⟨_, rfl⟩
  have hW : SOraWOK Tryz.prog (X19.withW [(26, [(0, 0)])] (oraWL [(26, wMarkI f2 g2)])) := by
    subst hf2 hg2
    exact SX.withW_ok (oraWL_cons wMarkI_ok oraWL_nil)
  refine SExW.go (X := (X19.withW [(26, [(0, 0)])] (oraWL [(26, wMarkI f2 g2)]))) X19_ok (fun n => look [] [] n) (fun _ => none) oraL_nil 90 2 ?_ hW
  intro M R L N hM hAnd hImp hR hL hN
  cases M
  cbv
  repeat' first | (refine hAnd _ _ ?_ ?_) | (refine hImp _ _ (fun h => ?_)) | (refine hR _ ?_) | (refine hL _ _ (Hd.out ?_); try rw [hks]) | (refine hN _ _ ?_; cbv)
  all_goals (clear hAnd hImp hR hL hN; try clear hks)
  all_goals (cases hM; try dsimp only)
  all_goals (try simp only [Bool.not_eq_true', Bool.not_eq_false', decide_eq_true_eq, decide_eq_false_iff_not, Int.not_le, Int.not_lt, beq_iff_eq, beq_eq_false_iff_ne, ne_eq, Int.ofNat_eq_natCast, Int.toNat_natCast, List.length_replicate, ncast, Nat.sub_zero, List.drop_zero, Cue.eta, Tie.eta, Edge.eta, Link.eta, Node.eta] at *)
  all_goals (clear hW)
  all_goals (subst hf2 hg2 hn hm)
  all_goals first
    | rfl
    | exact (markI_len _ _).symm
    | exact ⟨rfl, rfl, rfl, h1, by omega, by omega⟩
    | exact ⟨rfl, rfl, rfl, h2, by unfold addI; omega, by unfold addI; omega⟩
    | (refine ⟨?_, ?_, ?_⟩ <;> rfl)
    | skip
structure MkSt (p q : SP) (n n' m m' : Nat) (cs ps : List Int) (k : Int) : Prop where out : (p = (lrt 0, []) ∧ q = (lrt 1, []) ∧ n' = n ∧ m' = m) ∧ cs.length = n ∧ ps.length = m ∧ n ≤ maxLen ∧ m ≤ maxLen ∧ 0 < k ∧ k + n + m ≤ 4611686018427387904
def wMarkState (f1 : Int → Nat → List Int) (f2 : Int → Nat → Nat → List Int) (g : Int → Nat → Nat → Int) : WrW
  | [(true, [.fz (.int .i64 nw), .rf p true 0 n, .rf q true 0 m]), (false, [.fz (.int .i64 k)])], [(.sl n', .osl (.i cs)), (.sl m', .osl (.i ps))] => some ([MkSt p q n n' m m' cs ps k], (.v (bI1 (g k n m)), [(8192, .obx [.fz (.int .i64 nw), .osl (.i (f1 k n)), .osl (.i (f2 k n m))])], [.rf (8192, [((true, 0), 1)]) true 0 n, .rf (8192, [((true, 0), 2)]) true 0 m]))
  | _, _ => none
def stF (k : Int) (n m : Nat) : List Int := markI (addI k n) m
def stG (k : Int) (n m : Nat) : Int := addI (addI k n) m
theorem wMarkState_ok : WrWOK Tryz.prog 19 (wMarkState markI stF stG) := by
  intro xs ls
  unfold wMarkState
  split
  · refine R.Sim.mk fun hp => ?_
    obtain ⟨⟨rfl, rfl, rfl, rfl⟩, rfl, rfl, h1, h2, h3, h4⟩ := (hp _ (.head _)).out
    exact markState_ok _ _ _ _ h1 h2 ⟨h3, h4⟩
  · exact R.Sim.none'
theorem heldState_ok (nw k : Int) (n m : Nat) (h1 : n ≤ maxLen) (h2 : m ≤ maxLen) (hk : 0 ≤ k ∧ k + n + m ≤ 4611686018427387904) : SCall Tryz.prog 27 [aState ⟨nw, markI k n, stF k n m⟩, aI k] (rI (stG k n m)) := by
  refine SCall.of X27_ok (fn := Tryz.f27) (c := Tryz.f27.body.getD .skip) (dr := fun n => look 0 [] n) Tryz.func27 rfl (by kernel_rfl) (by kernel_rfl) (by kernel_rfl) ?_
  obtain ⟨a, ha⟩ : ∃ a, a = markI k n := ⟨_, rfl⟩
  obtain ⟨b, hb⟩ : ∃ b, b = stF k n m := ⟨_, rfl⟩
  obtain ⟨g, hg⟩ : ∃ f, f = addI := ⟨_, rfl⟩
  obtain ⟨f, hf⟩ : ∃ f, f = markI := ⟨_, rfl⟩
  obtain ⟨ln, hln⟩ : ∃ f, f = @List.length Int := ⟨_, rfl⟩
  have hO : SOraOK Tryz.prog (oraL [(30, wHeldI g f ln)]) := by subst hg hf hln; exact oraL_cons wHeldI_ok oraL_nil
  have e1 : ln a = n := by rw [hln, ha, markI_len]
  have e2 : ln b = m := by rw [hln, hb]; unfold stF; rw [markI_len]
  rw [← ha, ← hb]
  unfold stG
  rw [← hg]
  have hp : 0 ≤ g k n := by rw [hg]; unfold addI; omega
  have hp2 : 0 ≤ g (g k n) m := by rw [hg]; unfold addI; omega
  have q1 : a = f k n := by rw [ha, hf]
  have q2 : b = f (g k n) m := by rw [hb, hf, hg]; rfl
  refine SEx.go (X := X27) X27_ok (fun n => look [] [] n) (fun _ => none) hO 60 ?_
  intro M R L N hM hAnd hImp hR hL hN
  cases M
  cbv
  repeat' first | (refine hAnd _ _ ?_ ?_) | (refine hImp _ _ (fun h => ?_)) | (refine hR _ ?_) | (refine hL _ _ (Hd.out ?_); try first | rw [hks] | rw [hk2] | rw [hk3]) | (refine hN _ _ ?_; cbv)
  all_goals (clear hAnd hImp hR hL hN; try clear hks; try clear hk2; try clear hk3)
  all_goals (cases hM; try dsimp only)
  all_goals (try simp only [Bool.not_eq_true', Bool.not_eq_false', decide_eq_true_eq, decide_eq_false_iff_not, Int.not_le, Int.not_lt, beq_iff_eq, beq_eq_false_iff_ne, ne_eq, Int.ofNat_eq_natCast, Int.toNat_natCast, List.length_replicate, ncast, Nat.sub_zero, List.drop_zero, Cue.eta, Tie.eta, Edge.eta, Link.eta, Node.eta] at *)
  all_goals (clear hO)
  all_goals (simp only [e1, e2] at *)
  all_goals first
    | omega
    | exact ⟨q1⟩
    | exact ⟨q2⟩
    | rfl
    | exact ⟨by rw [ha, markI_len]; exact h1⟩
    | exact ⟨by rw [hb]; unfold stF; rw [markI_len]; exact h2⟩
    | exact ⟨by omega, by omega⟩
    | (subst hg; exact ⟨by unfold addI; omega, by unfold addI; omega⟩)
    | (exfalso; omega)
    | skip
structure HSt (x : State) (k : Int) (n m : Nat) : Prop where out : x.times = markI k n ∧ x.vals = stF k n m ∧ n ≤ maxLen ∧ m ≤ maxLen ∧ 0 ≤ k ∧ k + n + m ≤ 4611686018427387904
def wHeldSt (g : Int → Nat → Nat → Int) (ln : List Int → Nat) : Wr := w2 dcState dcI (fun x k => rI (g k (ln x.times) (ln x.vals))) (fun x k => [HSt x k (ln x.times) (ln x.vals)])
theorem wHeldSt_ok : WrOK Tryz.prog 27 (wHeldSt stG List.length) := w2_ok fun x k h => by
  obtain ⟨e1, e2, h1, h2, h3, h4⟩ := (h _ (.head _)).out
  have := heldState_ok x.now k x.times.length x.vals.length h1 h2 ⟨h3, h4⟩
  rw [← e1, ← e2] at this
  exact this
end Go.Proofs.YtececadpjelanaaGreat.Ai
namespace Go.Proofs.YtececadpjelanaaGreat.Ai
open Go
set_option maxRecDepth 100000
set_option linter.unusedVariables false
set_option linter.unusedSimpArgs false
set_option linter.unusedSectionVars false
variable [MemoCtx]
theorem cloneI_ok (l : List Int) (h1 : l.length ≤ 1048576) : SCall Tryz.prog 120 [aIs l] (rIs l) := by
  refine SCall.of X120_ok (fn := Tryz.f120) (c := Tryz.f120.body.getD .skip) (dr := fun n => look 0 [] n) Tryz.func120 rfl (by kernel_rfl) (by kernel_rfl) (by kernel_rfl) ?_
  refine SEx.go (X := X120) X120_ok (fun n => look [] [] n) (fun _ => none) oraL_nil 60 ?_
  intro M R L N hM hAnd hImp hR hL hN
  cases M
  cbv
  repeat' first | (refine hAnd _ _ ?_ ?_) | (refine hImp _ _ (fun h => ?_)) | (refine hR _ ?_) | (refine hL _ _ (Hd.out ?_); try first | rw [hks] | rw [hk2] | rw [hk3]) | (refine hN _ _ ?_; cbv)
  all_goals (clear hAnd hImp hR hL hN; try clear hks; try clear hk2; try clear hk3)
  all_goals (cases hM; try dsimp only)
  all_goals (try simp only [Bool.not_eq_true', Bool.not_eq_false', decide_eq_true_eq, decide_eq_false_iff_not, Int.not_le, Int.not_lt, beq_iff_eq, beq_eq_false_iff_ne, ne_eq, Int.ofNat_eq_natCast, Int.toNat_natCast, List.length_replicate, ncast, Nat.sub_zero, List.drop_zero, Cue.eta, Tie.eta, Edge.eta, Link.eta, Node.eta] at *)
  all_goals first
    | (have := lim_ge; omega)
    | (have hl : l = [] := List.eq_nil_of_length_eq_zero (by omega)
       subst hl; rfl)
    | rfl
end Go.Proofs.YtececadpjelanaaGreat.Ai
namespace Go.Proofs.YtececadpjelanaaGreat.Ai
open Go
set_option maxRecDepth 100000
set_option linter.unusedVariables false
set_option linter.unusedSimpArgs false
set_option linter.unusedSectionVars false
variable [MemoCtx]
def wCloneI : Wr := w1 dcIs rIs (fun l => [LLe l 1048576])
theorem wCloneI_ok : WrOK Tryz.prog 120 wCloneI := w1_ok fun l h => cloneI_ok l (h _ (.head _)).out
theorem copyState_ok (x : State) (hz : StSz x) : SCall Tryz.prog 90 [aState x] (rState x) := by
  refine SCall.of X90_ok (fn := Tryz.f90) (c := Tryz.f90.body.getD .skip) (dr := fun n => look 0 [(1, 8)] n) Tryz.func90 rfl (by kernel_rfl) (by kernel_rfl) (by kernel_rfl) ?_
  have hO : SOraOK Tryz.prog (oraL [(120, wCloneI)]) := oraL_cons wCloneI_ok oraL_nil
  have h1 := hz.tlen
  have h2 := hz.vlen
  clear hz
  obtain ⟨now, times, vals⟩ := x
  dsimp only at h1 h2
  refine SEx.go (X := X90) X90_ok (fun n => look [] [] n) (fun _ => none) hO 60 ?_
  intro M R L N hM hAnd hImp hR hL hN
  cases M
  cbv
  repeat' first | (refine hAnd _ _ ?_ ?_) | (refine hImp _ _ (fun h => ?_)) | (refine hR _ ?_) | (refine hL _ _ (Hd.out ?_); try first | rw [hks] | rw [hk2] | rw [hk3]) | (refine hN _ _ ?_; cbv)
  all_goals (clear hAnd hImp hR hL hN; try clear hks; try clear hk2; try clear hk3)
  all_goals (cases hM; try dsimp only)
  all_goals (try simp only [Bool.not_eq_true', Bool.not_eq_false', decide_eq_true_eq, decide_eq_false_iff_not, Int.not_le, Int.not_lt, beq_iff_eq, beq_eq_false_iff_ne, ne_eq, Int.ofNat_eq_natCast, Int.toNat_natCast, List.length_replicate, ncast, Nat.sub_zero, List.drop_zero, Cue.eta, Tie.eta, Edge.eta, Link.eta, Node.eta] at *)
  all_goals first
    | exact ⟨h1⟩
    | exact ⟨h2⟩
    | rfl
def wCopySt : Wr := w1 dcState rState (fun x => [StSz x])
theorem wCopySt_ok : WrOK Tryz.prog 90 wCopySt := w1_ok fun x h => copyState_ok x (h _ (.head _))
def rAft (s : State) (b : Bool) : TV W := .tup [(true, s.w), (false, [.fz (.bool false b)])]
def aftR (s : State) (b : Bool) : TV W := match b with | true => rAft s true | false => rAft ⟨0, [], []⟩ false
end Go.Proofs.YtececadpjelanaaGreat.Ai
namespace Go.Proofs.YtececadpjelanaaGreat.Ai
open Go
set_option maxRecDepth 100000
set_option linter.unusedVariables false
set_option linter.unusedSimpArgs false
set_option linter.unusedSectionVars false
variable [MemoCtx]
theorem kN_le {l : List Node} (k : Int) (h : ∀ q ∈ l, q.label.length ≤ 1048576) : ∀ i, i ≤ l.length → kN k l i ≤ k + i * 1048578
  | 0, _ => by rw [kN_zero]; omega
  | i + 1, hi => by
    have h1 := kN_le k h i (by omega)
    have h2 := h _ (mem_getD (z := Node.z) (show i < l.length by omega)).out
    rw [kN_succ (by omega)]
    omega
structure ShGT (n : Int) (g : Int) : Prop where
  lo : 0 < g
  hi : g ≤ 4000000000000
theorem shG_in {t : Show} {n : Int} (h : ShowSz t n) : ShGT n (shG 1 t.nodes t.ties.length) ∧ gN 1 t.nodes ≤ 4000000000000 := by
  have h1 := kN_le 1 h.labs t.nodes.length (Nat.le_refl _)
  have h2 := kN_mono 1 t.nodes 0 t.nodes.length
  rw [kN_zero, Nat.zero_add] at h2
  have h3 := h.len
  have h4 := h.tlen
  unfold shG addT gN
  exact ⟨⟨by omega, by omega⟩, by omega⟩
theorem stF_len (k : Int) (n m : Nat) : (stF k n m).length = m := markI_len _ _
theorem aft_HSt (s : State) (h1 : s.times.length ≤ 1048576) (h2 : s.vals.length ≤ 1048576) : HSt ⟨s.now, markI 1 s.times.length, stF 1 s.times.length s.vals.length⟩ 1 s.times.length s.vals.length := ⟨rfl, rfl, by unfold maxLen; omega, by unfold maxLen; omega, by omega, by omega⟩
theorem aft_MkSt (s : State) (h1 : s.times.length ≤ 1048576) (h2 : s.vals.length ≤ 1048576) : MkSt (lrt 0, []) (lrt 1, []) s.times.length s.times.length s.vals.length s.vals.length s.times s.vals 1 := ⟨⟨rfl, rfl, rfl, rfl⟩, rfl, rfl, by unfold maxLen; omega, by unfold maxLen; omega, by omega, by omega⟩
end Go.Proofs.YtececadpjelanaaGreat.Ai
namespace Go.Proofs.YtececadpjelanaaGreat.Ai
open Go
set_option maxRecDepth 100000
set_option linter.unusedVariables false
set_option linter.unusedSimpArgs false
set_option linter.unusedSectionVars false
variable [MemoCtx]
def selL (q : Nat → Bool) (i : Nat) : List Int := ((List.range i).filter q).map fun (j : Nat) => (j : Int)
theorem selL_yes {q : Nat → Bool} {i : Nat} (h : q i = true) : selL q (i + 1) = selL q i ++ [(i : Int)] := by
  simp only [selL, List.range_succ, List.filter_append, List.map_append, List.filter_cons, List.filter_nil, h, if_true, List.map_cons, List.map_nil]
theorem selL_no {q : Nat → Bool} {i : Nat} (h : q i = false) : selL q (i + 1) = selL q i := by
  simp only [selL, List.range_succ, List.filter_append, List.map_append, List.filter_cons, List.filter_nil, h, Bool.false_eq_true, if_false, List.map_nil, List.append_nil]
theorem selL_len (q : Nat → Bool) (i : Nat) : (selL q i).length ≤ i := by
  simp only [selL, List.length_map]
  exact Nat.le_trans (List.length_filter_le _ _) (by simp)
end Go.Proofs.YtececadpjelanaaGreat.Ai
namespace Go.Proofs.YtececadpjelanaaGreat.Ai
open Go
set_option maxRecDepth 100000
set_option linter.unusedVariables false
set_option linter.unusedSimpArgs false
set_option linter.unusedSectionVars false
variable [MemoCtx]
def btS (s : Int) (i : Nat) : Bool := decide (IntKind.i64.wrap (((BitVec.ofInt IntKind.i64.bits (s.fdiv (2 ^ min i IntKind.i64.bits)) &&& BitVec.ofInt IntKind.i64.bits 1).toNat : Nat) : Int) = 1)
def memP (l : List Int) (s : Int) (i : Nat) : List Int := ((List.range i).filter (btS s)).map fun j => l.getD j 0
def memL (l : List Int) (s : Int) : List Int := memP l s l.length
theorem memP_yes {l : List Int} {s : Int} {i : Nat} (h : btS s i = true) : memP l s (i + 1) = memP l s i ++ [l.getD i 0] := by
  simp only [memP, List.range_succ, List.filter_append, List.map_append, List.filter_cons, List.filter_nil, h, if_true, List.map_cons, List.map_nil]
theorem memP_no {l : List Int} {s : Int} {i : Nat} (h : btS s i = false) : memP l s (i + 1) = memP l s i := by
  simp only [memP, List.range_succ, List.filter_append, List.map_append, List.filter_cons, List.filter_nil, h, Bool.false_eq_true, if_false, List.map_nil, List.append_nil]
theorem memP_len (l : List Int) (s : Int) (i : Nat) : (memP l s i).length ≤ i := by
  simp only [memP, List.length_map]
  exact Nat.le_trans (List.length_filter_le _ _) (by simp)
theorem implMembers_ok (l : List Int) (s : Int) (h1 : l.length ≤ 1048576) : SCall Tryz.prog 80 [aIs l, aI s] (rUs (memL l s)) := by
  refine SCall.of X80_ok (fn := Tryz.f80) (c := Tryz.f80.body.getD .skip) (dr := fun n => look 0 [] n) Tryz.func80 rfl (by kernel_rfl) (by kernel_rfl) (by kernel_rfl) ?_
  refine SEx.go (X := X80) X80_ok (fun n => look [] [(3, [1, 5, 8, 9, 10])] n) (fun _ => none) oraL_nil 60 ?_
  intro M R L N hM hAnd hImp hR hL hN
  cases M
  cbv
  repeat' first | (refine hAnd _ _ ?_ ?_) | (refine hImp _ _ (fun h => ?_)) | (refine hR _ ?_) | (refine hL _ _ (Hd.out ?_); generalize hks : (List.cons _ _ : List K) = ks) | (refine hN _ _ ?_; cbv)
  all_goals (clear hAnd hImp hR hL hN)
  all_goals (cases hM; try dsimp only)
  all_goals (try simp only [Bool.not_eq_true', Bool.not_eq_false', decide_eq_true_eq, decide_eq_false_iff_not, Int.not_le, Int.not_lt, beq_iff_eq, beq_eq_false_iff_ne, ne_eq, Int.ofNat_eq_natCast, Int.toNat_natCast, List.length_replicate, ncast, Nat.sub_zero, List.drop_zero, Cue.eta, Tie.eta, Edge.eta, Link.eta, Node.eta] at *)
  obtain ⟨m, hm⟩ : ∃ m, m = l.length := ⟨_, rfl⟩
  refine ⟨SEx.same (SEx.idx m (fun i => ⟨26, [(1, bI s), (5, bR 20480 (memP l s i).length), (8, bL (.i l)), (9, bI m), (10, bI i)], [(20480, .osl (.i (memP l s i)))]⟩) (fun _ => rUs (memP l s m)) ?_) (by rw [hm]; rfl) (by rw [hm]; rfl)⟩
  intro i hi ih
  rw [← hks]
  obtain ⟨u, hu⟩ : ∃ u, u = memP l s i := ⟨_, rfl⟩
  have hul : u.length ≤ i := by rw [hu]; exact memP_len _ _ _
  rw [← hu]
  obtain ⟨n, hn⟩ : ∃ n, n = u.length := ⟨_, rfl⟩
  rw [← hn] at hul ⊢
  refine SEx.go (X := X80) X80_ok (fun n => look [] [(3, [1, 5, 8, 9, 10])] n) (fun _ => none) oraL_nil 60 ?_
  intro M R L N hM hAnd hImp hR hL hN
  cases M
  cbv
  repeat' first | (refine hAnd _ _ ?_ ?_) | (refine hImp _ _ (fun h => ?_)) | (refine hR _ ?_) | (refine hL _ _ (Hd.out ?_); try first | rw [hks] | rw [hk2] | rw [hk3]) | (refine hN _ _ ?_; cbv)
  all_goals (clear hAnd hImp hR hL hN; try clear hks; try clear hk2; try clear hk3)
  all_goals (cases hM; try dsimp only)
  all_goals (try simp only [Bool.not_eq_true', Bool.not_eq_false', decide_eq_true_eq, decide_eq_false_iff_not, Int.not_le, Int.not_lt, beq_iff_eq, beq_eq_false_iff_ne, ne_eq, Int.ofNat_eq_natCast, Int.toNat_natCast, List.length_replicate, ncast, Nat.sub_zero, List.drop_zero, Cue.eta, Tie.eta, Edge.eta, Link.eta, Node.eta] at *)
  all_goals try simp only [List.length_append, List.length_cons, List.length_nil, List.length_set] at *
  all_goals (try omega)
  all_goals (try (have := lim_ge; omega))
  all_goals (try simp only [wrap_succ (show i < 9223372036854775807 by omega)])
  all_goals first
    | (have ih' := ih (by omega)
       rw [memP_yes (show btS s i = true by unfold btS; exact decide_eq_true (by assumption)), ← hu, List.length_append] at ih'
       exact ⟨ih'.same rfl rfl⟩)
    | (have ih' := ih (by omega)
       rw [memP_no (show btS s i = false by unfold btS; exact decide_eq_false (by assumption)), ← hu, ← hn] at ih'
       exact ⟨ih'.same rfl rfl⟩)
    | (obtain rfl : i = m := by omega
       rw [hu]; rfl)
    | skip
theorem specSome_ok (l : List Int) (s : Int) (h1 : l.length ≤ 1048576) : SCall Tryz.prog 43 [aIs l, aI s] (rUs (memL l s)) := by
  refine SCall.of X43_ok (fn := Tryz.f43) (c := Tryz.f43.body.getD .skip) (dr := fun n => look 0 [] n) Tryz.func43 rfl (by kernel_rfl) (by kernel_rfl) (by kernel_rfl) ?_
  refine SEx.go (X := X43) X43_ok (fun n => look [] [(3, [1, 5, 9, 10, 11])] n) (fun _ => none) oraL_nil 60 ?_
  intro M R L N hM hAnd hImp hR hL hN
  cases M
  cbv
  repeat' first | (refine hAnd _ _ ?_ ?_) | (refine hImp _ _ (fun h => ?_)) | (refine hR _ ?_) | (refine hL _ _ (Hd.out ?_); generalize hks : (List.cons _ _ : List K) = ks) | (refine hN _ _ ?_; cbv)
  all_goals (clear hAnd hImp hR hL hN)
  all_goals (cases hM; try dsimp only)
  all_goals (try simp only [Bool.not_eq_true', Bool.not_eq_false', decide_eq_true_eq, decide_eq_false_iff_not, Int.not_le, Int.not_lt, beq_iff_eq, beq_eq_false_iff_ne, ne_eq, Int.ofNat_eq_natCast, Int.toNat_natCast, List.length_replicate, ncast, Nat.sub_zero, List.drop_zero, Cue.eta, Tie.eta, Edge.eta, Link.eta, Node.eta] at *)
  obtain ⟨m, hm⟩ : ∃ m, m = l.length := ⟨_, rfl⟩
  refine ⟨SEx.same (SEx.idx m (fun i => ⟨28, [(1, bI s), (5, bR 20480 (memP l s i).length), (9, bL (.i l)), (10, bI m), (11, bI i)], [(20480, .osl (.i (memP l s i)))]⟩) (fun _ => rUs (memP l s m)) ?_) (by rw [hm]; rfl) (by rw [hm]; rfl)⟩
  intro i hi ih
  rw [← hks]
  obtain ⟨u, hu⟩ : ∃ u, u = memP l s i := ⟨_, rfl⟩
  have hul : u.length ≤ i := by rw [hu]; exact memP_len _ _ _
  rw [← hu]
  obtain ⟨n, hn⟩ : ∃ n, n = u.length := ⟨_, rfl⟩
  rw [← hn] at hul ⊢
  have hwu : IntKind.u64.wrap (i : Int) = (i : Int) := wrap_u64 (by omega)
  refine SEx.go (X := X43) X43_ok (fun n => look [] [(3, [1, 5, 9, 10, 11])] n) (fun _ => none) oraL_nil 60 ?_
  intro M R L N hM hAnd hImp hR hL hN
  cases M
  cbv
  repeat' first | (refine hAnd _ _ ?_ ?_) | (refine hImp _ _ (fun h => ?_)) | (refine hR _ ?_) | (refine hL _ _ (Hd.out ?_); try first | rw [hks] | rw [hk2] | rw [hk3]) | (refine hN _ _ ?_; cbv)
  all_goals (clear hAnd hImp hR hL hN; try clear hks; try clear hk2; try clear hk3)
  all_goals (cases hM; try dsimp only)
  all_goals (try simp only [Bool.not_eq_true', Bool.not_eq_false', decide_eq_true_eq, decide_eq_false_iff_not, Int.not_le, Int.not_lt, beq_iff_eq, beq_eq_false_iff_ne, ne_eq, Int.ofNat_eq_natCast, Int.toNat_natCast, List.length_replicate, ncast, Nat.sub_zero, List.drop_zero, Cue.eta, Tie.eta, Edge.eta, Link.eta, Node.eta] at *)
  all_goals (try simp only [hwu, Int.toNat_natCast] at *)
  all_goals try simp only [List.length_append, List.length_cons, List.length_nil, List.length_set] at *
  all_goals (try omega)
  all_goals (try (have := lim_ge; omega))
  all_goals (try simp only [wrap_succ (show i < 9223372036854775807 by omega)])
  all_goals first
    | (have ih' := ih (by omega)
       rw [memP_yes (show btS s i = true by unfold btS; exact decide_eq_true (by assumption)), ← hu, List.length_append] at ih'
       exact ⟨ih'.same rfl rfl⟩)
    | (have ih' := ih (by omega)
       rw [memP_no (show btS s i = false by unfold btS; exact decide_eq_false (by assumption)), ← hu, ← hn] at ih'
       exact ⟨ih'.same rfl rfl⟩)
    | (obtain rfl : i = m := by omega
       rw [hu]; rfl)
    | skip
def wMem (f : List Int → Int → List Int) : Wr := w2 dcIs dcI (fun l s => rUs (f l s)) (fun l _ => [LLe l 1048576])
theorem wMemS_ok : WrOK Tryz.prog 43 (wMem memL) := w2_ok fun l s h => specSome_ok l s (h _ (.head _)).out
end Go.Proofs.YtececadpjelanaaGreat.Ai
