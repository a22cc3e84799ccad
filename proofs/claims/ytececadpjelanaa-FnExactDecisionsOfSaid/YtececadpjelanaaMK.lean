/- Marks. -/
import Derived.Test.YtececadpjelanaaTy
import Derived.Test.YtececadpjelanaaSI
namespace Go.Proofs.Ytececadpjelanaa.Ai
open Go
set_option maxRecDepth 100000
set_option linter.unusedVariables false
set_option linter.unusedSimpArgs false
def wR (n : Nat) : V1 B := (false, [.rf (lrt 0, []) true 0 n])
def bI1 (n : Int) : V1 B := (false, [.fz (.int .i64 n)])
def markI (k : Int) (n : Nat) : List Int := (List.range n).map fun j => k + (j : Nat)
theorem markI_len (k : Int) (n : Nat) : (markI k n).length = n := by simp [markI]
theorem markI_succ (k : Int) (n : Nat) : markI k (n + 1) = markI k n ++ [k + n] := by simp [markI, List.range_succ]
theorem wrap_inc {q : Int} (h0 : -9223372036854775808 ≤ q) (h : q < 9223372036854775807) : IntKind.i64.wrap (q + 1) = q + 1 := by
  simp [IntKind.wrap, IntKind.bits, IntKind.signed]; omega
theorem mark_step {k : Int} {i : Nat} {l : List Int} (hi : i < l.length) : (markI k i ++ l.drop i).set i (k + i) = markI k (i + 1) ++ l.drop (i + 1) := by
  rw [List.set_append_right _ _ (by rw [markI_len]; omega), markI_len, Nat.sub_self, markI_succ, List.append_assoc, List.drop_eq_getElem_cons hi]; rfl
theorem markIntS_ok (l : List Int) (k : Int) (hl : l.length ≤ maxLen) (hk : 0 ≤ k ∧ k + l.length ≤ 4611686018427387904) :
    SCallW Try.prog 16 [wR l.length, bI1 k] [(lrt 0, .osl (.i l))] [.rf (lrt 0, []) true 0 l.length] (.v (bI1 (k + l.length))) [(lrt 0, .osl (.i (markI k l.length)))] [.rf (lrt 0, []) true 0 l.length] := by
  refine SCallW.of X16_ok (fn := Try.f16) (c := Try.f16.body.getD .skip) (dr := fun n => look 0 [] n) (r := (_, _, _)) Try.func16 rfl (by kernel_rfl) (by kernel_rfl) (by kernel_rfl) ?_
  generalize hn : l.length = n at *
  refine SExW.go (X := X16) X16_ok (fun n => look [] [(2, [0, 1, 5, 4294967296])] n) (fun _ => none) oraL_nil 60 1 ?_
  intro M R L N hM hAnd hImp hR hL hN
  cases M
  cbv
  repeat' first | (refine hAnd _ _ ?_ ?_) | (refine hImp _ _ (fun h => ?_)) | (refine hR _ ?_) | (refine hL _ _ (Hd.out ?_); generalize hks : (List.cons _ _ : List K) = ks) | (refine hN _ _ ?_; cbv)
  all_goals (clear hAnd hImp hR hL hN)
  all_goals (cases hM; try dsimp only)
  all_goals (try simp only [Bool.not_eq_true', Bool.not_eq_false', decide_eq_true_eq, decide_eq_false_iff_not, Int.not_le, Int.not_lt, beq_iff_eq, beq_eq_false_iff_ne, ne_eq, Int.ofNat_eq_natCast, Int.toNat_natCast, List.length_replicate, ncast, Nat.sub_zero, List.drop_zero, Cue.eta, Tie.eta, Edge.eta, Link.eta, Node.eta] at *)
  refine ⟨SExW.same (SExW.idx n (fun i => ⟨19, [(0, bR 41000000 n), (1, bI (k + i)), (5, bI i), (4294967296, bR 41000000 n)], [(41000000, .osl (.i (markI k i ++ l.drop i)))]⟩) (fun _ => (.v (bI1 (k + n)), [(lrt 0, .osl (.i (markI k n)))], [.rf (lrt 0, []) true 0 n])) ?_) ?_ ⟨rfl, rfl, rfl⟩⟩
  rotate_left
  · rw [show k + ((0 : Nat) : Int) = k by omega]; rfl
  intro i hi ih
  rw [← hks]
  obtain ⟨c, hc⟩ : ∃ c, c = markI k i ++ l.drop i := ⟨_, rfl⟩
  have hcl : c.length = n := by rw [hc, List.length_append, markI_len, List.length_drop]; omega
  rw [← hc]
  obtain ⟨q, hq⟩ : ∃ q, q = k + (i : Int) := ⟨_, rfl⟩
  rw [← hq]
  unfold maxLen at hl
  refine SExW.go (X := X16) X16_ok (fun n => look [] [(2, [0, 1, 5, 4294967296])] n) (fun _ => none) oraL_nil 60 1 ?_
  intro M R L N hM hAnd hImp hR hL hN
  cases M
  cbv
  repeat' first | (refine hAnd _ _ ?_ ?_) | (refine hImp _ _ (fun h => ?_)) | (refine hR _ ?_) | (refine hL _ _ (Hd.out ?_); try rw [hks]) | (refine hN _ _ ?_; cbv)
  all_goals (clear hAnd hImp hR hL hN; try clear hks)
  all_goals (cases hM; try dsimp only)
  all_goals (try simp only [Bool.not_eq_true', Bool.not_eq_false', decide_eq_true_eq, decide_eq_false_iff_not, Int.not_le, Int.not_lt, beq_iff_eq, beq_eq_false_iff_ne, ne_eq, Int.ofNat_eq_natCast, Int.toNat_natCast, List.length_replicate, ncast, Nat.sub_zero, List.drop_zero, Cue.eta, Tie.eta, Edge.eta, Link.eta, Node.eta] at *)
  all_goals first
    | omega
    | (have hin : i = n := by omega
       subst hin
       rw [List.drop_eq_nil_of_le (by omega), List.append_nil] at hc
       subst hc; subst hq
       refine ⟨?_, ?_, ?_⟩ <;> rfl)
    | (simp only [wrap_succ (show i < 9223372036854775807 by omega), wrap_inc (q := q) (by omega) (by omega)]
       refine ⟨(ih (by omega)).same ?_ ⟨rfl, rfl, rfl⟩⟩
       rw [hc, hq, mark_step (k := k) (i := i) (l := l) (by omega)]
       rw [show k + ((i + 1 : Nat) : Int) = k + i + 1 by omega, show ((i + 1 : Nat) : Int) = i + 1 by omega]
       rfl)
def dch (k : Int) : ByteArray := ⟨(List.map (fun n => UInt8.ofNat n.toNat) [IntKind.u8.wrap (IntKind.i64.wrap (48 + k.tmod 10))]).toArray⟩
theorem dch_size (k : Int) : (dch k).size = 1 := rfl
def digT : Nat → Int → ByteArray → ByteArray
  | 0, _, out => out
  | n + 1, k, out => if 0 < k then digT n (k.tdiv 10) (dch k ++ out) else out
theorem tdiv_lt {k : Int} (h : 0 < k) : 0 ≤ k.tdiv 10 ∧ k.tdiv 10 < k := by
  rw [Int.tdiv_eq_ediv_of_nonneg (by omega)]; omega
theorem digT_fuel : ∀ (n m : Nat) (k : Int) (out : ByteArray), k.toNat ≤ n → k.toNat ≤ m → digT n k out = digT m k out
  | 0, 0, _, _, _, _ => rfl
  | 0, m + 1, k, out, h, _ => by simp only [digT]; rw [if_neg (by omega)]
  | n + 1, 0, k, out, _, h => by simp only [digT]; rw [if_neg (by omega)]
  | n + 1, m + 1, k, out, h1, h2 => by
    simp only [digT]
    split
    · rename_i h
      have := tdiv_lt h
      exact digT_fuel n m _ _ (by omega) (by omega)
    · rfl
theorem digT_step {k : Int} (out : ByteArray) (h : 0 < k) : digT k.toNat k out = digT (k.tdiv 10).toNat (k.tdiv 10) (dch k ++ out) := by
  have := tdiv_lt h
  obtain ⟨n, hn⟩ : ∃ n, k.toNat = n + 1 := ⟨k.toNat - 1, by omega⟩
  rw [hn]
  simp only [digT]
  rw [if_pos h]
  exact digT_fuel _ _ _ _ (by omega) (by omega)
def mS : ByteArray := ⟨⟨[109]⟩⟩
def mT (k : Int) : ByteArray := mS ++ digT k.toNat k ⟨⟨[]⟩⟩
theorem markText_ok (k : Int) (hk : 0 < k ∧ k ≤ 4611686018427387904) : SCall Try.prog 58 [aI k] (rS (mT k)) := by
  refine SCall.of X58_ok (fn := Try.f58) (c := Try.f58.body.getD .skip) (dr := fun n => look 0 [] n) Try.func58 rfl (by kernel_rfl) (by kernel_rfl) (by kernel_rfl) ?_
  refine SEx.go (X := X58) X58_ok (fun n => look [] [(4, [0, 3])] n) (fun _ => none) oraL_nil 60 ?_
  intro M R L N hM hAnd hImp hR hL hN
  cases M
  cbv
  repeat' first | (refine hAnd _ _ ?_ ?_) | (refine hImp _ _ (fun h => ?_)) | (refine hR _ ?_) | (refine hL _ _ (Hd.out ?_); generalize hks : (List.cons _ _ : List K) = ks) | (refine hN _ _ ?_; cbv)
  all_goals (clear hAnd hImp hR hL hN)
  all_goals (cases hM; try dsimp only)
  all_goals (try simp only [Bool.not_eq_true', Bool.not_eq_false', decide_eq_true_eq, decide_eq_false_iff_not, Int.not_le, Int.not_lt, beq_iff_eq, beq_eq_false_iff_ne, ne_eq, Int.ofNat_eq_natCast, Int.toNat_natCast, List.length_replicate, ncast, Nat.sub_zero, List.drop_zero, Cue.eta, Tie.eta, Edge.eta, Link.eta, Node.eta] at *)
  · exfalso; omega
  refine ⟨SEx.same (SEx.ind (α := Int × ByteArray) (fun x => ⟨20, [(0, bI x.1), (3, bS x.2)], []⟩) (fun x => rS (mS ++ digT x.1.toNat x.1 x.2)) (fun x => 0 ≤ x.1 ∧ x.2.size + x.1 ≤ 4611686018427387904) (fun x => x.1.toNat) (k, ⟨⟨[]⟩⟩) ⟨by omega, by show (0 : Int) + k ≤ _; omega⟩ ?_) rfl rfl⟩
  rintro ⟨q, out⟩ ⟨hq0, hq1⟩ ih
  simp only at hq0 hq1 ih ⊢
  rw [← hks]
  refine SEx.go (X := X58) X58_ok (fun n => look [] [(4, [0, 3])] n) (fun _ => none) oraL_nil 60 ?_
  intro M R L N hM hAnd hImp hR hL hN
  cases M
  cbv
  repeat' first | (refine hAnd _ _ ?_ ?_) | (refine hImp _ _ (fun h => ?_)) | (refine hR _ ?_) | (refine hL _ _ (Hd.out ?_); try first | rw [hks] | rw [hk2] | rw [hk3]) | (refine hN _ _ ?_; cbv)
  all_goals (clear hAnd hImp hR hL hN; try clear hks; try clear hk2; try clear hk3)
  all_goals (cases hM; try dsimp only)
  all_goals (try simp only [Bool.not_eq_true', Bool.not_eq_false', decide_eq_true_eq, decide_eq_false_iff_not, Int.not_le, Int.not_lt, beq_iff_eq, beq_eq_false_iff_ne, ne_eq, Int.ofNat_eq_natCast, Int.toNat_natCast, List.length_replicate, ncast, Nat.sub_zero, List.drop_zero, Cue.eta, Tie.eta, Edge.eta, Link.eta, Node.eta] at *)
  all_goals first
    | exact ⟨⟩
    | (intro h; cases h; done)
    | rfl
    | (show (dch q).size + out.size ≤ _; rw [dch_size]; omega)
    | (have h2 := tdiv_lt (k := q) (by assumption)
       rw [wrap_i64 (by omega) (by omega)]
       exact ⟨(ih (q.tdiv 10, dch q ++ out) ⟨h2.1, by show ((dch q ++ out).size : Int) + _ ≤ _; rw [ByteArray.size_append, dch_size]; show ((1 + out.size : Nat) : Int) + q.tdiv 10 ≤ _; omega⟩ (by show (q.tdiv 10).toNat < _; omega)).same rfl (by rw [digT_step out (by assumption)])⟩)
    | (have hq : q = 0 := by omega
       subst hq; rfl)
    | trace_state
structure IPos (k : Int) : Prop where out : 0 < k ∧ k ≤ 4611686018427387904
def wMarkT (f : Int → ByteArray) : Wr := w1 dcI (fun k => rS (f k)) (fun k => [IPos k])
structure MkI {α : Type} (p : SP) (n m : Nat) (l : List α) (k : Int) : Prop where out : p = (lrt 0, []) ∧ m = n ∧ l.length = n ∧ n ≤ maxLen ∧ 0 ≤ k ∧ k + n ≤ 4611686018427387904
structure MkC {α : Type} (p : SP) (n m : Nat) (l : List α) (k : Int) : Prop where out : p = (lrt 0, []) ∧ m = n ∧ l.length = n ∧ n ≤ maxLen ∧ 0 < k ∧ k + 11 * n ≤ 4611686018427387904
structure MkS {α β : Type} (p q : SP) (n n' m m' : Nat) (cs : List α) (ps : List β) (k : Int) : Prop where out : (p = (lrt 0, []) ∧ q = (lrt 1, []) ∧ n' = n ∧ m' = m) ∧ cs.length = n ∧ ps.length = m ∧ n ≤ maxLen ∧ m ≤ maxLen ∧ 0 < k ∧ k + 11 * n + m ≤ 4611686018427387904
structure IAdd (k : Int) (n : Nat) : Prop where out : 0 ≤ k ∧ k + n ≤ 4611686018427387904
def addI (k : Int) (n : Nat) : Int := k + n
def wMarkI (f : Int → Nat → List Int) (g : Int → Nat → Int) : WrW
  | [(false, [.rf p true 0 n]), (false, [.fz (.int .i64 k)])], [(.sl m, .osl (.i l))] => some ([MkI p n m l k], (.v (bI1 (g k n)), [(lrt 0, .osl (.i (f k n)))], [.rf (lrt 0, []) true 0 n]))
  | [(false, [.rf p true 0 n]), (false, [.fz (.int .i64 k)])], [(.sl m, .onil)] => some ([MkI p n m ([] : List Int) k], (.v (bI1 k), [(lrt 0, .onil)], [.rf (lrt 0, []) true 0 n]))
  | _, _ => none
theorem wMarkI_ok : WrWOK Try.prog 16 (wMarkI markI addI) := by
  intro xs ls
  unfold wMarkI
  split
  · refine R.Sim.mk fun hp => ?_
    obtain ⟨rfl, rfl, rfl, h1, h2, h3⟩ := (hp _ (.head _)).out
    exact markIntS_ok _ _ h1 ⟨h2, h3⟩
  · refine R.Sim.mk fun hp => ?_
    obtain ⟨rfl, rfl, h0, h1, h2, h3⟩ := (hp _ (.head _)).out
    cases h0
    rename_i k
    have := markIntS_ok [] k h1 ⟨h2, h3⟩
    rw [show k + (([] : List Int).length : Int) = k by simp] at this
    exact this
  · exact R.Sim.none'
theorem markI_getD {k : Int} {n i : Nat} (h : i < n) : (markI k n).getD i 0 = k + i := by
  rw [getD_get (by rw [markI_len]; exact h)]; simp [markI]
theorem heldIntS_ok (k : Int) (n : Nat) (h1 : n ≤ maxLen) (hk : 0 ≤ k ∧ k + n ≤ 4611686018427387904) : SCall Try.prog 17 [aIs (markI k n), aI k] (rI (addI k n)) := by
  refine SCall.of X17_ok (fn := Try.f17) (c := Try.f17.body.getD .skip) (dr := fun n => look 0 [] n) Try.func17 rfl (by kernel_rfl) (by kernel_rfl) (by kernel_rfl) ?_
  obtain ⟨c, hc⟩ : ∃ c, c = markI k n := ⟨_, rfl⟩
  have hcl : c.length = n := by rw [hc, markI_len]
  rw [← hc]
  refine SEx.go (X := X17) X17_ok (fun n => look [] [(2, [0, 1, 5])] n) (fun _ => none) oraL_nil 60 ?_
  intro M R L N hM hAnd hImp hR hL hN
  cases M
  cbv
  repeat' first | (refine hAnd _ _ ?_ ?_) | (refine hImp _ _ (fun h => ?_)) | (refine hR _ ?_) | (refine hL _ _ (Hd.out ?_); generalize hks : (List.cons _ _ : List K) = ks) | (refine hN _ _ ?_; cbv)
  all_goals (clear hAnd hImp hR hL hN)
  all_goals (cases hM; try dsimp only)
  all_goals (try simp only [Bool.not_eq_true', Bool.not_eq_false', decide_eq_true_eq, decide_eq_false_iff_not, Int.not_le, Int.not_lt, beq_iff_eq, beq_eq_false_iff_ne, ne_eq, Int.ofNat_eq_natCast, Int.toNat_natCast, List.length_replicate, ncast, Nat.sub_zero, List.drop_zero, Cue.eta, Tie.eta, Edge.eta, Link.eta, Node.eta] at *)
  refine ⟨SEx.same (SEx.idx n (fun i => ⟨21, [(0, bL (.i c)), (1, bI (k + i)), (5, bI i)], []⟩) (fun _ => rI (addI k n)) ?_) (by rw [show k + ((0 : Nat) : Int) = k by omega]; rfl) rfl⟩
  intro i hi ih
  rw [← hks]
  obtain ⟨q, hq⟩ : ∃ q, q = k + (i : Int) := ⟨_, rfl⟩
  have hg : i < n → c.getD i 0 = q := fun h => by rw [hc, hq, markI_getD h]
  rw [← hq]
  unfold maxLen at h1
  refine SEx.go (X := X17) X17_ok (fun n => look [] [(2, [0, 1, 5])] n) (fun _ => none) oraL_nil 60 ?_
  intro M R L N hM hAnd hImp hR hL hN
  cases M
  cbv
  repeat' first | (refine hAnd _ _ ?_ ?_) | (refine hImp _ _ (fun h => ?_)) | (refine hR _ ?_) | (refine hL _ _ (Hd.out ?_); try first | rw [hks] | rw [hk2] | rw [hk3]) | (refine hN _ _ ?_; cbv)
  all_goals (clear hAnd hImp hR hL hN; try clear hks; try clear hk2; try clear hk3)
  all_goals (cases hM; try dsimp only)
  all_goals (try simp only [Bool.not_eq_true', Bool.not_eq_false', decide_eq_true_eq, decide_eq_false_iff_not, Int.not_le, Int.not_lt, beq_iff_eq, beq_eq_false_iff_ne, ne_eq, Int.ofNat_eq_natCast, Int.toNat_natCast, List.length_replicate, ncast, Nat.sub_zero, List.drop_zero, Cue.eta, Tie.eta, Edge.eta, Link.eta, Node.eta] at *)
  all_goals first
    | omega
    | (exfalso; have := hg (by omega); first | contradiction | (simp_all; done))
    | (simp only [wrap_succ (show i < 9223372036854775807 by omega), wrap_inc (q := q) (by omega) (by omega)]
       refine ⟨(ih (by omega)).same ?_ rfl⟩
       rw [hq, show k + ((i + 1 : Nat) : Int) = k + i + 1 by omega, show ((i + 1 : Nat) : Int) = i + 1 by omega]
       rfl)
    | (obtain rfl : i = n := by omega
       subst hq; rfl)
    | trace_state
def wHeldI (g : Int → Nat → Int) (f : Int → Nat → List Int) (ln : List Int → Nat) : Wr := w2 dcIs dcI (fun l k => rI (g k (ln l))) (fun l k => [Same l (f k (ln l)), LLe l maxLen, IAdd k (ln l)])
theorem wHeldI_ok : WrOK Try.prog 17 (wHeldI addI markI List.length) := w2_ok fun l k h => by
  have e := (h _ (.head _)).out
  have h1 := (h _ (.tail _ (.head _))).out
  have h2 := (h _ (.tail _ (.tail _ (.head _)))).out
  have := heldIntS_ok k l.length h1 h2
  rwa [← e] at this
end Go.Proofs.Ytececadpjelanaa.Ai
