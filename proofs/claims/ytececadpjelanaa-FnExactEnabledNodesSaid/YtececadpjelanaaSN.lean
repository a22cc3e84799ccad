/- Nodes of cues. -/
import Derived.Test.YtececadpjelanaaTy
import Derived.Test.YtececadpjelanaaSU
namespace Go.Proofs.Ytececadpjelanaa.Ai
open Go
set_option maxRecDepth 100000
set_option linter.unusedVariables false
set_option linter.unusedSimpArgs false
def wid (q : Cue) : Nat := if q.max = 0 then 1 else 2
def nAt (cs : List Cue) (i : Nat) : Nat := 1 + ((cs.take i).map wid).sum
theorem nAt_zero (cs : List Cue) : nAt cs 0 = 1 := rfl
theorem nAt_succ {cs : List Cue} {i : Nat} (h : i < cs.length) : nAt cs (i + 1) = nAt cs i + wid (cs.getD i Cue.z) := by
  unfold nAt
  rw [List.take_add_one, List.getElem?_eq_getElem h, getD_get h, Option.toList_some, List.map_append, List.sum_append, List.map_cons, List.map_nil, List.sum_cons, List.sum_nil]
  omega
theorem nAt_le (cs : List Cue) : ∀ i, nAt cs i ≤ 1 + 2 * i
  | 0 => Nat.le_refl _
  | i + 1 => by
    by_cases h : i < cs.length
    · rw [nAt_succ h]
      have := nAt_le cs i
      have : wid (cs.getD i Cue.z) ≤ 2 := by unfold wid; split <;> omega
      omega
    · have h1 : nAt cs (i + 1) = nAt cs i := by unfold nAt; rw [List.take_of_length_le (by omega), List.take_of_length_le (by omega)]
      have := nAt_le cs i
      omega
def begL (cs : List Cue) (i : Nat) : List Int := (List.range i).map fun j => (nAt cs j : Int)
def endA (cs : List Cue) (j : Nat) : Int := if (cs.getD j Cue.z).max = 0 then -1 else (nAt cs j : Int) + 1
def endL (cs : List Cue) (i : Nat) : List Int := (List.range i).map (endA cs)
theorem begL_succ (cs : List Cue) (i : Nat) : begL cs (i + 1) = begL cs i ++ [(nAt cs i : Int)] := by simp [begL, List.range_succ]
theorem endL_succ (cs : List Cue) (i : Nat) : endL cs (i + 1) = endL cs i ++ [endA cs i] := by simp [endL, List.range_succ]
theorem begL_len (cs : List Cue) (i : Nat) : (begL cs i).length = i := by simp [begL]
theorem endL_len (cs : List Cue) (i : Nat) : (endL cs i).length = i := by simp [endL]
theorem set_last {α : Type} (l : List α) (a b : α) {n : Nat} (h : n = l.length) : (l ++ [a]).set n b = l ++ [b] := by subst h; simp
def rPlaces (t : Sheet) : TV W := .tup [(false, [.osl (.i (begL t.cues t.cues.length))]), (false, [.osl (.i (endL t.cues t.cues.length))]), (false, [.fz (.int .i64 (nAt t.cues t.cues.length))])]
theorem endA_eq (t : Sheet) (i : Nat) : (nAt t.cues i : Int) + (if (t.cues.getD i Cue.z).max = 0 then 0 else 1) = if (t.cues.getD i Cue.z).max = 0 then (nAt t.cues i : Int) else nAt t.cues i + 1 := by split <;> omega
/-- A number up to a list's length. -/
structure InR {α : Type} (c : Int) (l : List α) : Prop where out : 0 ≤ c ∧ c ≤ l.length
def wBegin (f : Sheet → Nat → Nat) : Wr := w2 dcSheet dcI (fun t c => rI (f t c.toNat)) (fun t c => [LLe t.cues 6, InR c t.cues])
def endI (cs : List Cue) (i : Nat) : Int := if (cs.getD i Cue.z).max = 0 then (nAt cs i : Int) else nAt cs i + 1
/-- An index of a list. -/
structure InX {α : Type} (c : Int) (l : List α) : Prop where out : 0 ≤ c ∧ c < l.length
def wEnd (f : Sheet → Nat → Int) : Wr := w2 dcSheet dcI (fun t c => rI (f t c.toNat)) (fun t c => [LLe t.cues 6, InX c t.cues])
def isNodeB (n x : Int) : Bool := decide (0 ≤ x ∧ x < n)
theorem isNode_ok (n m : Int) : SCall Try.prog 81 [aI n, aI m] (rB (isNodeB n m)) := by
  refine SCall.of X81_ok (fn := Try.f81) (c := Try.f81.body.getD .skip) (dr := fun n => look 0 [] n) Try.func81 rfl (by kernel_rfl) (by kernel_rfl) (by kernel_rfl) ?_
  refine SEx.go (X := X81) X81_ok (fun n => look [] [] n) (fun _ => none) oraL_nil 60 ?_
  intro M R L N hM hAnd hImp hR hL hN
  cases M
  cbv
  repeat' first | (refine hAnd _ _ ?_ ?_) | (refine hImp _ _ (fun h => ?_)) | (refine hR _ ?_) | (refine hL _ _ (Hd.out ?_); try first | rw [hks] | rw [hk2] | rw [hk3]) | (refine hN _ _ ?_; cbv)
  all_goals (clear hAnd hImp hR hL hN; try clear hks; try clear hk2; try clear hk3)
  all_goals (cases hM; try dsimp only)
  all_goals (try simp only [Bool.not_eq_true', Bool.not_eq_false', decide_eq_true_eq, decide_eq_false_iff_not, Int.not_le, Int.not_lt, beq_iff_eq, beq_eq_false_iff_ne, ne_eq, Int.ofNat_eq_natCast, Int.toNat_natCast, List.length_replicate, ncast, Nat.sub_zero, List.drop_zero, Cue.eta, Tie.eta, Edge.eta, Link.eta, Node.eta] at *)
  all_goals simp only [er_B, isNodeB]
  all_goals (first | (rw [decide_eq_false (by omega)]; done) | (symm; apply decide_eq_decide.2; omega) | (rw [Bool.eq_iff_iff]; simp; omega))
def wIsNode (f : Int → Int → Bool) : Wr := w2 dcI dcI (fun x y => rB (f x y)) (fun _ _ => [])
theorem wIsNode_ok : WrOK Try.prog 81 (wIsNode isNodeB) := w2_ok fun x y _ => isNode_ok x y
theorem sheet_six {t : Sheet} (h : sheetB t = true) : t.cues.length ≤ 6 := by
  simp only [sheetB, Bool.and_eq_true, decide_eq_true_eq] at h
  exact h.1.2.1
def rPl (b e : Sheet → List Int) (n : Sheet → Nat) (t : Sheet) : TV W := .tup [(false, [.osl (.i (b t))]), (false, [.osl (.i (e t))]), (false, [.fz (.int .i64 (n t))])]
def wPlaces (b e : Sheet → List Int) (n : Sheet → Nat) : Wr := w1 dcSheet (rPl b e n) (fun t => [LLe t.cues 6])
def beginN (t : Sheet) (c : Int) : Int := if sheetB t = true ∧ isNodeB t.cues.length c = true then (nAt t.cues c.toNat : Int) else -1
def endN (t : Sheet) (c : Int) : Int := if sheetB t = true ∧ isNodeB t.cues.length c = true then endA t.cues c.toNat else -1
def hitP (t : Sheet) (v : Int) (j : Nat) : Bool := decide (v = nAt t.cues j) || decide (v = endI t.cues j)
def cueOf (t : Sheet) (v : Int) : Int := if sheetB t = true then idxF (hitP t v) (List.range t.cues.length) 0 else -1
theorem nAt_mono (cs : List Cue) {i j : Nat} (hij : i < j) (hj : j ≤ cs.length) : nAt cs i + wid (cs.getD i Cue.z) ≤ nAt cs j := by
  induction j with
  | zero => omega
  | succ j ih =>
    rw [nAt_succ (by omega)]
    have hw : 1 ≤ wid (cs.getD j Cue.z) := by unfold wid; split <;> omega
    by_cases e : i = j
    · subst e; exact Nat.le_refl _
    · have := ih (by omega) (by omega)
      omega
theorem nAt_ge (cs : List Cue) (i : Nat) : 1 ≤ nAt cs i := by unfold nAt; omega
theorem idxF_or {α : Type} {p q r : α → Bool} (l : List α) (n : Nat) (h : ∀ x ∈ l, p x = (q x || r x)) (hx : (∀ x ∈ l, q x = false) ∨ (∀ x ∈ l, r x = false)) : idxF p l n = max (idxF q l n) (idxF r l n) := by
  rcases hx with hx | hx
  · rw [idxF_none l n hx, idxF_congr l n (q := r) fun x hm => by rw [h x hm, hx x hm]; rfl]
    have := idxF_ge r l n
    omega
  · rw [idxF_none l n hx, idxF_congr l n (q := q) fun x hm => by rw [h x hm, hx x hm]; simp]
    have := idxF_ge q l n
    omega
/-- One number is the begin or the end of at most one cue. -/
theorem cueOf_max (t : Sheet) (v : Int) (hv : 1 ≤ v) : idxF (hitP t v) (List.range t.cues.length) 0 = max (idxF (fun x => v == x) (begL t.cues t.cues.length) 0) (idxF (fun x => v == x) (endL t.cues t.cues.length) 0) := by
  unfold begL endL
  rw [idxF_map, idxF_map]
  refine idxF_or _ _ (fun j _ => ?_) ?_
  · rw [Bool.eq_iff_iff]
    simp only [hitP, Bool.or_eq_true, decide_eq_true_eq, beq_iff_eq]
    unfold endI endA
    by_cases h : (t.cues.getD j Cue.z).max = 0
    · rw [if_pos h, if_pos h]; omega
    · rw [if_neg h, if_neg h]
  · by_cases hb : ∃ i, i < t.cues.length ∧ v = (nAt t.cues i : Int)
    · right
      intro j hj
      have hj := List.mem_range.1 hj
      obtain ⟨i, hi, hvi⟩ := hb
      simp only [beq_eq_false_iff_ne, ne_eq, endA]
      split
      · omega
      · rename_i h
        intro hv2
        have hw : wid (t.cues.getD j Cue.z) = 2 := by unfold wid; rw [if_neg h]
        have : nAt t.cues i = nAt t.cues j + 1 := by omega
        rcases Nat.lt_or_ge j i with h3 | h3
        · have := nAt_mono t.cues h3 (by omega); omega
        · rcases Nat.lt_or_ge i j with h4 | h4
          · have := nAt_mono t.cues h4 (by omega); omega
          · have : i = j := by omega
            subst this; omega
    · left
      intro j hj
      have hj := List.mem_range.1 hj
      simp only [beq_eq_false_iff_ne, ne_eq]
      intro h
      exact hb ⟨j, hj, h⟩
theorem cueOf_low (t : Sheet) (v : Int) (hv : v < 1) : idxF (hitP t v) (List.range t.cues.length) 0 = -1 := by
  refine idxF_none _ _ fun j _ => ?_
  have := nAt_ge t.cues j
  simp only [hitP, Bool.or_eq_false_iff, decide_eq_false_iff_not]
  refine ⟨by omega, ?_⟩
  unfold endI
  split <;> omega
def wSheetI (f : Sheet → Int → Int) : Wr := w2 dcSheet dcI (fun t c => rI (f t c)) (fun t _ => [LLe t.cues maxLen, LLe t.prep maxLen, NamesOk t.cues])
end Go.Proofs.Ytececadpjelanaa.Ai
