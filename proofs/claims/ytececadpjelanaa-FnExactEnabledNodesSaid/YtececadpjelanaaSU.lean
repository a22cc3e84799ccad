/- Users of a device. -/
import Derived.Test.YtececadpjelanaaTy
import Derived.Test.YtececadpjelanaaOB
namespace Go.Proofs.Ytececadpjelanaa.Ai
open Go
set_option maxRecDepth 100000
set_option linter.unusedVariables false
set_option linter.unusedSimpArgs false
def uL (cs : List Cue) (d : Int) (i : Nat) : List Int := ((List.range i).filter fun j => (cs.getD j Cue.z).device == d).map fun (j : Nat) => (j : Int)
theorem uL_yes {cs : List Cue} {d : Int} {i : Nat} (h : (cs.getD i Cue.z).device = d) : uL cs d (i + 1) = uL cs d i ++ [(i : Int)] := by
  simp only [uL, List.range_succ, List.filter_append, List.map_append, List.filter_cons, List.filter_nil, h, beq_self_eq_true, if_true, List.map_cons, List.map_nil]
theorem uL_no {cs : List Cue} {d : Int} {i : Nat} (h : ¬(cs.getD i Cue.z).device = d) : uL cs d (i + 1) = uL cs d i := by
  have : ((cs.getD i Cue.z).device == d) = false := beq_eq_false_iff_ne.2 h
  simp only [uL, List.range_succ, List.filter_append, List.map_append, List.filter_cons, List.filter_nil, this, Bool.false_eq_true, if_false, List.map_nil, List.append_nil]
theorem uL_len (cs : List Cue) (d : Int) (i : Nat) : (uL cs d i).length ≤ i := by
  simp only [uL, List.length_map]
  exact Nat.le_trans (List.length_filter_le _ _) (by simp)
def rUs (l : List Int) : TV W := .v (false, [.osl (.i l)])
def wUsers (f : Sheet → Int → List Int) : Wr := w2 dcSheet dcI (fun t d => rUs (f t d)) (fun t d => [LLe t.cues 1048576])
def usersF (t : Sheet) (d : Int) : List Int := uL t.cues d t.cues.length
theorem usersF_len {t : Sheet} {d : Int} (h : t.cues.length ≤ 1048576) : (usersF t d).length ≤ 1048576 := Nat.le_trans (uL_len _ _ _) h
end Go.Proofs.Ytececadpjelanaa.Ai
