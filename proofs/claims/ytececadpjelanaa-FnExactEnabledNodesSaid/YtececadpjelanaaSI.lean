/- Sheets, part 2. -/
import Derived.Test.YtececadpjelanaaTy
import Derived.Test.YtececadpjelanaaSH
namespace Go.Proofs.Ytececadpjelanaa.Ai
open Go
set_option maxRecDepth 100000
set_option linter.unusedVariables false
set_option linter.unusedSimpArgs false
def szCueF : List Cue → Int → Int
  | [], n => n
  | q :: r, n => if szCueI q n < 0 then -1 else szCueF r (szCueI q n)
theorem szCueF_drop {l : List Cue} {i : Nat} {m : Int} (z : Cue) (h : i < l.length) : szCueF (l.drop i) m = if szCueI (l.getD i z) m < 0 then -1 else szCueF (l.drop (i + 1)) (szCueI (l.getD i z) m) := by
  rw [List.drop_eq_getElem_cons h, getD_get h]
  rfl
theorem szCueI_le (q : Cue) {m : Int} (h : 0 ≤ m) : szCueI q m ≤ m := by unfold szCueI; split <;> omega
def szCueSI (l : List Cue) (n : Int) : Int := if n < l.length then -1 else szCueF l (n - l.length)
def wToCueS : Wr := w1 dcCues rCues (fun l => [LLe l 1048576])
/-- The names are texts. -/
structure NamesOk (l : List Cue) : Prop where out : ∀ q ∈ l, q.name.size ≤ maxLen
def wSzCueS (f : List Cue → Int → Int) : Wr := w2 dcCues dcI (fun l n => rI (f l n)) (fun l n => [LLe l maxLen, NamesOk l, IRng n])
end Go.Proofs.Ytececadpjelanaa.Ai
