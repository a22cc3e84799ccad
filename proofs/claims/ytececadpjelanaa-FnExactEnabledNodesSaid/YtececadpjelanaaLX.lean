/- Marks of shows that are held. -/
import Derived.Test.YtececadpjelanaaTy
import Derived.Test.YtececadpjelanaaLW
namespace Go.Proofs.Ytececadpjelanaa.Ai
open Go
set_option maxRecDepth 100000
set_option linter.unusedVariables false
set_option linter.unusedSimpArgs false
theorem markTi_getD {k : Int} {n i : Nat} (h : i < n) : (markTi k n).getD i Tie.z = mTie (k + 5 * (i : Nat)) := by
  rw [getD_get (by rw [markTi_len]; exact h)]; simp [markTi]
theorem kN_map (k : Int) (l : List Node) (i : Nat) : kN k l i = k + ((((l.map nLen).take i).sum : Nat) : Int) := by
  unfold kN
  rw [List.map_take]
theorem fN_getD {k : Int} {l : List Node} {i : Nat} (h : i < l.length) : (fN k l).getD i Node.z = mNd (kN k l i) (l.getD i Node.z).label.length := by
  rw [getD_get (by rw [fN_len]; exact h)]; simp [fN, mNS]
theorem fN_nLen (k : Int) (l : List Node) : (fN k l).map nLen = l.map nLen := by
  apply List.ext_getElem
  · simp [fN_len]
  · intro i h1 h2
    have h3 : i < l.length := by simpa using h2
    have h4 : i < (fN k l).length := by rw [fN_len]; exact h3
    rw [List.getElem_map, List.getElem_map, ← getD_get (z := Node.z) h4, ← getD_get (z := Node.z) h3, fN_getD h3]
    unfold nLen mNd
    dsimp only
    rw [markI_len]
theorem gN_fN (k : Int) (l : List Node) : gN k (fN k l) = gN k l := by
  unfold gN
  rw [kN_map, kN_map, fN_nLen, fN_len]
theorem fN_fN (k : Int) (l : List Node) : fN k (fN k l) = fN k l := by
  apply List.ext_getElem
  · simp [fN_len]
  · intro i h1 h2
    have h3 : i < l.length := by simpa [fN_len] using h2
    have h4 : i < (fN k l).length := by rw [fN_len]; exact h3
    rw [← getD_get (z := Node.z) h1, ← getD_get (z := Node.z) h2, fN_getD h4, fN_getD h3, kN_map, kN_map, fN_nLen]
    unfold mNd
    dsimp only
    rw [markI_len]
end Go.Proofs.Ytececadpjelanaa.Ai
