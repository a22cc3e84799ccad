/- Words that all texts use. -/
import Derived.Test.YtlmejcmnmdleaaaTy
namespace Go.Proofs.Ytlmejcmnmdleaaa.Ai
open Go
set_option maxRecDepth 100000
set_option linter.unusedVariables false
set_option linter.unusedSimpArgs false
def bI (n : Int) : TV B := .v (false, [.fz (.int .i64 n)])
def bL (x : LL) : TV B := .v (false, [.fz (.sl x)])
def bR (r len : Nat) : TV B := .v (false, [.rf (r, []) true 0 len])
/-- A loop over an index. -/
theorem SEx.idx {P : Program} {T : Nat → Option Ty} {dr : Nat → Nat} {rs : Array ResultVar} {ks : List K} (n : Nat) (f : Nat → SF) (R : Nat → TV W)
    (step : ∀ i, i ≤ n → (i < n → SEx P T dr rs ks (f (i + 1)) (R (i + 1))) → SEx P T dr rs ks (f i) (R i)) : SEx P T dr rs ks (f 0) (R 0) :=
  SEx.ind f R (fun i => i ≤ n) (fun i => n - i) 0 (Nat.zero_le _) fun i hi ih => step i hi fun h => ih (i + 1) (by omega) (by omega)
/-- Both are the same. -/
structure Same {α : Type} (a b : α) : Prop where out : a = b
structure LLe {α : Type} (l : List α) (n : Nat) : Prop where out : l.length ≤ n
theorem wrap_i64 {n : Int} (h1 : -9223372036854775808 ≤ n) (h2 : n ≤ 9223372036854775807) : IntKind.i64.wrap n = n := IntWalk.i64_in n ⟨h1, h2⟩
theorem wrap_succ {i : Nat} (h : i < 9223372036854775807) : IntKind.i64.wrap ((i : Int) + 1) = ((i + 1 : Nat) : Int) := by
  rw [wrap_i64 (by omega) (by omega)]; rfl
/-- Held back. -/
structure Hd (p : Prop) : Prop where out : p
theorem lim_ge : (1048576 : Int) ≤ lim := by decide
theorem getD_get {α : Type} {l : List α} {i : Nat} {z : α} (h : i < l.length) : l.getD i z = l[i] := by rw [List.getD_eq_getElem?_getD, List.getElem?_eq_getElem h, Option.getD_some]
structure Mem {α : Type} (x : α) (l : List α) : Prop where out : x ∈ l
theorem mem_getD {α : Type} {l : List α} {i : Nat} {z : α} (h : i < l.length) : Mem (l.getD i z) l := ⟨by rw [List.getD_eq_getElem?_getD, List.getElem?_eq_getElem h, Option.getD_some]; exact List.getElem_mem _⟩
end Go.Proofs.Ytlmejcmnmdleaaa.Ai
