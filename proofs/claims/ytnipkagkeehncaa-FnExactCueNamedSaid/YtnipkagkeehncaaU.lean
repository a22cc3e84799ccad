/- Words that all texts use. -/
import Derived.Test.YtnipkagkeehncaaTy
namespace Go.Proofs.Ytnipkagkeehncaa.Ai
open Go
set_option maxRecDepth 100000
set_option linter.unusedVariables false
set_option linter.unusedSimpArgs false
def bI (n : Int) : TV B := .v (false, [.fz (.int .i64 n)])
def bS (s : ByteArray) : TV B := .v (false, [.fz (.str s)])
def bL (x : LL) : TV B := .v (false, [.fz (.sl x)])
/-- A loop over an index. -/
theorem SEx.idx {P : Program} {T : Nat → Option Ty} {dr : Nat → Nat} {rs : Array ResultVar} {ks : List K} (n : Nat) (f : Nat → SF) (R : Nat → TV W)
    (step : ∀ i, i ≤ n → (i < n → SEx P T dr rs ks (f (i + 1)) (R (i + 1))) → SEx P T dr rs ks (f i) (R i)) : SEx P T dr rs ks (f 0) (R 0) :=
  SEx.ind f R (fun i => i ≤ n) (fun i => n - i) 0 (Nat.zero_le _) fun i hi ih => step i hi fun h => ih (i + 1) (by omega) (by omega)
def eqS (a b : ByteArray) : Bool := a.toList == b.toList
/-- The first index from n on. -/
def idxF {α : Type} (p : α → Bool) : List α → Nat → Int
  | [], _ => -1
  | a :: r, n => if p a = true then n else idxF p r (n + 1)
theorem idxF_at {α : Type} {p : α → Bool} {l : List α} {i n : Nat} (z : α) (h : i < l.length) : idxF p (l.drop i) n = if p (l.getD i z) = true then (n : Int) else idxF p (l.drop (i + 1)) (n + 1) := by
  rw [List.drop_eq_getElem_cons h, List.getD_eq_getElem?_getD, List.getElem?_eq_getElem h, Option.getD_some]; rfl
theorem idxF_yes {α : Type} {p : α → Bool} {l : List α} {i n : Nat} (z : α) (h : i < l.length) (hp : p (l.getD i z) = true) : idxF p (l.drop i) n = n := by rw [idxF_at z h, if_pos hp]
theorem idxF_no {α : Type} {p : α → Bool} {l : List α} {i n : Nat} (z : α) (h : i < l.length) (hp : p (l.getD i z) = false) : idxF p (l.drop i) n = idxF p (l.drop (i + 1)) (n + 1) := by rw [idxF_at z h, hp]; rfl
theorem idxF_end {α : Type} {p : α → Bool} {l : List α} {i n : Nat} (h : l.length ≤ i) : idxF p (l.drop i) n = -1 := by rw [List.drop_eq_nil_of_le h]; rfl
/-- A closure that has one text by reference. -/
def dcFS (k : Nat) : Dc ByteArray := ⟨fun s => aF k [.ptr [.str s]], fun | (false, [.fn f [.ptr [.str s]]]) => (match nq f k with | true => some s | false => none) | _ => none, by
  intro x a h
  split at h
  · split at h
    · rename_i hk
      obtain rfl := nq_iff.1 hk
      simp only [Option.some.injEq] at h; subst h; rfl
    · cases h
  · cases h⟩
/-- The call is the closure's. -/
structure IsCall (g' g : FuncId) (r : List (V1 D)) (caps : List D) : Prop where
  fn : g' = g
  caps : r = capsD caps
structure Mem {α : Type} (x : α) (l : List α) : Prop where out : x ∈ l
theorem mem_getD {α : Type} {l : List α} {i : Nat} {z : α} (h : i < l.length) : Mem (l.getD i z) l := ⟨by rw [List.getD_eq_getElem?_getD, List.getElem?_eq_getElem h, Option.getD_some]; exact List.getElem_mem _⟩
/-- A predicate that came in as a closure, asked of the elements of l. -/
def oraP {α : Type} (d : Dc α) (g : FuncId) (caps : List D) (l : List α) (p : α → Bool) : SOra := fun g' as' => match as' with
  | x :: r => (match d.dec x with
    | some q => some ([IsCall g' g r caps, Mem q l], rB (p q))
    | none => none)
  | [] => none
theorem oraP_ok {P : Program} {α : Type} {d : Dc α} {g : FuncId} {caps : List D} {l : List α} {p : α → Bool} (hp : ∀ q ∈ l, SCall P g (d.enc q :: capsD caps) (rB (p q))) : SOraOK P (oraP d g caps l p) := by
  intro g' as'
  unfold oraP
  split
  · split
    · rename_i hx
      refine R.Sim.mk fun hq => ?_
      obtain ⟨rfl, rfl⟩ := hq _ (.head _)
      exact (hp _ (hq _ (.tail _ (.head _))).out).er (by simp only [vserL, d.ok _ _ hx]) rfl
    · exact R.Sim.none'
  · exact R.Sim.none'
end Go.Proofs.Ytnipkagkeehncaa.Ai
