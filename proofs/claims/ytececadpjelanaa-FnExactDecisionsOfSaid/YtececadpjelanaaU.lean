/- Words that all texts use. -/
import Derived.Test.YtececadpjelanaaTy
namespace Go.Proofs.Ytececadpjelanaa.Ai
open Go
set_option maxRecDepth 100000
set_option linter.unusedVariables false
set_option linter.unusedSimpArgs false
def bI (n : Int) : TV B := .v (false, [.fz (.int .i64 n)])
def bS (s : ByteArray) : TV B := .v (false, [.fz (.str s)])
def bL (x : LL) : TV B := .v (false, [.fz (.sl x)])
def bR (r len : Nat) : TV B := .v (false, [.rf (r, []) true 0 len])
def bP (r : Nat) : TV B := .v (false, [.pp (r, []) (true, 0) 0])
/-- A loop over an index. -/
theorem SEx.idx {P : Program} {T : Nat → Option Ty} {dr : Nat → Nat} {rs : Array ResultVar} {ks : List K} (n : Nat) (f : Nat → SF) (R : Nat → TV W)
    (step : ∀ i, i ≤ n → (i < n → SEx P T dr rs ks (f (i + 1)) (R (i + 1))) → SEx P T dr rs ks (f i) (R i)) : SEx P T dr rs ks (f 0) (R 0) :=
  SEx.ind f R (fun i => i ≤ n) (fun i => n - i) 0 (Nat.zero_le _) fun i hi ih => step i hi fun h => ih (i + 1) (by omega) (by omega)
/-- A loop over an index, with a state. -/
theorem SEx.idxS {P : Program} {T : Nat → Option Ty} {dr : Nat → Nat} {rs : Array ResultVar} {ks : List K} {α : Type} (n : Nat) (f : Nat → α → SF) (R : Nat → α → TV W) (Inv : Nat → α → Prop) (s0 : α) (h0 : Inv 0 s0)
    (step : ∀ i s, i ≤ n → Inv i s → (∀ s', i < n → Inv (i + 1) s' → SEx P T dr rs ks (f (i + 1) s') (R (i + 1) s')) → SEx P T dr rs ks (f i s) (R i s)) : SEx P T dr rs ks (f 0 s0) (R 0 s0) :=
  SEx.ind (fun x : Nat × α => f x.1 x.2) (fun x => R x.1 x.2) (fun x => x.1 ≤ n ∧ Inv x.1 x.2) (fun x => n - x.1) (0, s0) ⟨Nat.zero_le _, h0⟩ fun x hx ih => step x.1 x.2 hx.1 hx.2 fun s' h hI => ih (x.1 + 1, s') ⟨by show x.1 + 1 ≤ n; omega, hI⟩ (by show n - (x.1 + 1) < n - x.1; omega)
/-- Both are the same. -/
structure Same {α : Type} (a b : α) : Prop where out : a = b
structure LLe {α : Type} (l : List α) (n : Nat) : Prop where out : l.length ≤ n
theorem wrap_i64 {n : Int} (h1 : -9223372036854775808 ≤ n) (h2 : n ≤ 9223372036854775807) : IntKind.i64.wrap n = n := IntWalk.i64_in n ⟨h1, h2⟩
theorem wrap_succ {i : Nat} (h : i < 9223372036854775807) : IntKind.i64.wrap ((i : Int) + 1) = ((i + 1 : Nat) : Int) := by
  rw [wrap_i64 (by omega) (by omega)]; rfl
/-- A text's length is a length. -/
structure SLen (s : ByteArray) : Prop where out : s.size ≤ maxLen
/-- A number that is not negative, in range. -/
structure IRng (n : Int) : Prop where out : 0 ≤ n ∧ n ≤ 9223372036854775807
/-- Held back. -/
structure Hd (p : Prop) : Prop where out : p
theorem lim_ge : (1048576 : Int) ≤ lim := by decide
theorem getD_get {α : Type} {l : List α} {i : Nat} {z : α} (h : i < l.length) : l.getD i z = l[i] := by rw [List.getD_eq_getElem?_getD, List.getElem?_eq_getElem h, Option.getD_some]
def eqS (a b : ByteArray) : Bool := a.toList == b.toList
/-- The first index from n on. -/
def idxF {α : Type} (p : α → Bool) : List α → Nat → Int
  | [], _ => -1
  | a :: r, n => if p a = true then n else idxF p r (n + 1)
theorem idxF_at {α : Type} {p : α → Bool} {l : List α} {i n : Nat} (z : α) (h : i < l.length) : idxF p (l.drop i) n = if p (l.getD i z) = true then (n : Int) else idxF p (l.drop (i + 1)) (n + 1) := by
  rw [List.drop_eq_getElem_cons h, List.getD_eq_getElem?_getD, List.getElem?_eq_getElem h, Option.getD_some]; rfl
theorem idxF_yes {α : Type} {p : α → Bool} {l : List α} {i n : Nat} (z : α) (h : i < l.length) (hp : p (l.getD i z) = true) : idxF p (l.drop i) n = n := by rw [idxF_at z h, if_pos hp]
theorem idxF_no {α : Type} {p : α → Bool} {l : List α} {i n : Nat} (z : α) (h : i < l.length) (hp : p (l.getD i z) = false) : idxF p (l.drop i) n = idxF p (l.drop (i + 1)) (n + 1) := by rw [idxF_at z h, hp]; rfl
theorem idxF_end {α : Type} {p : α → Bool} {l : List α} {i n : Nat} (h : l.length ≤ i) : idxF p (l.drop i) n = -1 := by rw [List.drop_eq_nil_of_le h]; rfl
/-- The call is the closure's. -/
structure IsCall (g' g : FuncId) (r : List (V1 D)) (caps : List D) : Prop where
  fn : g' = g
  caps : r = capsD caps
structure Mem {α : Type} (x : α) (l : List α) : Prop where out : x ∈ l
theorem mem_getD {α : Type} {l : List α} {i : Nat} {z : α} (h : i < l.length) : Mem (l.getD i z) l := ⟨by rw [List.getD_eq_getElem?_getD, List.getElem?_eq_getElem h, Option.getD_some]; exact List.getElem_mem _⟩
/-- A predicate that came in as a closure, asked of the elements of l. -/
def oraP {α : Type} (d : Dc α) (g : FuncId) (caps : List D) (l : List α) (p : α → Bool) : SOra := fun g' as' => match as' with
  | x :: r => (match d.dec x with
    | some q => some ([IsCall g' g r caps, Mem q l], rB (p q))
    | none => none)
  | [] => none
theorem oraP_ok {P : Program} {α : Type} {d : Dc α} {g : FuncId} {caps : List D} {l : List α} {p : α → Bool} (hp : ∀ q ∈ l, SCall P g (d.enc q :: capsD caps) (rB (p q))) : SOraOK P (oraP d g caps l p) := by
  intro g' as'
  unfold oraP
  split
  · split
    · rename_i hx
      refine R.Sim.mk fun hq => ?_
      obtain ⟨rfl, rfl⟩ := hq _ (.head _)
      exact (hp _ (hq _ (.tail _ (.head _))).out).er (by simp only [vserL, d.ok _ _ hx]) rfl
    · exact R.Sim.none'
  · exact R.Sim.none'
theorem idxF_any {α : Type} (p : α → Bool) : ∀ (l : List α) (n : Nat), decide (0 ≤ idxF p l n) = l.any p
  | [], n => rfl
  | a :: r, n => by
    unfold idxF
    rw [List.any_cons]
    cases h : p a with
    | true => rw [if_pos rfl]; simp
    | false => rw [if_neg (by simp)]; exact idxF_any p r (n + 1)
/-- All from n on. -/
def allF {α : Type} (p : Nat → α → Bool) : List α → Nat → Bool
  | [], _ => true
  | a :: r, n => p n a && allF p r (n + 1)
theorem allF_at {α : Type} {p : Nat → α → Bool} {l : List α} {i n : Nat} (z : α) (h : i < l.length) : allF p (l.drop i) n = (p n (l.getD i z) && allF p (l.drop (i + 1)) (n + 1)) := by
  rw [List.drop_eq_getElem_cons h, List.getD_eq_getElem?_getD, List.getElem?_eq_getElem h, Option.getD_some]; rfl
theorem allF_yes {α : Type} {p : Nat → α → Bool} {l : List α} {i n : Nat} (z : α) (h : i < l.length) (hp : p n (l.getD i z) = true) : allF p (l.drop i) n = allF p (l.drop (i + 1)) (n + 1) := by rw [allF_at z h, hp]; rfl
theorem allF_no {α : Type} {p : Nat → α → Bool} {l : List α} {i n : Nat} (z : α) (h : i < l.length) (hp : p n (l.getD i z) = false) : allF p (l.drop i) n = false := by rw [allF_at z h, hp]; rfl
theorem allF_end {α : Type} {p : Nat → α → Bool} {l : List α} {i n : Nat} (h : l.length ≤ i) : allF p (l.drop i) n = true := by rw [List.drop_eq_nil_of_le h]; rfl
theorem allF_congr {α : Type} {p q : Nat → α → Bool} : ∀ (l : List α) (n : Nat), (∀ i a, l[i]? = some a → p (n + i) a = q (n + i) a) → allF p l n = allF q l n
  | [], _, _ => rfl
  | a :: r, n, h => by
    have h1 : allF p r (n + 1) = allF q r (n + 1) := allF_congr r (n + 1) fun i b hi => by
      have := h (i + 1) b (by simpa using hi)
      rwa [show n + (i + 1) = n + 1 + i by omega] at this
    show (p n a && allF p r (n + 1)) = (q n a && allF q r (n + 1))
    rw [h1, show p n a = q n a from h 0 a rfl]
/-- A list and a closure. -/
def wCl {α : Type} (d : Dc α) (g : FuncId) (caps : List D) (f : α → TV W) (p : α → List Prop) : Wr
  | [x, (false, [.fn g' caps'])] => (match d.dec x with | some l => some (Same g' g :: Same caps' caps :: p l, f l) | none => none)
  | _ => none
theorem wCl_ok {P : Program} {k : FuncId} {α : Type} {d : Dc α} {g : FuncId} {caps : List D} {f : α → TV W} {p : α → List Prop} (h : ∀ l, Holds (p l) → SCall P k [d.enc l, aF g caps] (f l)) : WrOK P k (wCl d g caps f p) := by
  intro xs
  unfold wCl
  split
  · split
    · rename_i hx
      refine R.Sim.mk fun hq => ?_
      obtain ⟨rfl⟩ := hq _ (.head _)
      obtain ⟨rfl⟩ := hq _ (.tail _ (.head _))
      exact (h _ fun r hr => hq r (.tail _ (.tail _ hr))).er (by simp only [vserL, d.ok _ _ hx]; rfl) rfl
    · exact R.Sim.none'
  · exact R.Sim.none'
/-- A loop that may end with 'false': a round that goes on, a round that ends, the end. -/
theorem allF_yes_and {α : Type} {p : Nat → α → Bool} {l : List α} {i : Nat} {c : Bool} (z : α) (h : i < l.length) (hp : p i (l.getD i z) = true) : (allF p (l.drop i) i && c) = (allF p (l.drop (i + 1)) (i + 1) && c) := by rw [allF_yes z h hp]
theorem allF_no_and {α : Type} {p : Nat → α → Bool} {l : List α} {i : Nat} {c : Bool} (z : α) (h : i < l.length) (hp : p i (l.getD i z) = false) : (allF p (l.drop i) i && c) = false := by rw [allF_no z h hp]; rfl
theorem allF_end_and {α : Type} {p : Nat → α → Bool} {l : List α} {i : Nat} {c : Bool} (h : l.length ≤ i) : (allF p (l.drop i) i && c) = c := by rw [allF_end h]; rfl
theorem idxF_lt {α : Type} (p : α → Bool) : ∀ (l : List α) (n : Nat), idxF p l n < n + l.length ∧ (idxF p l n = -1 ∨ (n : Int) ≤ idxF p l n)
  | [], n => by simp [idxF]; omega
  | a :: r, n => by
    have := idxF_lt p r (n + 1)
    unfold idxF
    simp only [List.length_cons]
    split <;> omega
/-- A result is a truth value that is known to be another one. -/
theorem er_via {a b : Bool} (h : b = a) (k : Bool) : eR (.v (false, [.fz (.bool k a)])) = eR (rB b) := by rw [er_B]; exact h.symm
/-- A round of a loop that may end with 'false'. -/
structure LoopB (p A B : Bool) : Prop where
  yes : p = true → A = B
  no : p = false → A = false
theorem LoopB.of {α : Type} (p : Nat → α → Bool) (l : List α) (i : Nat) (c : Bool) (z : α) (h : i < l.length) : LoopB (p i (l.getD i z)) (allF p (l.drop i) i && c) (allF p (l.drop (i + 1)) (i + 1) && c) := ⟨allF_yes_and z h, allF_no_and z h⟩
theorem LoopB.stop {p A B : Bool} (h : LoopB p A B) (k : Bool) (hp : p = false) : eR (.v (false, [.fz (.bool k false)])) = eR (rB A) := er_via (h.no hp) k
theorem LoopB.go {p A B : Bool} (h : LoopB p A B) (hp : p = true) : eR (rB B) = eR (rB A) := by rw [h.yes hp]
end Go.Proofs.Ytececadpjelanaa.Ai
