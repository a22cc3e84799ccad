/- The abstract interpreter, part 1: abstract data, their meaning in memory, and how the meaning moves from world to world. -/
import Derived.LoopN
import Derived.Orders
import Derived.Tactics
import Derived.Below
import Derived.IntWalk
import Derived.Laws.Cells
import Derived.Laws.AppendOwn
import Derived.Laws.IdiomCopy
import Derived.Laws.Concat
import Derived.Laws.BytesArg
namespace Go.Proofs.Ytlmejcmnmdleaaa.Ai
open Go
set_option linter.unusedSectionVars false

/-- Frozen data, one cell each. -/
inductive C where
  | un
  | int (k : IntKind) (n : Int)
  | bool (b : Bool)
  | str (s : ByteArray)
  | nilsl
  | sl (xs : List (List C))
  | ptr (cs : List C)
  | fn (f : FuncId) (caps : List C)
  deriving Inhabited

/-- What the call itself has made, content in place. -/
inductive O where
  | un
  | fz (c : C)
  | osl (xs : List (List O))
  | obx (cs : List O)
  deriving Inhabited

/-- A place: a root's number and the way down: (element, cell). -/
abbrev Path := Nat × List (Nat × Nat)

/-- What a temporary holds, cell by cell. -/
inductive A where
  | un
  | ud
  | fz (c : C)
  | rf (p : Path) (off len : Nat)
  | pp (p : Path) (i j : Nat)
  | clo (f : FuncId) (caps : List A)
  deriving Inhabited

/-- One value: (is it an aggregate?, its cells). -/
abbrev V1 (α : Type) := Bool × List α
inductive TV (α : Type) where
  | v (x : V1 α)
  | tup (xs : List (V1 α))

/-- Whose a block is: its place, the slice's length and capacity, an element's size. -/
structure Own where
  p : Path
  n : Nat
  cap : Nat
  sz : Nat
abbrev Gh := Nat → Option Own
/-- Blocks that the call must not lean on: the caller's own. -/
class Fence where
  J : Nat → Prop
/-- Nothing is fenced off. -/
@[reducible] def noFence : Fence := ⟨fun _ => False⟩
def Free [Fence] (σ : Gh) (b : Nat) : Prop := σ b = none ∧ ¬ Fence.J b
variable [Fence]

inductive RepC (w : World) (σ : Gh) : C → Value → Prop
  | un (v : Value) (h : v.oneCell' = true) : RepC w σ .un v
  | int (k : IntKind) (n : Int) : RepC w σ (.int k n) (.int k n)
  | bool (b : Bool) : RepC w σ (.bool b) (.bool b)
  | str (s : ByteArray) : RepC w σ (.str s) (.string s)
  | nilsl : RepC w σ .nilsl (.slice none 0 0)
  | sl (xs : List (List C)) (sz : Nat) (a : Option Addr) (cap : Nat) (us : Nat → Nat → Value) (hc : xs.length ≤ cap) (hs : ∀ y ∈ xs, y.length = sz)
      (ha : xs ≠ [] → ∃ ad, a = some ad ∧ ad.spot = none ∧ ad.block < w.heap.size ∧ Free σ ad.block)
      (hm : ∀ ad, a = some ad → ∀ i j y c, xs[i]? = some y → y[j]? = some c → w.cell? (ad.add (i * sz + j)) = some (us i j))
      (hr : ∀ i j y c, xs[i]? = some y → y[j]? = some c → RepC w σ c (us i j)) : RepC w σ (.sl xs) (.slice a xs.length cap)
  | ptr (cs : List C) (ad : Addr) (us : Nat → Value) (hp : ad.spot = none) (hlt : ad.block < w.heap.size) (hb : Free σ ad.block)
      (hm : ∀ j c, cs[j]? = some c → w.cell? (ad.add j) = some (us j))
      (hr : ∀ j c, cs[j]? = some c → RepC w σ c (us j)) : RepC w σ (.ptr cs) (.pointer (some ad))
  | fn (f : FuncId) (caps : List C) (vs : Array Value) (us : Nat → Value) (hl : vs.size = caps.length) (hm : ∀ j c, caps[j]? = some c → vs[j]? = some (us j))
      (hr : ∀ j c, caps[j]? = some c → RepC w σ c (us j)) : RepC w σ (.fn f caps) (.func (.func f) #[] vs)

inductive RepO (w : World) (σ : Gh) : Path → O → Value → Prop
  | un (p : Path) (v : Value) (h : v.oneCell' = true) : RepO w σ p .un v
  | fz (p : Path) (c : C) (v : Value) (h : RepC w σ c v) : RepO w σ p (.fz c) v
  | oslz (p : Path) (a : Option Addr) : RepO w σ p (.osl []) (.slice a 0 0)
  | osl (p : Path) (xs : List (List O)) (e : TypeId) (sz g cap : Nat) (cur : Array Value) (us : Nat → Nat → Value)
      (hh : w.heap[g]? = some (.cells cur e (0, 0))) (hc : 0 < xs.length ∧ xs.length ≤ cap) (hcm : cap ≤ maxLen) (hl : cur.size = cap * sz) (hs : ∀ y ∈ xs, y.length = sz)
      (hg : σ g = some ⟨p, xs.length, cap, sz⟩)
      (hm : ∀ i j y o, xs[i]? = some y → y[j]? = some o → cur[i * sz + j]? = some (us i j))
      (hr : ∀ i j y o, xs[i]? = some y → y[j]? = some o → RepO w σ (p.1, p.2 ++ [(i, j)]) o (us i j)) : RepO w σ p (.osl xs) (.slice (some ⟨g, 0, none⟩) xs.length cap)
  | obx (p : Path) (cs : List O) (g : Nat) (e : TypeId) (cells : Array Value) (us : Nat → Value) (n cap sz : Nat)
      (hh : w.heap[g]? = some (.cells cells e (0, 0))) (hl : cells.size = cs.length) (hg : σ g = some ⟨p, n, cap, sz⟩)
      (hm : ∀ j o, cs[j]? = some o → cells[j]? = some (us j))
      (hr : ∀ j o, cs[j]? = some o → RepO w σ (p.1, p.2 ++ [(0, j)]) o (us j)) : RepO w σ p (.obx cs) (.pointer (some ⟨g, 0, none⟩))

inductive RepA (w : World) (σ : Gh) : A → Value → Prop
  | un (v : Value) : RepA w σ .un v
  | ud : RepA w σ .ud (.tuple #[])
  | fz (c : C) (v : Value) (h : RepC w σ c v) : RepA w σ (.fz c) v
  | rf (p : Path) (off len g n cap sz : Nat) (hg : σ g = some ⟨p, n, cap, sz⟩) (hl : off + len ≤ n) (hn : n ≤ cap) : RepA w σ (.rf p off len) (.slice (some ⟨g, off * sz, none⟩) len (cap - off))
  | rz (p : Path) (off : Nat) (a : Option Addr) : RepA w σ (.rf p off 0) (.slice a 0 0)
  | pp (p : Path) (i j g n cap sz : Nat) (hg : σ g = some ⟨p, n, cap, sz⟩) : RepA w σ (.pp p i j) (.pointer (some ⟨g, i * sz + j, none⟩))
  | clo (f : FuncId) (caps : List A) (vs : Array Value) (us : Nat → Value) (hl : vs.size = caps.length) (hm : ∀ j c, caps[j]? = some c → vs[j]? = some (us j))
      (hr : ∀ j c, caps[j]? = some c → RepA w σ c (us j)) : RepA w σ (.clo f caps) (.func (.func f) #[] vs)

/-- How a value's cells are meant, whatever the meaning of one cell. -/
def RepV {α : Type} (R : Nat → α → Value → Prop) : V1 α → Value → Prop
  | (false, [a]), v => R 0 a v
  | (true, as), v => ∃ cs : Array Value, v = .agg cs ∧ cs.size = as.length ∧ ∀ j a, as[j]? = some a → ∃ u, cs[j]? = some u ∧ R j a u
  | _, _ => False
def RepT {α : Type} (R : Nat → Nat → α → Value → Prop) : TV α → Value → Prop
  | .v x, v => RepV (R 0) x v
  | .tup xs, v => ∃ vs : Array Value, v = .tuple vs ∧ vs.size = xs.length ∧ ∀ k x, xs[k]? = some x → ∃ u, vs[k]? = some u ∧ RepV (R k) x u

/-! ### moving from world to world -/
/-- What is nobody's stays as it was. -/
structure Stays (w : World) (σ : Gh) (w' : World) (σ' : Gh) : Prop where
  none_ : ∀ b, b < w.heap.size → σ b = none → σ' b = none
  heap_ : ∀ b, b < w.heap.size → σ b = none → w'.heap[b]? = w.heap[b]?

theorem cell_block {w : World} {a : Addr} {u : Value} (h : w.cell? a = some u) : a.block < w.heap.size := World.block_lt_of_cell? w a h
theorem add_block (a : Addr) (n : Nat) : (a.add n).block = a.block := by unfold Addr.add; split <;> rfl
theorem cell_same {w w' : World} {a : Addr} {u : Value} (h : w.cell? a = some u) (hb : w'.heap[a.block]? = w.heap[a.block]?) : w'.cell? a = some u := by
  rw [World.cell?_of_block hb]; exact h

theorem heap_lt {w : World} {g : Nat} {o : Obj} (hh : w.heap[g]? = some o) : g < w.heap.size := by
  rcases Nat.lt_or_ge g w.heap.size with h | h
  · exact h
  · simp [Array.getElem?_eq_none h] at hh

theorem RepC.move {w w' : World} {σ σ' : Gh} (hsz : w.heap.size ≤ w'.heap.size) (hst : Stays w σ w' σ') {c : C} {v : Value} (h : RepC w σ c v) : RepC w' σ' c v := by
  induction h with
  | un v h => exact .un v h
  | int k n => exact .int k n
  | bool b => exact .bool b
  | str s => exact .str s
  | nilsl => exact .nilsl
  | sl xs sz a cap us hc hs ha hm hr ih =>
    refine .sl xs sz a cap us hc hs (fun hne => ?_) ?_ ih
    · obtain ⟨ad, rfl, hsp, hlt, hσ⟩ := ha hne
      exact ⟨ad, rfl, hsp, Nat.lt_of_lt_of_le hlt hsz, hst.none_ _ hlt hσ.1, hσ.2⟩
    · intro ad e i j y c hi hj
      have hne : xs ≠ [] := by intro e; subst e; simp at hi
      obtain ⟨ad', rfl, hsp, hlt, hσ⟩ := ha hne
      injection e with e
      subst e
      exact cell_same (hm _ rfl i j y c hi hj) (by rw [add_block]; exact hst.heap_ _ hlt hσ.1)
  | ptr cs ad us hp hlt hb hm hr ih =>
    exact .ptr cs ad us hp (Nat.lt_of_lt_of_le hlt hsz) ⟨hst.none_ _ hlt hb.1, hb.2⟩ (fun j c hj => cell_same (hm j c hj) (by rw [add_block]; exact hst.heap_ _ hlt hb.1)) ih
  | fn f caps vs us hl hm hr ih => exact .fn f caps vs us hl hm ih

/-- An own object moves with its blocks: its place is p in the old book, p' in the new one. -/
theorem RepO.move {w w' : World} {σ σ' : Gh} (hsz : w.heap.size ≤ w'.heap.size) (hst : Stays w σ w' σ') {p : Path} {o : O} {v : Value} (h : RepO w σ p o v) :
    ∀ p' : Path, (∀ g s n cap sz, σ g = some ⟨(p.1, p.2 ++ s), n, cap, sz⟩ → g < w.heap.size → w'.heap[g]? = w.heap[g]? ∧ σ' g = some ⟨(p'.1, p'.2 ++ s), n, cap, sz⟩) → RepO w' σ' p' o v := by
  induction h with
  | un p v h => exact fun p' _ => .un p' v h
  | fz p c v h => exact fun p' _ => .fz p' c v (h.move hsz hst)
  | oslz p a => exact fun p' _ => .oslz p' a
  | osl p xs e sz g cap cur us hh hc hcm hl hs hg hm hr ih =>
    intro p' hp
    have h0 := hp g [] _ _ _ (by simpa using hg) (heap_lt hh)
    refine .osl p' xs e sz g cap cur us (h0.1.trans hh) hc hcm hl hs (by simpa using h0.2) hm ?_
    intro i j y o hi hj
    refine ih i j y o hi hj (p'.1, p'.2 ++ [(i, j)]) ?_
    intro g s n cap sz hσ hlt
    have := hp g ((i, j) :: s) n cap sz (by simpa using hσ) hlt
    simpa using this
  | obx p cs g e cells us n cap sz hh hl hg hm hr ih =>
    intro p' hp
    have h0 := hp g [] n cap sz (by simpa using hg) (heap_lt hh)
    refine .obx p' cs g e cells us n cap sz (h0.1.trans hh) hl (by simpa using h0.2) hm ?_
    intro j o hj
    refine ih j o hj (p'.1, p'.2 ++ [(0, j)]) ?_
    intro g s n cap sz hσ hlt
    have := hp g ((0, j) :: s) n cap sz (by simpa using hσ) hlt
    simpa using this

theorem RepC.one {w : World} {σ : Gh} {c : C} {v : Value} (h : RepC w σ c v) : v.oneCell' = true := by
  cases h with
  | un _ h => exact h
  | _ => rfl
theorem RepO.one {w : World} {σ : Gh} {p : Path} {o : O} {v : Value} (h : RepO w σ p o v) : v.oneCell' = true := by
  cases h with
  | un _ _ h => exact h
  | fz _ _ _ h => exact h.one
  | _ => rfl

/-- One world later: what is nobody's stays, and the streams. -/
structure Goes (w : World) (σ : Gh) (w' : World) (σ' : Gh) : Prop where
  st : Stays w σ w' σ'
  size : w.heap.size ≤ w'.heap.size
  os : w'.os = w.os
  tape : w'.tape = w.tape
  output : w'.output = w.output
theorem Goes.refl (w : World) (σ : Gh) : Goes w σ w σ := ⟨⟨fun _ _ h => h, fun _ _ _ => rfl⟩, Nat.le_refl _, rfl, rfl, rfl⟩
theorem Goes.trans {w w' w'' : World} {σ σ' σ'' : Gh} (h : Goes w σ w' σ') (k : Goes w' σ' w'' σ'') : Goes w σ w'' σ'' :=
  ⟨⟨fun b hb h0 => k.st.none_ b (Nat.lt_of_lt_of_le hb h.size) (h.st.none_ b hb h0), fun b hb h0 => (k.st.heap_ b (Nat.lt_of_lt_of_le hb h.size) (h.st.none_ b hb h0)).trans (h.st.heap_ b hb h0)⟩,
    Nat.le_trans h.size k.size, k.os.trans h.os, k.tape.trans h.tape, k.output.trans h.output⟩

end Go.Proofs.Ytlmejcmnmdleaaa.Ai
