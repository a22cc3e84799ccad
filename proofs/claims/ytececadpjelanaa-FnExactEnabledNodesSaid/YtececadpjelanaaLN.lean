/- Ties that are late; states that are broken, or over. -/
import Derived.Test.YtececadpjelanaaTy
import Derived.Test.YtececadpjelanaaLM
namespace Go.Proofs.Ytececadpjelanaa.Ai
open Go
set_option maxRecDepth 100000
set_option linter.unusedVariables false
set_option linter.unusedSimpArgs false
def labI (l v : List Int) : Int := labF v l 1
def wLabState (f : List Int → List Int → Int) : Wr := w2 dcIs dcIs (fun l v => rI (f l v)) (fun l v => [LabT l, ValT v])
theorem wLabState_ok : WrOK Try.prog 47 (wLabState labI) := w2_ok fun l v h => specLabState_ok l v (h _ (.head _)).out (h _ (.tail _ (.head _))).out
def wNodeState (f : Show → State → Int → Int) : Wr := w3 dcShow dcState dcI (fun t x i => rI (f t x i)) (fun t x i => [StLe t x, StT t x, InX i t.nodes])
theorem wNodeState_ok : WrOK Try.prog 55 (wNodeState nsI) := w3_ok fun t x i h => nodeState_ok t x i (h _ (.head _)) (h _ (.tail _ (.head _))) (h _ (.tail _ (.tail _ (.head _)))).out
structure TieT (t : Show) (q : Tie) : Prop where
  src : 0 ≤ q.src ∧ q.src < t.nodes.length
  dst : 0 ≤ q.dst ∧ q.dst < t.nodes.length
theorem showB_tie {t : Show} (h : showB t = true) {q : Tie} (hq : q ∈ t.ties) : TieT t q := by
  have hn := showB_len h
  unfold showB tiesB at h
  simp only [Bool.and_eq_true] at h
  obtain ⟨i, hi⟩ := allF_mem h.2.2.1.1 hq
  unfold tieB at hi
  rw [Bool.and_eq_true, decide_eq_true_eq] at hi
  exact ⟨by omega, by omega⟩
def lateB (t : Show) (x : State) (q : Tie) : Bool :=
  if ¬ x.times.getD q.src.toNat 0 = -1 ∧ ¬ x.times.getD q.dst.toNat 0 = -1 then !(decide (q.low ≤ x.times.getD q.dst.toNat 0 - x.times.getD q.src.toNat 0) && decide (x.times.getD q.dst.toNat 0 - x.times.getD q.src.toNat 0 ≤ q.high))
  else if q.free = true then false
  else if ¬ x.times.getD q.src.toNat 0 = -1 then decide (nsI t x q.dst = 1) && decide (q.high < x.now - x.times.getD q.src.toNat 0)
  else if ¬ x.times.getD q.dst.toNat 0 = -1 then decide (nsI t x q.src = 1) && decide (x.times.getD q.dst.toNat 0 - x.now < q.low)
  else false
theorem allF_Rn {α : Type} {p : Nat → α → Bool} (z : α) : ∀ (l : List α) (n : Nat), allF p l n = allR (fun i => p (n + i) (l.getD i z)) l.length
  | [], n => rfl
  | a :: r, n => by
    unfold allF allR
    rw [List.length_cons, List.range_succ_eq_map, List.all_cons, List.all_map, allF_Rn z r (n + 1)]
    show (p n a && _) = (p n a && _)
    congr 1
    unfold allR
    congr 1
    funext i
    show p (n + 1 + i) _ = p (n + (i + 1)) _
    rw [show n + 1 + i = n + (i + 1) by omega]
    rfl
theorem allF_R {α : Type} {p : Nat → α → Bool} (z : α) (l : List α) : allF p l 0 = allR (fun i => p i (l.getD i z)) l.length := by
  rw [allF_Rn z l 0]; simp only [Nat.zero_add]
def overP (t : Show) (x : State) (i : Nat) : Bool := !(decide (x.times.getD i 0 = -1) && decide (0 ≤ nsI t x i))
def overB (t : Show) (x : State) : Bool := allR (overP t x) t.nodes.length
def brokenB (t : Show) (x : State) : Bool := !(allF (fun _ q => !lateB t x q) t.ties 0 && (decide (x.now ≤ t.hor) || overB t x))
end Go.Proofs.Ytececadpjelanaa.Ai
