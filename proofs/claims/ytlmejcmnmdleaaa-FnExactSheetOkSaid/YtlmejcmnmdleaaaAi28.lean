/- The abstract interpreter, part 28: what a row reads is data that the interpreter knows. -/
import Derived.Test.YtlmejcmnmdleaaaSyA
import Derived.Carry
import Derived.ChangeShapes
namespace Go.Proofs.Ytlmejcmnmdleaaa.Ai
open Go Go.RowKit
set_option linter.unusedSectionVars false
set_option linter.unusedSimpArgs false

instance fenceFree : Fence := noFence
/-- The shape of plain data. -/
inductive Sh where
  | bool
  | int (k : IntKind)
  | str
  | sl (e : Sh)
  | st (fs : List Sh)
mutual
def Sh.n : Sh → Nat
  | .st fs => Sh.nL fs
  | _ => 1
def Sh.nL : List Sh → Nat
  | [] => 0
  | s :: r => s.n + Sh.nL r
end
mutual
/-- Data of a shape. -/
def Wt : Sh → List C → Prop
  | .bool, xs => ∃ b, xs = [.bool b]
  | .int k, xs => ∃ n, xs = [.int k n] ∧ k.min ≤ n ∧ n ≤ k.max
  | .str, xs => ∃ s, xs = [.str s] ∧ s.size ≤ maxLen
  | .sl e, xs => ∃ ys, xs = [.sl ys] ∧ ys.length ≤ maxLen ∧ ∀ y, y ∈ ys → Wt e y
  | .st fs, xs => WtL fs xs
def WtL : List Sh → List C → Prop
  | [], xs => xs = []
  | s :: r, xs => ∃ a b, xs = a ++ b ∧ Wt s a ∧ WtL r b
end
mutual
theorem Wt.len : (s : Sh) → {xs : List C} → Wt s xs → xs.length = s.n
  | .bool, _, ⟨_, h⟩ => by subst h; rfl
  | .int _, _, ⟨_, h, _⟩ => by subst h; rfl
  | .str, _, ⟨_, h, _⟩ => by subst h; rfl
  | .sl _, _, ⟨_, h, _⟩ => by subst h; rfl
  | .st fs, _, h => WtL.len fs h
theorem WtL.len : (l : List Sh) → {xs : List C} → WtL l xs → xs.length = Sh.nL l
  | [], _, h => by have h : _ = [] := h; subst h; rfl
  | s :: r, _, ⟨a, b, h, h1, h2⟩ => by subst h; simp [Sh.nL, Wt.len s h1, WtL.len r h2]
end
/-- Fields one behind the other. -/
def shL (f : TypeId → Option Sh) (P : Program) : Nat → List Field → Option (List Sh × Nat)
  | off, [] => some ([], off)
  | off, x :: r => match f x.type with
    | some s => if x.offset = off ∧ P.cellsOf x.type = s.n then (match shL f P (off + s.n) r with | some (l, m) => some (s :: l, m) | none => none) else none
    | none => none
def shOf (P : Program) : Nat → TypeId → Option Sh
  | 0, _ => none
  | n + 1, t => match P.underlying t with
    | some .bool => some .bool
    | some (.int k) => some (.int k)
    | some .string => some .str
    | some (.slice e) => match shOf P n e with
      | some s => if P.cellsOf e = s.n ∧ 0 < s.n then some (.sl s) else none
      | none => none
    | some (.struct fs) => match shL (shOf P n) P 0 fs.toList with
      | some (l, m) => if P.cellsOf t = m then some (.st l) else none
      | none => none
    | _ => none
/-- The cells of a row, one by one, as the interpreter knows them. -/
def Knows (w : World) (xs : List C) (cs : List Value) : Prop := xs.length = cs.length ∧ ∀ (j : Nat) (c : C), xs[j]? = some c → ∃ u, cs[j]? = some u ∧ RepN w c u
theorem Knows.one {w : World} {c : C} {u : Value} (h : RepN w c u) : Knows w [c] [u] := ⟨rfl, fun j c' hj => by
  cases j with
  | zero => simp at hj; subst hj; exact ⟨u, rfl, h⟩
  | succ j => simp at hj⟩
theorem Knows.append {w : World} {xs xs' : List C} {cs cs' : List Value} (h : Knows w xs cs) (h' : Knows w xs' cs') : Knows w (xs ++ xs') (cs ++ cs') := by
  refine ⟨by simp [h.1, h'.1], fun j c hj => ?_⟩
  by_cases hlt : j < xs.length
  · rw [List.getElem?_append_left hlt] at hj
    obtain ⟨u, h1, h2⟩ := h.2 j c hj
    exact ⟨u, by rw [List.getElem?_append_left (by rw [← h.1]; exact hlt)]; exact h1, h2⟩
  · rw [List.getElem?_append_right (by omega)] at hj
    obtain ⟨u, h1, h2⟩ := h'.2 _ c hj
    exact ⟨u, by rw [List.getElem?_append_right (by rw [← h.1]; omega), ← h.1]; exact h1, h2⟩
theorem choose_list {α : Type} (p : Nat → α → Prop) : ∀ n : Nat, (∀ i, i < n → ∃ y, p i y) → ∃ ys : List α, ys.length = n ∧ ∀ (i : Nat) (y : α), ys[i]? = some y → p i y := by
  intro n
  induction n with
  | zero => intro _; exact ⟨[], rfl, fun i y h => by simp at h⟩
  | succ n ih =>
    intro h
    obtain ⟨ys, h1, h2⟩ := ih (fun i hi => h i (by omega))
    obtain ⟨y, hy⟩ := h n (by omega)
    refine ⟨ys ++ [y], by simp [h1], fun i z hz => ?_⟩
    by_cases hlt : i < ys.length
    · rw [List.getElem?_append_left hlt] at hz; exact h2 i z hz
    · rw [List.getElem?_append_right (by omega)] at hz
      have hi : i - ys.length = 0 := by
        rcases Nat.eq_zero_or_pos (i - ys.length) with e | e
        · exact e
        · rw [List.getElem?_eq_none (by simp; omega)] at hz; cases hz
      rw [hi] at hz
      simp at hz
      subst hz
      rw [show i = n by omega]
      exact hy
theorem mapM_some {α β : Type} {f : α → Option β} : ∀ {l : List α} {r : List β}, l.mapM f = some r → r.length = l.length ∧ ∀ (i : Nat) (x : α), l[i]? = some x → ∃ y, r[i]? = some y ∧ f x = some y := by
  intro l
  induction l with
  | nil => intro r h; simp at h; subst h; exact ⟨rfl, fun i x h => by simp at h⟩
  | cons a l ih =>
    intro r h
    simp only [List.mapM_cons] at h
    cases hf : f a with
    | none => rw [hf] at h; simp at h
    | some b =>
      rw [hf] at h
      cases hr : l.mapM f with
      | none => rw [hr] at h; simp at h
      | some r' =>
        rw [hr] at h
        simp at h
        subst h
        obtain ⟨h1, h2⟩ := ih hr
        refine ⟨by simp [h1], fun i x hx => ?_⟩
        cases i with
        | zero => simp at hx; subst hx; exact ⟨b, rfl, hf⟩
        | succ i => obtain ⟨y, h3, h4⟩ := h2 i x (by simpa using hx); exact ⟨y, by simpa using h3, h4⟩
theorem cells?_inv {w : World} {base : Nat} {a : Addr} {n : Nat} {cs : List Value} (h : w.cells? base a n = some cs) : cs.length = n ∧ ∀ j, j < n → ∃ u, cs[j]? = some u ∧ w.cell? (a.add j) = some u := by
  unfold World.cells? at h
  split at h
  · obtain ⟨h1, h2⟩ := mapM_some h
    refine ⟨by simpa using h1, fun j hj => ?_⟩
    obtain ⟨y, h3, h4⟩ := h2 j j (by simp [hj])
    exact ⟨y, h3, h4⟩
  · cases h
theorem knows_parts {w : World} {P : Program} {f : TypeId → Option Sh} {g : TypeId → List Value → Prop} (hf : ∀ t s cs, f t = some s → g t cs → ∃ xs, Wt s xs ∧ Knows w xs cs) : ∀ (fs : List Field) (off : Nat) (l : List Sh) (m : Nat) (cs : List Value), shL f P off fs = some (l, m) →
    cs.length = m → (∀ x ∈ fs, g x.type ((cs.drop x.offset).take (P.cellsOf x.type))) → off ≤ m ∧ ∃ xs, WtL l xs ∧ Knows w xs (cs.drop off) := by
  intro fs
  induction fs with
  | nil =>
    intro off l m cs h hl _
    simp [shL] at h
    obtain ⟨rfl, rfl⟩ := h
    exact ⟨Nat.le_refl _, [], rfl, by rw [List.drop_eq_nil_of_le (by omega)]; exact ⟨rfl, fun j c h => by simp at h⟩⟩
  | cons x fs ih =>
    intro off l m cs h hl hg
    simp only [shL] at h
    split at h
    · rename_i s hs
      split at h
      · rename_i hx
        obtain ⟨hx1, hx2⟩ := hx
        split at h
        · rename_i l' m' hrec
          simp at h
          obtain ⟨rfl, rfl⟩ := h
          obtain ⟨h1, xs, h2, h3⟩ := ih _ _ _ cs hrec hl (fun y hy => hg y (List.mem_cons_of_mem _ hy))
          obtain ⟨ys, h4, h5⟩ := hf _ _ _ hs (hg x List.mem_cons_self)
          refine ⟨by omega, ys ++ xs, ⟨ys, xs, rfl, h4, h2⟩, ?_⟩
          have hcat : cs.drop off = (cs.drop off).take s.n ++ cs.drop (off + s.n) := by
            rw [← List.drop_drop, List.take_append_drop]
          rw [hcat]
          rw [hx1, hx2] at h5
          exact h5.append h3
        · cases h
      · cases h
    · cases h
theorem trod_knows {H : Type} {enc : TypeId × Value → H} {P : Program} {w : World} {base : Nat} {sp : Nat → Bool} : ∀ (n : Nat) (t : TypeId) (s : Sh), shOf P n t = some s → ∀ (fuel : Nat) (cs : List Value) (x : DataW H × List MemPlace), DataW.trod enc P w base sp true fuel t cs = some x →
    ∃ xs, Wt s xs ∧ Knows w xs cs := by
  intro n
  induction n with
  | zero => intro t s h; simp [shOf] at h
  | succ n ih =>
    intro t s h fuel cs x hx
    cases fuel with
    | zero => simp [DataW.trod] at hx
    | succ fuel =>
      simp only [shOf] at h
      unfold DataW.trod at hx
      split at h
      · rename_i hu
        rw [hu] at hx
        simp at h
        subst h
        dsimp only at hx
        clear ih
        split at hx <;> simp_all
        rename_i b
        exact ⟨[.bool b], ⟨b, rfl⟩, .one (RepN.bool b)⟩
      · rename_i k hu
        rw [hu] at hx
        simp at h
        subst h
        dsimp only at hx
        clear ih
        split at hx <;> simp_all
        obtain ⟨⟨rfl, h1⟩, _⟩ := hx
        simp [Lit.wf] at h1
        exact ⟨[.int _ _], ⟨_, rfl, h1.1, h1.2⟩, .one (RepN.int _ _)⟩
      · rename_i hu
        rw [hu] at hx
        simp at h
        subst h
        dsimp only at hx
        clear ih
        split at hx <;> simp_all
        rename_i b
        exact ⟨[.str b], ⟨b, rfl, hx.1⟩, .one (RepN.str b)⟩
      · rename_i e hu
        rw [hu] at hx
        split at h
        · rename_i s' he
          split at h
          · rename_i hsz
            simp at h
            subst h
            have ih' : ∀ (cs : List Value) (x : DataW H × List MemPlace), DataW.trod enc P w base sp true fuel e cs = some x → ∃ xs, Wt s' xs ∧ Knows w xs cs := fun cs x hx => ih e s' he fuel cs x hx
            clear ih
            dsimp only at hx
            split at hx
            all_goals first
              | (rename_i h1; cases h1; done)
              | skip
            · exact ⟨[.sl []], ⟨[], rfl, Nat.zero_le _, fun y hy => by cases hy⟩, .one (RepN.sl [] s'.n none 0 (fun _ _ => undef) (Nat.le_refl _) (fun y hy => by cases hy) (fun h => (h rfl).elim) (fun ad h => by cases h) (fun i j y c h => by simp at h))⟩
            · rename_i e' a len cap heq
              injection heq with heq
              injection heq with heq
              subst heq
              split at hx
              · rename_i hc
                obtain ⟨_, hlc, hcm⟩ := hc
                cases hel : (List.range len).mapM (fun i => (w.cells? base (a.add (i * P.cellsOf e)) (P.cellsOf e)).bind (DataW.trod enc P w base sp true fuel e)) with
                | none => rw [hel] at hx; simp at hx
                | some elems =>
                  obtain ⟨_, hm⟩ := mapM_some hel
                  obtain ⟨ys, hyl, hys⟩ := choose_list (fun i (y : List C) => Wt s' y ∧ y.length = s'.n ∧ ∀ (j : Nat) (c : C), y[j]? = some c → ∃ u, w.cell? ((a.add (i * s'.n)).add j) = some u ∧ RepN w c u) len (by
                    intro i hi
                    obtain ⟨z, _, hz⟩ := hm i i (by simp [hi])
                    cases hcs : w.cells? base (a.add (i * P.cellsOf e)) (P.cellsOf e) with
                    | none => rw [hcs] at hz; simp at hz
                    | some csi =>
                      rw [hcs] at hz
                      obtain ⟨xs, h1, h2⟩ := ih' csi z hz
                      obtain ⟨h3, h4⟩ := cells?_inv hcs
                      refine ⟨xs, h1, Wt.len s' h1, fun j c hj => ?_⟩
                      obtain ⟨u, h5, h6⟩ := h2.2 j c hj
                      have hjl : j < P.cellsOf e := by rw [← h3]; exact (List.getElem?_eq_some_iff.1 h5).1
                      obtain ⟨u', h7, h8⟩ := h4 j hjl
                      rw [h5] at h7
                      injection h7 with h7
                      subst h7
                      rw [hsz.1] at h8
                      exact ⟨u, h8, h6⟩)
                  refine ⟨[.sl ys], ⟨ys, rfl, by omega, fun y hy => ?_⟩, ?_⟩
                  · obtain ⟨i, hi⟩ := List.mem_iff_getElem?.1 hy
                    exact (hys i y hi).1
                  · have hspot : ys ≠ [] → a.spot = none ∧ a.block < w.heap.size := by
                      intro hne
                      obtain ⟨y, hy⟩ := getD_len (l := ys) (i := 0) (by cases ys with | nil => exact absurd rfl hne | cons _ _ => simp)
                      obtain ⟨_, h2, h3⟩ := hys 0 y hy
                      obtain ⟨c, hc⟩ := getD_len (l := y) (i := 0) (by omega)
                      obtain ⟨u, h4, _⟩ := h3 0 c hc
                      have h4' : w.cell? a = some u := by simpa [Addr.add] using h4
                      refine ⟨?_, cell_block h4'⟩
                      unfold World.cell? at h4'
                      split at h4'
                      · split at h4'
                        · cases h4'
                        · rename_i hs; simpa using hs
                      · cases h4'
                    rw [← hyl]
                    refine Knows.one (RepN.sl ys s'.n (some a) cap (fun i j => (w.cell? ((a.add (i * s'.n)).add j)).getD undef) (by omega) (fun y hy => ?_) (fun hne => ⟨a, rfl, (hspot hne).1, (hspot hne).2, free_none _⟩) ?_ ?_)
                    · obtain ⟨i, hi⟩ := List.mem_iff_getElem?.1 hy
                      exact (hys i y hi).2.1
                    · intro ad hab i j y c hi hj
                      injection hab with hab
                      subst hab
                      obtain ⟨u, h1, _⟩ := (hys i y hi).2.2 j c hj
                      have hne : ys ≠ [] := by intro e; subst e; simp at hi
                      rw [h1, ← addr_add' (hspot hne).1, h1]
                      rfl
                    · intro i j y c hi hj
                      obtain ⟨u, h1, h2⟩ := (hys i y hi).2.2 j c hj
                      simp only [h1, Option.getD_some]
                      exact h2
              · cases hx
            · cases hx
          · cases h
        · cases h
      · rename_i fs hu
        rw [hu] at hx
        split at h
        · rename_i l m hsl
          split at h
          · rename_i hcl
            simp at h
            subst h
            dsimp only at hx
            split at hx
            · rename_i hlen
              cases hm : fs.toList.mapM (fun f => DataW.trod enc P w base sp true fuel f.type ((cs.drop f.offset).take (P.cellsOf f.type))) with
              | none => rw [hm] at hx; simp at hx
              | some r =>
                obtain ⟨_, h2⟩ := mapM_some hm
                obtain ⟨_, xs, h3, h4⟩ := knows_parts (w := w) (P := P) (f := shOf P n) (g := fun t cs => ∃ x, DataW.trod enc P w base sp true fuel t cs = some x) (fun t s cs hs ⟨x, hx⟩ => ih t s hs fuel cs x hx) fs.toList 0 l m cs hsl (by rw [hlen, hcl]) (by
                  intro f hf
                  obtain ⟨i, hi⟩ := List.mem_iff_getElem?.1 hf
                  obtain ⟨y, _, hy⟩ := h2 i f hi
                  exact ⟨y, hy⟩)
                exact ⟨xs, h3, by simpa using h4⟩
            · cases hx
          · cases h
        · cases h
      · cases h
end Go.Proofs.Ytlmejcmnmdleaaa.Ai
