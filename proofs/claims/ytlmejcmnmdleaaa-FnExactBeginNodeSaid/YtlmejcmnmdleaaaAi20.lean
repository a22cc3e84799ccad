/- The abstract interpreter, part 20: one cell is stored. -/
import Derived.Test.YtlmejcmnmdleaaaAi19
namespace Go.Proofs.Ytlmejcmnmdleaaa.Ai
open Go Go.RowKit
set_option linter.unusedSectionVars false
set_option linter.unusedSimpArgs false
section
variable [Fence] {P : Program} {T : Nat → Option Ty} {w w' : World} {σ σ' : Gh} {F : Fr} {vt : Nat → Value} {a : Act}

def hasCell : O → Nat → Nat → Prop
  | .osl xs, i, j => ∃ y, xs[i]? = some y ∧ j < y.length
  | .obx cs, i, j => i = 0 ∧ j < cs.length
  | _, _, _ => False
theorem set_one {o z : O} {i j : Nat} (h : hasCell o i j) : (∃ xs y, o = .osl xs ∧ xs[i]? = some y ∧ j < y.length ∧ o.set std [(i, j)] z = .osl (xs.set i (y.set j z))) ∨ (∃ cs, o = .obx cs ∧ i = 0 ∧ j < cs.length ∧ o.set std [(i, j)] z = .obx (cs.set j z)) := by
  cases o with
  | un => exact h.elim
  | fz c => exact h.elim
  | osl xs =>
    obtain ⟨y, h1, h2⟩ := h
    left
    refine ⟨xs, y, rfl, h1, h2, ?_⟩
    simp only [O.set, std, nth_eq, setN_eq, h1, List.getElem?_eq_getElem h2]
  | obx cs =>
    obtain ⟨rfl, h2⟩ := h
    right
    refine ⟨cs, rfl, rfl, h2, ?_⟩
    simp only [O.set, nth_eq, setN_eq, List.getElem?_eq_getElem h2]
theorem hasCell_set {o z : O} {i j j' : Nat} (h : hasCell o i j) (h' : hasCell o i j') : hasCell (o.set std [(i, j)] z) i j' := by
  rcases set_one (z := z) h with ⟨xs, y, rfl, h1, h2, h3⟩ | ⟨cs, rfl, rfl, h2, h3⟩
  · rw [h3]
    obtain ⟨y', h4, h5⟩ := h'
    rw [h1] at h4
    injection h4 with h4
    subst h4
    refine ⟨y.set j z, ?_, by simpa using h5⟩
    rw [List.getElem?_set_self (List.getElem?_eq_some_iff.1 h1).1]
  · rw [h3]
    exact ⟨rfl, by simpa using h'.2⟩
theorem at_set_pre : ∀ (s : List (Nat × Nat)) (o z : O) (x : Nat × Nat), (o.set std (s ++ [x]) z).at std s = (o.at std s).set std [x] z := by
  intro s
  induction s with
  | nil => intro o z x; rfl
  | cons ij s ih =>
    obtain ⟨i, j⟩ := ij
    intro o z x
    obtain ⟨x1, x2⟩ := x
    cases o with
    | un => simp [O.set, O.at]
    | fz c => simp [O.set, O.at]
    | osl xs =>
      simp only [List.cons_append, O.set, std, nth_eq, setN_eq]
      cases hi : xs[i]? with
      | none => simp [O.at, std, hi, O.set]
      | some y =>
        cases hj : y[j]? with
        | none => simp [O.at, std, hi, nth_eq, hj, O.set]
        | some o =>
          have hilt : i < xs.length := (List.getElem?_eq_some_iff.1 hi).1
          have hjlt : j < y.length := (List.getElem?_eq_some_iff.1 hj).1
          simp only [hj]
          simp only [O.at, std, nth_eq, hi, hj, List.getElem?_set_self hilt, List.getElem?_set_self hjlt]
          exact ih o z (x1, x2)
    | obx cs =>
      simp only [List.cons_append, O.set, nth_eq, setN_eq]
      cases i with
      | succ i => simp [O.at, O.set]
      | zero =>
        cases hj : cs[j]? with
        | none => simp [O.at, nth_eq, hj, O.set]
        | some o =>
          have hjlt : j < cs.length := (List.getElem?_eq_some_iff.1 hj).1
          simp only [O.at, nth_eq, hj, List.getElem?_set_self hjlt]
          exact ih o z (x1, x2)
theorem at_set_self {s : List (Nat × Nat)} {o z : O} {i j : Nat} (h : hasCell (o.at std s) i j) (t : List (Nat × Nat)) : (o.set std (s ++ [(i, j)]) z).at std (s ++ [(i, j)] ++ t) = z.at std t := by
  rw [List.append_assoc, at_append, at_set_pre]
  rcases set_one (z := z) h with ⟨xs, y, h0, h1, h2, h3⟩ | ⟨cs, h0, rfl, h2, h3⟩
  · rw [h3]
    have hilt : i < xs.length := (List.getElem?_eq_some_iff.1 h1).1
    simp only [List.cons_append, List.nil_append, O.at, std, nth_eq, List.getElem?_set_self hilt, List.getElem?_set_self h2]
  · rw [h3]
    simp only [List.cons_append, List.nil_append, O.at, nth_eq, List.getElem?_set_self h2]

/-- What does not lie in the block. -/
theorem keep_set {g k : Nat} {u : Value} {x : Own} (hg : σ g = some x) {p : Path} {o : O} {v : Value} (h : RepO w σ p o v) (hn : ∀ t, x.p ≠ (p.1, p.2 ++ t)) : RepO (w.setCell ⟨g, k, none⟩ u) σ p o v := by
  refine h.move (by simp) ⟨fun _ _ h => h, fun b _ h0 => heap_setCell_other w _ _ _ ?_⟩ p ?_
  · rintro rfl; rw [hg] at h0; cases h0
  · intro g' s n cap sz hg' _
    refine ⟨heap_setCell_other w _ _ _ ?_, hg'⟩
    rintro rfl
    rw [hg] at hg'
    injection hg' with hg'
    exact hn s (by rw [hg'])
theorem set_new (hinj : ∀ g g' x y, σ g = some x → σ g' = some y → x.p = y.p → g = g') {g n cap sz i j : Nat} {o' : O} {u : Value} : ∀ (s : List (Nat × Nat)) (p : Path) (o : O) (v : Value), σ g = some ⟨(p.1, p.2 ++ s), n, cap, sz⟩ → RepO w σ p o v → hasCell (o.at std s) i j →
    RepO w σ (p.1, p.2 ++ s ++ [(i, j)]) o' u → RepO (w.setCell ⟨g, i * sz + j, none⟩ u) σ p (o.set std (s ++ [(i, j)]) o') v := by
  intro s
  induction s with
  | nil =>
    intro p o v hg h hc hr'
    simp only [List.append_nil] at hg hr'
    have hnew : RepO (w.setCell ⟨g, i * sz + j, none⟩ u) σ (p.1, p.2 ++ [(i, j)]) o' u := keep_set hg hr' (by
      intro t e
      have := congrArg (fun x : Path => x.2.length) e
      simp at this)
    have hsib : ∀ (i' j' : Nat) (o'' : O) (v'' : Value), RepO w σ (p.1, p.2 ++ [(i', j')]) o'' v'' → RepO (w.setCell ⟨g, i * sz + j, none⟩ u) σ (p.1, p.2 ++ [(i', j')]) o'' v'' := fun i' j' o'' v'' h => keep_set hg h (by
      intro t e
      have := congrArg (fun x : Path => x.2.length) e
      simp at this)
    replace hc : hasCell o i j := hc
    rcases set_one (z := o') hc with ⟨xs, y, rfl, h1, h2, h3⟩ | ⟨cs, rfl, rfl, h2, h3⟩
    · simp only [List.nil_append]
      rw [h3]
      have hilt : i < xs.length := (List.getElem?_eq_some_iff.1 h1).1
      cases h with
      | oslz => simp at h1
      | osl _ _ e sz' g' cap' cur us hh hc' hcm hl hs hg' hm hr =>
        obtain rfl := hinj _ _ _ _ hg hg' rfl
        rw [hg] at hg'
        simp only [Option.some.injEq, Own.mk.injEq] at hg'
        obtain ⟨_, rfl, rfl, rfl⟩ := hg'
        have hjs : j < sz := by rw [← hs y (List.mem_of_getElem? h1)]; exact h2
        have hlen : (xs.set i (y.set j o')).length = xs.length := by simp
        have hin : i * sz + j < cur.size := by
          rw [hl]
          have : (i + 1) * sz ≤ cap * sz := Nat.mul_le_mul_right _ (by omega)
          rw [Nat.add_mul] at this; omega
        have hget : ∀ i' j' y' o'', (xs.set i (y.set j o'))[i']? = some y' → y'[j']? = some o'' → (i' = i ∧ j' = j ∧ o'' = o') ∨ (¬ (i' = i ∧ j' = j) ∧ ∃ y'', xs[i']? = some y'' ∧ y''[j']? = some o'') := by
          intro i' j' y' o'' h4 h5
          by_cases hii : i' = i
          · subst hii
            rw [List.getElem?_set_self hilt] at h4
            injection h4 with h4
            subst h4
            by_cases hjj : j' = j
            · subst hjj
              rw [List.getElem?_set_self h2] at h5
              injection h5 with h5
              exact .inl ⟨rfl, rfl, h5.symm⟩
            · rw [List.getElem?_set_ne (Ne.symm hjj)] at h5
              exact .inr ⟨by simp [hjj], y, h1, h5⟩
          · rw [List.getElem?_set_ne (Ne.symm hii)] at h4
            exact .inr ⟨by simp [hii], y', h4, h5⟩
        have := RepO.osl (w := w.setCell ⟨g, i * sz + j, none⟩ u) (σ := σ) p (xs.set i (y.set j o')) e sz g cap (cur.setIfInBounds (i * sz + j) u) (fun i' j' => if i' = i ∧ j' = j then u else us i' j')
          (heap_setCell_same w g (i * sz + j) cur e u hh) (by omega) hcm (by simpa using hl) ?_ (by rw [hlen]; exact hg) ?_ ?_
        · rw [hlen] at this; exact this
        · intro y' hy'
          rcases List.mem_or_eq_of_mem_set hy' with h | rfl
          · exact hs y' h
          · simpa using hs y (List.mem_of_getElem? h1)
        · intro i' j' y' o'' h4 h5
          rcases hget i' j' y' o'' h4 h5 with ⟨rfl, rfl, _⟩ | ⟨hne, y'', h6, h7⟩
          · rw [if_pos ⟨rfl, rfl⟩]
            simp [Array.getElem?_setIfInBounds_self, hin]
          · rw [if_neg hne]
            have hj's : j' < sz := by
              rw [← hs y'' (List.mem_of_getElem? h6)]
              exact (List.getElem?_eq_some_iff.1 h7).1
            rw [Array.getElem?_setIfInBounds_ne]
            · exact hm _ _ y'' o'' h6 h7
            · intro e
              refine hne ?_
              have h1 : (i * sz + j) / sz = i := by
                rw [Nat.add_comm, Nat.add_mul_div_right _ _ (by omega), Nat.div_eq_of_lt hjs]; omega
              have h2 : (i' * sz + j') / sz = i' := by
                rw [Nat.add_comm, Nat.add_mul_div_right _ _ (by omega), Nat.div_eq_of_lt hj's]; omega
              have h3 : i' = i := by rw [← h1, ← h2, e]
              subst h3
              exact ⟨rfl, by omega⟩
        · intro i' j' y' o'' h4 h5
          rcases hget i' j' y' o'' h4 h5 with ⟨rfl, rfl, rfl⟩ | ⟨hne, y'', h6, h7⟩
          · rw [if_pos ⟨rfl, rfl⟩]; exact hnew
          · rw [if_neg hne]; exact hsib _ _ _ _ (hr _ _ y'' o'' h6 h7)
    · simp only [List.nil_append]
      rw [h3]
      cases h with
      | obx _ _ g' e cells us n' cap' sz' hh hl hg' hm hr =>
        obtain rfl := hinj _ _ _ _ hg hg' rfl
        simp only [Nat.zero_mul, Nat.zero_add] at hnew hsib ⊢
        refine .obx p _ g e (cells.setIfInBounds j u) (fun j' => if j' = j then u else us j') n cap sz (heap_setCell_same w g j cells e u hh) (by simpa using hl) hg ?_ ?_
        · intro j' o'' h4
          by_cases hjj : j' = j
          · subst hjj
            rw [if_pos rfl]
            have : j' < cells.size := by rw [hl]; exact h2
            simp [Array.getElem?_setIfInBounds_self, this]
          · rw [if_neg hjj, Array.getElem?_setIfInBounds_ne (Ne.symm hjj)]
            rw [List.getElem?_set_ne (Ne.symm hjj)] at h4
            exact hm _ _ h4
        · intro j' o'' h4
          by_cases hjj : j' = j
          · subst hjj
            rw [if_pos rfl]
            rw [List.getElem?_set_self h2] at h4
            injection h4 with h4
            subst h4
            exact hnew
          · rw [if_neg hjj]
            rw [List.getElem?_set_ne (Ne.symm hjj)] at h4
            exact hsib _ _ _ _ (hr _ _ h4)
  | cons ab s ih =>
    obtain ⟨x1, x2⟩ := ab
    intro p o v hg h hc hr'
    have hsib : ∀ (i' j' : Nat) (o'' : O) (v'' : Value), ¬ (i' = x1 ∧ j' = x2) → RepO w σ (p.1, p.2 ++ [(i', j')]) o'' v'' → RepO (w.setCell ⟨g, i * sz + j, none⟩ u) σ (p.1, p.2 ++ [(i', j')]) o'' v'' := fun i' j' o'' v'' hne h => keep_set hg h (by
      intro t e
      simp at e
      exact hne ⟨e.1.1.symm, e.1.2.symm⟩)
    have hself : ∀ {g' : Nat} {x : Own}, σ g' = some x → x.p = p → g' ≠ g := by
      rintro g' x hx hp rfl
      rw [hg] at hx
      injection hx with hx
      subst hx
      have := congrArg (fun x : Path => x.2.length) hp
      simp at this
    cases h with
    | un _ v _ => simp [O.at, hasCell] at hc
    | fz _ c v _ => simp [O.at, hasCell] at hc
    | oslz => simp [O.at, std, hasCell] at hc
    | osl _ xs e sz' g' cap' cur us hh hc' hcm hl hs hg' hm hr =>
      simp only [O.at, std, nth_eq] at hc
      simp only [List.cons_append, O.set, std, nth_eq, setN_eq]
      cases hi : xs[x1]? with
      | none => rw [hi] at hc; exact hc.elim
      | some y =>
        rw [hi] at hc
        dsimp only at hc ⊢
        cases hj : y[x2]? with
        | none => rw [hj] at hc; exact hc.elim
        | some o1 =>
          rw [hj] at hc
          dsimp only at hc ⊢
          have hnew := ih (p.1, p.2 ++ [(x1, x2)]) o1 (us x1 x2) (by simpa using hg) (hr x1 x2 y o1 hi hj) hc (by simpa using hr')
          have hilt : x1 < xs.length := (List.getElem?_eq_some_iff.1 hi).1
          have hjlt : x2 < y.length := (List.getElem?_eq_some_iff.1 hj).1
          have hlen : (xs.set x1 (y.set x2 (o1.set std (s ++ [(i, j)]) o'))).length = xs.length := by simp
          have hget : ∀ i' j' y' o'', (xs.set x1 (y.set x2 (o1.set std (s ++ [(i, j)]) o')))[i']? = some y' → y'[j']? = some o'' →
              (i' = x1 ∧ j' = x2 ∧ o'' = o1.set std (s ++ [(i, j)]) o') ∨ (¬ (i' = x1 ∧ j' = x2) ∧ ∃ y'', xs[i']? = some y'' ∧ y''[j']? = some o'') := by
            intro i' j' y' o'' h4 h5
            by_cases hii : i' = x1
            · subst hii
              rw [List.getElem?_set_self hilt] at h4
              injection h4 with h4
              subst h4
              by_cases hjj : j' = x2
              · subst hjj
                rw [List.getElem?_set_self hjlt] at h5
                injection h5 with h5
                exact .inl ⟨rfl, rfl, h5.symm⟩
              · rw [List.getElem?_set_ne (Ne.symm hjj)] at h5
                exact .inr ⟨by simp [hjj], y, hi, h5⟩
            · rw [List.getElem?_set_ne (Ne.symm hii)] at h4
              exact .inr ⟨by simp [hii], y', h4, h5⟩
          have hne := hself hg' rfl
          have := RepO.osl (w := w.setCell ⟨g, i * sz + j, none⟩ u) (σ := σ) p (xs.set x1 (y.set x2 (o1.set std (s ++ [(i, j)]) o'))) e sz' g' cap' cur us
            ((heap_setCell_other w _ _ _ hne).trans hh) (by omega) hcm hl ?_ (by rw [hlen]; exact hg') ?_ ?_
          · rw [hlen] at this; exact this
          · intro y' hy'
            rcases List.mem_or_eq_of_mem_set hy' with h | rfl
            · exact hs y' h
            · simpa using hs y (List.mem_of_getElem? hi)
          · intro i' j' y' o'' h4 h5
            rcases hget i' j' y' o'' h4 h5 with ⟨rfl, rfl, _⟩ | ⟨hne, y'', h6, h7⟩
            · exact hm _ _ y o1 hi hj
            · exact hm _ _ y'' o'' h6 h7
          · intro i' j' y' o'' h4 h5
            rcases hget i' j' y' o'' h4 h5 with ⟨rfl, rfl, rfl⟩ | ⟨hne, y'', h6, h7⟩
            · exact hnew
            · exact hsib _ _ _ _ hne (hr _ _ y'' o'' h6 h7)
    | obx _ cs g' e cells us n' cap' sz' hh hl hg' hm hr =>
      simp only [O.at, nth_eq] at hc
      simp only [List.cons_append, O.set, nth_eq, setN_eq]
      cases x1 with
      | succ x1 => exact hc.elim
      | zero =>
        dsimp only at hc ⊢
        cases hj : cs[x2]? with
        | none => rw [hj] at hc; exact hc.elim
        | some o1 =>
          rw [hj] at hc
          dsimp only at hc ⊢
          have hnew := ih (p.1, p.2 ++ [(0, x2)]) o1 (us x2) (by simpa using hg) (hr x2 o1 hj) hc (by simpa using hr')
          have hjlt : x2 < cs.length := (List.getElem?_eq_some_iff.1 hj).1
          have hne := hself hg' rfl
          refine .obx p _ g' e cells us n' cap' sz' ((heap_setCell_other w _ _ _ hne).trans hh) (by simpa using hl) hg' ?_ ?_
          · intro j' o'' h4
            by_cases hjj : j' = x2
            · subst hjj; exact hm _ _ hj
            · rw [List.getElem?_set_ne (Ne.symm hjj)] at h4
              exact hm _ _ h4
          · intro j' o'' h4
            by_cases hjj : j' = x2
            · subst hjj
              rw [List.getElem?_set_self hjlt] at h4
              injection h4 with h4
              subst h4
              exact hnew
            · rw [List.getElem?_set_ne (Ne.symm hjj)] at h4
              exact hsib _ _ _ _ (by simp [hjj]) (hr _ _ h4)
end
end Go.Proofs.Ytlmejcmnmdleaaa.Ai
