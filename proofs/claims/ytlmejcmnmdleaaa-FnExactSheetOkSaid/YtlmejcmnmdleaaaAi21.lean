/- The abstract interpreter, part 21: a store. -/
import Derived.Test.YtlmejcmnmdleaaaAi20
namespace Go.Proofs.Ytlmejcmnmdleaaa.Ai
open Go Go.RowKit
set_option linter.unusedSectionVars false
set_option linter.unusedSimpArgs false
section
variable [Fence] {P : Program} {T : Nat → Option Ty} {w w' : World} {σ σ' : Gh} {F : Fr} {vt : Nat → Value} {a : Act}

theorem at_setAt {r : Nat} {s : List (Nat × Nat)} {o : O} (x : Path) : (F.setAt std (r, s) o).at std x = if r = x.1 then ((look .un F.tb r).set std s o).at std x.2 else F.at std x := by
  unfold Fr.at Fr.setAt
  dsimp only
  rw [look_cons]
  by_cases e : r = x.1
  · rw [if_pos e, if_pos e]
  · rw [if_neg e, if_neg e, look_del, if_neg e]
theorem FR.setCell (h : FR F σ w vt) {r : Nat} {s : List (Nat × Nat)} {i j g n cap sz : Nat} (hg : σ g = some ⟨(r, s), n, cap, sz⟩) (hc : hasCell (F.at std (r, s)) i j) {o : O} {u : Value} (hr : RepO w σ (r, s ++ [(i, j)]) o u) :
    FR (F.setAt std (r, s ++ [(i, j)]) o) σ (w.setCell ⟨g, i * sz + j, none⟩ u) vt := by
  have hst : Stays w σ (w.setCell ⟨g, i * sz + j, none⟩ u) σ := ⟨fun _ _ h => h, fun b _ h0 => heap_setCell_other w _ _ _ (by rintro rfl; rw [hg] at h0; cases h0)⟩
  refine ⟨h.inj, fun g x hx => by simpa using h.lt g x hx, fun t => ?_, fun t => ?_⟩
  · show ∃ v, RepO _ σ (t, []) (look .un ((r, (look .un F.tb r).set std (s ++ [(i, j)]) o) :: del F.tb r) t) v
    rw [look_cons, look_del]
    obtain ⟨v, hv⟩ := h.tb t
    by_cases e : r = t
    · subst e
      rw [if_pos rfl]
      exact ⟨v, set_new h.inj s (r, []) _ v (by simpa using hg) hv hc (by simpa using hr)⟩
    · rw [if_neg e, if_neg e]
      refine ⟨v, keep_set hg hv ?_⟩
      intro t' e'
      exact e (congrArg Prod.fst e')
  · exact RepT.imp (fun _ _ x v hx => by
      induction hx with
      | un v => exact .un v
      | ud => exact .ud
      | fz c v h => exact .fz c v (h.move (by simp) hst)
      | rf p off len g n cap sz hg hl hn => exact .rf p off len g n cap sz hg hl hn
      | rz p off b => exact .rz p off b
      | pp p i j g n cap sz hg => exact .pp p i j g n cap sz hg
      | clo f caps vs us hl hm hr ih => exact .clo f caps vs us hl hm ih) (h.tm t)

def pendQ (q : Nat → Path) : Nat → List O → List (Path × O)
  | _, [] => []
  | j, o :: os => (q j, o) :: pendQ q (j + 1) os
theorem mem_pendQ {q : Nat → Path} {q' : Path} {o' : O} : ∀ {os : List O} {j : Nat}, (q', o') ∈ pendQ q j os ↔ ∃ k : Nat, os[k]? = some o' ∧ q' = q (j + k) := by
  intro os
  induction os with
  | nil => intro j; simp [pendQ]
  | cons o os ih =>
    intro j
    simp only [pendQ, List.mem_cons, ih]
    constructor
    · rintro (h | ⟨k, h1, h2⟩)
      · injection h with h1 h2; exact ⟨0, by simp [h2], h1⟩
      · exact ⟨k + 1, by simpa using h1, by rw [h2]; congr 1; omega⟩
    · rintro ⟨k, h1, h2⟩
      cases k with
      | zero => simp at h1; exact .inl (by rw [h2, h1]; rfl)
      | succ k => exact .inr ⟨k, by simpa using h1, by rw [h2]; congr 1; omega⟩
theorem Dom.mono {pend pend' : List (Path × O)} (h : Dom F σ pend) (hs : ∀ x, x ∈ pend → x ∈ pend') : Dom F σ pend' := by
  intro g x hx
  rcases h g x hx with h | ⟨q, o, s, h1, h2⟩
  · exact .inl h
  · exact .inr ⟨q, o, s, hs _ h1, h2⟩
theorem Dom.setAt {r : Nat} {s : List (Nat × Nat)} {i j : Nat} {o : O} {pend : List (Path × O)} (h : Dom F σ (((r, s ++ [(i, j)]), o) :: pend)) (hb : ∀ g x, σ g = some x → Und (r, s ++ [(i, j)]) x.p → ∃ t, x.p = (r, s ++ [(i, j)] ++ t) ∧ Fit (o.at std t) x.n)
    (hc : hasCell (F.at std (r, s)) i j) : Dom (F.setAt std (r, s ++ [(i, j)]) o) σ pend := by
  intro g x hx
  by_cases hu : Und (r, s ++ [(i, j)]) x.p
  · obtain ⟨t, h1, h2⟩ := hb g x hx hu
    left
    rw [at_setAt, h1, if_pos rfl]
    dsimp only
    rw [at_set_self hc]
    exact h2
  · rcases h g x hx with h1 | ⟨q', o', t, h1, h2, h3⟩
    · left
      rw [at_setAt]
      by_cases e : r = x.p.1
      · rw [if_pos e]
        refine at_set _ _ _ _ _ (fun ⟨t, ht⟩ => hu ⟨e.symm, t, ht⟩) ?_
        unfold Fr.at at h1
        rw [← e] at h1
        exact h1
      · rw [if_neg e]; exact h1
    · rcases List.mem_cons.1 h1 with h4 | h4
      · exfalso
        injection h4 with h4 h5
        rw [h2, h4] at hu
        exact hu ⟨rfl, t, rfl⟩
      · exact .inr ⟨q', o', t, h4, h2, h3⟩

/-- What is on its way comes to its place, cell by cell. -/
theorem setL_sound {r : Nat} {s : List (Nat × Nat)} {i g n cap sz : Nat} (hg : σ g = some ⟨(r, s), n, cap, sz⟩) : ∀ (os : List O) (us : List Value) (j : Nat) (F : Fr) (w : World), os.length = us.length → FR F σ w vt → Dom F σ (pendQ (qAt r s i) j os) →
    (∀ g x, σ g = some x → ∀ k, k < os.length → ∀ t, x.p = (r, s ++ [(i, j + k)] ++ t) → ∃ o, os[k]? = some o ∧ Fit (o.at std t) x.n) →
    (∀ k, k < os.length → hasCell (F.at std (r, s)) i (j + k)) → (∀ (k : Nat) (o : O), os[k]? = some o → ∃ u, us[k]? = some u ∧ RepO w σ (qAt r s i (j + k)) o u) →
    FR (setL std r s i j F os) σ (w.setCells g (i * sz + j) us) vt ∧ Dom (setL std r s i j F os) σ [] ∧ (setL std r s i j F os).n = F.n := by
  intro os
  induction os with
  | nil =>
    intro us j F w hl hF hd _ _ _
    obtain rfl : us = [] := List.eq_nil_of_length_eq_zero (by simpa using hl.symm)
    exact ⟨hF, hd, rfl⟩
  | cons o os ih =>
    intro us j F w hl hF hd hown hc hr
    cases us with
    | nil => simp at hl
    | cons u us =>
      simp only [setL, World.setCells]
      have h0 := hc 0 (by simp)
      obtain ⟨u', hu', hr0⟩ := hr 0 o rfl
      simp at hu'
      subst hu'
      have hF1 := hF.setCell hg h0 hr0
      have hd1 : Dom (F.setAt std (qAt r s i j) o) σ (pendQ (qAt r s i) (j + 1) os) := by
        refine Dom.setAt hd ?_ h0
        rintro g x hx ⟨h1, t, h2⟩
        have hp : x.p = (r, s ++ [(i, j + 0)] ++ t) := Prod.ext h1 h2
        obtain ⟨o', h3, h4⟩ := hown g x hx 0 (by simp) t hp
        simp at h3
        subst h3
        exact ⟨t, hp, h4⟩
      have := ih us (j + 1) (F.setAt std (qAt r s i j) o) (w.setCell ⟨g, i * sz + j, none⟩ u) (by simpa using hl) hF1 hd1 ?_ ?_ ?_
      · exact this
      · intro g x hx k hk t ht
        obtain ⟨o', h1, h2⟩ := hown g x hx (k + 1) (by simp; omega) t (by rw [ht]; congr 3; simp; omega)
        exact ⟨o', by simpa using h1, h2⟩
      · intro k hk
        rw [show qAt r s i j = (r, s ++ [(i, j)]) from rfl, at_setAt, if_pos rfl]
        dsimp only
        rw [at_set_pre]
        have := hc (k + 1) (by simp; omega)
        rw [show j + (k + 1) = j + 1 + k by omega] at this
        exact hasCell_set h0 this
      · intro k o' hk
        obtain ⟨u', h1, h2⟩ := hr (k + 1) o' (by simpa using hk)
        refine ⟨u', by simpa using h1, ?_⟩
        rw [show j + (k + 1) = j + 1 + k by omega] at h2
        refine keep_set hg h2 ?_
        intro t e
        have := congrArg (fun x : Path => x.2.length) e
        simp [qAt] at this

/-- Nothing that has a block. -/
def Dead (o : O) : Prop := ∀ t n, ¬ Fit (o.at std t) n
theorem fit_unset : ∀ (s : List (Nat × Nat)) (o : O) (t : List (Nat × Nat)) (n : Nat), Fit ((o.set std s .un).at std t) n → Fit (o.at std t) n := by
  intro s
  induction s with
  | nil => intro o t n h; simp only [O.set] at h; rw [at_un] at h; exact h.elim
  | cons x s ih =>
    obtain ⟨i, j⟩ := x
    intro o t n hf
    cases o with
    | un => simpa [O.set] using hf
    | fz c => simpa [O.set] using hf
    | osl xs =>
      simp only [O.set, std, nth_eq, setN_eq] at hf
      cases hi : xs[i]? with
      | none => rw [hi] at hf; exact hf
      | some y =>
        rw [hi] at hf
        dsimp only at hf
        cases hj : y[j]? with
        | none => rw [hj] at hf; exact hf
        | some o =>
          rw [hj] at hf
          dsimp only at hf
          have hilt : i < xs.length := (List.getElem?_eq_some_iff.1 hi).1
          have hjlt : j < y.length := (List.getElem?_eq_some_iff.1 hj).1
          cases t with
          | nil => simpa [O.at, Fit] using hf
          | cons x' t =>
            obtain ⟨i', j'⟩ := x'
            simp only [O.at, std, nth_eq] at hf ⊢
            by_cases hii : i' = i
            · subst hii
              rw [List.getElem?_set_self hilt] at hf
              rw [hi]
              dsimp only at hf ⊢
              by_cases hjj : j' = j
              · subst hjj
                rw [List.getElem?_set_self hjlt] at hf
                rw [hj]
                exact ih o t n hf
              · rw [List.getElem?_set_ne (Ne.symm hjj)] at hf
                exact hf
            · rw [List.getElem?_set_ne (Ne.symm hii)] at hf
              exact hf
    | obx cs =>
      simp only [O.set, nth_eq, setN_eq] at hf
      cases i with
      | succ i => exact hf
      | zero =>
        dsimp only at hf
        cases hj : cs[j]? with
        | none => rw [hj] at hf; exact hf
        | some o =>
          rw [hj] at hf
          dsimp only at hf
          have hjlt : j < cs.length := (List.getElem?_eq_some_iff.1 hj).1
          cases t with
          | nil => trivial
          | cons x' t =>
            obtain ⟨i', j'⟩ := x'
            cases i' with
            | succ i' => simp [O.at, Fit] at hf
            | zero =>
              simp only [O.at, nth_eq] at hf ⊢
              by_cases hjj : j' = j
              · subst hjj
                rw [List.getElem?_set_self hjlt] at hf
                rw [hj]
                exact ih o t n hf
              · rw [List.getElem?_set_ne (Ne.symm hjj)] at hf
                exact hf
theorem at_unM (M : Ops) (s : List (Nat × Nat)) : O.at M .un s = .un := by cases s <;> rfl
theorem dead_set : ∀ (s : List (Nat × Nat)) (o : O), Dead ((o.set std s .un).at std s) := by
  intro s
  induction s with
  | nil => intro o t n h; simp only [O.set, O.at] at h; rw [at_unM] at h; exact h
  | cons x s ih =>
    obtain ⟨i, j⟩ := x
    intro o t n hf
    cases o with
    | un => simp only [O.set, O.at, at_unM] at hf; exact hf
    | fz c => simp only [O.set, O.at, at_unM] at hf; exact hf
    | osl xs =>
      simp only [O.set, std, nth_eq, setN_eq] at hf
      cases hi : xs[i]? with
      | none => rw [hi] at hf; simp only [O.at, std, hi, at_unM] at hf; exact hf
      | some y =>
        rw [hi] at hf
        dsimp only at hf
        cases hj : y[j]? with
        | none => rw [hj] at hf; simp only [O.at, std, hi, nth_eq, hj, at_unM] at hf; exact hf
        | some o =>
          rw [hj] at hf
          dsimp only at hf
          have hilt : i < xs.length := (List.getElem?_eq_some_iff.1 hi).1
          have hjlt : j < y.length := (List.getElem?_eq_some_iff.1 hj).1
          simp only [O.at, std, nth_eq, List.getElem?_set_self hilt, List.getElem?_set_self hjlt] at hf
          exact ih o t n hf
    | obx cs =>
      simp only [O.set, nth_eq, setN_eq] at hf
      cases i with
      | succ i => simp only [O.at, at_unM] at hf; exact hf
      | zero =>
        dsimp only at hf
        cases hj : cs[j]? with
        | none => rw [hj] at hf; simp only [O.at, nth_eq, hj, at_unM] at hf; exact hf
        | some o =>
          rw [hj] at hf
          dsimp only at hf
          have hjlt : j < cs.length := (List.getElem?_eq_some_iff.1 hj).1
          simp only [O.at, nth_eq, List.getElem?_set_self hjlt] at hf
          exact ih o t n hf
theorem fit_unless {p x : Path} {n : Nat} (h : Fit ((F.less std p).at std x) n) : Fit (F.at std x) n := by
  obtain ⟨r, s⟩ := p
  cases s with
  | nil =>
    have h' : Fit ((look .un (del F.tb r) x.1).at std x.2) n := h
    rw [look_del] at h'
    split at h'
    · rw [at_un] at h'; exact h'.elim
    · exact h'
  | cons y s =>
    have h' : Fit ((F.setAt std (r, y :: s) .un).at std x) n := h
    rw [at_setAt] at h'
    split at h'
    · rename_i e
      have := fit_unset _ _ _ _ h'
      unfold Fr.at
      rw [← e]
      exact this
    · exact h'
theorem at_at (p : Path) (t : List (Nat × Nat)) : (F.at std p).at std t = F.at std (p.1, p.2 ++ t) := by unfold Fr.at; rw [at_append]
theorem Dead.less {p q : Path} (h : Dead (F.at std q)) : Dead ((F.less std p).at std q) := by
  intro t n hf
  rw [at_at] at hf
  have := fit_unless hf
  rw [← at_at] at this
  exact h t n this
theorem dead_less {p : Path} : Dead ((F.less std p).at std p) := by
  obtain ⟨r, s⟩ := p
  cases s with
  | nil =>
    intro t n hf
    have h' : Fit (((look .un (del F.tb r) r).at std []).at std t) n := hf
    rw [look_del, if_pos rfl, at_un, at_un] at h'
    exact h'
  | cons y s =>
    have h : Dead ((F.setAt std (r, y :: s) .un).at std (r, y :: s)) := by
      rw [at_setAt, if_pos rfl]
      exact dead_set _ _
    exact h
theorem dropL_sound {r : Nat} {s : List (Nat × Nat)} {i : Nat} : ∀ (n j : Nat) (F : Fr) (σ : Gh), FR F σ w vt → Dom F σ [] → ∃ σ', FR (dropL std r s i j n F) σ' w vt ∧ Dom (dropL std r s i j n F) σ' [] ∧ (∀ k, k < n → Bare σ' (qAt r s i (j + k))) ∧ Goes w σ w σ' ∧
    (∀ g x, σ g = some x → (∀ k, ¬ Und (qAt r s i k) x.p) → σ' g = some x) ∧ (∀ q, Bare σ q → Bare σ' q) ∧ (dropL std r s i j n F).n = F.n ∧ (∀ k, k < n → Dead ((dropL std r s i j n F).at std (qAt r s i (j + k)))) ∧ (∀ q, Dead (F.at std q) → Dead ((dropL std r s i j n F).at std q)) := by
  intro n
  induction n with
  | zero => intro j F σ hF hd; exact ⟨σ, hF, hd, fun k h => by omega, Goes.refl _ _, fun g x h _ => h, fun q h => h, rfl, fun k h => by omega, fun q h => h⟩
  | succ n ih =>
    intro j F σ hF hd
    simp only [dropL]
    obtain ⟨σ1, h1, h2, h3, h4, h5, h6, h7, h8, h9⟩ : ∃ σ1, FR (match (F.at std (qAt r s i j)).isFz with | true => F | false => F.drop std (qAt r s i j)) σ1 w vt ∧ Dom (match (F.at std (qAt r s i j)).isFz with | true => F | false => F.drop std (qAt r s i j)) σ1 [] ∧
        Bare σ1 (qAt r s i j) ∧ Goes w σ w σ1 ∧ (∀ g x, σ g = some x → (∀ k, ¬ Und (qAt r s i k) x.p) → σ1 g = some x) ∧ (∀ q, Bare σ q → Bare σ1 q) ∧ (match (F.at std (qAt r s i j)).isFz with | true => F | false => F.drop std (qAt r s i j)).n = F.n ∧
        Dead ((match (F.at std (qAt r s i j)).isFz with | true => F | false => F.drop std (qAt r s i j)).at std (qAt r s i j)) ∧ (∀ q, Dead (F.at std q) → Dead ((match (F.at std (qAt r s i j)).isFz with | true => F | false => F.drop std (qAt r s i j)).at std q)) := by
      split
      · rename_i hfz
        have hdead : Dead (F.at std (qAt r s i j)) := by
          intro t n h3
          cases ho : F.at std (qAt r s i j) with
          | fz c => rw [ho] at h3; cases t <;> simp [O.at, Fit] at h3
          | un => rw [ho] at hfz; simp [O.isFz] at hfz
          | osl xs => rw [ho] at hfz; simp [O.isFz] at hfz
          | obx xs => rw [ho] at hfz; simp [O.isFz] at hfz
        refine ⟨σ, hF, hd, ?_, Goes.refl _ _, fun g x h _ => h, fun q h => h, rfl, hdead, fun q h => h⟩
        rintro g x hx ⟨h1, t, h2⟩
        rcases hd g x hx with h3 | ⟨_, _, _, h3, _⟩
        · have hx' : x.p = ((qAt r s i j).1, (qAt r s i j).2 ++ t) := by rw [← h1, ← h2]
          rw [hx'] at h3
          rw [← at_at] at h3
          exact hdead _ _ h3
        · cases h3
      · exact ⟨_, hF.drop _, hd.drop _, bare_drop _, goes_tr, fun g x hx hk => tr_some hx (killP_not (hk j)), fun q hq => hq.drop _, less_n, dead_less, fun q hq => hq.less⟩
    obtain ⟨σ2, k1, k2, k3, k4, k5, k6, k7, k8, k9⟩ := ih (j + 1) _ σ1 h1 h2
    refine ⟨σ2, k1, k2, ?_, h4.trans k4, fun g x hx hk => k5 g x (h5 g x hx hk) hk, fun q hq => k6 q (h6 q hq), k7.trans h7, ?_, fun q hq => k9 q (h9 q hq)⟩
    rotate_left
    · intro k hk
      cases k with
      | zero => exact k9 _ h8
      | succ k =>
        have := k8 k (by omega)
        rw [show j + (k + 1) = j + 1 + k by omega]
        exact this
    intro k hk
    cases k with
    | zero => exact k6 _ h3
    | succ k =>
      have := k3 k (by omega)
      rw [show j + (k + 1) = j + 1 + k by omega]
      exact this
end
end Go.Proofs.Ytlmejcmnmdleaaa.Ai
