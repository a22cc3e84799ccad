/- The abstract interpreter, part 10: the frame under moves: what is given up, what is lifted from place to place. -/
import Derived.Test.YtlmejcmnmdleaaaAi9
namespace Go.Proofs.Ytlmejcmnmdleaaa.Ai
open Go
set_option linter.unusedSectionVars false
set_option linter.unusedSimpArgs false

theorem beq_ne {a b : Nat} (h : ¬ a = b) : nq a b = false := by
  cases hb : nq a b with
  | false => rfl
  | true => exact absurd (Nat.eq_of_beq_eq_true hb) h
/-- x lies at p, or below. -/
def Und (p x : Path) : Prop := x.1 = p.1 ∧ ∃ s, x.2 = p.2 ++ s
theorem pre_some {p s r : List (Nat × Nat)} (h : pre std p s = some r) : s = p ++ r := by
  induction p generalizing s with
  | nil => simp [pre] at h; exact h
  | cons x p ih =>
    obtain ⟨a, b⟩ := x
    cases s with
    | nil => simp [pre] at h
    | cons y s =>
      obtain ⟨c, d⟩ := y
      simp only [pre, std] at h
      split at h
      · rename_i he
        simp at he
        obtain ⟨rfl, rfl⟩ := he
        rw [ih h]; rfl
      · cases h
theorem pre_append (p r : List (Nat × Nat)) : pre std p (p ++ r) = some r := by
  induction p with
  | nil => simp [pre]
  | cons x p ih => obtain ⟨a, b⟩ := x; simp [pre, std]; simpa [std] using ih
theorem pre_none {p s : List (Nat × Nat)} (h : ¬ ∃ r, s = p ++ r) : pre std p s = none := by
  cases hp : pre std p s with
  | none => rfl
  | some r => exact absurd ⟨r, pre_some hp⟩ h
theorem killP_und {p x : Path} (h : Und p x) : killP std p x = none := by
  obtain ⟨h1, s, h2⟩ := h
  simp [killP, h1, h2, pre_append]
theorem killP_not {p x : Path} (h : ¬ Und p x) : killP std p x = some x := by
  unfold killP
  split
  · rename_i he
    have he : x.1 = p.1 := by simpa [] using he
    rw [pre_none (fun ⟨r, hr⟩ => h ⟨he, r, hr⟩)]
  · rfl
theorem moveP_und {p q : Path} (s : List (Nat × Nat)) : moveP std p q (p.1, p.2 ++ s) = some (q.1, q.2 ++ s) := by simp [moveP, pre_append]
theorem moveP_not {p q x : Path} (h : ¬ Und p x) : moveP std p q x = some x := by
  unfold moveP
  split
  · rename_i he
    have he : x.1 = p.1 := by simpa [] using he
    rw [pre_none (fun ⟨r, hr⟩ => h ⟨he, r, hr⟩)]
  · rfl
theorem und_eq {p x : Path} (h : Und p x) : ∃ s, x = (p.1, p.2 ++ s) := by
  obtain ⟨h1, s, h2⟩ := h
  exact ⟨s, by rw [← h1, ← h2]⟩

def Gh.tr (σ : Gh) (τ : Path → Option Path) : Gh := fun g => match σ g with
  | some x => match τ x.p with
    | some q => some { x with p := q }
    | none => none
  | none => none
theorem tr_some {σ : Gh} {τ : Path → Option Path} {g : Nat} {x : Own} {q : Path} (h : σ g = some x) (hq : τ x.p = some q) : σ.tr τ g = some { x with p := q } := by simp [Gh.tr, h, hq]
theorem tr_none {σ : Gh} {τ : Path → Option Path} {g : Nat} (h : σ g = none) : σ.tr τ g = none := by simp [Gh.tr, h]
theorem tr_inv {σ : Gh} {τ : Path → Option Path} {g : Nat} {y : Own} (h : σ.tr τ g = some y) : ∃ x, σ g = some x ∧ τ x.p = some y.p ∧ y = { x with p := y.p } := by
  unfold Gh.tr at h
  split at h
  · rename_i x hx
    split at h
    · rename_i q hq
      simp at h
      subst h
      exact ⟨x, hx, hq, rfl⟩
    · cases h
  · cases h
section
variable [Fence] {w : World} {σ : Gh} {τ : Path → Option Path} {F : Fr} {vt : Nat → Value}
theorem stays_tr : Stays w σ w (σ.tr τ) := ⟨fun _ _ h => tr_none h, fun _ _ _ => rfl⟩
theorem goes_tr : Goes w σ w (σ.tr τ) := ⟨stays_tr, Nat.le_refl _, rfl, rfl, rfl⟩
theorem RepC.tr {c : C} {v : Value} (h : RepC w σ c v) : RepC w (σ.tr τ) c v := h.move (Nat.le_refl _) stays_tr
theorem RepA.tr {x : A} {v : Value} (h : RepA w σ x v) : RepA w (σ.tr τ) (x.tr τ) v := by
  induction h with
  | un v => exact .un v
  | ud => exact .ud
  | fz c v h => exact .fz c v h.tr
  | rf p off len g n cap sz hg hl hn =>
    simp only [A.tr]
    cases hq : τ p with
    | none => exact .un _
    | some q => exact .rf q off len g n cap sz (tr_some hg hq) hl hn
  | rz p off b =>
    simp only [A.tr]
    cases hq : τ p with
    | none => exact .un _
    | some q => exact .rz q off b
  | pp p i j g n cap sz hg =>
    simp only [A.tr]
    cases hq : τ p with
    | none => exact .un _
    | some q => exact .pp q i j g n cap sz (tr_some hg hq)
  | clo f caps vs us hl hm hr ih =>
    simp only [A.tr, trL_eq]
    refine .clo f _ vs us (by simpa using hl) ?_ ?_
    · intro j c hj
      rw [List.getElem?_map] at hj
      cases h : caps[j]? with
      | none => rw [h] at hj; simp at hj
      | some x => exact hm j x h
    · intro j c hj
      rw [List.getElem?_map] at hj
      cases h : caps[j]? with
      | none => rw [h] at hj; simp at hj
      | some x => rw [h] at hj; simp at hj; subst hj; exact ih j x h
theorem RepV.map {α β : Type} {R : Nat → α → Value → Prop} {S : Nat → β → Value → Prop} {f : α → β} (hf : ∀ j a v, R j a v → S j (f a) v) {x : V1 α} {v : Value} (h : RepV R x v) : RepV S (x.1, x.2.map f) v := by
  obtain ⟨g, as⟩ := x
  cases g with
  | false => match as, h with
    | [a], h => exact hf _ _ _ h
  | true =>
    obtain ⟨cs, rfl, h1, h2⟩ := h
    refine ⟨cs, rfl, by simpa using h1, fun j b hj => ?_⟩
    rw [List.getElem?_map] at hj
    cases ha : as[j]? with
    | none => rw [ha] at hj; simp at hj
    | some a =>
      rw [ha] at hj
      simp at hj
      subst hj
      obtain ⟨u, hu, hr⟩ := h2 j a ha
      exact ⟨u, hu, hf _ _ _ hr⟩
theorem trVs_eq (xs : List (V1 A)) : trVs τ xs = xs.map (trV τ) := by induction xs with | nil => rfl | cons x r ih => simp [trVs, ih]
theorem RepT.tr {x : TV A} {v : Value} (h : RepT (fun _ _ => RepA w σ) x v) : RepT (fun _ _ => RepA w (σ.tr τ)) (x.tr τ) v := by
  cases x with
  | v x =>
    have := RepV.map (S := fun _ => RepA w (σ.tr τ)) (f := A.tr τ) (fun _ _ _ => RepA.tr) h
    simp only [TV.tr, trV, trL_eq]
    exact this
  | tup xs =>
    obtain ⟨vs, rfl, h1, h2⟩ := h
    refine ⟨vs, rfl, by simpa [trVs_eq] using h1, fun k x hk => ?_⟩
    rw [trVs_eq, List.getElem?_map] at hk
    cases hx : xs[k]? with
    | none => rw [hx] at hk; simp at hk
    | some y =>
      rw [hx] at hk
      simp at hk
      subst hk
      obtain ⟨u, hu, hr⟩ := h2 k y hx
      refine ⟨u, hu, ?_⟩
      have := RepV.map (S := fun _ => RepA w (σ.tr τ)) (f := A.tr τ) (fun _ _ _ => RepA.tr) hr
      simpa [trV, trL_eq] using this
theorem look_trTm (tm : List (Nat × TV A)) (t : Nat) : look unT (trTm τ tm) t = (look unT tm t).tr τ := by
  induction tm with
  | nil => rfl
  | cons x r ih =>
    obtain ⟨k, y⟩ := x
    simp only [trTm, look]
    cases nq k t <;> simp [ih]
theorem look_del {α : Type} (d : α) (l : List (Nat × α)) (k t : Nat) : look d (del l k) t = if k = t then d else look d l t := by
  induction l with
  | nil => simp [look, del]
  | cons x r ih =>
    obtain ⟨k', v⟩ := x
    simp only [del]
    by_cases h : k' = k
    · subst h
      simp only [nq_self, cond_true, ih, look]
      by_cases h2 : k' = t
      · simp [h2]
      · have : nq k' t = false := beq_ne h2
        simp [this, h2]
    · have h1 : nq k' k = false := beq_ne h
      simp only [h1, cond_false, look, ih]
      by_cases h2 : k' = t
      · subst h2
        simp
        intro h3; exact absurd h3.symm h
      · have : nq k' t = false := beq_ne h2
        simp [this]
theorem look_cons {α : Type} (d : α) (k : Nat) (v : α) (l : List (Nat × α)) (t : Nat) : look d ((k, v) :: l) t = if k = t then v else look d l t := by
  simp only [look]
  by_cases h : k = t
  · subst h; simp
  · have : nq k t = false := beq_ne h
    simp [this, h]

/-- A place is emptied: what is not below it stays. -/
theorem set_un {p : Path} {o : O} {v : Value} (h : RepO w σ p o v) : ∀ s : List (Nat × Nat), (∀ x, ¬ Und (p.1, p.2 ++ s) x → τ x = some x) → RepO w (σ.tr τ) p (o.set std s .un) v := by
  -- what lies apart from the place keeps its book
  have apart : ∀ {p' : Path} {o' : O} {v' : Value} {P : Path}, RepO w σ p' o' v' → (∀ x, ¬ Und P x → τ x = some x) → (∀ t, ¬ Und P (p'.1, p'.2 ++ t)) → RepO w (σ.tr τ) p' o' v' := by
    intro p' o' v' P h hτ hn
    refine h.move (Nat.le_refl _) stays_tr p' ?_
    intro g s n cap sz hg _
    exact ⟨rfl, tr_some hg (hτ _ (hn s))⟩
  induction h with
  | un p v hv =>
    intro s hτ
    cases s with
    | nil => exact .un _ _ hv
    | cons x s => exact .un _ _ hv
  | fz p c v h =>
    intro s hτ
    cases s with
    | nil => exact .un _ _ h.one
    | cons x s => exact .fz _ _ _ h.tr
  | oslz p a =>
    intro s hτ
    cases s with
    | nil => exact .un _ _ rfl
    | cons x s => obtain ⟨i, j⟩ := x; simpa [O.set, std] using RepO.oslz (w := w) (σ := σ.tr τ) p a
  | osl p xs e sz g cap cur us hh hc hcm hl hs hg hm hr ih =>
    intro s hτ
    cases s with
    | nil => exact .un _ _ rfl
    | cons x s =>
      obtain ⟨i, j⟩ := x
      have hself : ¬ Und (p.1, p.2 ++ (i, j) :: s) p := by
        rintro ⟨_, r, hr⟩
        have := congrArg List.length hr
        simp at this
      have hpne : ∀ (i' j' : Nat), ¬ (i' = i ∧ j' = j) → ∀ t, ¬ Und (p.1, p.2 ++ (i, j) :: s) (p.1, p.2 ++ [(i', j')] ++ t) := by
        rintro i' j' hne t ⟨_, r, hr⟩
        simp at hr
        exact hne ⟨hr.1.1, hr.1.2⟩
      have keep : ∀ i' j' y o, xs[i']? = some y → y[j']? = some o → ¬ (i' = i ∧ j' = j) → RepO w (σ.tr τ) (p.1, p.2 ++ [(i', j')]) o (us i' j') := fun i' j' y o hi hj hne =>
        apart (hr i' j' y o hi hj) hτ (hpne i' j' hne)
      simp only [O.set, std, nth_eq, setN_eq]
      cases hi : xs[i]? with
      | none =>
        exact .osl p xs e sz g cap cur us hh hc hcm hl hs (tr_some hg (hτ _ hself)) hm (fun i' j' y o h1 h2 => keep i' j' y o h1 h2 (by rintro ⟨rfl, _⟩; rw [hi] at h1; cases h1))
      | some y =>
        cases hj : y[j]? with
        | none =>
          simp only [hj]
          refine .osl p xs e sz g cap cur us hh hc hcm hl hs (tr_some hg (hτ _ hself)) hm (fun i' j' y' o h1 h2 => keep i' j' y' o h1 h2 ?_)
          rintro ⟨rfl, rfl⟩
          rw [hi] at h1
          injection h1 with h1
          subst h1
          rw [hj] at h2
          cases h2
        | some o =>
          simp only [hj]
          have hnew := ih i j y o hi hj s (by simpa using hτ)
          have hlen : (xs.set i (y.set j (O.set std o s .un))).length = xs.length := by simp
          have hilt : i < xs.length := (List.getElem?_eq_some_iff.1 hi).1
          have hjlt : j < y.length := (List.getElem?_eq_some_iff.1 hj).1
          have hget : ∀ i' j' y' o', (xs.set i (y.set j (O.set std o s .un)))[i']? = some y' → y'[j']? = some o' →
              (i' = i ∧ j' = j ∧ o' = O.set std o s .un) ∨ (¬ (i' = i ∧ j' = j) ∧ ∃ y'', xs[i']? = some y'' ∧ y''[j']? = some o') := by
            intro i' j' y' o' h1 h2
            by_cases hii : i' = i
            · subst hii
              rw [List.getElem?_set_self hilt] at h1
              injection h1 with h1
              subst h1
              by_cases hjj : j' = j
              · subst hjj
                rw [List.getElem?_set_self hjlt] at h2
                injection h2 with h2
                exact .inl ⟨rfl, rfl, h2.symm⟩
              · rw [List.getElem?_set_ne (Ne.symm hjj)] at h2
                exact .inr ⟨by simp [hjj], y, hi, h2⟩
            · rw [List.getElem?_set_ne (Ne.symm hii)] at h1
              exact .inr ⟨by simp [hii], y', h1, h2⟩
          have := RepO.osl (w := w) (σ := σ.tr τ) p (xs.set i (y.set j (O.set std o s .un))) e sz g cap cur us hh (by omega) hcm hl ?_ (by rw [hlen]; exact tr_some hg (hτ _ hself)) ?_ ?_
          · rw [hlen] at this; exact this
          · intro y' hy'
            rcases List.mem_or_eq_of_mem_set hy' with h | rfl
            · exact hs y' h
            · simpa using hs y (List.mem_of_getElem? hi)
          · intro i' j' y' o' h1 h2
            rcases hget i' j' y' o' h1 h2 with ⟨rfl, rfl, _⟩ | ⟨_, y'', h3, h4⟩
            · exact hm _ _ y o hi hj
            · exact hm _ _ y'' o' h3 h4
          · intro i' j' y' o' h1 h2
            rcases hget i' j' y' o' h1 h2 with ⟨rfl, rfl, rfl⟩ | ⟨hne, y'', h3, h4⟩
            · exact hnew
            · exact keep i' j' y'' o' h3 h4 hne
  | obx p cs g e cells us n cap sz hh hl hg hm hr ih =>
    intro s hτ
    cases s with
    | nil => exact .un _ _ rfl
    | cons x s =>
      obtain ⟨i, j⟩ := x
      have hself : ¬ Und (p.1, p.2 ++ (i, j) :: s) p := by
        rintro ⟨_, r, hr⟩
        have := congrArg List.length hr
        simp at this
      have keep : ∀ j' o, cs[j']? = some o → ¬ (0 = i ∧ j' = j) → RepO w (σ.tr τ) (p.1, p.2 ++ [(0, j')]) o (us j') := fun j' o hj hne =>
        apart (hr j' o hj) hτ (by
          rintro t ⟨_, r, hr⟩
          simp at hr
          exact hne ⟨hr.1.1, hr.1.2⟩)
      simp only [O.set, nth_eq, setN_eq]
      cases i with
      | succ i => exact .obx p cs g e cells us n cap sz hh hl (tr_some hg (hτ _ hself)) hm (fun j' o h => keep j' o h (by simp))
      | zero =>
        cases hj : cs[j]? with
        | none => exact .obx p cs g e cells us n cap sz hh hl (tr_some hg (hτ _ hself)) hm (fun j' o h => keep j' o h (by rintro ⟨_, rfl⟩; rw [hj] at h; cases h))
        | some o =>
          have hnew := ih j o hj s (by simpa using hτ)
          have hjlt : j < cs.length := (List.getElem?_eq_some_iff.1 hj).1
          refine .obx p _ g e cells us n cap sz hh (by simpa using hl) (tr_some hg (hτ _ hself)) ?_ ?_
          · intro j' o' h
            by_cases hjj : j' = j
            · subst hjj; exact hm _ o hj
            · rw [List.getElem?_set_ne (Ne.symm hjj)] at h; exact hm _ _ h
          · intro j' o' h
            by_cases hjj : j' = j
            · subst hjj
              rw [List.getElem?_set_self hjlt] at h
              injection h with h
              subst h
              exact hnew
            · rw [List.getElem?_set_ne (Ne.symm hjj)] at h
              exact keep j' o' h (by simp [hjj])

/-- Nothing lies at q, or below. -/
def Bare (σ : Gh) (q : Path) : Prop := ∀ g x, σ g = some x → ¬ Und q x.p
/-- An object of n elements. -/
def Fit : O → Nat → Prop
  | .osl xs, n => xs.length = n ∧ 0 < n
  | .obx _, _ => True
  | _, _ => False
/-- Whatever has an owner lies in the table, or is on its way into it. -/
def Dom (F : Fr) (σ : Gh) (pend : List (Path × O)) : Prop := ∀ g x, σ g = some x → Fit (F.at std x.p) x.n ∨ ∃ q o s, (q, o) ∈ pend ∧ x.p = (q.1, q.2 ++ s) ∧ Fit (o.at std s) x.n
theorem at_set (z : O) : ∀ (s : List (Nat × Nat)) (o : O) (t : List (Nat × Nat)) (n : Nat), (¬ ∃ r, t = s ++ r) → Fit (o.at std t) n → Fit ((o.set std s z).at std t) n := by
  intro s
  induction s with
  | nil => intro o t n h; exact absurd ⟨t, rfl⟩ h
  | cons x s ih =>
    obtain ⟨i, j⟩ := x
    intro o t n h hf
    cases o with
    | un => simpa [O.set] using hf
    | fz c => simpa [O.set] using hf
    | osl xs =>
      cases t with
      | nil =>
        simp only [O.at, Fit] at hf
        simp only [O.set, std, nth_eq, setN_eq]
        cases hi : xs[i]? with
        | none => simpa [O.at, Fit] using hf
        | some y => cases hj : y[j]? <;> simpa [O.at, Fit, hj] using hf
      | cons x' t =>
        obtain ⟨i', j'⟩ := x'
        simp only [O.set, std, nth_eq, setN_eq]
        cases hi : xs[i]? with
        | none => exact hf
        | some y =>
          cases hj : y[j]? with
          | none => simp only [hj]; exact hf
          | some o =>
            simp only [hj]
            have hilt : i < xs.length := (List.getElem?_eq_some_iff.1 hi).1
            have hjlt : j < y.length := (List.getElem?_eq_some_iff.1 hj).1
            simp only [O.at, std, nth_eq] at hf ⊢
            by_cases hii : i' = i
            · subst hii
              rw [List.getElem?_set_self hilt]
              rw [hi] at hf
              dsimp only at hf ⊢
              by_cases hjj : j' = j
              · subst hjj
                rw [List.getElem?_set_self hjlt]
                rw [hj] at hf
                exact ih o t n (fun ⟨r, hr⟩ => h ⟨r, by rw [hr]; rfl⟩) hf
              · rw [List.getElem?_set_ne (Ne.symm hjj)]
                exact hf
            · rw [List.getElem?_set_ne (Ne.symm hii)]
              exact hf
    | obx cs =>
      cases t with
      | nil =>
        simp only [O.set, nth_eq, setN_eq]
        cases i with
        | succ i => simp [O.at, Fit]
        | zero => cases hj : cs[j]? <;> simp [O.at, Fit]
      | cons x' t =>
        obtain ⟨i', j'⟩ := x'
        simp only [O.set, nth_eq, setN_eq]
        cases i with
        | succ i => exact hf
        | zero =>
          cases hj : cs[j]? with
          | none => exact hf
          | some o =>
            have hjlt : j < cs.length := (List.getElem?_eq_some_iff.1 hj).1
            cases i' with
            | succ i' => simp [O.at, Fit] at hf
            | zero =>
              simp only [O.at, nth_eq] at hf ⊢
              by_cases hjj : j' = j
              · subst hjj
                rw [List.getElem?_set_self hjlt]
                rw [hj] at hf
                exact ih o t n (fun ⟨r, hr⟩ => h ⟨r, by rw [hr]; rfl⟩) hf
              · rw [List.getElem?_set_ne (Ne.symm hjj)]
                exact hf
theorem at_set_un : ∀ (s : List (Nat × Nat)) (o : O) (t : List (Nat × Nat)) (n : Nat), (¬ ∃ r, t = s ++ r) → Fit (o.at std t) n → Fit ((o.set std s .un).at std t) n := at_set .un
theorem fit_less {F : Fr} {p x : Path} {n : Nat} (h : ¬ Und p x) (hf : Fit (F.at std x) n) : Fit ((F.less std p).at std x) n := by
  obtain ⟨r, s⟩ := p
  obtain ⟨r', t⟩ := x
  cases s with
  | nil =>
    show Fit ((look .un (del F.tb r) r').at std t) n
    rw [look_del, if_neg (fun e => h ⟨e.symm, t, rfl⟩)]
    exact hf
  | cons y s =>
    show Fit ((look .un ((r, (look .un F.tb r).set std (y :: s) .un) :: del F.tb r) r').at std t) n
    rw [look_cons, look_del]
    by_cases e : r = r'
    · subst e
      rw [if_pos rfl]
      exact at_set_un _ _ _ _ (fun ⟨u, hu⟩ => h ⟨rfl, u, hu⟩) hf
    · rw [if_neg e, if_neg e]; exact hf
theorem has_del (l : List (Nat × O)) (k t : Nat) : has (del l k) t = (has l t && !(k == t)) := by
  induction l with
  | nil => simp [has, del]
  | cons x r ih =>
    obtain ⟨k', v⟩ := x
    simp only [del]
    by_cases h : k' = k
    · subst h
      simp only [nq_self, cond_true, ih, has]
      by_cases h2 : k' = t
      · simp [h2]
      · simp [beq_ne h2, h2]
    · simp only [beq_ne h, cond_false, has, ih]
      by_cases h2 : k' = t
      · subst h2
        have : (k == k') = false := by simpa using fun e : k = k' => h e.symm
        simp [this]
      · simp [beq_ne h2]
theorem has_cons (l : List (Nat × O)) (k t : Nat) (o : O) : has ((k, o) :: l) t = (k == t || has l t) := by
  simp only [has]
  by_cases h : k = t
  · subst h; simp
  · simp [beq_ne h, h]
theorem less_tm (F : Fr) (p : Path) : (F.less std p).tm = F.tm := by unfold Fr.less; split <;> rfl
theorem tm_tr (h : FR F σ w vt) (t : Nat) : RepT (fun _ _ => RepA w (σ.tr τ)) (look unT (trTm τ F.tm) t) (vt t) := by
  rw [look_trTm]; exact RepT.tr (h.tm t)
/-- What lay at p is out of its place, whatever becomes of it: what does not lie there stays. -/
theorem FR.less (h : FR F σ w vt) (p : Path) (hτ : ∀ x, ¬ Und p x → τ x = some x)
    (hin : ∀ g g' x y q, σ g = some x → σ g' = some y → τ x.p = some q → τ y.p = some q → x.p = y.p) : FR ((F.less std p).tr τ) (σ.tr τ) w vt := by
  refine ⟨?_, ?_, ?_, fun t => ?_⟩
  · intro g g' x y hx hy he
    obtain ⟨x', h1, h2, h3⟩ := tr_inv hx
    obtain ⟨y', h4, h5, h6⟩ := tr_inv hy
    exact h.inj g g' x' y' h1 h4 (hin g g' x' y' _ h1 h4 h2 (by rw [he]; exact h5))
  · intro g x hx
    obtain ⟨x', h1, _⟩ := tr_inv hx
    exact h.lt g x' h1
  · intro id
    have hroot : ∀ id, id ≠ p.1 → ∃ v, RepO w (σ.tr τ) (id, []) (look .un F.tb id) v := by
      intro id hid
      obtain ⟨v, hv⟩ := h.tb id
      refine ⟨v, hv.move (Nat.le_refl _) stays_tr _ ?_⟩
      intro g s n cap sz hg _
      refine ⟨rfl, tr_some hg (hτ _ ?_)⟩
      rintro ⟨h1, _⟩
      exact hid h1
    obtain ⟨r, s⟩ := p
    cases s with
    | nil =>
      show ∃ v, RepO w (σ.tr τ) (id, []) (look .un (del F.tb r) id) v
      rw [look_del]
      by_cases hid : r = id
      · rw [if_pos hid]; exact ⟨.bool false, .un _ _ rfl⟩
      · rw [if_neg hid]; exact hroot id (fun e => hid e.symm)
    | cons x s =>
      show ∃ v, RepO w (σ.tr τ) (id, []) (look .un ((r, (look .un F.tb r).set std (x :: s) .un) :: del F.tb r) id) v
      rw [look_cons, look_del]
      by_cases hid : r = id
      · subst hid
        rw [if_pos rfl]
        obtain ⟨v, hv⟩ := h.tb r
        exact ⟨v, set_un hv (x :: s) (by simpa using hτ)⟩
      · rw [if_neg hid, if_neg hid]; exact hroot id (fun e => hid e.symm)
  · show RepT _ (look unT (trTm τ (F.less std p).tm) t) (vt t)
    rw [less_tm]
    exact tm_tr (F := F) h t
theorem FR.drop (h : FR F σ w vt) (p : Path) : FR (F.drop std p) (σ.tr (killP std p)) w vt := by
  refine h.less p (fun x => killP_not) ?_
  intro g g' x y q hx hy h1 h2
  have e : ∀ x, killP std p x = some q → x = q := by
    intro x hx
    by_cases hu : Und p x
    · rw [killP_und hu] at hx; cases hx
    · rw [killP_not hu] at hx; injection hx
  rw [e _ h1, e _ h2]
theorem bare_drop (p : Path) : Bare (σ.tr (killP std p)) p := by
  intro g x hx hu
  obtain ⟨x', h1, h2, h3⟩ := tr_inv hx
  by_cases h : Und p x'.p
  · rw [killP_und h] at h2; cases h2
  · rw [killP_not h] at h2
    injection h2 with h2
    rw [h2] at h
    exact h hu
theorem Bare.drop {q : Path} (h : Bare σ q) (p : Path) : Bare (σ.tr (killP std p)) q := by
  intro g x hx hu
  obtain ⟨x', h1, h2, h3⟩ := tr_inv hx
  by_cases hp : Und p x'.p
  · rw [killP_und hp] at h2; cases h2
  · rw [killP_not hp] at h2
    injection h2 with h2
    exact h g x' h1 (by rw [h2]; exact hu)
theorem look_none {l : List (Nat × O)} {t : Nat} (h : has l t = false) : look .un l t = .un := by
  induction l with
  | nil => rfl
  | cons x r ih =>
    obtain ⟨k, v⟩ := x
    simp only [has] at h
    simp only [look]
    cases hb : nq k t with
    | true => rw [hb] at h; simp at h
    | false => rw [hb] at h; exact ih (by simpa using h)
theorem at_un (s : List (Nat × Nat)) : O.at std .un s = .un := by cases s <;> rfl
theorem Dom.drop {pend : List (Path × O)} (h : Dom F σ pend) (p : Path) : Dom (F.drop std p) (σ.tr (killP std p)) pend := by
  intro g x hx
  obtain ⟨x', h1, h2, h3⟩ := tr_inv hx
  have hn : x.n = x'.n := by rw [h3]
  by_cases hp : Und p x'.p
  · rw [killP_und hp] at h2; cases h2
  · rw [killP_not hp] at h2
    injection h2 with h2
    rcases h g x' h1 with h4 | h4
    · left; rw [← h2, hn]; exact fit_less hp h4
    · right; rw [← h2, hn]; exact h4
theorem FR.clear (h : FR F σ w vt) (hd : Dom F σ []) (id : Nat) : ∃ σ', FR (F.clear std id) σ' w vt ∧ Dom (F.clear std id) σ' [] ∧ Bare σ' (id, []) ∧ Goes w σ w σ' := by
  unfold Fr.clear
  cases hh : has F.tb id with
  | true => exact ⟨_, h.drop _, hd.drop _, bare_drop _, goes_tr⟩
  | false =>
    refine ⟨σ, h, hd, ?_, Goes.refl _ _⟩
    rintro g x hx ⟨h1, _⟩
    rcases hd g x hx with h2 | ⟨_, _, _, h2, _⟩
    · unfold Fr.at at h2
      rw [h1, look_none hh, at_un] at h2
      exact h2
    · cases h2
end
end Go.Proofs.Ytlmejcmnmdleaaa.Ai
