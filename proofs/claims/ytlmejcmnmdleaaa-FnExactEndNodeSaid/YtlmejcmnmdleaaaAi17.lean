/- The abstract interpreter, part 17: references that lead elsewhere; cells that are stored one after the other. -/
import Derived.Test.YtlmejcmnmdleaaaAi16
namespace Go.Proofs.Ytlmejcmnmdleaaa.Ai
open Go Go.RowKit
set_option linter.unusedSectionVars false
set_option linter.unusedSimpArgs false
section
variable [Fence] {P : Program} {T : Nat → Option Ty} {w w' : World} {σ σ' : Gh} {F : Fr} {vt : Nat → Value} {a : Act}

mutual
/-- No reference into the root id. -/
def A.nr (id : Nat) : A → Prop
  | .rf p _ _ => p.1 ≠ id
  | .pp p _ _ => p.1 ≠ id
  | .clo _ caps => A.nrL id caps
  | _ => True
def A.nrL (id : Nat) : List A → Prop
  | [] => True
  | a :: r => a.nr id ∧ A.nrL id r
end
theorem nrL_get {id : Nat} {l : List A} (h : A.nrL id l) {j : Nat} {x : A} (hj : l[j]? = some x) : x.nr id := by
  induction l generalizing j with
  | nil => simp at hj
  | cons y l ih =>
    cases j with
    | zero => simp at hj; subst hj; exact h.1
    | succ j => exact ih h.2 (by simpa using hj)
mutual
theorem tr_kill_nr (id : Nat) : (x : A) → (x.tr (killP std (id, []))).nr id
  | .un | .ud | .fz _ => trivial
  | .rf p off len => by
    simp only [A.tr]
    by_cases hu : Und (id, []) p
    · rw [killP_und hu]; trivial
    · rw [killP_not hu]; exact fun e => hu ⟨e, p.2, rfl⟩
  | .pp p i j => by
    simp only [A.tr]
    by_cases hu : Und (id, []) p
    · rw [killP_und hu]; trivial
    · rw [killP_not hu]; exact fun e => hu ⟨e, p.2, rfl⟩
  | .clo f caps => trL_kill_nr id caps
theorem trL_kill_nr (id : Nat) : (l : List A) → A.nrL id (A.trL (killP std (id, [])) l)
  | [] => trivial
  | x :: l => ⟨tr_kill_nr id x, trL_kill_nr id l⟩
end
mutual
theorem tr_nr {id : Nat} {τ : Path → Option Path} (hτ : ∀ q q', τ q = some q' → q' = q) : (x : A) → x.nr id → (x.tr τ).nr id
  | .un, _ | .ud, _ | .fz _, _ => trivial
  | .rf p off len, h => by
    simp only [A.tr]
    cases e : τ p with
    | none => trivial
    | some q => rw [hτ _ _ e]; exact h
  | .pp p i j, h => by
    simp only [A.tr]
    cases e : τ p with
    | none => trivial
    | some q => rw [hτ _ _ e]; exact h
  | .clo f caps, h => trL_nr hτ caps h
theorem trL_nr {id : Nat} {τ : Path → Option Path} (hτ : ∀ q q', τ q = some q' → q' = q) : (l : List A) → A.nrL id l → A.nrL id (A.trL τ l)
  | [], _ => trivial
  | x :: l, h => ⟨tr_nr hτ x h.1, trL_nr hτ l h.2⟩
end
theorem kill_id {p q q' : Path} (h : killP std p q = some q') : q' = q ∧ ¬ Und p q := by
  by_cases hu : Und p q
  · rw [killP_und hu] at h; cases h
  · rw [killP_not hu] at h; injection h with h; exact ⟨h.symm, hu⟩
/-- What is known of a temporary's cell, when less of it is known. -/
theorem RepA.sub {τ τ' : Path → Option Path} (hτ : ∀ q q', τ' q = some q' → τ q = some q') {x : A} {v : Value} (h : RepA w σ (x.tr τ) v) : RepA w σ (x.tr τ') v := by
  revert v
  refine A.rec (motive_1 := fun x => ∀ {v}, RepA w σ (x.tr τ) v → RepA w σ (x.tr τ') v) (motive_2 := fun l => ∀ (j : Nat) (y : A), l[j]? = some y → ∀ {v}, RepA w σ (y.tr τ) v → RepA w σ (y.tr τ') v) ?_ ?_ ?_ ?_ ?_ ?_ ?_ ?_ x
  · exact fun h => h
  · exact fun h => h
  · exact fun c v h => h
  · intro p off len v h
    simp only [A.tr] at h ⊢
    cases e : τ' p with
    | none => exact .un _
    | some q => rw [hτ _ _ e] at h; exact h
  · intro p off len v h
    simp only [A.tr] at h ⊢
    cases e : τ' p with
    | none => exact .un _
    | some q => rw [hτ _ _ e] at h; exact h
  · intro f caps ih v h
    simp only [A.tr, trL_eq] at h ⊢
    cases h with
    | clo _ _ vs us hl hm hr =>
      refine .clo _ _ vs us (by simpa using hl) ?_ ?_
      · intro j c hj
        rw [List.getElem?_map] at hj
        cases hc : caps[j]? with
        | none => rw [hc] at hj; simp at hj
        | some y => exact hm j (y.tr τ) (by rw [List.getElem?_map, hc]; rfl)
      · intro j c hj
        rw [List.getElem?_map] at hj
        cases hc : caps[j]? with
        | none => rw [hc] at hj; simp at hj
        | some y =>
          rw [hc] at hj
          simp at hj
          subst hj
          exact ih j y hc (hr j (y.tr τ) (by rw [List.getElem?_map, hc]; rfl))
  · intro j y h; simp at h
  · intro x l hx hl j y hj
    cases j with
    | zero => simp at hj; subst hj; exact hx
    | succ j => exact hl j y (by simpa using hj)
theorem RepT.sub {τ τ' : Path → Option Path} (hτ : ∀ q q', τ' q = some q' → τ q = some q') {x : TV A} {v : Value} (h : RepT (fun _ _ => RepA w σ) (x.tr τ) v) : RepT (fun _ _ => RepA w σ) (x.tr τ') v := by
  have key : ∀ {y : V1 A} {v : Value}, RepV (fun _ => RepA w σ) (trV τ y) v → RepV (fun _ => RepA w σ) (trV τ' y) v := by
    intro y v h
    obtain ⟨g, as⟩ := y
    simp only [trV, trL_eq] at h ⊢
    cases g with
    | true =>
      obtain ⟨cs, rfl, h1, h2⟩ := h
      refine ⟨cs, rfl, by simpa using h1, ?_⟩
      intro j x hj
      rw [List.getElem?_map] at hj
      cases hc : as[j]? with
      | none => rw [hc] at hj; simp at hj
      | some y =>
        rw [hc] at hj
        simp at hj
        subst hj
        obtain ⟨u, h3, h4⟩ := h2 j (y.tr τ) (by rw [List.getElem?_map, hc]; rfl)
        exact ⟨u, h3, h4.sub hτ⟩
    | false =>
      match as, h with
      | [x], h =>
        have h' : RepA w σ (x.tr τ) v := h
        exact h'.sub hτ
  cases x with
  | v x => exact key h
  | tup xs =>
    obtain ⟨vs, rfl, h1, h2⟩ := h
    simp only [TV.tr, trVs_eq] at h1 h2 ⊢
    refine ⟨vs, rfl, by simpa using h1, ?_⟩
    intro k x hk
    rw [List.getElem?_map] at hk
    cases hc : xs[k]? with
    | none => rw [hc] at hk; simp at hk
    | some y =>
      rw [hc] at hk
      simp at hk
      subst hk
      obtain ⟨u, h3, h4⟩ := h2 k (trV τ y) (by rw [List.getElem?_map, hc]; rfl)
      exact ⟨u, h3, key h4⟩
/-- A frame that knows less. -/
theorem FR.sub {τ τ' : Path → Option Path} (hτ : ∀ q q', τ' q = some q' → τ q = some q') (h : FR (F.tr τ) σ w vt) : FR (F.tr τ') σ w vt := by
  refine ⟨h.inj, h.lt, h.tb, fun t => ?_⟩
  have := h.tm t
  show RepT _ (look unT (trTm τ' F.tm) t) _
  rw [look_trTm]
  have h' : RepT (fun _ _ => RepA w σ) (look unT (trTm τ F.tm) t) (vt t) := this
  rw [look_trTm] at h'
  exact RepT.sub hτ h'

/-! ### frames without a reference into one root -/
def V1.nr (id : Nat) (x : V1 A) : Prop := A.nrL id x.2
def TV.nr (id : Nat) : TV A → Prop
  | .v x => A.nrL id x.2
  | .tup xs => ∀ x ∈ xs, A.nrL id x.2
def Fr.nr (F : Fr) (id : Nat) : Prop := ∀ t, (look unT F.tm t).nr id
theorem TV.tr_kill_nr (id : Nat) (x : TV A) : (x.tr (killP std (id, []))).nr id := by
  cases x with
  | v x => exact trL_kill_nr id _
  | tup xs =>
    intro x hx
    rw [trVs_eq] at hx
    obtain ⟨y, _, rfl⟩ := List.mem_map.1 hx
    exact trL_kill_nr id _
theorem TV.tr_nr {id : Nat} {τ : Path → Option Path} (hτ : ∀ q q', τ q = some q' → q' = q) {x : TV A} (h : x.nr id) : (x.tr τ).nr id := by
  cases x with
  | v x => exact trL_nr hτ _ h
  | tup xs =>
    intro x hx
    rw [trVs_eq] at hx
    obtain ⟨y, hy, rfl⟩ := List.mem_map.1 hx
    exact trL_nr hτ _ (h y hy)
theorem drop_nr (id : Nat) : (F.drop std (id, [])).nr id := by
  intro t
  show (look unT (trTm _ (F.less std _).tm) t).nr id
  rw [look_trTm]
  exact TV.tr_kill_nr id _
theorem Fr.nr.drop {id : Nat} (h : F.nr id) (p : Path) : (F.drop std p).nr id := by
  intro t
  show (look unT (trTm _ (F.less std _).tm) t).nr id
  rw [look_trTm, less_tm]
  exact TV.tr_nr (fun q q' h => (kill_id h).1) (h t)
theorem RepA.off {id : Nat} (hk : ∀ g y, σ g = some y → y.p.1 ≠ id → σ' g = some y) (hst : Stays w σ w' σ') (hsz : w.heap.size ≤ w'.heap.size) {x : A} {v : Value} (h : RepA w σ x v) (hn : x.nr id) : RepA w' σ' x v := by
  induction h with
  | un v => exact .un v
  | ud => exact .ud
  | fz c v h => exact .fz c v (h.move hsz hst)
  | rf p off len g n cap sz hg hl hc => exact .rf p off len g n cap sz (hk _ _ hg hn) hl hc
  | rz p off b => exact .rz p off b
  | pp p i j g n cap sz hg => exact .pp p i j g n cap sz (hk _ _ hg hn)
  | clo f caps vs us hl hm hr ih => exact .clo f caps vs us hl hm (fun j c hj => ih j c hj (nrL_get hn hj))
theorem RepT.off {id : Nat} (hk : ∀ g y, σ g = some y → y.p.1 ≠ id → σ' g = some y) (hst : Stays w σ w' σ') (hsz : w.heap.size ≤ w'.heap.size) {x : TV A} {v : Value} (h : RepT (fun _ _ => RepA w σ) x v) (hn : x.nr id) : RepT (fun _ _ => RepA w' σ') x v := by
  have key : ∀ {y : V1 A} {v : Value}, A.nrL id y.2 → RepV (fun _ => RepA w σ) y v → RepV (fun _ => RepA w' σ') y v := by
    intro y v hy h
    obtain ⟨g, as⟩ := y
    cases g with
    | true =>
      obtain ⟨cs, rfl, h1, h2⟩ := h
      refine ⟨cs, rfl, h1, fun j x hj => ?_⟩
      obtain ⟨u, h3, h4⟩ := h2 j x hj
      exact ⟨u, h3, h4.off hk hst hsz (nrL_get hy hj)⟩
    | false =>
      match as, h with
      | [x], h =>
        have h' : RepA w σ x v := h
        exact h'.off hk hst hsz hy.1
  cases x with
  | v x => exact key hn h
  | tup xs =>
    obtain ⟨vs, rfl, h1, h2⟩ := h
    refine ⟨vs, rfl, h1, fun k x hk' => ?_⟩
    obtain ⟨u, h3, h4⟩ := h2 k x hk'
    exact ⟨u, h3, key (hn x (List.mem_of_getElem? hk')) h4⟩
/-- Roots and temporaries that have nothing to do with the root id, when that root's blocks change hands. -/
theorem FR.off {id : Nat} (h : FR F σ w vt) (hn : F.nr id) (hun : look .un F.tb id = .un) (hk : ∀ g y, σ g = some y → y.p.1 ≠ id → σ' g = some y ∧ w'.heap[g]? = w.heap[g]?) (hst : Stays w σ w' σ') (hsz : w.heap.size ≤ w'.heap.size)
    (hinj : ∀ g g' x y, σ' g = some x → σ' g' = some y → x.p = y.p → g = g') (hlt : ∀ g x, σ' g = some x → g < w'.heap.size) : FR F σ' w' vt := by
  refine ⟨hinj, hlt, fun t => ?_, fun t => RepT.off (fun g y h1 h2 => (hk g y h1 h2).1) hst hsz (h.tm t) (hn t)⟩
  by_cases e : id = t
  · subst e; rw [hun]; exact ⟨.bool false, .un _ _ rfl⟩
  · obtain ⟨v, hv⟩ := h.tb t
    refine ⟨v, hv.move hsz hst _ ?_⟩
    intro g s n cap sz hg _
    obtain ⟨h1, h2⟩ := hk g _ hg (fun e' => e e'.symm)
    exact ⟨h2, h1⟩

/-! ### cells stored one after the other -/
theorem setCells_heap (b : Nat) (e : TypeId) : ∀ (vs : List Value) (o : Nat) (w : World) (cur : Array Value), w.heap[b]? = some (.cells cur e (0, 0)) → o + vs.length ≤ cur.size →
    ∃ cur', (w.setCells b o vs).heap[b]? = some (.cells cur' e (0, 0)) ∧ cur'.size = cur.size ∧ ∀ m, cur'[m]? = if o ≤ m ∧ m < o + vs.length then vs[m - o]? else cur[m]? := by
  intro vs
  induction vs with
  | nil => intro o w cur h _; exact ⟨cur, h, rfl, fun m => by rw [if_neg]; simp; try omega⟩
  | cons v vs ih =>
    intro o w cur h hl
    simp only [List.length_cons] at hl
    have h1 := heap_setCell_same w b o cur e v h
    obtain ⟨cur', h2, h3, h4⟩ := ih (o + 1) (w.setCell ⟨b, o, none⟩ v) _ h1 (by simpa [Nat.add_assoc, Nat.add_comm 1] using hl)
    refine ⟨cur', h2, by rw [h3]; simp, fun m => ?_⟩
    rw [h4 m]
    simp only [List.length_cons]
    by_cases e1 : o + 1 ≤ m ∧ m < o + 1 + vs.length
    · rw [if_pos e1, if_pos (by omega)]
      have : m - o = (m - (o + 1)) + 1 := by omega
      rw [this, List.getElem?_cons_succ]
    · rw [if_neg e1]
      by_cases e2 : m = o
      · subst e2
        rw [if_pos (by omega), Nat.sub_self]
        have : m < cur.size := by omega
        simp [Array.getElem?_setIfInBounds_self, this]
      · rw [if_neg (by omega), Array.getElem?_setIfInBounds_ne (by omega)]
theorem setCells_other (b : Nat) : ∀ (vs : List Value) (o : Nat) (w : World) (k : Nat), k ≠ b → (w.setCells b o vs).heap[k]? = w.heap[k]? := by
  intro vs
  induction vs with
  | nil => intro o w k _; rfl
  | cons v vs ih => intro o w k hk; rw [World.setCells, ih _ _ _ hk, heap_setCell_other w _ _ _ hk]
theorem setCells_rest (b : Nat) : ∀ (vs : List Value) (o : Nat) (w : World), (w.setCells b o vs).heap.size = w.heap.size ∧ (w.setCells b o vs).os = w.os ∧ (w.setCells b o vs).tape = w.tape ∧ (w.setCells b o vs).output = w.output := by
  intro vs
  induction vs with
  | nil => intro o w; exact ⟨rfl, rfl, rfl, rfl⟩
  | cons v vs ih =>
    intro o w
    obtain ⟨h1, h2, h3, h4⟩ := ih (o + 1) (w.setCell ⟨b, o, none⟩ v)
    exact ⟨by rw [World.setCells, h1]; simp, h2, h3, h4⟩
end
end Go.Proofs.Ytlmejcmnmdleaaa.Ai
