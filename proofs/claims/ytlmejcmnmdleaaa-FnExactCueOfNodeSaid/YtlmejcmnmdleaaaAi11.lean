/- The abstract interpreter, part 11: values on their way into memory. -/
import Derived.Test.YtlmejcmnmdleaaaAi10
namespace Go.Proofs.Ytlmejcmnmdleaaa.Ai
open Go
set_option linter.unusedSectionVars false
set_option linter.unusedSimpArgs false
section
variable [Fence] {w : World} {σ : Gh} {τ : Path → Option Path} {F : Fr} {vt : Nat → Value}

theorem moveP_inv {p q x y : Path} (h : moveP std p q x = some y) : (∃ s, x = (p.1, p.2 ++ s) ∧ y = (q.1, q.2 ++ s)) ∨ (¬ Und p x ∧ y = x) := by
  by_cases hu : Und p x
  · obtain ⟨s, rfl⟩ := und_eq hu
    rw [moveP_und] at h
    injection h with h
    exact .inl ⟨s, rfl, h.symm⟩
  · rw [moveP_not hu] at h
    injection h with h
    exact .inr ⟨hu, h.symm⟩
theorem FR.lift (h : FR F σ w vt) {p q : Path} (hb : Bare σ q) : FR (F.lift std p q) (σ.tr (moveP std p q)) w vt := by
  refine h.less p (fun x => moveP_not) ?_
  intro g g' x y a hx hy h1 h2
  rcases moveP_inv h1 with ⟨s, e1, e2⟩ | ⟨hn, e1⟩
  · rcases moveP_inv h2 with ⟨s', e3, e4⟩ | ⟨hn', e3⟩
    · rw [e2] at e4
      simp at e4
      rw [e1, e3, e4]
    · exfalso
      refine hb g' y hy ?_
      rw [← e3, e2]
      exact ⟨rfl, s, rfl⟩
  · rcases moveP_inv h2 with ⟨s', e3, e4⟩ | ⟨hn', e3⟩
    · exfalso
      refine hb g x hx ?_
      rw [← e1, e4]
      exact ⟨rfl, s', rfl⟩
    · rw [← e1, ← e3]
theorem Bare.lift {p q q' : Path} (h : Bare σ q') (hq : ∀ s, ¬ Und q' (q.1, q.2 ++ s)) : Bare (σ.tr (moveP std p q)) q' := by
  intro g x hx hu
  obtain ⟨x', h1, h2, h3⟩ := tr_inv hx
  rcases moveP_inv h2 with ⟨s, e1, e2⟩ | ⟨hn, e1⟩
  · rw [e2] at hu; exact hq s hu
  · rw [e1] at hu; exact h g x' h1 hu
theorem at_append (o : O) (s t : List (Nat × Nat)) : o.at std (s ++ t) = (o.at std s).at std t := by
  induction s generalizing o with
  | nil => rfl
  | cons x s ih =>
    obtain ⟨i, j⟩ := x
    cases o with
    | un => simp [O.at, at_un]
    | fz c => simp [O.at, at_un]
    | osl xs =>
      simp only [List.cons_append, O.at]
      cases std.oGet xs i with
      | none => simp [at_un]
      | some y => cases h : nth y j <;> simp [h, ih, at_un]
    | obx cs =>
      simp only [List.cons_append, O.at]
      cases i with
      | succ i => simp [at_un]
      | zero => cases h : nth cs j <;> simp [h, ih, at_un]
/-- What is lifted is on its way. -/
theorem Dom.lift {pend : List (Path × O)} (h : Dom F σ pend) {p q : Path} (hpq : ∀ q' o', (q', o') ∈ pend → q'.1 ≠ p.1) : Dom (F.lift std p q) (σ.tr (moveP std p q)) ((q, F.at std p) :: pend) := by
  intro g x hx
  obtain ⟨x', h1, h2, h3⟩ := tr_inv hx
  have hn : x.n = x'.n := by rw [h3]
  rcases moveP_inv h2 with ⟨s, e1, e2⟩ | ⟨hnu, e1⟩
  · right
    refine ⟨q, _, s, List.mem_cons_self, e2, ?_⟩
    rw [hn]
    rcases h g x' h1 with h4 | ⟨q', o', s', h4, h5, h6⟩
    · rw [e1] at h4
      simpa [Fr.at, at_append] using h4
    · exfalso
      rw [e1] at h5
      exact hpq q' o' h4 (by simpa using (congrArg Prod.fst h5).symm)
  · rw [e1, hn]
    rcases h g x' h1 with h4 | ⟨q', o', s', h4, h5⟩
    · left; exact fit_less hnu h4
    · right; exact ⟨q', o', s', List.mem_cons_of_mem _ h4, h5⟩
/-- The thing lifted, at its new place. -/
theorem RepO.lift {p q : Path} {o : O} {v : Value} (h : RepO w σ p o v) : RepO w (σ.tr (moveP std p q)) q o v :=
  h.move (Nat.le_refl _) stays_tr q fun _ s _ _ _ hg _ => ⟨rfl, tr_some hg (moveP_und s)⟩
/-- A thing that lies apart from what is lifted. -/
theorem RepO.stay {p q p' : Path} {o : O} {v : Value} (h : RepO w σ p' o v) (hn : p.1 ≠ p'.1) : RepO w (σ.tr (moveP std p q)) p' o v :=
  h.move (Nat.le_refl _) stays_tr p' fun _ _ _ _ _ hg _ => ⟨rfl, tr_some hg (moveP_not fun hu => hn hu.1.symm)⟩

theorem conv1_none {kn : Bool} {x : A} {q : Path} {o : O} (h : conv1 std kn F x q = some (o, none)) {v : Value} (hx : RepA w σ x v) : RepO w σ q o v := by
  unfold conv1 at h
  split at h
  · obtain rfl := hx.fz_inv.nil_inv
    cases kn <;> simp at h <;> subst h
    · exact .oslz q none
    · exact .fz q _ _ .nilsl
  · cases h
  · simp at h
    subst h
    exact .fz q _ _ hx.fz_inv
  · split at h
    · split at h
      · simp at h
      · cases h
    · cases h
  · split at h
    · split at h
      · simp at h
      · cases h
    · cases h
  · cases h
theorem whole_sound (hF : FR F σ w vt) {pend : List (Path × O)} (hd : Dom F σ pend) {p : Path} (hpend : ∀ q' o', (q', o') ∈ pend → q'.1 ≠ p.1) {xs : List (List O)} (hp : F.at std p = .osl xs) {v : Value}
    (hx : RepA w σ (.rf p 0 xs.length) v) : RepO w σ p (.osl xs) v := by
  obtain ⟨u, hu⟩ := at_sound hF p
  rw [hp] at hu
  generalize hl : xs.length = len at hx
  cases hx with
  | rz _ _ b =>
    obtain rfl : xs = [] := List.eq_nil_of_length_eq_zero hl
    exact .oslz p b
  | rf _ _ _ g n cap sz hg hl' hn =>
    have hfit : xs.length = n ∧ 0 < n := by
      rcases hd g _ hg with h | ⟨q', o', s, h, h1, _⟩
      · rw [hp] at h; exact h
      · exact absurd (by simpa using (congrArg Prod.fst h1).symm) (hpend q' o' h)
    cases hu with
    | oslz => simp at hfit; omega
    | osl _ _ e sz' g' cap' cur us hh hc' hcm hl2 hs' hg' hm hr =>
      obtain rfl := hF.inj _ _ _ _ hg hg' rfl
      rw [hg] at hg'
      simp only [Option.some.injEq, Own.mk.injEq] at hg'
      obtain ⟨_, rfl, rfl, rfl⟩ := hg'
      have := RepO.osl (w := w) (σ := σ) p xs e sz g cap cur us hh hc' hcm hl2 hs' hg hm hr
      simpa [hl] using this
theorem box_sound (hF : FR F σ w vt) {p : Path} {cs : List O} (hp : F.at std p = .obx cs) {v : Value} (hx : RepA w σ (.pp p 0 0) v) : RepO w σ p (.obx cs) v := by
  obtain ⟨u, hu⟩ := at_sound hF p
  rw [hp] at hu
  cases hx with
  | pp _ _ _ g n cap sz hg =>
    cases hu with
    | obx _ _ g' e cells us n' cap' sz' hh hl hg' hm hr =>
      obtain rfl := hF.inj _ _ _ _ hg hg' rfl
      simpa using RepO.obx (w := w) (σ := σ) p cs g e cells us n' cap' sz' hh hl hg' hm hr
theorem conv1_some (hF : FR F σ w vt) {pend : List (Path × O)} (hd : Dom F σ pend) {kn : Bool} {x : A} {p q : Path} (hpq : ∀ q' o', (q', o') ∈ pend → q'.1 = q.1) {o : O} (h : conv1 std kn F x q = some (o, some p)) {v : Value} (hx : RepA w σ x v) :
    p.1 ≠ q.1 ∧ F.at std p = o ∧ RepO w σ p o v := by
  unfold conv1 at h
  split at h
  · cases kn <;> simp at h
  · cases h
  · simp at h
  · rename_i p' off len
    split at h
    · rename_i xs hxs
      split at h
      · rename_i hc
        simp only [std, Bool.and_eq_true, Bool.not_eq_true', beq_iff_eq] at hc
        obtain ⟨⟨rfl, hlen⟩, hne⟩ := hc
        simp at h
        obtain ⟨rfl, rfl⟩ := h
        have hne' : p'.1 ≠ q.1 := fun e => by rw [e] at hne; simp at hne
        subst hlen
        exact ⟨hne', hxs, whole_sound hF hd (fun q' o' hm => by rw [hpq q' o' hm]; exact fun e => hne' e.symm) hxs hx⟩
      · cases h
    · cases h
  · rename_i p' i j
    split at h
    · rename_i cs hcs
      split at h
      · rename_i hne
        simp at h
        obtain ⟨rfl, rfl⟩ := h
        have hne' : p'.1 ≠ q.1 := fun e => by rw [e] at hne; simp at hne
        exact ⟨hne', hcs, box_sound hF hcs hx⟩
      · cases h
    · cases h
  · cases h
theorem less_look {p : Path} {id : Nat} (h : p.1 ≠ id) : look .un (F.less std p).tb id = look .un F.tb id := by
  obtain ⟨r, s⟩ := p
  cases s with
  | nil =>
    show look .un (del F.tb r) id = _
    rw [look_del, if_neg h]
  | cons x s =>
    show look .un ((r, _) :: del F.tb r) id = _
    rw [look_cons, look_del, if_neg h, if_neg h]
theorem less_n {p : Path} : (F.less std p).n = F.n := by unfold Fr.less; split <;> rfl

/-- Where the cells go: places of one root, none in another. -/
structure Goal (q : Nat → Path) (r : Nat) : Prop where
  root : ∀ j, (q j).1 = r
  apart : ∀ j j', j ≠ j' → ∀ s, ¬ Und (q j') ((q j).1, (q j).2 ++ s)
structure Conv (w : World) (vt : Nat → Value) (q : Nat → Path) (r j : Nat) (F : Fr) (σ : Gh) (pend : List (Path × O)) (vs : List Value) (os : List O) (F' : Fr) (σ' : Gh) (pend' : List (Path × O)) : Prop where
  fr : FR F' σ' w vt
  dom : Dom F' σ' pend'
  goes : Goes w σ w σ'
  rep : ∀ (k : Nat) (o : O), os[k]? = some o → ∃ u, vs[k]? = some u ∧ RepO w σ' (q (j + k)) o u
  pnd : ∀ q' o', (q', o') ∈ pend' → (q', o') ∈ pend ∨ ∃ k, os[k]? = some o' ∧ q' = q (j + k)
  old : ∀ (p : Path) (o : O) (v : Value), p.1 = r → RepO w σ p o v → RepO w σ' p o v
  own : ∀ g x, σ g = some x → x.p.1 = r → σ' g = some x
  tbl : look .un F'.tb r = look .un F.tb r
  n : F'.n = F.n
  bare : ∀ q', q'.1 = r → (∀ k, j ≤ k → k < j + os.length → ∀ s, ¬ Und q' ((q k).1, (q k).2 ++ s)) → Bare σ q' → Bare σ' q'
theorem convL_sound {kn : Bool} {q : Nat → Path} {r : Nat} (hq : Goal q r) :
    ∀ (as : List A) (j : Nat) (F : Fr) (f : A → A) (σ : Gh) (pend : List (Path × O)) (vs : List Value) (os : List O) (F' : Fr), convL std kn q j F f as = some (os, F') → FR F σ w vt → Dom F σ pend →
      (∀ q' o', (q', o') ∈ pend → q'.1 = r) → (∀ k, j ≤ k → k < j + as.length → Bare σ (q k)) → (∀ (k : Nat) (x : A), as[k]? = some x → ∃ u, vs[k]? = some u ∧ RepA w σ (f x) u) →
      os.length = as.length ∧ ∃ σ' pend', Conv w vt q r j F σ pend vs os F' σ' pend' := by
  intro as
  induction as with
  | nil =>
    intro j F f σ pend vs os F' h hF hd hp hb hv
    simp [convL] at h
    obtain ⟨rfl, rfl⟩ := h
    exact ⟨rfl, σ, pend, hF, hd, Goes.refl _ _, fun k o hk => by simp at hk, fun q' o' h => .inl h, fun p o v _ h => h, fun g x h _ => h, rfl, rfl, fun q' _ _ h => h⟩
  | cons x as ih =>
    intro j F f σ pend vs os F' h hF hd hp hb hv
    obtain ⟨u, hu0, hu⟩ := hv 0 x rfl
    obtain ⟨v0, vs', rfl⟩ : ∃ v0 vs', vs = v0 :: vs' := by
      cases vs with
      | nil => simp at hu0
      | cons a b => exact ⟨a, b, rfl⟩
    simp at hu0
    subst hu0
    simp only [convL] at h
    split at h
    · rename_i o ho
      split at h
      · rename_i os1 F2 hrec
        simp at h
        obtain ⟨rfl, rfl⟩ := h
        obtain ⟨hlen, σ', pend', hc⟩ := ih (j + 1) F f σ pend vs' os1 F2 hrec hF hd hp (fun k hk hk' => hb k (by omega) (by simp; omega)) (fun k y hk => by simpa using hv (k + 1) y (by simpa using hk))
        refine ⟨by simp [hlen], σ', pend', hc.fr, hc.dom, hc.goes, ?_, ?_, hc.old, hc.own, hc.tbl, hc.n, ?_⟩
        · intro k o' hk
          cases k with
          | zero =>
            simp at hk
            subst hk
            exact ⟨v0, rfl, hc.old _ _ _ (hq.root j) (conv1_none ho hu)⟩
          | succ k =>
            obtain ⟨u', h1, h2⟩ := hc.rep k o' (by simpa using hk)
            exact ⟨u', by simpa using h1, by rw [show j + (k + 1) = j + 1 + k by omega]; exact h2⟩
        · intro q' o' hm
          rcases hc.pnd q' o' hm with h | ⟨k, h1, h2⟩
          · exact .inl h
          · exact .inr ⟨k + 1, by simpa using h1, by rw [h2]; congr 1; omega⟩
        · intro q' h1 h2 h3
          exact hc.bare q' h1 (fun k hk1 hk2 => h2 k (by omega) (by simp; omega)) h3
      · cases h
    · rename_i o p ho
      obtain ⟨hne, hat, hrep⟩ := conv1_some hF hd (fun q' o' hm => by rw [hp q' o' hm, hq.root]) ho hu
      rw [hq.root] at hne
      split at h
      · rename_i os1 F2 hrec
        simp at h
        obtain ⟨rfl, rfl⟩ := h
        have hF1 := hF.lift (p := p) (hb j (Nat.le_refl j) (by simp))
        have hd1 := hd.lift (q := q j) (fun q' o' hm => by rw [hp q' o' hm]; exact fun e => hne e.symm) (p := p)
        rw [hat] at hd1
        have hold : ∀ (p' : Path) (o : O) (v : Value), p'.1 = r → RepO w σ p' o v → RepO w (σ.tr (moveP std p (q j))) p' o v := fun p' o v h1 h2 => h2.stay (by rw [h1]; exact hne)
        obtain ⟨hlen, σ', pend', hc⟩ := ih (j + 1) (F.lift std p (q j)) (fun x => (f x).tr (moveP std p (q j))) _ _ vs' os1 F2 hrec hF1 hd1
          (fun q' o' hm => by
            rcases List.mem_cons.1 hm with h | h
            · injection h with h1 h2; rw [h1, hq.root]
            · exact hp q' o' h)
          (fun k hk hk' => (hb k (by omega) (by simp; omega)).lift (hq.apart j k (by omega)))
          (fun k y hk => by
            obtain ⟨u', h1, h2⟩ := hv (k + 1) y (by simpa using hk)
            exact ⟨u', by simpa using h1, h2.tr⟩)
        refine ⟨by simp [hlen], σ', pend', hc.fr, hc.dom, goes_tr.trans hc.goes, ?_, ?_, ?_, (fun g x hx hr => hc.own g x (tr_some hx (moveP_not fun hu => hne (hu.1.symm.trans hr))) hr), ?_, ?_, ?_⟩
        · intro k o' hk
          cases k with
          | zero =>
            simp at hk
            subst hk
            exact ⟨v0, rfl, hc.old _ _ _ (hq.root j) hrep.lift⟩
          | succ k =>
            obtain ⟨u', h1, h2⟩ := hc.rep k o' (by simpa using hk)
            exact ⟨u', by simpa using h1, by rw [show j + (k + 1) = j + 1 + k by omega]; exact h2⟩
        · intro q' o' hm
          rcases hc.pnd q' o' hm with h | ⟨k, h1, h2⟩
          · rcases List.mem_cons.1 h with h | h
            · injection h with h1 h2
              exact .inr ⟨0, by simp [h2], by simpa using h1⟩
            · exact .inl h
          · exact .inr ⟨k + 1, by simpa using h1, by rw [h2]; congr 1; omega⟩
        · intro p' o' v h1 h2
          exact hc.old p' o' v h1 (hold p' o' v h1 h2)
        · rw [hc.tbl]
          exact less_look hne
        · rw [hc.n]
          exact less_n
        · intro q' h1 h2 h3
          refine hc.bare q' h1 (fun k hk1 hk2 => h2 k (by omega) (by simp; omega)) ?_
          exact h3.lift (h2 j (Nat.le_refl j) (by simp))
      · cases h
    · cases h
end
end Go.Proofs.Ytlmejcmnmdleaaa.Ai
