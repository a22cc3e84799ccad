/- The abstract interpreter, part 18: append. -/
import Derived.Test.YtlmejcmnmdleaaaAi17
namespace Go.Proofs.Ytlmejcmnmdleaaa.Ai
open Go Go.RowKit
set_option linter.unusedSectionVars false
set_option linter.unusedSimpArgs false
section
variable [Fence] {P : Program} {T : Nat → Option Ty} {w w' : World} {σ σ' : Gh} {F : Fr} {vt : Nat → Value} {a : Act}

theorem at_root_un {R : Nat} (h : look .un F.tb R = .un) (s : List (Nat × Nat)) : F.at std (R, s) = .un := by
  unfold Fr.at; dsimp only; rw [h, at_un]
theorem ne_root {R : Nat} (h : look .un F.tb R = .un) {p : Path} {xs : List (List O)} (hp : F.at std p = .osl xs) : p.1 ≠ R := by
  intro e
  have := at_root_un h p.2
  rw [← e] at this
  rw [show ((p.1, p.2) : Path) = p from rfl, hp] at this
  cases this
/-- The slice that is appended to: what it holds lies at the new root, as it were. -/
structure Base (w : World) (vt : Nat → Value) (R : Nat) (xs : List (List O)) (v : Value) (σ0 : Gh) (n : Nat) (F : Fr) (σ : Gh) : Prop where
  fr : FR F σ w vt
  nr : F.nr R
  un : look .un F.tb R = .un
  rep : RepO w σ (R, []) (.osl xs) v
  dom : ∀ g x, σ g = some x → Fit (F.at std x.p) x.n ∨ (x.p.1 = R ∧ Fit ((O.osl xs).at std x.p.2) x.n)
  goes : Goes w σ0 w σ
  n : F.n = n
theorem base_sound (hF : FR F σ w vt) (hd : Dom F σ []) {R : Nat} (hb : Bare σ (R, [])) (hn : F.nr R) (hun : look .un F.tb R = .un) {x : A} {v : Value} (hx : RepA w σ x v) {xs : List (List O)} {F1 : Fr} (h : baseW std F x = some (xs, F1)) :
    ∃ σ1, Base w vt R xs v σ F.n F1 σ1 := by
  unfold baseW at h
  split at h
  · simp at h
    obtain ⟨rfl, rfl⟩ := h
    obtain rfl := hx.fz_inv.nil_inv
    refine ⟨σ, hF, hn, hun, .oslz _ _, ?_, Goes.refl _ _, rfl⟩
    intro g x hx
    rcases hd g x hx with h | ⟨_, _, _, h, _⟩
    · exact .inl h
    · cases h
  · rename_i p off len
    split at h
    · rename_i xs' hxs
      split at h
      · rename_i hw
        simp [std] at hw
        obtain ⟨rfl, rfl⟩ := hw
        simp at h
        obtain ⟨rfl, rfl⟩ := h
        have hne := ne_root hun hxs
        have hwh := whole_sound hF hd (fun _ _ h => by cases h) hxs hx
        refine ⟨σ.tr (moveP std p (R, [])), ?_, hn.drop p, ?_, hwh.lift, ?_, goes_tr, less_n⟩
        · refine FR.sub (τ := moveP std p (R, [])) ?_ (hF.lift hb)
          intro q q' hq
          obtain ⟨rfl, hu⟩ := kill_id hq
          exact moveP_not hu
        · show look .un (F.less std p).tb R = .un
          rw [less_look hne, hun]
        · intro g x hx
          rcases Dom.lift (p := p) (q := (R, [])) hd (fun _ _ h => by cases h) g x hx with h | ⟨q', o', s, h1, h2, h3⟩
          · exact .inl h
          · simp at h1
            obtain ⟨rfl, rfl⟩ := h1
            right
            rw [hxs] at h3
            rw [h2]
            exact ⟨rfl, by simpa using h3⟩
      · cases h
    · cases h
  · cases h

def shiftR (r R n : Nat) (x : Path) : Option Path := if x.1 = r then (match x.2 with | (i, j) :: s => some (R, (n + i, j) :: s) | [] => none) else some x
theorem shiftR_not {r R n : Nat} {x : Path} (h : ¬ Und (r, []) x) : shiftR r R n x = some x := by
  unfold shiftR
  rw [if_neg (fun e => h ⟨e, x.2, rfl⟩)]
theorem shiftR_inv {r R n : Nat} {x y : Path} (h : shiftR r R n x = some y) : (∃ i j s, x = (r, (i, j) :: s) ∧ y = (R, (n + i, j) :: s)) ∨ (x.1 ≠ r ∧ y = x) := by
  unfold shiftR at h
  split at h
  · rename_i e
    split at h
    · rename_i i j s hs
      injection h with h
      exact .inl ⟨i, j, s, by rw [← e, ← hs], h.symm⟩
    · cases h
  · rename_i e
    injection h with h
    exact .inr ⟨e, h.symm⟩
theorem fit_get {xs : List (List O)} {i j : Nat} {s : List (Nat × Nat)} {n : Nat} (h : Fit ((O.osl xs).at std ((i, j) :: s)) n) : i < xs.length := by
  rcases Nat.lt_or_ge i xs.length with h' | h'
  · exact h'
  · simp [O.at, std, List.getElem?_eq_none h', Fit] at h
theorem fit_left {xs ys : List (List O)} {i j : Nat} {s : List (Nat × Nat)} {n : Nat} (h : Fit ((O.osl xs).at std ((i, j) :: s)) n) : Fit ((O.osl (xs ++ ys)).at std ((i, j) :: s)) n := by
  have hi := fit_get h
  simp only [O.at, std] at h ⊢
  rw [List.getElem?_append_left hi]
  exact h
theorem fit_right {xs ys : List (List O)} {i j : Nat} {s : List (Nat × Nat)} {n : Nat} (h : Fit ((O.osl ys).at std ((i, j) :: s)) n) : Fit ((O.osl (xs ++ ys)).at std ((xs.length + i, j) :: s)) n := by
  simp only [O.at, std] at h ⊢
  rw [List.getElem?_append_right (by omega), show xs.length + i - xs.length = i by omega]
  exact h

/-- What is appended has come too. -/
structure More (P : Program) (w : World) (vt : Nat → Value) (R : Nat) (xs ys : List (List O)) (v : Value) (size t : Nat) (vy : Value) (σ0 : Gh) (n : Nat) (F : Fr) (σ : Gh) (news : List Value) : Prop where
  fr : FR F σ w vt
  nr : F.nr R
  un : look .un F.tb R = .un
  rep : RepO w σ (R, []) (.osl xs) v
  src : Src P size t vy ys.length news w
  els : ∀ (i j : Nat) (y : List O) (o : O), ys[i]? = some y → y[j]? = some o → ∃ u, news[i * size + j]? = some u ∧ RepO w σ (R, [(xs.length + i, j)]) o u
  dom : ∀ g x, σ g = some x → Fit (F.at std x.p) x.n ∨ (x.p = (R, []) ∧ Fit (.osl xs) x.n) ∨ (x.p.1 = R ∧ x.p.2 ≠ [] ∧ Fit ((O.osl (xs ++ ys)).at std x.p.2) x.n)
  goes : Goes w σ0 w σ
  n : F.n = n
theorem Base.dom2 {R : Nat} {xs ys : List (List O)} {v : Value} {σ0 : Gh} {n : Nat} (h : Base w vt R xs v σ0 n F σ) : ∀ g x, σ g = some x → Fit (F.at std x.p) x.n ∨ (x.p = (R, []) ∧ Fit (.osl xs) x.n) ∨ (x.p.1 = R ∧ x.p.2 ≠ [] ∧ Fit ((O.osl (xs ++ ys)).at std x.p.2) x.n) := by
  intro g x hx
  rcases h.dom g x hx with h1 | ⟨h1, h2⟩
  · exact .inl h1
  · right
    obtain ⟨⟨r, s⟩, n', cap, sz⟩ := x
    dsimp only at h1 h2 ⊢
    subst h1
    cases s with
    | nil => exact .inl ⟨rfl, h2⟩
    | cons ij s => obtain ⟨i, j⟩ := ij; exact .inr ⟨rfl, by simp, fit_left h2⟩
theorem more_sound {R : Nat} {xs ys : List (List O)} {v vy : Value} {σ0 : Gh} {n : Nat} (hB : Base w vt R xs v σ0 n F σ) {y : A} (hy : RepA w σ y vy) {m : Option Path} (h : moreW std F y = some (ys, m)) {size : Nat} (hs : ∀ y ∈ ys, y.length = size) {t e : TypeId} (ht : P.underlying t = some (.slice e)) :
    ∃ σ2 news, More P w vt R xs ys v size t vy σ0 n (goneO std F m) σ2 news := by
  have hBn := hB.n
  subst hBn
  unfold moreW at h
  split at h
  · simp at h
    obtain ⟨rfl, rfl⟩ := h
    obtain rfl := hy.fz_inv.nil_inv
    exact ⟨σ, [], hB.fr, hB.nr, hB.un, hB.rep, Src.ofNil w ht 0, fun i j y o h => by simp at h, hB.dom2, hB.goes, hB.n⟩
  · rename_i zs
    simp at h
    obtain ⟨rfl, rfl⟩ := h
    have hzs : ∀ y ∈ zs, y.length = size := by
      intro y hy
      have := hs (y.map .fz) (by simp only [std]; exact List.mem_map_of_mem hy)
      simpa using this
    obtain ⟨news, h1, h2⟩ := c_src hy.fz_inv hzs ht
    refine ⟨σ, news, hB.fr, hB.nr, hB.un, hB.rep, by simpa [std] using h1, ?_, hB.dom2, hB.goes, hB.n⟩
    intro i j y o hi hj
    simp only [std, List.getElem?_map] at hi
    cases hz : zs[i]? with
    | none => rw [hz] at hi; simp at hi
    | some z =>
      rw [hz] at hi
      simp at hi
      subst hi
      rw [List.getElem?_map] at hj
      cases hc : z[j]? with
      | none => rw [hc] at hj; simp at hj
      | some c =>
        rw [hc] at hj
        simp at hj
        subst hj
        obtain ⟨u, h3, h4⟩ := h2 i j z c hz hc
        exact ⟨u, h3, .fz _ _ _ h4⟩
  · rename_i p off len
    split at h
    · rename_i ys0 hys0
      split at h
      · rename_i hle
        have hle' : off + len ≤ ys0.length := by simpa [std] using hle
        have hne := ne_root hB.un hys0
        -- the source, whatever way it goes
        have hsrc : ∀ ys' : List (List O), ys' = (ys0.drop off).take len → (∀ y ∈ ys', y.length = size) → ∃ news, Src P size t vy ys'.length news w ∧
            ∀ (i j : Nat) (y : List O) (o : O), ys'[i]? = some y → y[j]? = some o → ∃ u, news[i * size + j]? = some u ∧ RepO w σ (p.1, p.2 ++ [(off + i, j)]) o u := by
          intro ys' e' hs'
          subst e'
          have hl : ((ys0.drop off).take len).length = len := by simp; omega
          rw [hl]
          by_cases h0 : len = 0
          · subst h0
            refine ⟨[], ?_, fun i j y o h => by simp at h⟩
            cases hy with
            | rz _ _ b =>
              cases b with
              | none => exact Src.ofNil w ht 0
              | some ad => exact Src.ofSlice w ht ad 0 0 _ (by simp) (fun j u h => by simp at h) (fun u h => by simp at h)
            | rf => exact Src.ofSlice w ht _ 0 _ _ (by simp) (fun j u h => by simp at h) (fun u h => by simp at h)
          · have hall : ∀ y ∈ ys0, y.length = size := by
              obtain ⟨u, hu⟩ := at_sound hB.fr p
              rw [hys0] at hu
              cases hu with
              | oslz => simp at hle'; omega
              | osl _ _ _ sz _ _ _ _ _ _ _ _ hs0 _ _ _ =>
                obtain ⟨y0, hy0⟩ := getD_len (l := ys0) (i := off) (by omega)
                have : y0 ∈ (ys0.drop off).take len := by
                  refine List.mem_of_getElem? (i := 0) ?_
                  rw [List.getElem?_take, if_pos (by omega), List.getElem?_drop]
                  simpa using hy0
                have h1 := hs' y0 this
                have h2 := hs0 y0 (List.mem_of_getElem? hy0)
                intro y hy
                rw [hs0 y hy, ← h2, h1]
            obtain ⟨news, h1, h2⟩ := row_src hB.fr hys0 hle' hy hall ht
            refine ⟨news, h1, fun i j y o hi hj => ?_⟩
            obtain ⟨h3, h4⟩ := get_drop_take hi
            exact h2 i j y o h4 h3 hj
        split at h
        · rename_i hflat
          have hfl : ∀ (i j : Nat) (y : List O) (o : O), ys0[i]? = some y → y[j]? = some o → ∃ c, o = .fz c := by
            intro i j y o hi hj
            simp only [std, List.all_eq_true] at hflat
            have := hflat y (List.mem_of_getElem? hi) o (List.mem_of_getElem? hj)
            cases o <;> simp [O.isFz] at this
            exact ⟨_, rfl⟩
          have hfin : ∀ ys' : List (List O), ys' = (ys0.drop off).take len → (∀ y ∈ ys', y.length = size) → ∃ σ2 news, More P w vt R xs ys' v size t vy σ0 F.n (goneO std F none) σ2 news := by
            intro ys' e' hs'
            obtain ⟨news, h1, h2⟩ := hsrc ys' e' hs'
            refine ⟨σ, news, hB.fr, hB.nr, hB.un, hB.rep, h1, ?_, hB.dom2, hB.goes, hB.n⟩
            intro i j y o hi hj
            obtain ⟨u, h3, h4⟩ := h2 i j y o hi hj
            subst e'
            obtain ⟨h5, h6⟩ := get_drop_take hi
            obtain ⟨c, rfl⟩ := hfl _ _ _ _ h5 hj
            cases h4 with
            | fz _ _ _ h => exact ⟨u, h3, .fz _ _ _ h⟩
          split at h
          · rename_i hw
            simp [std] at hw
            obtain ⟨rfl, rfl⟩ := hw
            simp at h
            obtain ⟨rfl, rfl⟩ := h
            exact hfin _ (by simp) hs
          · simp at h
            obtain ⟨rfl, rfl⟩ := h
            exact hfin _ (by simp [std]) hs
        · split at h
          · rename_i hw hp2
            simp [std] at hw
            obtain ⟨rfl, rfl⟩ := hw
            simp at h
            obtain ⟨rfl, rfl⟩ := h
            obtain ⟨r, s⟩ := p
            dsimp only at hp2 hne
            subst hp2
            obtain ⟨news, h1, h2⟩ := hsrc ys0 (by simp) hs
            have hin : ∀ g g' x y q, σ g = some x → σ g' = some y → shiftR r R xs.length x.p = some q → shiftR r R xs.length y.p = some q → x.p = y.p := by
              -- what is at the root already has a smaller number
              have hsm : ∀ g x i j s, σ g = some x → x.p = (R, (xs.length + i, j) :: s) → False := by
                intro g x i j s hx hp
                rcases hB.dom g x hx with h | ⟨_, h⟩
                · rw [hp, at_root_un hB.un] at h; exact h
                · rw [hp] at h
                  have := fit_get h
                  omega
              intro g g' x y q hx hy h3 h4
              rcases shiftR_inv h3 with ⟨i, j, s, e1, e2⟩ | ⟨e1, e2⟩
              · rcases shiftR_inv h4 with ⟨i', j', s', e3, e4⟩ | ⟨e3, e4⟩
                · rw [e2] at e4
                  simp at e4
                  obtain ⟨⟨rfl, rfl⟩, rfl⟩ := e4
                  rw [e1, e3]
                · exact (hsm g' y i j s hy (by rw [← e4, e2])).elim
              · rcases shiftR_inv h4 with ⟨i', j', s', e3, e4⟩ | ⟨e3, e4⟩
                · exact (hsm g x i' j' s' hx (by rw [← e2, e4])).elim
                · rw [← e2, ← e4]
            have hfr := hB.fr.less (r, []) (τ := shiftR r R xs.length) (fun x => shiftR_not) hin
            refine ⟨σ.tr (shiftR r R xs.length), news, ?_, hB.nr.drop _, ?_, ?_, h1, ?_, ?_, hB.goes.trans goes_tr, ?_⟩
            · refine FR.sub (τ := shiftR r R xs.length) ?_ hfr
              intro q q' hq
              obtain ⟨rfl, hu⟩ := kill_id hq
              exact shiftR_not hu
            · show look .un (F.less std (r, [])).tb R = .un
              rw [less_look (p := (r, [])) hne, hB.un]
            · refine hB.rep.move (Nat.le_refl _) stays_tr _ ?_
              intro g s n cap sz hg _
              exact ⟨rfl, tr_some hg (shiftR_not fun hu => hne hu.1.symm)⟩
            · intro i j y o hi hj
              obtain ⟨u, h3, h4⟩ := h2 i j y o hi hj
              refine ⟨u, h3, ?_⟩
              refine h4.move (Nat.le_refl _) stays_tr _ ?_
              intro g s n cap sz hg _
              refine ⟨rfl, tr_some hg ?_⟩
              simp [shiftR]
            · intro g x hx
              obtain ⟨x', h3, h4, h5⟩ := tr_inv hx
              have hnn : x.n = x'.n := by rw [h5]
              rcases shiftR_inv h4 with ⟨i, j, s, e1, e2⟩ | ⟨e1, e2⟩
              · right; right
                rw [e2, hnn]
                refine ⟨rfl, by simp, fit_right ?_⟩
                rcases hB.dom g x' h3 with h6 | ⟨h6, _⟩
                · rw [e1] at h6
                  have e3 : F.at std (r, (i, j) :: s) = (F.at std (r, [])).at std ((i, j) :: s) := rfl
                  rw [e3, hys0] at h6
                  exact h6
                · rw [e1] at h6; exact absurd h6 hne
              · rw [e2, hnn]
                rcases hB.dom2 (ys := ys0) g x' h3 with h6 | h6
                · exact .inl (fit_less (fun hu => e1 hu.1) h6)
                · exact .inr h6
            · exact less_n
          · cases h
      · cases h
    · cases h
  · cases h
end
end Go.Proofs.Ytlmejcmnmdleaaa.Ai
