/- The abstract interpreter, part 27: whole functions. -/
import Derived.Test.YtlmejcmnmdleaaaDr3
namespace Go.Proofs.Ytlmejcmnmdleaaa.Ai
open Go Go.RowKit
set_option linter.unusedSectionVars false
set_option linter.unusedSimpArgs false
section
variable [Fence] {P : Program} {T : Nat → Option Ty} {w w' : World} {σ σ' : Gh} {F : Fr} {vt : Nat → Value} {a : Act}

/-- One value's cells are on their way. -/
theorem tv_cells' {g : Bool} {as : List A} {v : Value} (h : RepT (fun _ _ => RepA w σ) (.v (g, as)) v) : ∃ vs : List Value, vs.length = as.length ∧ (∀ (k : Nat) (y : A), as[k]? = some y → ∃ u, vs[k]? = some u ∧ RepA w σ y u) ∧
    ∀ (os : List O) (R : Nat → O → Value → Prop), os.length = as.length → (∀ (k : Nat) (o : O), os[k]? = some o → ∃ u, vs[k]? = some u ∧ R k o u) → RepV R (g, os) v := by
  cases g with
  | true =>
    obtain ⟨cs, rfl, h1, h2⟩ := h
    refine ⟨cs.toList, by simpa using h1, fun k y hk => ?_, fun os R hl hr => ⟨cs, rfl, by rw [h1, hl], fun j o hj => ?_⟩⟩
    · obtain ⟨u, h3, h4⟩ := h2 k y hk
      exact ⟨u, by simpa using h3, h4⟩
    · obtain ⟨u, h3, h4⟩ := hr j o hj
      exact ⟨u, by simpa using h3, h4⟩
  | false =>
    match as, h with
    | [y], h =>
      have h' : RepA w σ y v := h
      refine ⟨[v], rfl, fun k z hk => ?_, fun os R hl hr => ?_⟩
      · cases k with
        | zero => simp at hk; subst hk; exact ⟨v, rfl, h'⟩
        | succ k => simp at hk
      · match os, hl with
        | [o], _ =>
          obtain ⟨u, h3, h4⟩ := hr 0 o rfl
          simp at h3
          subst h3
          exact h4
/-- What a result is read from. -/
def RV (P : Program) (w : World) (vt : Nat → Value) : ResultVar → Value → Prop
  | .tmp t, v => v = vt t
  | .cell a t, v => ∃ ad, vt a = .pointer (some ad) ∧ (loadVar t ad).run P w = .ok v w
structure Exps (P : Program) (w : World) (vt : Nat → Value) (k : Nat) (F : Fr) (σ : Gh) (pend : List (Path × O)) (rs : List ResultVar) (xs : List (V1 O)) (F' : Fr) (σ' : Gh) (pend' : List (Path × O)) : Prop where
  fr : FR F' σ' w vt
  dom : Dom F' σ' pend'
  goes : Goes w σ w σ'
  rep : ∀ (i : Nat) (x : V1 O), xs[i]? = some x → ∃ t v, rs[i]? = some t ∧ RV P w vt t v ∧ x.2.length ≤ 64 ∧ RepV (fun j o v => RepO w σ' (resRoot, [(k + i, j)]) o v) x v
  pnd : ∀ q' o', (q', o') ∈ pend' → (q', o') ∈ pend ∨ ∃ (i j : Nat) (x : V1 O), xs[i]? = some x ∧ x.2[j]? = some o' ∧ q' = (resRoot, [(k + i, j)])
  old : ∀ (p : Path) (o : O) (v : Value), p.1 = resRoot → RepO w σ p o v → RepO w σ' p o v
  tbl : look .un F'.tb resRoot = look .un F.tb resRoot
theorem resT_sound (hT : TyOK P T) (hF : FR F σ w vt) {r : ResultVar} {x : TV A} (h : resT std T F r = some x) : ∃ v, RV P w vt r v ∧ RepT (fun _ _ => RepA w σ) x v := by
  cases r with
  | tmp t => simp only [resT, Option.some.injEq] at h; subst h; exact ⟨_, rfl, hF.tm t⟩
  | cell c t =>
    simp only [resT] at h
    split at h
    · rename_i ty ht
      split at h
      · rename_i as has
        obtain ⟨hl, ad, he, hc⟩ := cellsAt_sound hF has (one_sound (hF.tm c))
        obtain ⟨v, h1, h2⟩ := load_sound (hT t ty ht) hc hl h
        exact ⟨v, ⟨ad, he, h1⟩, h2⟩
      · cases h
    · cases h
theorem RepV.imp' {α : Type} {R S : Nat → α → Value → Prop} (hf : ∀ j a v, R j a v → S j a v) {x : V1 α} {v : Value} (h : RepV R x v) : RepV S x v := RepV.imp hf h
theorem expRs_sound (hT : TyOK P T) {kn : Bool} : ∀ (rs : List ResultVar) (k : Nat) (F : Fr) (σ : Gh) (pend : List (Path × O)) (xs : List (V1 O)), expRs std T kn k F rs = some xs → FR F σ w vt → Dom F σ pend → (∀ q' o', (q', o') ∈ pend → q'.1 = resRoot) → (∀ k' j, k ≤ k' → Bare σ (resRoot, [(k', j)])) →
    xs.length = rs.length ∧ ∃ F' σ' pend', Exps P w vt k F σ pend rs xs F' σ' pend' := by
  intro rs
  induction rs with
  | nil =>
    intro k F σ pend xs h hF hd hp hb
    simp [expRs] at h
    subst h
    exact ⟨rfl, F, σ, pend, hF, hd, Goes.refl _ _, fun i x hk => by simp at hk, fun q' o' h => .inl h, fun p o v _ h => h, rfl⟩
  | cons rv rs ih =>
    intro k F σ pend xs h hF hd hp hb
    · simp only [expRs] at h
      split at h
      · rename_i tv0 hres
        obtain ⟨v0, hrv, hv0⟩ := resT_sound hT hF hres
        split at h
        · rename_i x F1 hx1
          split at h
          · rename_i xs2 hrec
            simp at h
            subst h
            unfold exp1 at hx1
            split at hx1
            · rename_i g as
              split at hx1
              · rename_i hc
                rw [cnt_eq] at hc
                have hc := le_of_nle hc
                split at hx1
                · rename_i os F2 hconv
                  simp at hx1
                  obtain ⟨rfl, rfl⟩ := hx1
                  have hv := hv0
                  obtain ⟨vs, hl, hvs, hfin⟩ := tv_cells' hv
                  obtain ⟨hlen, σ1, pend1, hC⟩ := convL_sound (goal_qAt resRoot [] k) as 0 _ _ σ pend vs os F2 hconv hF hd hp (fun j _ _ => hb k j (Nat.le_refl _)) hvs
                  have hp1 : ∀ q' o', (q', o') ∈ pend1 → q'.1 = resRoot := by
                    intro q' o' hm
                    rcases hC.pnd q' o' hm with h | ⟨i, _, h⟩
                    · exact hp q' o' h
                    · rw [h]; rfl
                  have hb1 : ∀ k' j, k + 1 ≤ k' → Bare σ1 (resRoot, [(k', j)]) := by
                    intro k' j hk
                    refine hC.bare _ rfl ?_ (hb k' j (by omega))
                    rintro m _ _ s ⟨_, t, ht⟩
                    simp [qAt] at ht
                    omega
                  obtain ⟨h1, F', σ2, pend2, hE⟩ := ih (k + 1) F2 σ1 pend1 xs2 hrec hC.fr hC.dom hp1 hb1
                  refine ⟨by simp [h1], F', σ2, pend2, hE.fr, hE.dom, hC.goes.trans hE.goes, ?_, ?_, fun p o v hp h => hE.old p o v hp (hC.old p o v hp h), hE.tbl.trans hC.tbl⟩
                  · intro i x hi
                    cases i with
                    | zero =>
                      simp at hi
                      subst hi
                      refine ⟨_, v0, rfl, hrv, by dsimp only; omega, ?_⟩
                      refine hfin os _ hlen ?_
                      intro j o hj
                      obtain ⟨u, h3, h4⟩ := hC.rep j o hj
                      refine ⟨u, h3, ?_⟩
                      have h5 := hE.old _ _ _ rfl h4
                      simpa [qAt] using h5
                    | succ i =>
                      obtain ⟨t', v', h3, h3', h4, h5⟩ := hE.rep i x (by simpa using hi)
                      refine ⟨t', v', by simpa using h3, h3', h4, ?_⟩
                      rw [show k + (i + 1) = k + 1 + i by omega]
                      exact h5
                  · intro q' o' hm
                    rcases hE.pnd q' o' hm with h | ⟨i, j, x, h3, h4, h5⟩
                    · rcases hC.pnd q' o' h with h | ⟨j, h3, h4⟩
                      · exact .inl h
                      · exact .inr ⟨0, j, (g, os), rfl, h3, by rw [h4]; simp [qAt]⟩
                    · exact .inr ⟨i + 1, j, x, by simpa using h3, h4, by rw [h5, show k + (i + 1) = k + 1 + i by omega]⟩
                · cases hx1
              · cases hx1
            · cases hx1
          · cases h
        · cases h
      · cases h

def resV : List Value → Value
  | [v] => v
  | vs => .tuple vs.toArray
theorem run_results {fn : Func} {rs : List ResultVar} (hrs : fn.results = ⟨rs⟩) {vs : List Value} {tmps : Array Value} {w : World} (hl : vs.length = rs.length)
    (h : ∀ (i : Nat) (v : Value), vs[i]? = some v → ∃ t, rs[i]? = some t ∧ RV P w (fun t => tmps.getD t undef) t v) :
    (results fn tmps).run P w = .ok (resV vs) w := by
  have key : ∀ (rs : List ResultVar) (vs : List Value), vs.length = rs.length → (∀ (i : Nat) (v : Value), vs[i]? = some v → ∃ t, rs[i]? = some t ∧ RV P w (fun t => tmps.getD t undef) t v) →
      (List.mapM (m := Sem) (fun x : ResultVar => match x with | .tmp t => pure (tmps.getD t undef) | .cell a t => do loadVar t (← asAddr (tmps.getD a undef))) rs).run P w = .ok vs w := by
    intro rs
    induction rs with
    | nil =>
      intro vs hl _
      have : vs = [] := List.length_eq_zero_iff.1 hl
      subst this
      simp
    | cons r rs ih =>
      intro vs hl hv
      cases vs with
      | nil => simp at hl
      | cons v vs =>
        obtain ⟨t, h1, h2⟩ := hv 0 v rfl
        simp at h1
        subst h1
        have hrec := ih vs (by simpa using hl) (fun i v hi => by
          obtain ⟨t, h1, h2⟩ := hv (i + 1) v (by simpa using hi)
          exact ⟨t, by simpa using h1, h2⟩)
        simp only [List.mapM_cons, Sem.run_bind]
        cases r with
        | tmp t =>
          simp only [RV] at h2
          subst h2
          simp only [Sem.run_pure, Result.andThen_ok, hrec]
        | cell c t =>
          obtain ⟨ad, h3, h4⟩ := h2
          dsimp only at h3
          have h5 : (asAddr (tmps.getD c undef)).run P w = .ok ad w := by rw [h3]; exact Sem.run_pure ..
          simp only [Sem.run_bind, h5, Sem.run_pure, Result.andThen_ok, h4, hrec]
  unfold results
  rw [hrs]
  simp only [List.mapM_toArray, Sem.run_bind, Sem.run_map]
  refine (congrArg (fun z => (Result.andThen (Result.andThen z _) _)) (key rs vs hl h)).trans ?_
  simp only [Result.andThen_ok]
  match vs with
  | [] => rfl
  | [t] => rfl
  | t :: t' :: ts => rfl
/-- The results' values. -/
theorem exps_vals : ∀ (xs : List (V1 O)) (k : Nat) (rs : List ResultVar), xs.length = rs.length →
    (∀ (i : Nat) (x : V1 O), xs[i]? = some x → ∃ t v, rs[i]? = some t ∧ RV P w vt t v ∧ x.2.length ≤ 64 ∧ RepV (fun j o v => RepO w σ' (resRoot, [(k + i, j)]) o v) x v) → ∃ vs : List Value, vs.length = rs.length ∧
    (∀ (i : Nat) (v : Value), vs[i]? = some v → ∃ t, rs[i]? = some t ∧ RV P w vt t v) ∧
    ∀ (i : Nat) (x : V1 O), xs[i]? = some x → ∃ v, vs[i]? = some v ∧ x.2.length ≤ 64 ∧ RepV (fun j o v => RepO w σ' (resRoot, [(k + i, j)]) o v) x v := by
  intro xs
  induction xs with
  | nil =>
    intro k rs hl _
    exact ⟨[], by simpa using hl, fun i v h => by simp at h, fun i x h => by simp at h⟩
  | cons x xs ih =>
    intro k rs hl h
    match rs, hl with
    | r :: rs, hl =>
      obtain ⟨t, v, h1, h2, h3, h4⟩ := h 0 x rfl
      simp at h1
      subst h1
      obtain ⟨vs, h5, h6, h7⟩ := ih (k + 1) rs (by simpa using hl) (fun i x hi => by
        obtain ⟨t, v, h1, h2, h3, h4⟩ := h (i + 1) x (by simpa using hi)
        refine ⟨t, v, by simpa using h1, h2, h3, ?_⟩
        rw [show k + 1 + i = k + (i + 1) by omega]
        exact h4)
      refine ⟨v :: vs, by simp [h5], fun i u hi => ?_, fun i y hi => ?_⟩
      · cases i with
        | zero => simp at hi; subst hi; exact ⟨r, rfl, h2⟩
        | succ i =>
          obtain ⟨t, h8, h9⟩ := h6 i u (by simpa using hi)
          exact ⟨t, by simpa using h8, h9⟩
      · cases i with
        | zero => simp at hi; subst hi; exact ⟨v, rfl, h3, h4⟩
        | succ i =>
          obtain ⟨u, h8, h9, h10⟩ := h7 i y (by simpa using hi)
          refine ⟨u, by simpa using h8, h9, ?_⟩
          rw [show k + (i + 1) = k + 1 + i by omega]
          exact h10

theorem enterTm_look : ∀ (args : List (V1 C)) (i t : Nat), look unT (enterTm i args) t = if i ≤ t then (match args[t - i]? with | some x => .v (x.1, fzL x.2) | none => unT) else unT := by
  intro args
  induction args with
  | nil => intro i t; simp [enterTm, look]
  | cons x args ih =>
    intro i t
    simp only [enterTm]
    rw [look_cons, ih]
    by_cases e : i = t
    · subst e; simp
    · rw [if_neg e]
      by_cases h : i ≤ t
      · rw [if_pos h, if_pos (by omega)]
        have : t - i = (t - (i + 1)) + 1 := by omega
        rw [this, List.getElem?_cons_succ]
      · rw [if_neg h, if_neg (by omega)]
theorem enter_sound {vals : Array Value} {args : List (V1 C)} (_hsz : vals.size = args.length) (hr : ∀ (k : Nat) (x : V1 C), args[k]? = some x → ∃ u, vals[k]? = some u ∧ RepV (fun _ => RepC w (fun _ => none)) x u) (n : Nat) (m : Nat) :
    FR (enter n args) (fun _ => none) w (valT { tmps := vals ++ Array.replicate m undef, defers := [] }) := by
  refine ⟨fun g g' x y h => by (cases h), fun g x h => by (cases h), fun id => ⟨.bool false, .un _ _ rfl⟩, fun t => ?_⟩
  show RepT _ (look unT (enterTm 0 args) t) _
  rw [enterTm_look, if_pos (Nat.zero_le _), Nat.sub_zero]
  cases hx : args[t]? with
  | none => exact RepA.un _
  | some x =>
    obtain ⟨u, h1, h2⟩ := hr t x hx
    have hv : valT { tmps := vals ++ Array.replicate m undef, defers := [] } t = u := by
      unfold valT
      dsimp only
      have hlt : t < vals.size := (Array.getElem?_eq_some_iff.1 h1).1
      rw [Array.getD_eq_getD_getElem?, Array.getElem?_append_left hlt, h1]
      rfl
    rw [hv]
    have := RepV.map (S := fun _ => RepA w (fun _ => none)) (f := A.fz) (fun _ c v h => RepA.fz c v h) h2
    dsimp only
    rw [fzL_eq]
    exact this
theorem dom_enter (n : Nat) (args : List (V1 C)) : Dom (enter n args) (fun _ => none) [] := fun _ _ h => by cases h
end

/-- What a function comes to, by the rules, is what a call comes to. -/
theorem CallOK.of_Ex {P : Program} {T : Nat → Option Ty} (hT : TyOK P T) {g : FuncId} {fn : Func} {c : Code} {args : List (V1 C)} {r : TV O} {kn : Bool} (hf : P.funcs[g]? = some fn) (hb : fn.body = some c) (hnm : (fn.name == "runtime.NumGoroutine") = false) (h1 : args.length ≤ fn.ntmps)
    (hx : Ex P [.c c] (enter fn.ntmps args) (fun F' => export_ std T kn F' fn.results = some r)) : CallOK P g args r := by
  refine ⟨⟨fn, c, hf, hb, hnm⟩, ?_⟩
  intro J w vals hsz hargs cs
  letI := J
  let a0 : Act := { tmps := vals ++ Array.replicate (fn.ntmps - vals.size) undef, defers := [] }
  let b0 : Frame := { (default : Frame) with fn := g, kind := .normal }
  have henter : Frame.enter P g vals .normal = b0.at a0 [.code c] := by simp [Frame.enter, Frame.at, hf, hb, b0, a0]
  have hF0 := enter_sound hsz hargs fn.ntmps (fn.ntmps - vals.size)
  have hsize : (enter fn.ntmps args).n ≤ a0.tmps.size := by simp [enter, a0]; omega
  obtain ⟨F', a', w', σ', todo, h, k1, k2, k3, k4, k5, k6, k7⟩ := hx J a0 w (fun _ => none) (fun k hk => by simp at hk; subst hk; trivial) hF0 (dom_enter _ _) hsize [.code c] (.inl rfl) b0 cs
  -- the results
  unfold export_ at h
  obtain ⟨rs, hrs⟩ : ∃ rs, fn.results = ⟨rs⟩ := ⟨fn.results.toList, rfl⟩
  rw [hrs] at h
  dsimp only at h
  split at h
  · rename_i hlen64
    rw [cnt_eq] at hlen64
    have hlen64 := le_of_nle hlen64
    obtain ⟨xs, hxs, hr⟩ : ∃ xs, expRs std T (kn) 0 (F'.drop std (resRoot, [])) rs = some xs ∧ (match xs with | [x] => TV.v x | xs => .tup xs) = r := by
      cases hx : expRs std T (kn) 0 (F'.drop std (resRoot, [])) rs with
      | none => rw [hx] at h; cases h
      | some xs =>
        rw [hx] at h
        refine ⟨xs, rfl, ?_⟩
        match xs, h with
        | [], h => simpa using h
        | [x], h => simpa using h
        | x :: y :: xs, h => simpa using h
    have hFd := k2.drop (resRoot, [])
    have hdd := k3.drop (resRoot, [])
    obtain ⟨hxl, F2, σ2, pend, hE⟩ := expRs_sound hT rs 0 _ _ [] xs hxs hFd hdd (fun _ _ h => by cases h) (fun k' j _ g x hx hu => bare_drop (resRoot, []) g x hx ⟨hu.1, x.p.2, rfl⟩)
    obtain ⟨vs, hvl, hvr, hrep⟩ := exps_vals xs 0 rs hxl hE.rep
    have hrun := run_results (P := P) (tmps := a'.tmps) (w := w') hrs hvl hvr
    have hgo : Goes w (fun _ => none) w' σ2 := (k4.trans goes_tr).trans hE.goes
    have htbl : look .un F2.tb resRoot = .un := by
      rw [hE.tbl]
      show look .un (del F'.tb resRoot) resRoot = .un
      rw [look_del, if_pos rfl]
    have hbelow : Below w.heap.size w w' := ⟨hgo.os, hgo.tape, hgo.output, hgo.size, fun k hk => hgo.st.heap_ k hk rfl⟩
    -- only the results' root is handed over
    let σr : Gh := fun g => match σ2 g with | some x => if x.p.1 = resRoot then some x else none | none => none
    have hr1 : ∀ g x, σ2 g = some x → x.p.1 = resRoot → σr g = some x := fun g x hx hp => by simp only [σr, hx, if_pos hp]
    have hr2 : ∀ g x, σr g = some x → σ2 g = some x ∧ x.p.1 = resRoot := by
      intro g x hx
      simp only [σr] at hx
      split at hx
      · rename_i y hy
        split at hx
        · rename_i hp; injection hx with hx; subst hx; exact ⟨hy, hp⟩
        · cases hx
      · cases hx
    have hst : Stays w' σ2 w' σr := ⟨fun b _ h0 => by simp only [σr, h0], fun _ _ _ => rfl⟩
    have hmv : ∀ k j o v, RepO w' σ2 (resRoot, [(k, j)]) o v → RepO w' σr (resRoot, [(k, j)]) o v := fun k j o v h =>
      h.move (Nat.le_refl _) hst _ (fun g s n cap sz hg _ => ⟨rfl, hr1 g _ hg rfl⟩)
    have hrep' : ∀ (i : Nat) (x : V1 O), xs[i]? = some x → ∃ t, vs[i]? = some t ∧ x.2.length ≤ 64 ∧ RepV (fun j o v => RepO w' σr (resRoot, [(i, j)]) o v) x t := by
      intro i x hx
      obtain ⟨t, h2, h3, h4⟩ := hrep i x hx
      refine ⟨t, h2, h3, ?_⟩
      have h5 : RepV (fun j o v => RepO w' σ2 (resRoot, [(0 + i, j)]) o v) x t := h4
      rw [Nat.zero_add] at h5
      exact RepV.imp (fun j o v h => hmv i j o v h) h5
    have htl : vs.length = xs.length := by rw [hxl, hvl]
    refine ⟨.returned (resV vs), w', { b0.at a' todo with mode := .returning }, ⟨_, rfl, ⟨hbelow, σr, ?_, ?_, ?_, ?_⟩⟩, ?_, rfl, ?_⟩
    · intro g x hx
      obtain ⟨h2, _⟩ := hr2 g x hx
      refine ⟨?_, hE.fr.lt g x h2⟩
      rcases Nat.lt_or_ge g w.heap.size with hlt | hge
      · have := hgo.st.none_ g hlt rfl
        rw [h2] at this
        cases this
      · exact hge
    · intro g g' x y hx hy he
      exact hE.fr.inj g g' x y (hr2 g x hx).1 (hr2 g' y hy).1 he
    · subst hr
      match xs, vs, htl, hrep' with
      | [], [], _, _ => exact ⟨#[], rfl, rfl, fun k x hk => by simp at hk⟩
      | [x], [t], _, hrep' =>
        obtain ⟨t', h2, _, h4⟩ := hrep' 0 x rfl
        simp at h2
        subst h2
        exact h4
      | x :: y :: xs, t :: t' :: ts, hl, hrep' =>
        refine ⟨_, rfl, by simp at hl ⊢; omega, ?_⟩
        intro k z hk
        obtain ⟨t0, h2, _, h4⟩ := hrep' k z hk
        refine ⟨t0, ?_, h4⟩
        simp only [List.getElem?_toArray, h2]
    · intro g x hx
      obtain ⟨h2, h3⟩ := hr2 g x hx
      rcases hE.dom g x h2 with h4 | ⟨q', o', s, h4, h5, h6⟩
      · unfold Fr.at at h4
        rw [h3, htbl, at_un] at h4
        exact h4.elim
      · rcases hE.pnd q' o' h4 with h7 | ⟨i, j, z, h7, h8, h9⟩
        · cases h7
        · obtain ⟨_, _, hz, _⟩ := hrep i z h7
          have hi : i < 64 := by
            have := (List.getElem?_eq_some_iff.1 h7).1
            omega
          have hj : j < 64 := by
            have := (List.getElem?_eq_some_iff.1 h8).1
            omega
          refine ⟨i, j, o', s, ?_, hi, hj, by rw [h5, h9]; simp, h6⟩
          subst hr
          match xs, h7 with
          | [x], h7 =>
            cases i with
            | zero => simp at h7; subst h7; simpa [TV.cell] using h8
            | succ i => simp at h7
          | x :: y :: xs, h7 => simp only [TV.cell, h7, Option.bind_some]; exact h8
    · rw [henter]; exact k1
    · exact ⟨rfl, k6, rfl, fn, hf, hrun⟩
  · cases h
end Go.Proofs.Ytlmejcmnmdleaaa.Ai
