/- The abstract interpreter, part 24: a call's result comes into the frame. -/
import Derived.Test.YtlmejcmnmdleaaaAi23
namespace Go.Proofs.Ytlmejcmnmdleaaa.Ai
open Go Go.RowKit
set_option linter.unusedSectionVars false
set_option linter.unusedSimpArgs false
section
variable [Fence] {P : Program} {T : Nat → Option Ty} {w w' : World} {σ σ' : Gh} {F : Fr} {vt : Nat → Value} {a : Act}

theorem FR.clearS (h : FR F σ w vt) (hd : Dom F σ []) (id : Nat) : ∃ σ', FR (F.clear std id) σ' w vt ∧ Dom (F.clear std id) σ' [] ∧ Bare σ' (id, []) ∧ Goes w σ w σ' ∧ ∀ g x, σ' g = some x → σ g = some x := by
  unfold Fr.clear
  cases hh : has F.tb id with
  | true =>
    refine ⟨_, h.drop _, hd.drop _, bare_drop _, goes_tr, fun g x hx => ?_⟩
    obtain ⟨x', h1, h2, h3⟩ := tr_inv hx
    rw [h3, (kill_id h2).1]
    exact h1
  | false =>
    refine ⟨σ, h, hd, ?_, Goes.refl _ _, fun g x hx => hx⟩
    intro g x hx hu
    rcases hd g x hx with h5 | ⟨_, _, _, h5, _⟩
    · unfold Fr.at at h5
      rw [hu.1] at h5
      dsimp only at h5
      rw [look_none hh, at_un] at h5
      exact h5
    · cases h5
theorem clear_keeps {id id' : Nat} (h : look .un F.tb id' = .un) : look .un (F.clear std id).tb id' = .un := by
  unfold Fr.clear
  cases hh : has F.tb id with
  | true =>
    show look .un (del F.tb id) id' = .un
    rw [look_del]
    split
    · rfl
    · exact h
  | false => exact h
theorem clears_keeps : ∀ (l : List (Nat × O)) (F : Fr) {id' : Nat}, look .un F.tb id' = .un → look .un (F.clears std l).tb id' = .un := by
  intro l
  induction l with
  | nil => intro F id' h; exact h
  | cons x l ih => intro F id' h; exact ih _ (clear_keeps h)
theorem clears_sound : ∀ (l : List (Nat × O)) (F : Fr) (σ : Gh), FR F σ w vt → Dom F σ [] → ∃ σ', FR (F.clears std l) σ' w vt ∧ Dom (F.clears std l) σ' [] ∧ (∀ id o, (id, o) ∈ l → Bare σ' (id, []) ∧ look .un (F.clears std l).tb id = .un) ∧ Goes w σ w σ' ∧
    (∀ g x, σ' g = some x → σ g = some x) ∧ (F.clears std l).n = F.n := by
  intro l
  induction l with
  | nil => intro F σ hF hd; exact ⟨σ, hF, hd, (fun _ _ h => by cases h), Goes.refl _ _, fun _ _ h => h, rfl⟩
  | cons x l ih =>
    obtain ⟨id, o⟩ := x
    intro F σ hF hd
    obtain ⟨σ1, h1, h2, h3, h4, h5⟩ := hF.clearS hd id
    obtain ⟨σ2, k1, k2, k3, k4, k5, k6⟩ := ih (F.clear std id) σ1 h1 h2
    refine ⟨σ2, k1, k2, ?_, h4.trans k4, fun g x hx => h5 g x (k5 g x hx), k6.trans clear_n⟩
    intro id' o' hm
    rcases List.mem_cons.1 hm with h | h
    · injection h with h _
      subst h
      exact ⟨fun g x hx => h3 g x (k5 g x hx), clears_keeps l _ clear_look⟩
    · exact k3 id' o' h
theorem adds_tm : ∀ (l : List (Nat × O)) (F : Fr), (F.adds l).tm = F.tm ∧ (F.adds l).n = F.n := by
  intro l
  induction l with
  | nil => intro F; exact ⟨rfl, rfl⟩
  | cons x l ih => intro F; exact ih _
theorem adds_look : ∀ (l : List (Nat × O)) (F : Fr), (∀ id o o', (id, o) ∈ l → (id, o') ∈ l → o = o') → (∀ id o, (id, o) ∈ l → look .un (F.adds l).tb id = o) ∧ (∀ id, (∀ o, (id, o) ∉ l) → look .un (F.adds l).tb id = look .un F.tb id) := by
  intro l
  induction l with
  | nil => intro F _; exact ⟨(fun _ _ h => by cases h), fun _ _ => rfl⟩
  | cons x l ih =>
    obtain ⟨id0, o0⟩ := x
    intro F hf
    obtain ⟨h1, h2⟩ := ih (F.root id0 o0) (fun id o o' h h' => hf id o o' (List.mem_cons_of_mem _ h) (List.mem_cons_of_mem _ h'))
    refine ⟨?_, ?_⟩
    · intro id o hm
      show look .un ((F.root id0 o0).adds l).tb id = o
      by_cases hin : ∃ o', (id, o') ∈ l
      · obtain ⟨o', ho'⟩ := hin
        rw [h1 id o' ho']
        exact hf id o' o (List.mem_cons_of_mem _ ho') hm
      · rw [h2 id (fun o' h => hin ⟨o', h⟩)]
        rcases List.mem_cons.1 hm with h | h
        · injection h with h h'
          subst h h'
          show look .un ((id, o) :: F.tb) id = o
          rw [look_cons, if_pos rfl]
        · exact absurd ⟨o, h⟩ hin
    · intro id hn
      show look .un ((F.root id0 o0).adds l).tb id = _
      rw [h2 id (fun o h => hn o (List.mem_cons_of_mem _ h))]
      show look .un ((id0, o0) :: F.tb) id = _
      rw [look_cons, if_neg]
      rintro rfl
      exact hn o0 List.mem_cons_self
theorem FR.adds : ∀ (l : List (Nat × O)) (F : Fr), FR F σ w vt → (∀ id o, (id, o) ∈ l → ∃ v, RepO w σ (id, []) o v) → FR (F.adds l) σ w vt := by
  intro l
  induction l with
  | nil => intro F h _; exact h
  | cons x l ih =>
    obtain ⟨id, o⟩ := x
    intro F h hr
    obtain ⟨v, hv⟩ := hr id o List.mem_cons_self
    exact ih _ (h.addRoot hv) (fun id o hm => hr id o (List.mem_cons_of_mem _ hm))

/-! ### the result's cells -/
theorem impL_get (d k : Nat) : ∀ (l : List O) (j i : Nat), (impL std d k j l)[i]? = (l[i]?).map fun o => refO std (rid d k (j + i), []) o := by
  intro l
  induction l with
  | nil => intro j i; simp [impL]
  | cons o l ih =>
    intro j i
    cases i with
    | zero => simp [impL]
    | succ i => simp only [impL, List.getElem?_cons_succ, ih]; rw [show j + 1 + i = j + (i + 1) by omega]
theorem impL_length (d k : Nat) : ∀ (l : List O) (j : Nat), (impL std d k j l).length = l.length := by
  intro l
  induction l with
  | nil => intro j; rfl
  | cons o l ih => intro j; simp [impL, ih]
theorem impVs_get (d : Nat) : ∀ (xs : List (V1 O)) (k i : Nat), (impVs std d k xs)[i]? = (xs[i]?).map fun x => (x.1, impL std d (k + i) 0 x.2) := by
  intro xs
  induction xs with
  | nil => intro k i; simp [impVs]
  | cons x xs ih =>
    intro k i
    cases i with
    | zero => simp [impVs]
    | succ i => simp only [impVs, List.getElem?_cons_succ, ih]; congr 1; funext x; rw [show k + 1 + i = k + (i + 1) by omega]
theorem impVs_length (d : Nat) : ∀ (xs : List (V1 O)) (k : Nat), (impVs std d k xs).length = xs.length := by
  intro xs
  induction xs with
  | nil => intro k; rfl
  | cons x xs ih => intro k; simp [impVs, ih]
theorem mem_rootsL {d k : Nat} {id : Nat} {o : O} : ∀ (l : List O) (j : Nat), (id, o) ∈ rootsL d k j l ↔ ∃ i : Nat, l[i]? = some o ∧ o.isFz = false ∧ id = rid d k (j + i) := by
  intro l
  induction l with
  | nil => intro j; simp [rootsL]
  | cons o0 l ih =>
    intro j
    simp only [rootsL]
    cases hz : o0.isFz with
    | true =>
      dsimp only
      rw [ih]
      constructor
      · rintro ⟨i, h1, h2, h3⟩; exact ⟨i + 1, by simpa using h1, h2, by rw [h3]; congr 1; omega⟩
      · rintro ⟨i, h1, h2, h3⟩
        cases i with
        | zero => simp at h1; subst h1; rw [hz] at h2; cases h2
        | succ i => exact ⟨i, by simpa using h1, h2, by rw [h3]; congr 1; omega⟩
    | false =>
      dsimp only
      rw [List.mem_cons, ih]
      constructor
      · rintro (h | ⟨i, h1, h2, h3⟩)
        · injection h with h h'; exact ⟨0, by simp [h'], by rw [h']; exact hz, h⟩
        · exact ⟨i + 1, by simpa using h1, h2, by rw [h3]; congr 1; omega⟩
      · rintro ⟨i, h1, h2, h3⟩
        cases i with
        | zero => simp at h1; subst h1; exact .inl (by rw [h3]; rfl)
        | succ i => exact .inr ⟨i, by simpa using h1, h2, by rw [h3]; congr 1; omega⟩
theorem mem_rootsVs {d : Nat} {id : Nat} {o : O} : ∀ (xs : List (V1 O)) (k : Nat), (id, o) ∈ rootsVs d k xs ↔ ∃ (i j : Nat) (x : V1 O), xs[i]? = some x ∧ x.2[j]? = some o ∧ o.isFz = false ∧ id = rid d (k + i) j := by
  intro xs
  induction xs with
  | nil => intro k; simp [rootsVs]
  | cons x xs ih =>
    intro k
    simp only [rootsVs, List.mem_append, mem_rootsL, ih]
    constructor
    · rintro (⟨i, h1, h2, h3⟩ | ⟨i, j, y, h1, h2, h3, h4⟩)
      · exact ⟨0, i, x, rfl, h1, h2, by simpa using h3⟩
      · exact ⟨i + 1, j, y, by simpa using h1, h2, h3, by rw [h4]; congr 1; omega⟩
    · rintro ⟨i, j, y, h1, h2, h3, h4⟩
      cases i with
      | zero => simp at h1; subst h1; exact .inl ⟨j, h2, h3, by simpa using h4⟩
      | succ i => exact .inr ⟨i, j, y, by simpa using h1, h2, h3, by rw [h4]; congr 1; omega⟩
theorem mem_rootsT {d : Nat} {r : TV O} {id : Nat} {o : O} : (id, o) ∈ rootsT d r ↔ ∃ k j, r.cell k j = some o ∧ o.isFz = false ∧ id = rid d k j := by
  cases r with
  | v x =>
    obtain ⟨g, os⟩ := x
    simp only [rootsT, mem_rootsL, TV.cell]
    constructor
    · rintro ⟨i, h1, h2, h3⟩; exact ⟨0, i, by simpa using h1, h2, by simpa using h3⟩
    · rintro ⟨k, j, h1, h2, h3⟩
      split at h1
      · rename_i e; subst e; exact ⟨j, h1, h2, by simpa using h3⟩
      · cases h1
  | tup xs =>
    simp only [rootsT, mem_rootsVs, TV.cell]
    constructor
    · rintro ⟨i, j, x, h1, h2, h3, h4⟩; exact ⟨i, j, by simp [h1, h2], h3, by simpa using h4⟩
    · rintro ⟨k, j, h1, h2, h3⟩
      cases hx : xs[k]? with
      | none => rw [hx] at h1; simp at h1
      | some x => rw [hx] at h1; exact ⟨k, j, x, hx, by simpa using h1, h2, by simpa using h3⟩
theorem fits_cell {r : TV O} (h : r.fits = true) {k j : Nat} {o : O} (hc : r.cell k j = some o) : k < 64 ∧ j < 64 := by
  cases r with
  | v x =>
    obtain ⟨g, os⟩ := x
    simp only [TV.cell] at hc
    split at hc
    · rename_i e
      subst e
      have h' : os.length ≤ 64 := by
        have := le_of_nle h
        rwa [cnt_eq] at this
      have := (List.getElem?_eq_some_iff.1 hc).1
      omega
    · cases hc
  | tup xs =>
    simp only [TV.fits, Bool.and_eq_true] at h
    obtain ⟨h1, h2⟩ := h
    have h1 := le_of_nle h1
    rw [cnt_eq] at h1
    simp only [TV.cell] at hc
    cases hx : xs[k]? with
    | none => rw [hx] at hc; simp at hc
    | some x =>
      rw [hx] at hc
      have hk := (List.getElem?_eq_some_iff.1 hx).1
      have hj : j < x.2.length := (List.getElem?_eq_some_iff.1 (show x.2[j]? = some o by simpa using hc)).1
      have hall : ∀ (l : List (V1 O)), allLe l = true → ∀ x ∈ l, x.2.length ≤ 64 := by
        intro l
        induction l with
        | nil => intro _ x hx; cases hx
        | cons y l ih =>
          intro hl x hx
          simp only [allLe] at hl
          split at hl
          · rename_i hy
            have hy : cnt y.2 ≤ 64 := le_of_nle hy
            rw [cnt_eq] at hy
            rcases List.mem_cons.1 hx with e | hx
            · rw [e]; exact hy
            · exact ih hl x hx
          · cases hl
      have := hall xs h2 x (List.mem_of_getElem? hx)
      omega
mutual
theorem cleanM_std : (o : O) → o.cleanM std = o.clean
  | .un => rfl
  | .fz _ => rfl
  | .osl _ => rfl
  | .obx cs => cleanML_std cs
theorem cleanML_std : (l : List O) → O.cleanML std l = O.cleanL l
  | [] => rfl
  | o :: r => by
    simp only [O.cleanML, O.cleanL, cleanM_std o, cleanML_std r]
    cases o.clean <;> rfl
end
theorem clean_cell {r : TV O} (h : r.cleanM std = true) {k j : Nat} {o : O} (hc : r.cell k j = some o) : o.clean = true := by
  cases r with
  | v x =>
    simp only [TV.cell] at hc
    split at hc
    · simp only [TV.cleanM, cleanML_std, O.cleanL_eq, List.all_eq_true] at h
      exact h o (List.mem_of_getElem? hc)
    · cases hc
  | tup xs =>
    simp only [TV.cell] at hc
    cases hx : xs[k]? with
    | none => rw [hx] at hc; simp at hc
    | some x =>
      rw [hx] at hc
      have hall : ∀ (l : List (V1 O)), cleanVs std l = true → ∀ x ∈ l, O.cleanL x.2 = true := by
        intro l
        induction l with
        | nil => intro _ x hx; cases hx
        | cons y l ih =>
          intro hl x hx
          simp only [cleanVs, cleanML_std] at hl
          split at hl
          · rename_i hy
            rcases List.mem_cons.1 hx with rfl | hx
            · exact hy
            · exact ih hl x hx
          · cases hl
      have := hall xs h x (List.mem_of_getElem? hx)
      rw [O.cleanL_eq, List.all_eq_true] at this
      exact this o (List.mem_of_getElem? (show x.2[j]? = some o by simpa using hc))

def renP (d : Nat) (p : Path) : Path := match p.2 with
  | (k, j) :: s => (rid d k j, s)
  | [] => p
def sigC (w : World) (σ1 σr : Gh) (d : Nat) : Gh := fun g => if g < w.heap.size then σ1 g else match σr g with
  | some x => some { x with p := renP d x.p }
  | none => none
theorem rid_inj {d k j k' j' : Nat} (hj : j < 64) (hj' : j' < 64) (h : rid d k j = rid d k' j') : k = k' ∧ j = j' := by unfold rid at h; omega
theorem import_sound (hF : FR F σ w (valT a)) (hd : Dom F σ []) {J1 : Unit → Fence} {r : TV O} {v : Value} (hres : @CallRes (J1 ()) w r v w') (hfree : r.cleanM std = true ∨ J1 () = fenceOf σ) {d : Nat} {F' : Fr} (h : F.import std d r = some F') :
    ∃ σ', FR F' σ' w' (upd (valT a) d v) ∧ Dom F' σ' [] ∧ Goes w σ w' σ' ∧ F'.n = F.n := by
  unfold Fr.import at h
  split at h
  · rename_i hfit
    simp at h
    subst h
    obtain ⟨σr, hfresh, hinj, hrep, hdom⟩ := @CallRes.rep (J1 ()) _ _ _ _ hres
    obtain ⟨σ1, hF1, hd1, hids, hg1, hsub, hn1⟩ := clears_sound (rootsT d r) F σ hF hd
    have hb := @CallRes.below (J1 ()) _ _ _ _ hres
    have hlo : ∀ g, g < w.heap.size → sigC w σ1 σr d g = σ1 g := fun g hg => by unfold sigC; rw [if_pos hg]
    have hhi : ∀ g x, σr g = some x → sigC w σ1 σr d g = some { x with p := renP d x.p } := by
      intro g x hx
      unfold sigC
      rw [if_neg (by have := (hfresh g x hx).1; omega), hx]
    have hinv : ∀ g y, sigC w σ1 σr d g = some y → (g < w.heap.size ∧ σ1 g = some y) ∨ (w.heap.size ≤ g ∧ ∃ x, σr g = some x ∧ y = { x with p := renP d x.p }) := by
      intro g y hy
      unfold sigC at hy
      split at hy
      · rename_i hlt; exact .inl ⟨hlt, hy⟩
      · rename_i hlt
        split at hy
        · rename_i x hx; injection hy with hy; exact .inr ⟨by omega, x, hx, hy.symm⟩
        · cases hy
    -- a new block lies in a root of the result
    have hroot : ∀ g x, σr g = some x → ∃ k j o s, r.cell k j = some o ∧ k < 64 ∧ j < 64 ∧ x.p = (resRoot, (k, j) :: s) ∧ Fit (o.at std s) x.n ∧ (rid d k j, o) ∈ rootsT d r := by
      intro g x hx
      obtain ⟨k, j, o, s, h1, h2, h3, h4, h5⟩ := hdom g x hx
      refine ⟨k, j, o, s, h1, h2, h3, h4, h5, mem_rootsT.2 ⟨k, j, h1, ?_, rfl⟩⟩
      cases o with
      | fz c => exfalso; revert h5; cases s <;> simp [O.at, Fit]
      | _ => rfl
    have hfun : ∀ id o o', (id, o) ∈ rootsT d r → (id, o') ∈ rootsT d r → o = o' := by
      intro id o o' hm hm'
      obtain ⟨k, j, h1, _, h3⟩ := mem_rootsT.1 hm
      obtain ⟨k', j', h1', _, h3'⟩ := mem_rootsT.1 hm'
      obtain ⟨e1, e2⟩ := rid_inj (fits_cell hfit h1).2 (fits_cell hfit h1').2 (h3.symm.trans h3')
      subst e1 e2
      rw [h1] at h1'
      injection h1'
    have hcross : ∀ g g' x y, g < w.heap.size → σ1 g = some x → σr g' = some y → x.p ≠ renP d y.p := by
      intro g g' x y hg hx hy he
      obtain ⟨k, j, o, s, h1, h2, h3, h4, _, h5⟩ := hroot g' y hy
      refine (hids _ _ h5).1 g x hx ⟨?_, x.p.2, rfl⟩
      rw [he, h4]
      rfl
    have hF2 : FR (F.clears std (rootsT d r)) (sigC w σ1 σr d) w' (valT a) := by
      refine hF1.grow hb hlo ?_ ?_
      · intro g g' x y hx hy he
        rcases hinv g x hx with ⟨h1, h2⟩ | ⟨h1, x0, h2, h3⟩
        · rcases hinv g' y hy with ⟨h4, h5⟩ | ⟨h4, y0, h5, h6⟩
          · exact hF1.inj g g' x y h2 h5 he
          · exact absurd (by rw [he, h6]) (hcross g g' x y0 h1 h2 h5)
        · rcases hinv g' y hy with ⟨h4, h5⟩ | ⟨h4, y0, h5, h6⟩
          · exact absurd (by rw [← he, h3]) (hcross g' g y x0 h4 h5 h2)
          · refine hinj g g' x0 y0 h2 h5 ?_
            rw [h3, h6] at he
            obtain ⟨k, j, o, s, _, _, f1, e1, _⟩ := hroot g x0 h2
            obtain ⟨k', j', o', s', _, _, f2, e2, _⟩ := hroot g' y0 h5
            dsimp only at he
            rw [e1, e2] at he ⊢
            simp only [renP, Prod.mk.injEq] at he
            obtain ⟨e3, e4⟩ := rid_inj f1 f2 he.1
            rw [e3, e4, he.2]
      · intro g x hx
        rcases hinv g x hx with ⟨h1, h2⟩ | ⟨h1, x0, h2, h3⟩
        · have := hb.size; omega
        · exact (hfresh g x0 h2).2
    have hgo : Goes w σ1 w' (sigC w σ1 σr d) := ⟨⟨fun b hb' h0 => by rw [hlo b hb']; exact h0, fun b hb' _ => hb.block b hb'⟩, hb.size, hb.os, hb.tape, hb.output⟩
    -- the cells, as the caller means them
    have hcell : ∀ k j o u, r.cell k j = some o → @RepO (J1 ()) w' σr (resRoot, [(k, j)]) o u → RepO w' (sigC w σ1 σr d) (rid d k j, []) o u := by
      intro k j o u hc hr
      refine RepO.swap hr ?_ (rid d k j, []) ?_
      · rcases hfree with hcl | hJ
        · exact .inl (clean_cell hcl hc)
        · right
          intro b _ hfr
          rw [hJ] at hfr
          refine ⟨?_, fun h => hfr.2 (.inl h)⟩
          have h0 : σ b = none := by
            cases hs : σ b with
            | none => rfl
            | some x => exact absurd (.inr (by rw [hs]; simp)) hfr.2
          unfold sigC
          split
          · rename_i hlt; exact hg1.st.none_ b hlt h0
          · rw [hfr.1]
      · intro g s n cap sz hg
        rw [hhi g _ hg]
        simp [renP]
    have hrt : RepT (fun _ _ => RepA w' (sigC w σ1 σr d)) (impT std d r) v := by
      cases r with
      | v x =>
        obtain ⟨g, os⟩ := x
        cases g with
        | true =>
          obtain ⟨cs, he, h1, h2⟩ := hrep
          refine ⟨cs, he, by simpa [impT, impL_length] using h1, ?_⟩
          intro j y hj
          rw [impL_get] at hj
          cases hc : os[j]? with
          | none => rw [hc] at hj; simp at hj
          | some o =>
            rw [hc] at hj
            simp at hj
            subst hj
            obtain ⟨u, h3, h4⟩ := h2 j o hc
            exact ⟨u, h3, refO_sound (hcell 0 j o u (by simp [TV.cell, hc]) h4)⟩
        | false =>
          match os, hrep, hcell with
          | [o], hrep, hcell => exact refO_sound (hcell 0 0 o v (by simp [TV.cell]) hrep)
      | tup xs =>
        obtain ⟨vs, he, h1, h2⟩ := hrep
        refine ⟨vs, he, by simpa [impT, impVs_length] using h1, ?_⟩
        intro k y hk
        rw [impVs_get] at hk
        cases hc : xs[k]? with
        | none => rw [hc] at hk; simp at hk
        | some x =>
          rw [hc] at hk
          simp at hk
          subst hk
          obtain ⟨u, h3, h4⟩ := h2 k x hc
          refine ⟨u, h3, ?_⟩
          obtain ⟨g, os⟩ := x
          cases g with
          | true =>
            obtain ⟨cs, he', h5, h6⟩ := h4
            refine ⟨cs, he', by simpa [impL_length] using h5, ?_⟩
            intro j y hj
            rw [impL_get] at hj
            cases hc' : os[j]? with
            | none => rw [hc'] at hj; simp at hj
            | some o =>
              rw [hc'] at hj
              simp at hj
              subst hj
              obtain ⟨u', h7, h8⟩ := h6 j o hc'
              exact ⟨u', h7, refO_sound (hcell k j o u' (by simp [TV.cell, hc, hc']) h8)⟩
          | false =>
            match os, h4, hc with
            | [o], h4, hc => exact refO_sound (hcell k 0 o u (by simp [TV.cell, hc]) h4)
    have hcv : ∀ id o, (id, o) ∈ rootsT d r → ∃ u, RepO w' (sigC w σ1 σr d) (id, []) o u := by
      intro id o hm
      obtain ⟨k, j, h1, _, rfl⟩ := mem_rootsT.1 hm
      cases r with
      | v x =>
        obtain ⟨g, os⟩ := x
        have h1' := h1
        simp only [TV.cell] at h1
        split at h1
        · rename_i e
          subst e
          cases g with
          | true =>
            obtain ⟨cs, he, _, h2⟩ := hrep
            obtain ⟨u, _, h4⟩ := h2 j o h1
            exact ⟨u, hcell 0 j o u h1' h4⟩
          | false =>
            match os, hrep, h1 with
            | [o'], hrep, h1 =>
              cases j with
              | zero => simp at h1; subst h1; exact ⟨v, hcell 0 0 _ v h1' hrep⟩
              | succ j => simp at h1
        · cases h1
      | tup xs =>
        obtain ⟨vs, he, _, h2⟩ := hrep
        have h1' := h1
        simp only [TV.cell] at h1
        cases hc : xs[k]? with
        | none => rw [hc] at h1; simp at h1
        | some x =>
          rw [hc] at h1
          simp at h1
          obtain ⟨u, _, h4⟩ := h2 k x hc
          obtain ⟨g, os⟩ := x
          cases g with
          | true =>
            obtain ⟨cs, _, _, h6⟩ := h4
            obtain ⟨u', _, h8⟩ := h6 j o h1
            exact ⟨u', hcell k j o u' h1' h8⟩
          | false =>
            match os, h4, h1 with
            | [o'], h4, h1 =>
              cases j with
              | zero => simp at h1; subst h1; exact ⟨u, hcell k 0 _ u h1' h4⟩
              | succ j => simp at h1
    obtain ⟨hl1, hl2⟩ := adds_look (rootsT d r) (F.clears std (rootsT d r)) hfun
    refine ⟨sigC w σ1 σr d, (FR.adds _ _ hF2 hcv).put hrt, ?_, hg1.trans hgo, ?_⟩
    · intro g x hx
      left
      show Fit (O.at std (look .un ((F.clears std (rootsT d r)).adds (rootsT d r)).tb x.p.1) x.p.2) x.n
      rcases hinv g x hx with ⟨h1, h2⟩ | ⟨h1, x0, h2, h3⟩
      · rcases hd1 g x h2 with h4 | ⟨_, _, _, h4, _⟩
        · by_cases hin : ∃ o, (x.p.1, o) ∈ rootsT d r
          · obtain ⟨o, ho⟩ := hin
            exact absurd ⟨rfl, x.p.2, rfl⟩ ((hids _ _ ho).1 g x h2)
          · rw [hl2 x.p.1 (fun o ho => hin ⟨o, ho⟩)]
            exact h4
        · cases h4
      · obtain ⟨k, j, o, s, e1, e2, e3, e4, e5, e6⟩ := hroot g x0 h2
        rw [h3]
        dsimp only
        rw [e4]
        simp only [renP]
        rw [hl1 _ _ e6]
        exact e5
    · show ((F.clears std (rootsT d r)).adds (rootsT d r)).n = F.n
      rw [(adds_tm _ _).2, hn1]
  · cases h
end
end Go.Proofs.Ytlmejcmnmdleaaa.Ai
