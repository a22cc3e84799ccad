/- The abstract interpreter, part 23: what a call hands over. -/
import Derived.Test.YtlmejcmnmdleaaaAi22
namespace Go.Proofs.Ytlmejcmnmdleaaa.Ai
open Go Go.RowKit
set_option linter.unusedSectionVars false
set_option linter.unusedSimpArgs false

theorem RepC.swap {J1 J2 : Fence} {w : World} {σ σ' : Gh} {c : C} {v : Value} (h : @RepC J1 w σ c v) (hf : ∀ b, b < w.heap.size → @Free J1 σ b → @Free J2 σ' b) : @RepC J2 w σ' c v := by
  induction h with
  | un v h => exact @RepC.un J2 _ _ v h
  | int k n => exact @RepC.int J2 _ _ k n
  | bool b => exact @RepC.bool J2 _ _ b
  | str s => exact @RepC.str J2 _ _ s
  | nilsl => exact @RepC.nilsl J2 _ _
  | sl xs sz a cap us hc hs ha hm hr ih =>
    refine @RepC.sl J2 _ _ xs sz a cap us hc hs (fun hne => ?_) hm ih
    obtain ⟨ad, h1, h2, h3, h4⟩ := ha hne
    exact ⟨ad, h1, h2, h3, hf _ h3 h4⟩
  | ptr cs ad us hp hlt hb hm hr ih => exact @RepC.ptr J2 _ _ cs ad us hp hlt (hf _ hlt hb) hm ih
  | fn f caps vs us hl hm hr ih => exact @RepC.fn J2 _ _ f caps vs us hl hm ih
theorem RepC.swapFlat {J1 J2 : Fence} {w : World} {σ σ' : Gh} {c : C} {v : Value} (h : @RepC J1 w σ c v) (hf : c.flat = true) : @RepC J2 w σ' c v := by
  cases h with
  | un v h => exact @RepC.un J2 _ _ v h
  | int k n => exact @RepC.int J2 _ _ k n
  | bool b => exact @RepC.bool J2 _ _ b
  | str s => exact @RepC.str J2 _ _ s
  | nilsl => exact @RepC.nilsl J2 _ _
  | sl xs sz a cap us hc hs ha hm hr =>
    cases xs with
    | nil => exact @RepC.sl J2 _ _ [] 0 a cap us hc (by simp) (by simp) (by simp) (by simp)
    | cons y r => simp [C.flat] at hf
  | ptr cs ad us hp hlt hb hm hr => simp [C.flat] at hf
  | fn f caps vs us hl hm hr =>
    cases caps with
    | nil => exact @RepC.fn J2 _ _ f [] vs us hl (by simp) (by simp)
    | cons y r => simp [C.flat] at hf
/-- A result's object, as the caller means it. -/
theorem RepO.swap {J1 J2 : Fence} {w : World} {σ σ' : Gh} {p : Path} {o : O} {v : Value} (h : @RepO J1 w σ p o v) (hf : o.clean = true ∨ ∀ b, b < w.heap.size → @Free J1 σ b → @Free J2 σ' b) :
    ∀ p' : Path, (∀ g s n cap sz, σ g = some ⟨(p.1, p.2 ++ s), n, cap, sz⟩ → σ' g = some ⟨(p'.1, p'.2 ++ s), n, cap, sz⟩) → @RepO J2 w σ' p' o v := by
  induction h with
  | un p v h => exact fun p' _ => @RepO.un J2 _ _ p' v h
  | fz p c v h =>
    intro p' _
    refine @RepO.fz J2 _ _ p' c v ?_
    rcases hf with hf | hf
    · exact h.swapFlat hf
    · exact h.swap hf
  | oslz p a => exact fun p' _ => @RepO.oslz J2 _ _ p' a
  | osl p xs e sz g cap cur us hh hc hcm hl hs hg hm hr ih =>
    intro p' hp
    refine @RepO.osl J2 _ _ p' xs e sz g cap cur us hh hc hcm hl hs (by simpa using hp g [] _ _ _ (by simpa using hg)) hm ?_
    intro i j y o hi hj
    refine ih i j y o hi hj ?_ (p'.1, p'.2 ++ [(i, j)]) ?_
    · rcases hf with hf | hf
      · left
        simp only [O.clean, O.cleanLL_eq, List.all_eq_true] at hf
        exact hf y (List.mem_of_getElem? hi) o (List.mem_of_getElem? hj)
      · exact .inr hf
    · intro g s n cap sz hσ
      have := hp g ((i, j) :: s) n cap sz (by simpa using hσ)
      simpa using this
  | obx p cs g e cells us n cap sz hh hl hg hm hr ih =>
    intro p' hp
    refine @RepO.obx J2 _ _ p' cs g e cells us n cap sz hh hl (by simpa using hp g [] _ _ _ (by simpa using hg)) hm ?_
    intro j o hj
    refine ih j o hj ?_ (p'.1, p'.2 ++ [(0, j)]) ?_
    · rcases hf with hf | hf
      · left
        simp only [O.clean, O.cleanL_eq, List.all_eq_true] at hf
        exact hf o (List.mem_of_getElem? hj)
      · exact .inr hf
    · intro g s n cap sz hσ
      have := hp g ((0, j) :: s) n cap sz (by simpa using hσ)
      simpa using this

def TV.cell {α : Type} : TV α → Nat → Nat → Option α
  | .v (_, os), k, j => if k = 0 then os[j]? else none
  | .tup xs, k, j => (xs[k]?).bind fun x => x.2[j]?
/-- What a call hands back. -/
structure CallRes [Fence] (w : World) (r : TV O) (v : Value) (w' : World) : Prop where
  below : Below w.heap.size w w'
  rep : ∃ σr : Gh, (∀ g x, σr g = some x → w.heap.size ≤ g ∧ g < w'.heap.size) ∧ (∀ g g' x y, σr g = some x → σr g' = some y → x.p = y.p → g = g') ∧ RepT (fun k j o v => RepO w' σr (resRoot, [(k, j)]) o v) r v ∧
    ∀ g x, σr g = some x → ∃ k j o s, r.cell k j = some o ∧ k < 64 ∧ j < 64 ∧ x.p = (resRoot, (k, j) :: s) ∧ Fit (o.at std s) x.n
/-- What a function is good for, whoever calls. -/
def CallOK (P : Program) (g : FuncId) (args : List (V1 C)) (r : TV O) : Prop :=
  (∃ fn c, P.funcs[g]? = some fn ∧ fn.body = some c ∧ (fn.name == "runtime.NumGoroutine") = false) ∧
  ∀ (J : Fence) (w : World) (vals : Array Value), vals.size = args.length → (∀ (k : Nat) (x : V1 C), args[k]? = some x → ∃ u, vals[k]? = some u ∧ RepV (fun _ => @RepC J w (fun _ => none)) x u) →
    Calls P g vals w fun e w' => ∃ v, e = .returned v ∧ @CallRes J w r v w'

section
variable [Fence] {P : Program} {T : Nat → Option Ty} {w w' : World} {σ σ' : Gh} {F : Fr} {vt : Nat → Value} {a : Act}

/-- What is the caller's own, fenced off. -/
@[reducible] def fenceOf (σ : Gh) : Fence := ⟨fun b => Fence.J b ∨ σ b ≠ none⟩
mutual
theorem isFz_sound : (x : A) → {v : Value} → RepA w σ x v → x.isFz = true → @RepC (fenceOf σ) w (fun _ => none) (frzA std F x) v
  | .fz c, v, h, _ => h.fz_inv.swap (J2 := fenceOf σ) (fun b _ hb => ⟨rfl, fun hh => hh.elim hb.2 (fun hne => hne hb.1)⟩)
  | .clo f caps, v, h, hk => by
    simp only [A.isFz] at hk
    simp only [frzA]
    cases h with
    | clo _ _ vs us hl hm hr =>
      refine @RepC.fn (fenceOf σ) _ _ f _ vs us (by rw [frzAL_eq]; simpa using hl) ?_ ?_
      · intro j c hj
        rw [frzAL_eq, List.getElem?_map] at hj
        cases hc : caps[j]? with
        | none => rw [hc] at hj; simp at hj
        | some y => exact hm j y hc
      · intro j c hj
        exact allFz_sound caps hk us hr j c hj
  | .un, _, _, hk => by simp [A.isFz] at hk
  | .ud, _, _, hk => by simp [A.isFz] at hk
  | .rf .., _, _, hk => by simp [A.isFz] at hk
  | .pp .., _, _, hk => by simp [A.isFz] at hk
theorem allFz_sound : (l : List A) → allFz l = true → (us : Nat → Value) → (∀ j c, l[j]? = some c → RepA w σ c (us j)) → ∀ (j : Nat) (c : C), (frzAL std F l)[j]? = some c → @RepC (fenceOf σ) w (fun _ => none) c (us j)
  | [], _, _, _, j, c, hj => by simp [frzAL] at hj
  | x :: l, hk, us, hr, j, c, hj => by
    simp only [allFz] at hk
    cases hx : x.isFz with
    | false => rw [hx] at hk; cases hk
    | true =>
      rw [hx] at hk
      cases j with
      | zero => simp [frzAL] at hj; subst hj; exact isFz_sound x (hr 0 x rfl) hx
      | succ j => exact allFz_sound l hk (fun j => us (j + 1)) (fun j c h => hr (j + 1) c (by simpa using h)) j c (by simpa [frzAL] using hj)
end
/-- One argument, frozen. -/
theorem frzV_sound (hF : FR F σ w (valT a)) {x : Operand} {y : V1 C} (h : frzV std F (ev F x) = some y) : RepV (fun _ => RepN w) y (a.eval x) ∧ ((ev F x).isFz = true → RepV (fun _ => @RepC (fenceOf σ) w (fun _ => none)) y (a.eval x)) := by
  have hx := ev_sound hF x
  unfold frzV at h
  split at h
  · rename_i g as hev
    rw [hev] at hx ⊢
    split at h
    · rename_i hok
      simp at h
      subst h
      have hel : ∀ (j : Nat) (y : A), as[j]? = some y → y.ok = true := by
        intro j y hj
        rw [okL_eq, List.all_eq_true] at hok
        exact hok y (List.mem_of_getElem? hj)
      rw [frzAL_eq]
      cases g with
      | true =>
        obtain ⟨cs, he, h1, h2⟩ := hx
        rw [he]
        refine ⟨⟨cs, rfl, by simpa using h1, ?_⟩, fun hfz => ⟨cs, rfl, by simpa using h1, ?_⟩⟩
        · intro j c hj
          rw [List.getElem?_map] at hj
          cases hc : as[j]? with
          | none => rw [hc] at hj; simp at hj
          | some y =>
            rw [hc] at hj
            simp at hj
            subst hj
            obtain ⟨u, h3, h4⟩ := h2 j y hc
            exact ⟨u, h3, frzA_sound hF h4 (hel j y hc)⟩
        · intro j c hj
          obtain ⟨us, hus⟩ : ∃ us : Nat → Value, ∀ j y, as[j]? = some y → cs[j]? = some (us j) ∧ RepA w σ y (us j) := by
            refine ⟨fun j => (cs[j]?).getD undef, fun j y hj => ?_⟩
            obtain ⟨u, h3, h4⟩ := h2 j y hj
            simp [h3, h4]
          have hj' := hj
          rw [List.getElem?_map] at hj
          cases hc : as[j]? with
          | none => rw [hc] at hj; simp at hj
          | some y => exact ⟨us j, (hus j y hc).1, allFz_sound (F := F) as hfz us (fun j c h => (hus j c h).2) j c (by rw [frzAL_eq]; exact hj')⟩
      | false =>
        match as, hx, hel with
        | [y], hx, hel =>
          have hx' : RepA w σ y (a.eval x) := hx
          refine ⟨frzA_sound hF hx' (hel 0 y rfl), fun hfz => ?_⟩
          have : y.isFz = true := by
            simp only [TV.isFz, allFz] at hfz
            cases hy : y.isFz with
            | true => rfl
            | false => rw [hy] at hfz; cases hfz
          exact isFz_sound y hx' this
    · cases h
  · cases h
theorem argsC_sound (hF : FR F σ w (valT a)) : ∀ (xs : List Operand) (ys : List (V1 C)), argsC std F xs = some ys → ys.length = xs.length ∧ ∀ (k : Nat) (y : V1 C), ys[k]? = some y → ∃ u, (xs.map a.eval)[k]? = some u ∧ RepV (fun _ => RepN w) y u ∧
    (lend F xs = true → RepV (fun _ => @RepC (fenceOf σ) w (fun _ => none)) y u) := by
  intro xs
  induction xs with
  | nil => intro ys h; simp [argsC] at h; subst h; exact ⟨rfl, fun k y hk => by simp at hk⟩
  | cons x xs ih =>
    intro ys h
    simp only [argsC] at h
    split at h
    · rename_i y ys' hy hys
      simp at h
      subst h
      obtain ⟨h1, h2⟩ := ih ys' hys
      refine ⟨by simp [h1], fun k z hk => ?_⟩
      cases k with
      | zero =>
        simp at hk; subst hk
        obtain ⟨h3, h4⟩ := frzV_sound hF hy
        refine ⟨a.eval x, rfl, h3, fun hl => h4 ?_⟩
        simp only [lend] at hl
        cases hz : (ev F x).isFz with
        | true => rfl
        | false => rw [hz] at hl; cases hl
      | succ k =>
        obtain ⟨u, h3, h4, h5⟩ := h2 k z (by simpa using hk)
        refine ⟨u, by simpa using h3, h4, fun hl => h5 ?_⟩
        simp only [lend] at hl
        split at hl
        · exact hl
        · cases hl
    · cases h
theorem capsV_get (caps : List C) (k : Nat) : (capsV caps)[k]? = (caps[k]?).map fun c => (false, [c]) := by
  induction caps generalizing k with
  | nil => simp [capsV]
  | cons c r ih => cases k <;> simp [capsV, ih]
theorem capsV_length (caps : List C) : (capsV caps).length = caps.length := by
  induction caps with
  | nil => rfl
  | cons c r ih => simp [capsV, ih]
theorem callee_sound (hF : FR F σ w (valT a)) {f : Operand} {g : FuncId} {caps : List C} (h : callee std F f = some (g, caps)) : ∃ vs : Array Value, a.eval f = .func (.func g) #[] vs ∧ vs.size = caps.length ∧
    (∀ (k : Nat) (c : C), caps[k]? = some c → ∃ u, vs[k]? = some u ∧ RepN w c u ∧ ((ev F f).isFz = true → @RepC (fenceOf σ) w (fun _ => none) c u)) := by
  have hf := ev1_sound hF f
  unfold callee at h
  split at h
  · rename_i g' caps' he
    simp at h
    obtain ⟨rfl, rfl⟩ := h
    rw [he] at hf
    have hf := hf.fz_inv
    generalize a.eval f = v at hf
    cases hf with
    | fn _ _ vs us hl hm hr =>
      exact ⟨vs, rfl, hl, fun k c hk => ⟨us k, hm k c hk, (hr k c hk).free, fun _ => (hr k c hk).swap (fun b _ hb => ⟨rfl, fun hh => hh.elim hb.2 (fun hne => hne hb.1)⟩)⟩⟩
  · rename_i g' caps' he
    split at h
    · rename_i hok
      simp at h
      obtain ⟨rfl, rfl⟩ := h
      rw [he] at hf
      have hev : (ev F f).isFz = true → allFz caps' = true := by
        intro hz
        unfold ev1 one at he
        split at he
        · rename_i y hy
          subst he
          rw [hy] at hz
          simp only [TV.isFz, allFz, A.isFz] at hz
          split at hz
          · assumption
          · cases hz
        · cases he
      generalize a.eval f = v at hf
      cases hf with
      | clo _ _ vs us hl hm hr =>
        refine ⟨vs, rfl, by rw [frzAL_eq]; simpa using hl, fun k c hk => ?_⟩
        have hk' := hk
        rw [frzAL_eq, List.getElem?_map] at hk
        cases hc : caps'[k]? with
        | none => rw [hc] at hk; simp at hk
        | some y =>
          rw [hc] at hk
          simp at hk
          subst hk
          have hy : y.ok = true := by
            rw [okL_eq, List.all_eq_true] at hok
            exact hok y (List.mem_of_getElem? hc)
          exact ⟨us k, hm k y hc, frzA_sound hF (hr k y hc) hy, fun hz => allFz_sound (F := F) caps' (hev hz) us hr k _ hk'⟩
    · cases h
  · cases h
end
end Go.Proofs.Ytlmejcmnmdleaaa.Ai
