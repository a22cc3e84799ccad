/- The abstract interpreter, part 29: a law's arguments; a law whose answer is always true. -/
import Derived.Test.YtlmejcmnmdleaaaAi28
namespace Go.Proofs.Ytlmejcmnmdleaaa.Ai
open Go Go.RowKit Go.ChangeShapes
set_option linter.unusedSectionVars false
set_option linter.unusedSimpArgs false
instance fenceFree' : Fence := noFence

def Sh.isSt : Sh → Bool
  | .st _ => true
  | _ => false
/-- Arguments of given shapes. -/
def WtArgs : List Sh → List (V1 C) → Prop
  | [], xs => xs = []
  | s :: r, xs => ∃ y ys, xs = (s.isSt, y) :: ys ∧ Wt s y ∧ WtArgs r ys
theorem arg_knows {H : Type} {enc : TypeId × Value → H} {P : Program} {W : World} {sp : Nat → Bool} {n : Nat} {t : TypeId} {s : Sh} (hs : shOf P n t = some s) {r : Reach} {base b0 : Nat} {v : Value} {d : DataW H} {ps : List MemPlace} (hok : Value.okWide P W r b0 t v)
    (h : DataW.Trod enc P W base sp true t v d ps) : ∃ xs, Wt s xs ∧ RepV (fun _ => @RepC noFence W (fun _ => none)) (s.isSt, xs) v := by
  obtain ⟨fuel, h⟩ := h
  obtain ⟨xs, h1, h2⟩ := trod_knows n t s hs fuel _ _ h
  refine ⟨xs, h1, ?_⟩
  cases n with
  | zero => simp [shOf] at hs
  | succ n =>
    -- one cell
    have one : ∀ c : C, xs = [c] → v.cells = #[v] → s.isSt = false → RepV (fun _ => @RepC noFence W (fun _ => none)) (s.isSt, xs) v := by
      intro c hc hv hst
      subst hc
      rw [hst]
      obtain ⟨u, h3, h4⟩ := h2.2 0 c rfl
      rw [hv] at h3
      simp at h3
      subst h3
      exact h4
    have hv1 : ∀ u : TypeDesc, P.underlying t = some u → (∀ fs, u ≠ .struct fs) → (∀ m e, u ≠ .array m e) → Cell.okWide P W r b0 t v := by
      intro u hu h3 h4
      unfold Value.okWide at hok
      rw [hu] at hok
      cases u <;> first | exact hok | exact absurd rfl (h3 _) | exact absurd rfl (h4 _ _)
    simp only [shOf] at hs
    split at hs
    · rename_i hu
      simp at hs
      subst hs
      have hc := hv1 _ hu (by simp) (by simp)
      obtain ⟨b, hb⟩ := h1
      refine one _ hb ?_ rfl
      unfold Cell.okWide Cell.ok at hc
      simp only [hu] at hc
      cases v <;> first | rfl | exact hc.elim
    · rename_i k hu
      simp at hs
      subst hs
      have hc := hv1 _ hu (by simp) (by simp)
      obtain ⟨b, hb, _⟩ := h1
      refine one _ hb ?_ rfl
      unfold Cell.okWide Cell.ok at hc
      simp only [hu] at hc
      cases v <;> first | rfl | exact hc.elim
    · rename_i hu
      simp at hs
      subst hs
      have hc := hv1 _ hu (by simp) (by simp)
      obtain ⟨b, hb, _⟩ := h1
      refine one _ hb ?_ rfl
      unfold Cell.okWide Cell.ok at hc
      simp only [hu] at hc
      cases v <;> first | rfl | exact hc.elim
    · rename_i e hu
      have hc := hv1 _ hu (by simp) (by simp)
      have hcells : v.cells = #[v] := by
        unfold Cell.okWide Cell.ok at hc
        simp only [hu] at hc
        cases v <;> first | rfl | exact hc.elim
      split at hs
      · split at hs
        · simp at hs
          subst hs
          obtain ⟨ys, hb, _⟩ := h1
          exact one _ hb hcells rfl
        · cases hs
      · cases hs
    · rename_i fs hu
      split at hs
      · split at hs
        · simp at hs
          subst hs
          unfold Value.okWide at hok
          rw [hu] at hok
          obtain ⟨cs, rfl, _⟩ := hok
          refine ⟨cs, rfl, ?_, ?_⟩
          · have := h2.1
            simpa [Value.cells] using this.symm
          · intro j c hj
            obtain ⟨u, h3, h4⟩ := h2.2 j c hj
            exact ⟨u, by simpa [Value.cells] using h3, h4⟩
        · cases hs
      · cases hs
    · cases hs
/-- All the arguments. -/
theorem args_know {H : Type} {enc : TypeId × Value → H} {P : Program} {W : World} {sp : Nat → Bool} {n : Nat} {r : Reach} {base b0 : Nat} : ∀ (ts : List TypeId) (shs : List Sh) (vs : List Value) (ds : List (DataW H)) (ps : List MemPlace), ts.map (shOf P n) = shs.map some →
    (∀ (j : Nat) t v, ts[j]? = some t → vs[j]? = some v → Value.okWide P W r b0 t v) → DataW.TrodAll enc P W base sp true ts vs ds ps →
    vs.length = ts.length ∧ ∃ xs, WtArgs shs xs ∧ xs.length = vs.length ∧ ∀ (k : Nat) (x : V1 C), xs[k]? = some x → ∃ u, vs[k]? = some u ∧ RepV (fun _ => @RepC noFence W (fun _ => none)) x u := by
  intro ts
  induction ts with
  | nil =>
    intro shs vs ds ps hsh hok h
    obtain ⟨rfl, rfl, rfl⟩ := trodAll_nil h
    have : shs = [] := by cases shs <;> simp_all
    subst this
    exact ⟨rfl, [], rfl, rfl, fun k x hk => by simp at hk⟩
  | cons t ts ih =>
    intro shs vs ds ps hsh hok h
    obtain ⟨v, vs', d, ds', p, q, rfl, rfl, rfl, h0, hr⟩ := trodAll_cons h
    cases shs with
    | nil => simp at hsh
    | cons s shs =>
      simp only [List.map_cons, List.cons.injEq] at hsh
      obtain ⟨h1, xs, h2, h3, h4⟩ := ih shs vs' ds' q hsh.2 (fun j t v ht hv => hok (j + 1) t v (by simpa using ht) (by simpa using hv)) hr
      obtain ⟨y, h5, h6⟩ := arg_knows hsh.1 (hok 0 t v rfl rfl) h0
      refine ⟨by simp [h1], (s.isSt, y) :: xs, ⟨y, xs, rfl, h5, h2⟩, by simp [h3], fun k x hk => ?_⟩
      cases k with
      | zero => simp at hk; subst hk; exact ⟨v, rfl, h6⟩
      | succ k => obtain ⟨u, h7, h8⟩ := h4 k x (by simpa using hk); exact ⟨u, by simpa using h7, h8⟩
/-- The arguments read as they did. -/
theorem args_same {H : Type} {enc : TypeId × Value → H} {P : Program} (hl : laidOutB P = true) {W W' : World} (hb : Below W.heap.size W W') : ∀ (ts : List TypeId) (vs : List Value) (ds : List (DataW H)) (ps : List MemPlace), (ts.all fun t => P.readableRec t && decide (t < P.types.size)) = true →
    DataW.TrodAll enc P W 0 (fun _ => true) true ts vs ds ps → (∀ x ∈ ps, x.block < W.heap.size) → DataW.TrodAll enc P W' 0 (fun b => decide (b < W.heap.size)) true ts vs ds ps := by
  intro ts
  induction ts with
  | nil => intro vs ds ps _ h _; obtain ⟨rfl, rfl, rfl⟩ := trodAll_nil h; exact rfl
  | cons t ts ih =>
    intro vs ds ps ht h hlt
    obtain ⟨v, vs', d, ds', p, q, rfl, rfl, rfl, h0, hr⟩ := trodAll_cons h
    simp only [List.all_cons, Bool.and_eq_true, decide_eq_true_eq] at ht
    exact ⟨p, q, Below.trod hl ht.1.1 ht.1.2 h0 hb (fun x hx => hlt x (List.mem_append.2 (.inl hx))), ih vs' ds' q ht.2 hr (fun x hx => hlt x (List.mem_append.2 (.inr hx))), rfl⟩
def trueR : TV O := .v (false, [.fz (.bool true)])
/-- A law that answers true on whatever it is given: the call. -/
theorem law_true {P : Program} {g : FuncId} {W : World} {args : Array Value} {xs : List (V1 C)} (h : CallOK P g xs trueR) (hl : xs.length = args.toList.length) (hk : ∀ (k : Nat) (x : V1 C), xs[k]? = some x → ∃ u, args.toList[k]? = some u ∧ RepV (fun _ => @RepC noFence W (fun _ => none)) x u) :
    Calls P g args W fun e W' => e = .returned (.bool true) ∧ Below W.heap.size W W' := by
  refine (h.2 noFence W args (by simpa using hl.symm) (fun k x hx => ?_)).mono ?_
  · obtain ⟨u, h1, h2⟩ := hk k x hx
    exact ⟨u, by simpa using h1, h2⟩
  · rintro e W' ⟨v, rfl, hres⟩
    obtain ⟨σr, _, _, hrep, _⟩ := hres.rep
    have hv : RepO W' σr (resRoot, [(0, 0)]) (.fz (.bool true)) v := hrep
    have : v = .bool true := by
      cases hv with
      | fz _ _ _ h => exact RepC.bool_inv h
    subst this
    exact ⟨rfl, hres.below⟩
end Go.Proofs.Ytlmejcmnmdleaaa.Ai
