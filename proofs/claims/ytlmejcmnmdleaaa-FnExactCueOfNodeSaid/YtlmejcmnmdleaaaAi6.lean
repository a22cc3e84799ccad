/- The abstract interpreter, part 6: operations that read alone are what it says. -/
import Derived.Test.YtlmejcmnmdleaaaAi5
namespace Go.Proofs.Ytlmejcmnmdleaaa.Ai
open Go
set_option linter.unusedSectionVars false
set_option linter.unusedSimpArgs false
section
variable [Fence] {P : Program} {F : Fr} {σ : Gh} {w : World} {a : Act}

def plainV : Value → Bool
  | .agg _ | .nilIface => false
  | _ => true
theorem guard_plain (op : BinOp) (t : TypeId) (x y : Operand) {u v : Value} (h : plainV u = true) : (eqGuard op t x y u v).run P w = .ok () w := by
  cases u <;> first
    | (simp [plainV] at h; done)
    | (cases v <;> cases op <;> rfl)
theorem RepC.plain {c : C} {v : Value} (h : RepC w σ c v) (hc : noUn c = true) : plainV v = true := by cases h <;> first | rfl | simp [noUn] at hc

theorem binA_sound {T : Nat → Option Ty} (hT : TyOK P T) {op : BinOp} {x y : A} {c : C} {t : TypeId} {ty : Ty} (ht : T t = some ty) (h : binA std ty.kind op x y = some c) (ox oy : Operand) {v v' : Value}
    (hx : RepA w σ x v) (hy : RepA w σ y v') : ∃ u, (do eqGuard op t ox oy v v'; binOp op t v v' : Sem Value).run P w = .ok u w ∧ RepC w σ c u := by
  unfold binA at h
  split at h
  · obtain rfl := hx.fz_inv.int_inv
    obtain rfl := hy.fz_inv.int_inv
    obtain ⟨u, h1, h2⟩ := binC_sound (P := P) (w := w) (σ := σ) h t (.int _ _) (.int _ _)
    exact ⟨u, by simp [guard_plain op t ox oy (u := .int _ _) rfl, h1], h2⟩
  · obtain rfl := hx.fz_inv.str_inv
    obtain rfl := hy.fz_inv.str_inv
    obtain ⟨u, h1, h2⟩ := binC_sound (P := P) (w := w) (σ := σ) h t (.str _) (.str _)
    exact ⟨u, by simp [guard_plain op t ox oy (u := .string _) rfl, h1], h2⟩
  · have pl : ∀ b, eqT std ty.kind x y = some b → plainV v = true := by
      intro b hb
      unfold eqT at hb
      split at hb
      · split at hb
        · exact hx.fz_inv.plain rfl
        · cases hb
      · split at hb
        · unfold isNil? at hb
          split at hb
          · exact hx.fz_inv.plain rfl
          · exact hx.fz_inv.plain rfl
          · cases hx; rfl
          · cases hb
        · cases hb
      · cases hb
    split at h
    · split at h
      · rename_i b hb
        simp at h
        subst h
        obtain ⟨_, h2, _⟩ := eqT_sound (P := P) hb (hT _ _ ht) rfl hx hy
        exact ⟨_, by simp [guard_plain .eql t ox oy (pl b hb), h2], .bool _⟩
      · cases h
    · split at h
      · rename_i b hb
        simp at h
        subst h
        obtain ⟨_, _, h2⟩ := eqT_sound (P := P) hb (hT _ _ ht) rfl hx hy
        exact ⟨.bool !b, by simp [guard_plain .neq t ox oy (pl b hb), h2], .bool _⟩
      · cases h
    · cases h
theorem unC_sound {op : UnOp} {x : A} {c : C} (h : unC std op x = some c) {v : Value} (hx : RepA w σ x v) : ∃ u, (Op.unary op v).run P w = .ok u w ∧ RepC w σ c u := by
  unfold unC at h
  split at h
  · obtain rfl := hx.fz_inv.int_inv
    split at h
    · simp [std] at h
      subst h
      exact ⟨_, by simp [Op.unary, Op.intArith]; rfl, by simpa using RepC.int _ _⟩
    · cases h
  · obtain rfl := hx.fz_inv.bool_inv
    split at h
    · simp [std] at h
      subst h
      exact ⟨_, by simp [Op.unary], .bool _⟩
    · cases h
  · cases h

/-! ### places -/
theorem refO_sound {q : Path} {o : O} {u : Value} (h : RepO w σ q o u) : RepA w σ (refO std q o) u := by
  cases h with
  | un _ _ _ => exact .un _
  | fz _ c _ h => exact .fz _ _ h
  | oslz _ a => exact .rz _ _ _
  | osl _ xs e sz g cap cur us hh hc hcm hl hs hg hm hr =>
    have := RepA.rf (w := w) (σ := σ) q 0 xs.length g xs.length cap sz hg (by omega) hc.2
    simpa [refO, std] using this
  | obx _ cs g e cells us n cap sz hh hl hg hm hr =>
    have := RepA.pp (w := w) (σ := σ) q 0 0 g n cap sz hg
    simpa [refO] using this
theorem at_steps {p : Path} {o : O} {v : Value} (h : RepO w σ p o v) : ∀ s : List (Nat × Nat), ∃ u, RepO w σ (p.1, p.2 ++ s) (o.at std s) u := by
  induction h with
  | un p v hv => intro s; cases s with
    | nil => exact ⟨v, by simpa [O.at] using RepO.un p v hv⟩
    | cons x s => exact ⟨.bool false, by simpa [O.at] using RepO.un _ _ rfl⟩
  | fz p c v h => intro s; cases s with
    | nil => exact ⟨v, by simpa [O.at] using RepO.fz p c v h⟩
    | cons x s => exact ⟨.bool false, by simpa [O.at] using RepO.un _ _ rfl⟩
  | oslz p a => intro s; cases s with
    | nil => exact ⟨_, by simpa [O.at] using RepO.oslz p a⟩
    | cons x s => exact ⟨.bool false, by obtain ⟨i, j⟩ := x; simpa [O.at, std] using RepO.un _ _ rfl⟩
  | osl p xs e sz g cap cur us hh hc hcm hl hs hg hm hr ih => intro s; cases s with
    | nil => exact ⟨_, by simpa [O.at] using RepO.osl p xs e sz g cap cur us hh hc hcm hl hs hg hm hr⟩
    | cons x s =>
      obtain ⟨i, j⟩ := x
      simp only [O.at, std, nth_eq]
      cases hi : xs[i]? with
      | none => exact ⟨.bool false, RepO.un _ _ rfl⟩
      | some y =>
        cases hj : y[j]? with
        | none => simp only [hj]; exact ⟨.bool false, RepO.un _ _ rfl⟩
        | some o =>
          obtain ⟨u, hu⟩ := ih i j y o hi hj s
          exact ⟨u, by simpa [hj, std] using hu⟩
  | obx p cs g e cells us n cap sz hh hl hg hm hr ih => intro s; cases s with
    | nil => exact ⟨_, by simpa [O.at] using RepO.obx p cs g e cells us n cap sz hh hl hg hm hr⟩
    | cons x s =>
      obtain ⟨i, j⟩ := x
      simp only [O.at, nth_eq]
      cases i with
      | succ i => exact ⟨.bool false, RepO.un _ _ rfl⟩
      | zero =>
        cases hj : cs[j]? with
        | none => exact ⟨.bool false, by simpa [hj] using RepO.un _ _ rfl⟩
        | some o =>
          obtain ⟨u, hu⟩ := ih j o hj s
          exact ⟨u, by simpa [hj] using hu⟩
theorem at_sound {vt : Nat → Value} (h : FR F σ w vt) (p : Path) : ∃ v, RepO w σ p (F.at std p) v := by
  obtain ⟨v, hv⟩ := h.tb p.1
  obtain ⟨u, hu⟩ := at_steps hv p.2
  exact ⟨u, by simpa [Fr.at] using hu⟩
theorem refL_get (M : Ops) (r : Nat) (s : List (Nat × Nat)) (i : Nat) (l : List O) : ∀ j k : Nat, (refL M r s i j l)[k]? = (l[k]?).map fun o => refO M (r, s ++ [(i, j + k)]) o := by
  induction l with
  | nil => intro j k; simp [refL]
  | cons o l ih =>
    intro j k
    cases k with
    | zero => simp [refL]
    | succ k => simp [refL, ih, Nat.add_comm, Nat.add_left_comm]
theorem refL_length (M : Ops) (r : Nat) (s : List (Nat × Nat)) (i j : Nat) (l : List O) : (refL M r s i j l).length = l.length := by
  induction l generalizing j with
  | nil => rfl
  | cons o l ih => simp [refL, ih]

theorem addr_add (b o n : Nat) : (⟨b, o, none⟩ : Addr).add n = ⟨b, o + n, none⟩ := by
  unfold Addr.add
  split
  · simp_all
  · rfl
theorem addr_add' {ad : Addr} (h : ad.spot = none) (n m : Nat) : (ad.add n).add m = ad.add (n + m) := by
  obtain ⟨b, o, s⟩ := ad
  simp at h
  subst h
  rw [addr_add, addr_add, addr_add, Nat.add_assoc]
theorem add_spot {ad : Addr} (h : ad.spot = none) (n : Nat) : (ad.add n).spot = none := by unfold Addr.add; split <;> simp_all

/-- Cells that a pointer leads to. -/
def Cells (w : World) (σ : Gh) (ad : Addr) (as : List A) : Prop := ad.spot = none ∧ ∀ k x, as[k]? = some x → ∃ u, w.cell? (ad.add k) = some u ∧ RepA w σ x u
theorem cellsAt_sound {vt : Nat → Value} (h : FR F σ w vt) {n : Nat} {x : A} {as : List A} (hc : cellsAt std F n x = some as) {v : Value} (hx : RepA w σ x v) :
    as.length = n ∧ ∃ ad, v = .pointer (some ad) ∧ Cells w σ ad as := by
  unfold cellsAt at hc
  split at hc
  · rename_i p i j
    obtain ⟨u, hu⟩ := at_sound h p
    cases hx with
    | pp _ _ _ g m cap sz hg =>
      split at hc
      · rename_i xs hxs
        rw [hxs] at hu
        split at hc
        · rename_i y hy
          simp only [std] at hy
          split at hc
          · rename_i l hl
            obtain ⟨hlen, rfl⟩ := cut_eq _ _ _ _ hl
            simp only [Option.some.injEq] at hc
            subst hc
            refine ⟨by rw [refL_length]; simp; omega, _, rfl, rfl, ?_⟩
            intro k x hk
            rw [refL_get] at hk
            cases hu with
            | oslz => simp at hy
            | osl _ _ e sz' g' cap' cur us hh hc' hcm hl' hs hg' hm hr =>
              obtain rfl := h.inj _ _ _ _ hg hg' rfl
              rw [hg] at hg'
              simp only [Option.some.injEq, Own.mk.injEq] at hg'
              obtain ⟨_, rfl, rfl, rfl⟩ := hg'
              have hk' : ((y.drop j).take n)[k]? = ((y.drop j).take n)[k]? := rfl
              cases ho : ((y.drop j).take n)[k]? with
              | none => rw [ho] at hk; simp at hk
              | some o =>
                rw [ho] at hk
                simp at hk
                subst hk
                have hyo : y[j + k]? = some o := by
                  rw [List.getElem?_take] at ho
                  split at ho
                  · simpa using ho
                  · cases ho
                refine ⟨us i (j + k), ?_, refO_sound (hr i (j + k) y o hy hyo)⟩
                rw [addr_add, Nat.add_assoc]
                simp only [World.cell?, hh]
                simpa using hm i (j + k) y o hy hyo
          · cases hc
        · cases hc
      · rename_i cs hcs
        rw [hcs] at hu
        split at hc
        · split at hc
          · rename_i l hl
            obtain ⟨hlen, rfl⟩ := cut_eq _ _ _ _ hl
            simp only [Option.some.injEq] at hc
            subst hc
            refine ⟨by rw [refL_length]; simp; omega, _, rfl, rfl, ?_⟩
            intro k x hk
            rw [refL_get] at hk
            cases hu with
            | obx _ _ g' e cells us n' cap' sz' hh hl' hg' hm hr =>
              obtain rfl := h.inj _ _ _ _ hg hg' rfl
              cases ho : ((cs.drop j).take n)[k]? with
              | none => rw [ho] at hk; simp at hk
              | some o =>
                rw [ho] at hk
                simp at hk
                subst hk
                have hyo : cs[j + k]? = some o := by
                  rw [List.getElem?_take] at ho
                  split at ho
                  · simpa using ho
                  · cases ho
                refine ⟨us (j + k), ?_, refO_sound (hr (j + k) o hyo)⟩
                rw [addr_add]
                simp only [World.cell?, hh]
                simpa using hm (j + k) o hyo
          · cases hc
        · cases hc
      · cases hc
  · rename_i cs
    cases hx.fz_inv with
    | ptr _ ad us hp hlt hb hm hr =>
      split at hc
      · rename_i l hl
        obtain ⟨hlen, rfl⟩ := cut_eq _ _ _ _ hl
        simp only [Option.some.injEq, fzL_eq] at hc
        subst hc
        refine ⟨by simp; omega, ad, rfl, hp, ?_⟩
        intro k x hk
        rw [List.getElem?_map] at hk
        cases ho : ((cs.drop 0).take n)[k]? with
        | none => rw [ho] at hk; simp at hk
        | some c =>
          rw [ho] at hk
          simp at hk
          subst hk
          have hyo : cs[k]? = some c := by
            rw [List.getElem?_take] at ho
            split at ho
            · simpa using ho
            · cases ho
          exact ⟨us k, hm k c hyo, .fz _ _ (hr k c hyo)⟩
      · cases hc
  · cases hc
end
end Go.Proofs.Ytlmejcmnmdleaaa.Ai
