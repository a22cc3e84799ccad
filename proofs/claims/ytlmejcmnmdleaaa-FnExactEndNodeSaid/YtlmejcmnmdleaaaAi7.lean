/- The abstract interpreter, part 7: each operation that reads alone. -/
import Derived.Test.YtlmejcmnmdleaaaAi6
import Derived.Laws.Slices
import Derived.ChangeKeysEq
namespace Go.Proofs.Ytlmejcmnmdleaaa.Ai
open Go
set_option linter.unusedSectionVars false
set_option linter.unusedSimpArgs false
section
variable [Fence] {P : Program} {T : Nat → Option Ty} {F : Fr} {σ : Gh} {w : World} {a : Act}

theorem cells_list {ad : Addr} {as : List A} (h : Cells w σ ad as) : ∃ vs : List Value, vs.length = as.length ∧ (∀ (k : Nat) (v : Value), vs[k]? = some v → w.cell? (ad.add k) = some v) ∧
    ∀ (k : Nat) (x : A), as[k]? = some x → ∃ u, vs[k]? = some u ∧ RepA w σ x u := by
  classical
  obtain ⟨_, h⟩ := h
  refine ⟨(List.range as.length).map fun k => (w.cell? (ad.add k)).getD undef, by simp, ?_, ?_⟩
  · intro k v hk
    rw [List.getElem?_map] at hk
    by_cases hlt : k < as.length
    · rw [List.getElem?_range hlt] at hk
      simp at hk
      obtain ⟨u, hu, _⟩ := h k _ (List.getElem?_eq_getElem hlt)
      rw [hu] at hk ⊢
      simpa using hk
    · rw [List.getElem?_eq_none (by simpa using hlt)] at hk
      simp at hk
  · intro k x hk
    have hlt : k < as.length := (List.getElem?_eq_some_iff.1 hk).1
    obtain ⟨u, hu, hr⟩ := h k x hk
    refine ⟨u, ?_, hr⟩
    rw [List.getElem?_map, List.getElem?_range hlt]
    simp [hu]
theorem mkV_sound {agg : Bool} {as : List A} {tv : TV A} (h : mkV agg as = some tv) {vs : List Value} (hl : vs.length = as.length) (hr : ∀ (k : Nat) (x : A), as[k]? = some x → ∃ u, vs[k]? = some u ∧ RepA w σ x u) :
    RepT (fun _ _ => RepA w σ) tv (if agg then .agg vs.toArray else vs.getD 0 undef) ∧ (agg = false → ∃ x v, as = [x] ∧ vs = [v]) := by
  unfold mkV at h
  split at h
  · simp at h
    subst h
    refine ⟨⟨vs.toArray, rfl, by simpa using hl, fun j x hj => ?_⟩, by simp⟩
    obtain ⟨u, hu, hx⟩ := hr j x hj
    exact ⟨u, by simpa using hu, hx⟩
  · split at h
    · simp at h
      subst h
      rename_i x
      obtain ⟨u, hu, hx⟩ := hr 0 x rfl
      refine ⟨?_, fun _ => ?_⟩
      · simp only [Bool.false_eq_true, if_false, List.getD_eq_getElem?_getD, hu]
        exact hx
      · match vs, hl with
        | [v], _ => exact ⟨x, v, rfl, rfl⟩
    · cases h
theorem run_isAgg' {t : TypeId} {u : TypeDesc} (h : P.underlying t = some u) : (isAgg t).run P w = .ok (isAggD (some u)) w := by
  cases u <;> simp [isAgg, run_underlying h, isAggD]
theorem load_sound {t : TypeId} {ty : Ty} (ht : tyOf P t = some ty) {ad : Addr} {as : List A} (hc : Cells w σ ad as) (hl : as.length = ty.size) {tv : TV A} (hm : mkV ty.agg as = some tv) :
    ∃ v, (loadVar t ad).run P w = .ok v w ∧ RepT (fun _ _ => RepA w σ) tv v := by
  obtain ⟨i, u, z, hi, hu, hz, rfl⟩ := tyOf_inv ht
  obtain ⟨vs, h1, h2, h3⟩ := cells_list hc
  obtain ⟨h4, h5⟩ := mkV_sound hm h1 h3
  dsimp only at hl hm h4 h5
  have hsz : P.cellsOf t = vs.length := by rw [h1, hl]; simp [Program.cellsOf, hi]
  refine ⟨_, ?_, h4⟩
  unfold loadVar
  simp only [Sem.run_bind, run_isAgg' hu, Result.andThen_ok]
  cases hg : isAggD (some u) with
  | true =>
    simp only [if_true, Sem.run_bind, run_sizeOf w hi, Result.andThen_ok, hsz, run_loadCells_list w ad vs h2, Sem.run_pure]
  | false =>
    obtain ⟨x, v, rfl, rfl⟩ := h5 hg
    have := h2 0 v rfl
    simp [Addr.add] at this
    simp [run_load, this]

/-- What comes of an operation that reads alone. -/
def QRep (w : World) (σ : Gh) : QR → Value → Prop
  | .val tv, v => RepT (fun _ _ => RepA w σ) tv v
  | .mt, v => ∃ b, v = .slice b 0 0

theorem fieldA_sound {off : Nat} {x x' : A} (h : fieldA off x = some x') {v : Value} (hx : RepA w σ x v) : ∃ ad, v = .pointer (some ad) ∧ RepA w σ x' (.pointer (some (ad.add off))) := by
  unfold fieldA at h
  split at h
  · simp at h
    subst h
    cases hx with
    | pp _ _ _ g n cap sz hg => exact ⟨_, rfl, by rw [addr_add]; simpa [Nat.add_assoc] using RepA.pp _ _ (_ + off) g n cap sz hg⟩
  · simp at h
    subst h
    rename_i cs
    cases hx.fz_inv with
    | ptr _ ad us hp hlt hb hm hr =>
      refine ⟨ad, rfl, .fz _ _ ?_⟩
      rw [dropN_eq]
      refine .ptr _ _ (fun j => us (off + j)) (add_spot hp _) (by rwa [add_block]) (by rwa [add_block]) ?_ ?_
      · intro j c hj
        rw [List.getElem?_drop] at hj
        rw [addr_add' hp]
        exact hm _ c hj
      · intro j c hj
        rw [List.getElem?_drop] at hj
        exact hr _ c hj
  · cases h

theorem index_sound {vt : Nat → Value} (hF : FR F σ w vt) {x i x' : A} {size : Nat} (h : indexA std x i = some x') (hok : elemOk std F size x' = true) {vx vi : Value} (hx : RepA w σ x vx) (hi : RepA w σ i vi) :
    ∃ k n len cap ad, vi = .int k n ∧ vx = .slice (some ad) len cap ∧ 0 ≤ n ∧ n < len ∧ RepA w σ x' (.pointer (some (ad.add (n.toNat * size)))) := by
  unfold indexA at h
  split at h
  · rename_i k n
    obtain rfl := hi.fz_inv.int_inv
    split at h
    · rename_i p off len
      simp only [std] at h
      split at h
      · rename_i m hm
        split at hm
        · rename_i hb
          simp at h hm
          subst h hm
          cases hx with
          | rz => simp at hb; omega
          | rf _ _ _ g n' cap sz hg hl hn =>
            refine ⟨_, _, _, _, _, rfl, rfl, hb.1, hb.2, ?_⟩
            simp only [elemOk] at hok
            obtain ⟨u, hu⟩ := at_sound hF p
            split at hok
            · rename_i xs hxs
              rw [hxs] at hu
              split at hok
              · rename_i y hy
                simp only [std] at hy
                have hsz : sz = size := by
                  cases hu with
                  | oslz => simp at hy
                  | osl _ _ e sz' g' cap' cur us hh hc' hcm hl' hs hg' hm hr =>
                    obtain rfl := hF.inj _ _ _ _ hg hg' rfl
                    rw [hg] at hg'
                    simp only [Option.some.injEq, Own.mk.injEq] at hg'
                    obtain ⟨_, rfl, rfl, rfl⟩ := hg'
                    rw [← hs y (List.mem_of_getElem? hy)]
                    simpa [cnt_eq] using hok
                subst hsz
                rw [addr_add]
                simpa [Nat.add_mul] using RepA.pp p (off + n.toNat) 0 g n' cap sz hg
              · cases hok
            · cases hok
        · cases hm
      · cases h
    · rename_i xs
      simp only [std] at h
      split at h
      · rename_i m hm
        split at hm
        · rename_i hb
          simp at hm
          subst hm
          split at h
          · rename_i y hy
            simp at h
            subst h
            cases hx.fz_inv with
            | sl _ sz a cap us hc hs ha hm hr =>
              obtain ⟨ad, rfl, hsp, hlt, hσ⟩ := ha (by intro e; subst e; simp at hy)
              refine ⟨_, _, _, _, _, rfl, rfl, hb.1, hb.2, .fz _ _ ?_⟩
              have hsz : sz = size := by
                rw [← hs y (List.mem_of_getElem? hy)]
                simpa [elemOk, cnt_eq] using hok
              subst hsz
              refine .ptr _ _ (fun j => us n.toNat j) (add_spot hsp _) (by rwa [add_block]) (by rwa [add_block]) ?_ ?_
              · intro j c hj
                rw [addr_add' hsp]
                exact hm ad rfl _ _ y c hy hj
              · intro j c hj
                exact hr _ _ y c hy hj
          · cases h
        · cases hm
      · cases h
    · cases h
  · cases h

theorem bnd_sound {lo : Option Operand} {b : Option Int} (hF : FR F σ w (valT a)) (h : bnd (ev1O F lo) = some b) :
    match b with | none => lo = none | some n => ∃ x k, lo = some x ∧ a.eval x = .int k n := by
  cases lo with
  | none => simp [ev1O, bnd] at h; subst h; rfl
  | some x =>
    simp only [ev1O] at h
    unfold bnd at h
    split at h
    · rename_i he; cases he
    · rename_i k n he
      simp at h
      subst h
      simp at he
      have := ev1_sound hF x
      rw [he] at this
      exact ⟨x, k, rfl, this.fz_inv.int_inv⟩
    · cases h
/-- Two bounds that are met. -/
theorem bounds_sound {lo hi : Option Operand} {bl bh : Option Int} {len cap l h : Nat} (hF : FR F σ w (valT a)) (hl : bnd (ev1O F lo) = some bl) (hh : bnd (ev1O F hi) = some bh) (hc : len ≤ cap)
    (hb : bndOk bl bh len = some (l, h)) (sl : Bool) : (Instr.sliceBounds sl len cap (lo.map a.eval) (hi.map a.eval) none).run P w = .ok (l, h, cap) w ∧ l ≤ h ∧ h ≤ len := by
  have h1 := bnd_sound hF hl
  have h2 := bnd_sound hF hh
  cases bl with
  | none =>
    dsimp only at h1
    subst h1
    cases bh with
    | none =>
      dsimp only at h2
      subst h2
      simp [bndOk] at hb
      obtain ⟨rfl, rfl⟩ := hb
      exact ⟨by simp [Instr.sliceBounds], by omega, by omega⟩
    | some n =>
      obtain ⟨x, k, rfl, hx⟩ := h2
      simp only [bndOk] at hb
      split at hb
      · rename_i hn
        simp at hb
        obtain ⟨rfl, rfl⟩ := hb
        refine ⟨?_, by omega, by omega⟩
        simp [Instr.sliceBounds, hx, run_sliceBound (P := P) w k n cap _ hn.1 (by omega)]
      · cases hb
  | some m =>
    obtain ⟨y, k', rfl, hy⟩ := h1
    cases bh with
    | none =>
      dsimp only at h2
      subst h2
      simp only [bndOk] at hb
      split at hb
      · rename_i hn
        simp at hb
        obtain ⟨rfl, rfl⟩ := hb
        refine ⟨?_, by omega, by omega⟩
        simp [Instr.sliceBounds, hy, run_sliceBound (P := P) w k' m len _ hn.1 (by omega)]
      · cases hb
    | some n =>
      obtain ⟨x, k, rfl, hx⟩ := h2
      simp only [bndOk] at hb
      split at hb
      · rename_i hn
        simp at hb
        obtain ⟨rfl, rfl⟩ := hb
        refine ⟨?_, by omega, by omega⟩
        simp [Instr.sliceBounds, hx, hy, run_sliceBound (P := P) w k n cap _ (by omega) (by omega), run_sliceBound (P := P) w k' m n.toNat _ hn.1 (by omega)]
      · cases hb
end
end Go.Proofs.Ytlmejcmnmdleaaa.Ai
