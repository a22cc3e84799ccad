/- The abstract interpreter, part 8: each operation that reads alone, brought together. -/
import Derived.Test.YtlmejcmnmdleaaaAi7
import Derived.Laws.Strings
import Derived.Laws.BytesString
namespace Go.Proofs.Ytlmejcmnmdleaaa.Ai
open Go
set_option linter.unusedSectionVars false
set_option linter.unusedSimpArgs false
section
variable [Fence] {P : Program} {T : Nat → Option Ty} {F : Fr} {σ : Gh} {w : World} {a : Act}

theorem RepC.slice_inv {xs : List (List C)} {v : Value} (h : RepC w σ (.sl xs) v) : ∃ (sz : Nat) (b : Option Addr) (cap : Nat) (us : Nat → Nat → Value), v = .slice b xs.length cap ∧ xs.length ≤ cap ∧ (∀ y ∈ xs, y.length = sz) ∧
    (xs ≠ [] → ∃ ad, b = some ad ∧ ad.spot = none ∧ ad.block < w.heap.size ∧ Free σ ad.block) ∧
    (∀ ad, b = some ad → ∀ (i j : Nat) (y : List C) (c : C), xs[i]? = some y → y[j]? = some c → w.cell? (ad.add (i * sz + j)) = some (us i j)) ∧
    (∀ (i j : Nat) (y : List C) (c : C), xs[i]? = some y → y[j]? = some c → RepC w σ c (us i j)) := by
  cases h with
  | sl _ sz b cap us hc hs ha hm hr => exact ⟨sz, b, cap, us, rfl, hc, hs, ha, hm, hr⟩
theorem get_drop_take {α : Type} {l : List α} {j n k : Nat} {x : α} (h : ((l.drop j).take n)[k]? = some x) : l[j + k]? = some x ∧ k < n := by
  rw [List.getElem?_take] at h
  split at h
  · exact ⟨by simpa using h, by assumption⟩
  · cases h
theorem cut_rep {xs : List (List C)} {b : Option Addr} {cap l h size : Nat} (hx : RepC w σ (.sl xs) (.slice b xs.length cap)) (hl : l ≤ h) (hh : h ≤ xs.length) (hz : ∀ y ∈ xs, y.length = size) :
    RepC w σ (.sl ((xs.drop l).take (h - l))) (sliced b l h cap size) := by
  obtain ⟨sz, b', cap', us, e, hc, hs, ha, hm, hr⟩ := hx.slice_inv
  injection e with e1 _ e2
  subst e1 e2
  have hlen : ((xs.drop l).take (h - l)).length = h - l := by simp; omega
  unfold sliced
  suffices H : RepC w σ (.sl ((xs.drop l).take (h - l))) (.slice (if cap = l then b else b.map (·.add (l * size))) ((xs.drop l).take (h - l)).length (cap - l)) by
    rw [hlen] at H; exact H
  refine .sl _ size _ (cap - l) (fun i j => us (l + i) j) (by rw [hlen]; omega) (fun y hy => hz y (List.mem_of_mem_drop (List.mem_of_mem_take hy))) ?_ ?_ ?_
  · intro hne
    have hlt : l < h := by
      rcases Nat.lt_or_ge l h with h' | h'
      · exact h'
      · exact absurd (List.eq_nil_of_length_eq_zero (by rw [hlen]; omega)) hne
    obtain ⟨ad, rfl, hsp, hb, hσ⟩ := ha (by intro e; subst e; simp at hh; omega)
    rw [if_neg (by omega)]
    exact ⟨ad.add (l * size), rfl, add_spot hsp _, by rwa [add_block], by rwa [add_block]⟩
  · intro ad' e i j y c hi hj
    obtain ⟨hi', hlt⟩ := get_drop_take hi
    have hne : xs ≠ [] := by intro e; subst e; simp at hi'
    obtain ⟨ad, rfl, hsp, hb, hσ⟩ := ha hne
    rw [if_neg (by omega)] at e
    simp at e
    subst e
    have hsz : sz = size := by rw [← hs y (List.mem_of_getElem? hi'), hz y (List.mem_of_getElem? hi')]
    subst hsz
    rw [addr_add' hsp]
    have := hm ad rfl (l + i) j y c hi' hj
    rwa [Nat.add_mul, Nat.add_assoc] at this
  · intro i j y c hi hj
    obtain ⟨hi', _⟩ := get_drop_take hi
    exact hr _ j y c hi' hj

theorem all_sz {α : Type} {l : List (List α)} {n : Nat} (h : (l.all fun y => y.length == n) = true) : ∀ y ∈ l, y.length = n := by
  intro y hy
  simpa using List.all_eq_true.1 h y hy
theorem slice_sound (hT : TyOK P T) (hF : FR F σ w (valT a)) {t : TypeId} {ty : Ty} (ht : T t = some ty) {x : Operand} {lo hi mx : Option Operand} {q : QR}
    (hq : (match ty.kind with
      | .str => sliceS std (ev1 F x) (ev1O F lo) (ev1O F hi) (ev1O F mx)
      | .sl e => match T e with
        | some ty => sliceA std F ty.size (ev1 F x) (ev1O F lo) (ev1O F hi) (ev1O F mx)
        | none => none
      | _ => none) = some q) : ∃ v, (Instr.sliceAt t (a.eval x) (lo.map a.eval) (hi.map a.eval) (mx.map a.eval)).run P w = .ok v w ∧ QRep w σ q v := by
  obtain ⟨i, u, z, hi', hu, hz, rfl⟩ := tyOf_inv (hT _ _ ht)
  have hx := ev1_sound hF x
  dsimp only at hq
  split at hq
  · rename_i hk
    obtain rfl := kind_str hk
    unfold sliceS at hq
    split at hq
    · rename_i bl bh hbl hbh hmx
      have hm : mx = none := by cases mx with | none => rfl | some m => simp [ev1O] at hmx
      subst hm
      split at hq
      · rename_i s hs
        rw [hs] at hx
        have e := hx.fz_inv.str_inv
        split at hq
        · rename_i l h hlh
          simp only [std] at hlh
          simp at hq
          subst hq
          obtain ⟨h1, h2, h3⟩ := bounds_sound (P := P) hF hbl hbh (Nat.le_refl s.size) hlh false
          refine ⟨.string (s.extract l h), ?_, .fz _ _ (.str _)⟩
          rw [run_sliceAt_string w t _ _ _ _ hu, e]
          simp [Instr.slice, run_underlying hu, h1]
        · cases hq
      · cases hq
    · cases hq
  · rename_i e hk
    obtain rfl := kind_sl hk
    have hel : P.elem t = e := by simp [Program.elem, hu]
    have hu' : P.underlying t = some (.slice (P.elem t)) := by rw [hel]; exact hu
    split at hq
    · rename_i ty' ht'
      obtain ⟨i', u', z', hi'', hu'', hz', rfl⟩ := tyOf_inv (hT _ _ ht')
      dsimp only at hq
      have hso : (sizeOf (P.elem t)).run P w = .ok i'.size w := by rw [hel, run_sizeOf w hi'']; simp [Program.cellsOf, hi'']
      unfold sliceA at hq
      split at hq
      · rename_i bl bh hbl hbh
        rw [run_sliceAt_slice w t _ _ _ _ hu']
        split at hq
        · rename_i hmx
          have hm : mx = none := by cases mx with | none => rfl | some m => simp [ev1O] at hmx
          subst hm
          split at hq
          · rename_i xs hs
            rw [hs] at hx
            obtain ⟨sz, b, cap, us, ev, hc, hss, ha, hm, hr⟩ := hx.fz_inv.slice_inv
            split at hq
            · rename_i l h hlh hsz
              simp only [std] at hlh hsz
              simp at hq
              subst hq
              obtain ⟨h1, h2, h3⟩ := bounds_sound (P := P) hF hbl hbh hc hlh true
              rw [ev] at hx ⊢
              exact ⟨_, by rw [run_slice_any w t _ _ _ hu']; simp only [Option.map_none, h1, Result.andThen, hso], .fz _ _ (cut_rep hx.fz_inv h2 h3 (all_sz hsz))⟩
            · cases hq
          · rename_i hs
            rw [hs] at hx
            obtain ev := hx.fz_inv.nil_inv
            split at hq
            · rename_i lh hlh
              obtain ⟨l, h⟩ := lh
              simp only [std] at hlh
              simp at hq
              subst hq
              obtain ⟨h1, h2, h3⟩ := bounds_sound (P := P) hF hbl hbh (Nat.le_refl 0) hlh true
              obtain rfl : h = 0 := by omega
              obtain rfl : l = 0 := by omega
              rw [ev]
              exact ⟨_, by rw [run_slice_any w t _ _ _ hu']; simp only [Option.map_none, h1, Result.andThen, hso]; rfl, .fz _ _ (by simpa [sliced] using RepC.nilsl)⟩
            · cases hq
          · rename_i p off len hs
            rw [hs] at hx
            obtain ⟨uu, huu⟩ := at_sound hF p
            split at hq
            · rename_i xs hxs
              rw [hxs] at huu
              split at hq
              · rename_i l h hlh hsz
                simp only [std, Bool.and_eq_true, decide_eq_true_eq] at hlh hsz
                simp at hq
                subst hq
                obtain ⟨hsz, hin⟩ := hsz
                have hsz := all_sz hsz
                generalize a.eval x = vx at hx ⊢
                cases hx with
                | rz _ _ b =>
                  obtain ⟨h1, h2, h3⟩ := bounds_sound (P := P) hF hbl hbh (Nat.le_refl 0) hlh true
                  obtain rfl : h = 0 := by omega
                  obtain rfl : l = 0 := by omega
                  exact ⟨_, by rw [run_slice_any w t _ _ _ hu']; simp only [Option.map_none, h1, Result.andThen, hso]; rfl, by
                    show RepA w σ (.rf p (off + 0) (0 - 0)) _
                    simpa [sliced] using RepA.rz p _ b⟩
                | rf _ _ _ g n cap sz hg hl hn =>
                  obtain ⟨h1, h2, h3⟩ := bounds_sound (P := P) (cap := cap - off) hF hbl hbh (by omega) hlh true
                  refine ⟨_, by rw [run_slice_any w t _ _ _ hu']; simp only [Option.map_none, h1, Result.andThen, hso]; rfl, ?_⟩
                  show RepA w σ (.rf p (off + l) (h - l)) _
                  unfold sliced
                  by_cases he : cap - off = l
                  · rw [if_pos he]
                    have : h - l = 0 := by omega
                    rw [he, this, Nat.sub_self]
                    exact .rz _ _ _
                  · rw [if_neg he]
                    simp only [Option.map_some, addr_add]
                    have := RepA.rf (w := w) (σ := σ) p (off + l) (h - l) g n cap sz hg (by omega) hn
                    by_cases hl0 : l = 0
                    · subst hl0; simpa using this
                    · have hss : sz = i'.size := by
                        cases huu with
                        | oslz => simp only [List.length_nil] at hin; omega
                        | osl _ _ e sz' g' cap' cur us hh hc' hcm hl' hs' hg' hm hr =>
                          obtain rfl := hF.inj _ _ _ _ hg hg' rfl
                          rw [hg] at hg'
                          simp only [Option.some.injEq, Own.mk.injEq] at hg'
                          obtain ⟨_, rfl, rfl, rfl⟩ := hg'
                          have : 0 < xs.length := by omega
                          obtain ⟨y, ys, rfl⟩ := List.exists_cons_of_length_pos this
                          rw [← hs' y (by simp), hsz y (by simp)]
                      subst hss
                      rwa [Nat.add_mul, ← Nat.sub_sub] at this
              · cases hq
            · cases hq
          · cases hq
        · rename_i k' hmx
          split at hq
          · have hlo : lo = none := bnd_sound hF hbl
            have hb0 := bnd_sound hF hbh
            obtain ⟨xh, kh, rfl, hxh⟩ := hb0
            cases mx with
            | none => simp [ev1O] at hmx
            | some xm =>
              simp [ev1O] at hmx
              have hxm := ev1_sound hF xm
              rw [hmx] at hxm
              have hxm := hxm.fz_inv.int_inv
              subst hlo
              have fin : ∀ b len cap, a.eval x = .slice b len cap → ∃ v, (Instr.slice t (a.eval x) (Option.map a.eval none) (Option.map a.eval (some xh)) (Option.map a.eval (some xm))).run P w = .ok v w ∧ QRep w σ .mt v := by
                intro b len cap ev
                rw [ev]
                refine ⟨.slice b 0 0, ?_, b, rfl⟩
                rw [run_slice_any w t _ _ _ hu']
                simp [hxh, hxm, Instr.sliceBounds, run_sliceBound (P := P) w _ 0 cap _ (Int.le_refl 0) (by omega), run_sliceBound (P := P) w _ 0 0 _ (Int.le_refl 0) (by omega), Result.andThen, hso, sliced]
              split at hq
              · rename_i xs hs
                simp at hq
                subst hq
                rw [hs] at hx
                obtain ⟨sz, b, cap, us, ev, _⟩ := hx.fz_inv.slice_inv
                exact fin _ _ _ ev
              · rename_i hs
                simp at hq
                subst hq
                rw [hs] at hx
                exact fin _ _ _ hx.fz_inv.nil_inv
              · rename_i p off len hs
                simp at hq
                subst hq
                rw [hs] at hx
                generalize a.eval x = vx at hx fin
                cases hx with
                | rz _ _ b => exact fin _ _ _ rfl
                | rf _ _ _ g n cap sz hg hl hn => exact fin _ _ _ rfl
              · cases hq
          · cases hq
        · cases hq
      · cases hq
    · cases hq
  · cases hq
end
theorem cutN {w : World} {xs : List (List C)} {b : Option Addr} {cap l h size : Nat} (hx : @RepC noFence w (fun _ => none) (.sl xs) (.slice b xs.length cap)) (hl : l ≤ h) (hh : h ≤ xs.length) (hz : ∀ y ∈ xs, y.length = size) :
    @RepC noFence w (fun _ => none) (.sl ((xs.drop l).take (h - l))) (sliced b l h cap size) := by
  letI := noFence
  exact cut_rep hx hl hh hz
theorem slice_invN {w : World} {xs : List (List C)} {v : Value} (h : @RepC noFence w (fun _ => none) (.sl xs) v) : ∃ (sz : Nat) (b : Option Addr) (cap : Nat) (us : Nat → Nat → Value), v = .slice b xs.length cap ∧ xs.length ≤ cap ∧ (∀ y ∈ xs, y.length = sz) ∧
    (xs ≠ [] → ∃ ad, b = some ad ∧ ad.spot = none ∧ ad.block < w.heap.size ∧ @Free noFence (fun _ => none) ad.block) ∧
    (∀ ad, b = some ad → ∀ (i j : Nat) (y : List C) (c : C), xs[i]? = some y → y[j]? = some c → w.cell? (ad.add (i * sz + j)) = some (us i j)) ∧
    (∀ (i j : Nat) (y : List C) (c : C), xs[i]? = some y → y[j]? = some c → @RepC noFence w (fun _ => none) c (us i j)) := by
  letI := noFence
  exact h.slice_inv
end Go.Proofs.Ytlmejcmnmdleaaa.Ai
