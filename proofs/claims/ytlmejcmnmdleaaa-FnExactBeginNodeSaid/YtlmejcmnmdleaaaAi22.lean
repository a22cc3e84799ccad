/- The abstract interpreter, part 22: the store operation. -/
import Derived.Test.YtlmejcmnmdleaaaAi21
namespace Go.Proofs.Ytlmejcmnmdleaaa.Ai
open Go Go.RowKit
set_option linter.unusedSectionVars false
set_option linter.unusedSimpArgs false
section
variable [Fence] {P : Program} {T : Nat → Option Ty} {w w' : World} {σ σ' : Gh} {F : Fr} {vt : Nat → Value} {a : Act}

theorem setL_root {r : Nat} {s : List (Nat × Nat)} {i : Nat} : ∀ (os : List O) (j : Nat) (F : Fr), (setL std r s i j F os).n = F.n := by
  intro os
  induction os with
  | nil => intro j F; rfl
  | cons o os ih => intro j F; simp only [setL]; rw [ih]; rfl
theorem cellsAt_has {p : Path} {i j n : Nat} {as : List A} (h : cellsAt std F n (.pp p i j) = some as) : ∀ k, k < n → hasCell (F.at std p) i (j + k) := by
  intro k hk
  unfold cellsAt at h
  dsimp only at h
  split at h
  · rename_i xs hxs
    split at h
    · rename_i y hy
      split at h
      · rename_i l hl
        obtain ⟨h1, _⟩ := cut_eq _ _ _ _ hl
        rw [hxs]
        exact ⟨y, hy, by omega⟩
      · cases h
    · cases h
  · rename_i cs hcs
    split at h
    · split at h
      · rename_i l hl
        obtain ⟨h1, _⟩ := cut_eq _ _ _ _ hl
        rw [hcs]
        exact ⟨rfl, by omega⟩
      · cases h
    · cases h
  · cases h
theorem own_row (hF : FR F σ w vt) {p : Path} {g n cap sz i j : Nat} (hg : σ g = some ⟨p, n, cap, sz⟩) (h : hasCell (F.at std p) i j) : ∃ cur e, w.heap[g]? = some (.cells cur e (0, 0)) := by
  obtain ⟨u, hu⟩ := at_sound hF p
  cases ho : F.at std p with
  | un => rw [ho] at h; exact h.elim
  | fz c => rw [ho] at h; exact h.elim
  | osl xs =>
    rw [ho] at h hu
    obtain ⟨y, hy, _⟩ := h
    cases hu with
    | oslz => simp at hy
    | osl _ _ e sz' g' cap' cur us hh hc' hcm hl hs hg' hm hr =>
      obtain rfl := hF.inj _ _ _ _ hg hg' rfl
      exact ⟨cur, e, hh⟩
  | obx cs =>
    rw [ho] at hu
    cases hu with
    | obx _ _ g' e cells us n' cap' sz' hh hl hg' hm hr =>
      obtain rfl := hF.inj _ _ _ _ hg hg' rfl
      exact ⟨cells, e, hh⟩
structure Stored (P : Program) (F : Fr) (σ : Gh) (w : World) (a : Act) (s : Sem Next) (F' : Fr) (w' : World) (σ' : Gh) : Prop where
  run : s.run P w = .ok .skip w'
  fr : FR F' σ' w' (valT a)
  dom : Dom F' σ' []
  goes : Goes w σ w' σ'
  n : F'.n = F.n
theorem goal_qAt' (r : Nat) (s : List (Nat × Nat)) (i : Nat) : Goal (qAt r s i) r := goal_qAt r s i
theorem store_made (hT : TyOK P T) (hF : FR F σ w (valT a)) (hd : Dom F σ []) {kn : Bool} {t : TypeId} {ty : Ty} (ht : T t = some ty) {ad x : Operand} {F' : Fr} (h : storeW std kn F ty.size ad x = some F') {o : Oper} (ho : o.op = .store t ad x) :
    ∃ w' σ', Stored P F σ w a (execOp a.eval o) F' w' σ' := by
  obtain ⟨inf, u, z, hi, hu, hz, rfl⟩ := tyOf_inv (hT _ _ ht)
  dsimp only at h
  unfold storeW at h
  split at h
  · rename_i p i j had
    obtain ⟨r, s⟩ := p
    dsimp only at h
    have hav := ev1_sound hF ad
    rw [had] at hav
    obtain ⟨σ1, hF1, hd1, hb1, hg1, hk1, _, hn1, hdead, _⟩ := dropL_sound (r := r) (s := s) (i := i) inf.size j F σ hF hd
    split at h
    · rename_i gg as hev
      split at h
      · rename_i hsz
        simp only [Bool.and_eq_true] at hsz
        obtain ⟨hsz, hpos⟩ := hsz
        rw [cnt_eq] at hsz
        have hsz := Nat.eq_of_beq_eq_true hsz
        have hpos : 0 < inf.size := le_of_nle hpos
        split at h
        · rename_i os F2 hconv
          split at h
          · rename_i cs hcs
            simp at h
            subst h
            have hok := convL_ok _ _ _ _ _ _ (fun _ h => h) hconv
            have hx := ev_sound hF1 x
            rw [hev] at hx
            obtain ⟨hl, hv⟩ := tv_cells hx rfl hok
            -- beyond the cells that are stored nothing is asked: the places from j on are bare as far as they are used
            obtain ⟨hlen, σ2, pend, hc⟩ := convL_sound (goal_qAt r s i) as j _ _ σ1 [] (a.eval x).cells.toList os F2 hconv hF1 hd1 (fun _ _ h => by cases h) (fun k hk1 hk2 => by
              have := hb1 (k - j) (by omega)
              rw [show j + (k - j) = k by omega] at this
              exact this) hv
            generalize hae : a.eval ad = va at hav
            cases hav with
            | pp _ _ _ g n cap sz hg =>
              have hg1' := hk1 g _ hg (by
                rintro k ⟨_, t, ht⟩
                have := congrArg List.length ht
                simp [qAt] at this)
              have hg2 := hc.own g _ hg1' rfl
              have hhas := cellsAt_has hcs
              have hos : os.length = inf.size := by rw [hlen, hsz]
              have hown : ∀ g x, σ2 g = some x → ∀ k, k < os.length → ∀ t, x.p = (r, s ++ [(i, j + k)] ++ t) → ∃ o, os[k]? = some o ∧ Fit (o.at std t) x.n := by
                intro g x hx k hk t ht
                rcases hc.dom g x hx with h1 | ⟨q', o', t', h1, h2, h3⟩
                · exfalso
                  have e : F2.at std x.p = (dropL std r s i j inf.size F).at std x.p := by
                    unfold Fr.at
                    rw [show x.p.1 = r by rw [ht], hc.tbl]
                  rw [e, ht] at h1
                  have := at_at (F := dropL std r s i j inf.size F) (qAt r s i (j + k)) t
                  rw [show ((qAt r s i (j + k)).1, (qAt r s i (j + k)).2 ++ t) = (r, s ++ [(i, j + k)] ++ t) from rfl] at this
                  rw [← this] at h1
                  exact hdead k (by omega) _ _ h1
                · rcases hc.pnd q' o' h1 with h4 | ⟨k', h4, h5⟩
                  · cases h4
                  · rw [ht, h5] at h2
                    simp [qAt] at h2
                    obtain ⟨h6, h7⟩ := h2
                    obtain rfl : k' = k := by omega
                    subst h7
                    exact ⟨o', h4, h3⟩
              have hpend : Dom F2 σ2 (pendQ (qAt r s i) j os) := hc.dom.mono (by
                rintro ⟨q', o'⟩ hm
                rcases hc.pnd q' o' hm with h | h
                · cases h
                · exact mem_pendQ.2 h)
              obtain ⟨k1, k2, k3⟩ := setL_sound hg2 os (a.eval x).cells.toList j F2 w (by rw [hos]; simp [hl, hsz]) hc.fr hpend hown (fun k hk => hhas k (by omega)) hc.rep
              have hcell : ∀ k, k < (a.eval x).cells.toList.length → ∃ u, w.cell? ⟨g, i * sz + j + k, none⟩ = some u ∧ w.frozen? ⟨g, i * sz + j + k, none⟩ = false := by
                intro k hk
                obtain ⟨hcl, ad', hv', _, hcc⟩ := cellsAt_sound hc.fr hcs (RepA.pp (r, s) i j g n cap sz hg2)
                have hkl : k < cs.length := by rw [hcl]; simp [hl, hsz] at hk; exact hk
                obtain ⟨u, h1, _⟩ := hcc k cs[k] (List.getElem?_eq_getElem hkl)
                simp only [Value.pointer.injEq, Option.some.injEq] at hv'
                subst hv'
                rw [addr_add] at h1
                refine ⟨u, h1, ?_⟩
                obtain ⟨cur, e, hh⟩ := own_row hc.fr hg2 (hhas 0 hpos)
                exact frozen_of_row w g _ cur e hh
              have hst := run_storeCells_cells (P := P) g (i * sz + j) (a.eval x).cells.toList 0 w (fun k hk => by obtain ⟨u, h1, _⟩ := hcell k hk; simp [h1]) (fun k hk => by obtain ⟨u, _, h1⟩ := hcell k hk; simpa using h1) (by
                intro v hv'
                obtain ⟨k, hk⟩ := List.mem_iff_getElem?.1 hv'
                have hlt : k < os.length := by
                  have := (List.getElem?_eq_some_iff.1 hk).1
                  rw [hos]; simp [hl, hsz] at this; exact this
                obtain ⟨u, h1, h2⟩ := hc.rep k os[k] (List.getElem?_eq_getElem hlt)
                rw [hk] at h1
                injection h1 with h1
                subst h1
                exact h2.one)
              obtain ⟨e1, e2, e3, e4⟩ := setCells_rest g (a.eval x).cells.toList (i * sz + j) w
              refine ⟨_, σ2, ?_, k1, k2, (hg1.trans hc.goes).trans ⟨⟨fun _ _ h => h, fun b _ h0 => setCells_other g _ _ _ _ ?_⟩, by omega, e2, e3, e4⟩, k3.trans (hc.n.trans hn1)⟩
              · simp only [execOp, ho, Instr.storeAt, hae]
                simp [Instr.sureAddr, storeVar, sizeOf, typeInfo, hi, hl, hsz] 
                simp only [Nat.add_zero] at hst
                rw [hst]
                rfl
              · rintro rfl; rw [hg2] at h0; cases h0
          · cases h
        · cases h
      · cases h
    · cases h
  · cases h
end
end Go.Proofs.Ytlmejcmnmdleaaa.Ai
