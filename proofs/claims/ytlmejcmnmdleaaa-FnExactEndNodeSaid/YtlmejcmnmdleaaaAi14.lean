/- The abstract interpreter, part 14: slices that are built or made. -/
import Derived.Test.YtlmejcmnmdleaaaAi13
import Derived.Laws.MakeOwn
namespace Go.Proofs.Ytlmejcmnmdleaaa.Ai
open Go Go.RowKit
set_option linter.unusedSectionVars false
set_option linter.unusedSimpArgs false
section
variable [Fence] {P : Program} {T : Nat → Option Ty} {w w' : World} {σ σ' : Gh} {F : Fr} {vt : Nat → Value} {a : Act}

theorem Dom.putD {pend : List (Path × O)} (h : Dom F σ pend) : ∀ {F' : Fr}, F'.tb = F.tb → Dom F' σ pend := by
  intro F' e g x hx
  rcases h g x hx with h | h
  · left; unfold Fr.at at h ⊢; rw [e]; exact h
  · exact .inr h
/-- The rows that a build takes, one after the other. -/
structure Rows (w : World) (vt : Nat → Value) (r sz i : Nat) (F : Fr) (σ : Gh) (pend : List (Path × O)) (vs : List Value) (ys : List (List O)) (F' : Fr) (σ' : Gh) (pend' : List (Path × O)) : Prop where
  fr : FR F' σ' w vt
  dom : Dom F' σ' pend'
  goes : Goes w σ w σ'
  size : ∀ y ∈ ys, y.length = sz
  rep : ∀ (k : Nat) (y : List O), ys[k]? = some y → ∃ v, vs[k]? = some v ∧ v.cells.size = sz ∧ ∀ (j : Nat) (o : O), y[j]? = some o → ∃ u, v.cells[j]? = some u ∧ RepO w σ' (r, [(i + k, j)]) o u
  pnd : ∀ q' o', (q', o') ∈ pend' → (q', o') ∈ pend ∨ ∃ (k j : Nat) (y : List O), ys[k]? = some y ∧ y[j]? = some o' ∧ q' = (r, [(i + k, j)])
  old : ∀ (p : Path) (o : O) (v : Value), p.1 = r → RepO w σ p o v → RepO w σ' p o v
  tbl : look .un F'.tb r = look .un F.tb r
  n : F'.n = F.n
theorem buildW_sound {kn : Bool} {r sz : Nat} : ∀ (parts : List (Nat × Operand)) (i : Nat) (F : Fr) (σ : Gh) (pend : List (Path × O)) (ys : List (List O)) (F' : Fr), buildW std kn r sz i F parts = some (ys, F') → FR F σ w (valT a) → Dom F σ pend →
    (∀ q' o', (q', o') ∈ pend → q'.1 = r) → (∀ k j, i ≤ k → Bare σ (r, [(k, j)])) →
    ys.length = parts.length ∧ (∀ (k : Nat) (x : Nat × Operand), parts[k]? = some x → x.1 = i + k) ∧ ∃ σ' pend', Rows w (valT a) r sz i F σ pend (parts.map fun x => a.eval x.2) ys F' σ' pend' := by
  intro parts
  induction parts with
  | nil =>
    intro i F σ pend ys F' h hF hd hp hb
    simp [buildW] at h
    obtain ⟨rfl, rfl⟩ := h
    exact ⟨rfl, fun k x hk => by simp at hk, σ, pend, hF, hd, Goes.refl _ _, (fun y hy => by cases hy), fun k y hk => by simp at hk, fun q' o' h => .inl h, fun p o v _ h => h, rfl, rfl⟩
  | cons part parts ih =>
    intro i F σ pend ys F' h hF hd hp hb
    obtain ⟨i', x⟩ := part
    simp only [buildW] at h
    split at h
    · rename_i g as hi hev
      have hi' : i' = i := Nat.eq_of_beq_eq_true hi
      subst hi'
      split at h
      · rename_i hsz
        rw [cnt_eq] at hsz
        have hsz := Nat.eq_of_beq_eq_true hsz
        split at h
        · rename_i os F1 hconv
          split at h
          · rename_i ys2 F2 hrec
            simp at h
            obtain ⟨rfl, rfl⟩ := h
            have hok := convL_ok _ _ _ _ _ _ (fun _ h => h) hconv
            have hx := ev_sound hF x
            rw [hev] at hx
            obtain ⟨hl, hv⟩ := tv_cells hx rfl hok
            have hgoal : Goal (qAt r [] i') r := goal_qAt r [] i'
            obtain ⟨hlen, σ1, pend1, hc⟩ := convL_sound hgoal as 0 _ _ σ pend (a.eval x).cells.toList os F1 hconv hF hd hp (fun k _ _ => hb i' k (Nat.le_refl _)) hv
            have hp1 : ∀ q' o', (q', o') ∈ pend1 → q'.1 = r := by
              intro q' o' hm
              rcases hc.pnd q' o' hm with h | ⟨k, _, h⟩
              · exact hp q' o' h
              · rw [h]; rfl
            have hb1 : ∀ k j, i' + 1 ≤ k → Bare σ1 (r, [(k, j)]) := by
              intro k j hk
              refine hc.bare _ rfl ?_ (hb k j (by omega))
              rintro m _ _ s ⟨_, t, ht⟩
              simp [qAt] at ht
              omega
            obtain ⟨h1, h2, σ2, pend2, hR⟩ := ih (i' + 1) F1 σ1 pend1 ys2 F2 hrec hc.fr hc.dom hp1 hb1
            refine ⟨by simp [h1], ?_, σ2, pend2, ?_⟩
            · intro k y hk
              cases k with
              | zero => simp at hk; subst hk; rfl
              | succ k => simp at hk; rw [h2 k y hk]; omega
            · refine ⟨hR.fr, hR.dom, hc.goes.trans hR.goes, ?_, ?_, ?_, fun p o v hp h => hR.old p o v hp (hc.old p o v hp h), hR.tbl.trans hc.tbl, hR.n.trans hc.n⟩
              · intro y hy
                rcases List.mem_cons.1 hy with rfl | hy
                · rw [hlen, hsz]
                · exact hR.size y hy
              · intro k y hk
                cases k with
                | zero =>
                  simp at hk; subst hk
                  refine ⟨a.eval x, rfl, by rw [hl, hsz], ?_⟩
                  intro j o hj
                  obtain ⟨u, h3, h4⟩ := hc.rep j o hj
                  refine ⟨u, by simpa using h3, ?_⟩
                  have h5 := hR.old _ _ _ rfl h4
                  simpa [qAt] using h5
                | succ k =>
                  simp at hk
                  obtain ⟨v, h3, h4, h5⟩ := hR.rep k y hk
                  refine ⟨v, by simpa using h3, h4, ?_⟩
                  intro j o hj
                  obtain ⟨u, h6, h7⟩ := h5 j o hj
                  refine ⟨u, h6, ?_⟩
                  have e : i' + 1 + k = i' + (k + 1) := by omega
                  rw [e] at h7
                  exact h7
              · intro q' o' hm
                rcases hR.pnd q' o' hm with h | ⟨k, j, y, h3, h4, h5⟩
                · rcases hc.pnd q' o' h with h | ⟨k, h3, h4⟩
                  · exact .inl h
                  · refine .inr ⟨0, k, os, rfl, h3, ?_⟩
                    rw [h4]; simp [qAt]
                · refine .inr ⟨k + 1, j, y, by simpa using h3, h4, ?_⟩
                  rw [h5]
                  have e : i' + 1 + k = i' + (k + 1) := by omega
                  rw [e]
          · cases h
        · cases h
      · cases h
    · cases h

theorem fill_rows (sz : Nat) : ∀ (ps : List (Nat × Value)) (i : Nat) (cs : Array Value), (∀ (k : Nat) (x : Nat × Value), ps[k]? = some x → x.1 = i + k ∧ x.2.cells.size = sz) → (i + ps.length) * sz ≤ cs.size →
    ∃ cs', Instr.fill (fun i => some (i * sz, sz)) cs ps = some cs' ∧ cs'.size = cs.size ∧ (∀ m, m < i * sz → cs'[m]? = cs[m]?) ∧ ∀ (k : Nat) (x : Nat × Value) (j : Nat), ps[k]? = some x → j < sz → cs'[(i + k) * sz + j]? = x.2.cells[j]? := by
  intro ps
  induction ps with
  | nil => intro i cs _ _; exact ⟨cs, rfl, rfl, fun _ _ => rfl, fun k x j hk => by simp at hk⟩
  | cons p ps ih =>
    intro i cs hp hb
    obtain ⟨i', v⟩ := p
    obtain ⟨h1, h2⟩ := hp 0 _ rfl
    simp at h1 h2
    subst h1
    have hfold := fold_put (i' * sz) v.cells.toList 0 cs (by
      simp [h2]
      have : (i' + 1) * sz ≤ cs.size := Nat.le_trans (Nat.mul_le_mul_right _ (by simp)) hb
      rw [Nat.add_mul] at this; omega)
    have hz : v.cells.zipIdx.toList = v.cells.toList.zipIdx 0 := by simp
    have hfold' : ∀ j : Nat, (v.cells.zipIdx.foldl (fun cs (x : Value × Nat) => cs.setIfInBounds (i' * sz + x.2) x.1) cs)[j]? = if i' * sz ≤ j ∧ j < i' * sz + sz then v.cells[j - i' * sz]? else cs[j]? := by
      intro j
      rw [← Array.foldl_toList, hz, hfold j]
      simp [h2]
    have hs' : (v.cells.zipIdx.foldl (fun cs (x : Value × Nat) => cs.setIfInBounds (i' * sz + x.2) x.1) cs).size = cs.size := by
      rw [← Array.foldl_toList, foldl_set]
    obtain ⟨cs', h3, h4, h5, h6⟩ := ih (i' + 1) (v.cells.zipIdx.foldl (fun cs (x : Value × Nat) => cs.setIfInBounds (i' * sz + x.2) x.1) cs) (by
      intro k x hk
      have := hp (k + 1) x (by simpa using hk)
      omega) (by rw [hs']; simp at hb; have : i' + 1 + ps.length = i' + (ps.length + 1) := by omega
                 rw [this]; exact hb)
    refine ⟨cs', ?_, h4.trans hs', ?_, ?_⟩
    · have hle : ¬ (i' * sz + v.cells.size > cs.size) := by
        rw [h2]
        have : (i' + 1) * sz ≤ cs.size := Nat.le_trans (Nat.mul_le_mul_right _ (by simp)) hb
        rw [Nat.add_mul] at this; omega
      unfold Instr.fill
      dsimp only
      rw [if_neg (by rw [h2] at hle ⊢; simp; omega)]
      exact h3
    · intro m hm
      rw [h5 m (by rw [Nat.add_mul]; omega), hfold' m, if_neg (by omega)]
    · intro k x j hk hj
      cases k with
      | zero =>
        simp at hk; subst hk
        rw [h5 _ (by rw [Nat.add_mul, Nat.add_mul]; omega), hfold', if_pos (by simp; omega)]
        simp
      | succ k =>
        simp at hk
        have := h6 k x j hk hj
        have e : i' + 1 + k = i' + (k + 1) := by omega
        rw [e] at this
        exact this

theorem grow_alloc (h : FR F σ w vt) (o : Obj) : FR F σ (w.alloc o) vt ∧ Goes w σ (w.alloc o) σ := by
  have hb := below_alloc' w o
  refine ⟨h.grow hb (fun _ _ => rfl) h.inj (fun g x hx => ?_), ⟨⟨fun _ _ h => h, fun b hb' _ => hb.block b hb'⟩, hb.size, rfl, rfl, rfl⟩⟩
  have := h.lt g x hx
  have hs : (w.alloc o).heap.size = w.heap.size + 1 := by simp
  omega
/-- A new row: what is in it is on its way. -/
theorem row_made (hF : FR F σ w vt) {pend : List (Path × O)} (hd : Dom F σ pend) {id : Nat} (hun : look .un F.tb id = .un) {ys : List (List O)} {sz cap : Nat} {e : TypeId} {cells : Array Value}
    (hne : 0 < ys.length) (hcap : ys.length ≤ cap) (hmax : cap ≤ maxLen) (hsz : cells.size = cap * sz) (hys : ∀ y ∈ ys, y.length = sz)
    (hp : ∀ q' o', (q', o') ∈ pend → ∃ (k j : Nat) (y : List O), ys[k]? = some y ∧ y[j]? = some o' ∧ q' = (id, [(k, j)]))
    (hrep : ∀ (k : Nat) (y : List O) (j : Nat) (o : O), ys[k]? = some y → y[j]? = some o → ∃ u, cells[k * sz + j]? = some u ∧ RepO w σ (id, [(k, j)]) o u) :
    RepO (w.alloc (.cells cells e)) (sigN σ w.heap.size ⟨(id, []), ys.length, cap, sz⟩) (id, []) (.osl ys) (.slice (some ⟨w.heap.size, 0, none⟩) ys.length cap) ∧
    FR (F.root id (.osl ys)) (sigN σ w.heap.size ⟨(id, []), ys.length, cap, sz⟩) (w.alloc (.cells cells e)) vt ∧ Dom (F.root id (.osl ys)) (sigN σ w.heap.size ⟨(id, []), ys.length, cap, sz⟩) [] ∧
      Goes w σ (w.alloc (.cells cells e)) (sigN σ w.heap.size ⟨(id, []), ys.length, cap, sz⟩) := by
  have hr : RepO (w.alloc (.cells cells e)) (sigN σ w.heap.size ⟨(id, []), ys.length, cap, sz⟩) (id, []) (.osl ys) (.slice (some ⟨w.heap.size, 0, none⟩) ys.length cap) := by
    refine .osl _ ys e sz w.heap.size cap cells (fun i j => (cells[i * sz + j]?).getD undef) (heap_alloc_new w _) ⟨hne, hcap⟩ hmax hsz hys (by simp [sigN]) ?_ ?_
    · intro i j y o hi hj
      obtain ⟨u, h1, _⟩ := hrep i y j o hi hj
      simp [h1]
    · intro i j y o hi hj
      obtain ⟨u, h1, h2⟩ := hrep i y j o hi hj
      simp only [h1, Option.getD_some]
      have := h2.grow (σ' := sigN σ w.heap.size ⟨(id, []), ys.length, cap, sz⟩) (below_alloc' w (.cells cells e)) (fun g hg => sigN_lt hg)
      simpa using this
  refine ⟨hr, newRoot hF hd hun cells e ⟨(id, []), ys.length, cap, sz⟩ rfl (o := .osl ys) (v := .slice (some ⟨w.heap.size, 0, none⟩) ys.length cap) ?_ ⟨rfl, hne⟩ hr⟩
  intro q' o' hm
  obtain ⟨k, j, y, h1, h2, rfl⟩ := hp q' o' hm
  refine ⟨rfl, by simp, ?_⟩
  simp [O.at, std, h1, nth_eq, h2]

theorem build_made (hT : TyOK P T) (hF : FR F σ w (valT a)) (hd : Dom F σ []) {kn : Bool} {d t e len : Nat} {ty : Ty} {g1 : Bool} {g2 g3 : Nat} {g4 : List C} (ht : T t = some ⟨.sl e, g1, g2, g3, g4⟩) (hte : T e = some ty) {parts : List (Nat × Operand)} (hl : parts.length = len) (hmx : len ≤ 4096)
    (hz0 : 0 < ty.size) (hz1 : ty.size ≤ 4096) {ys : List (List O)} {F2 : Fr} (hb : buildW std kn (rid d 0 0) ty.size 0 (F.clear std (rid d 0 0)) parts = some (ys, F2)) {o : Oper} (ho : o.op = .buildSlice t len ⟨parts⟩) :
    ∃ v w' σ', Made P F σ w a d (execOp a.eval o) ((F2.root (rid d 0 0) (.osl ys)).put d (rfV (rid d 0 0) len)) v w' σ' := by
  obtain ⟨i, u, z, hi, hu, hz, hty⟩ := tyOf_inv (hT _ _ ht)
  injection hty with hk _ _ _ _
  have hu' := kind_sl hk.symm
  subst hu'
  obtain ⟨i', u', z', hi', hu', hz', rfl⟩ := tyOf_inv (hT _ _ hte)
  dsimp only at hz0 hz1 hb ⊢
  obtain ⟨σ1, hF1, hd1, hb1, hg1⟩ := hF.clear hd (rid d 0 0)
  obtain ⟨h1, h2, σ2, pend, hR⟩ := buildW_sound parts 0 _ σ1 [] ys F2 hb hF1 hd1 (fun _ _ h => by cases h) (by
    rintro k j _ g y hy ⟨h3, s, h4⟩
    exact hb1 g y hy ⟨h3, y.p.2, rfl⟩)
  have hvs : ∀ (k : Nat) (x : Nat × Value), (parts.map fun x => (x.1, a.eval x.2))[k]? = some x → x.1 = 0 + k ∧ x.2.cells.size = i'.size := by
    intro k x hk
    rw [List.getElem?_map] at hk
    cases hp : parts[k]? with
    | none => rw [hp] at hk; simp at hk
    | some p =>
      rw [hp] at hk; simp at hk; subst hk
      refine ⟨h2 k p hp, ?_⟩
      have hlt : k < ys.length := by
        rw [h1]; rcases Nat.lt_or_ge k parts.length with h | h
        · exact h
        · rw [List.getElem?_eq_none h] at hp; cases hp
      obtain ⟨v, h3, h4, _⟩ := hR.rep k ys[k] (List.getElem?_eq_getElem hlt)
      rw [List.getElem?_map, hp] at h3
      simp at h3; subst h3
      exact h4
  obtain ⟨cs', h3, h4, _, h6⟩ := fill_rows i'.size (parts.map fun x => (x.1, a.eval x.2)) 0 ((Array.range (len * i'.size)).map ((if len * i'.size = 0 then #[] else z'.cells)[· % (if len * i'.size = 0 then #[] else z'.cells).size]!)) hvs (by simp [hl])
  have hrun : (execOp a.eval o).run P w = .ok (.value (.slice (some ⟨w.heap.size, 0, none⟩) len len)) (w.alloc (.cells cs' e)) := by
    simp only [execOp, ho]
    refine run_valW ?_
    have hle : ¬ (len * i'.size > 2 ^ 24) := by
      have := Nat.mul_le_mul hmx hz1
      omega
    have hm : (Array.map (fun x => (x.1, a.eval x.2)) ⟨parts⟩ : Array (Nat × Value)).toList = parts.map fun x => (x.1, a.eval x.2) := by simp
    by_cases h0 : len * i'.size = 0
    · rw [if_pos h0] at h3
      simp only [Instr.buildSlice, Sem.run_bind, run_underlying hu, sizeOf, typeInfo]
      simp [hi', h0, newRow, hle] at h3 ⊢
      simp [h3]
    · rw [if_neg h0] at h3
      simp only [Instr.buildSlice, Sem.run_bind, run_underlying hu, sizeOf, typeInfo]
      simp [hi', h0, newRow, hle, zeroValue, typeInfo, hz'] at h3 ⊢
      simp [h3]
  have hyl : ys.length = len := h1.trans hl
  have hrep : ∀ (k : Nat) (y : List O) (j : Nat) (o : O), ys[k]? = some y → y[j]? = some o → ∃ u, cs'[k * i'.size + j]? = some u ∧ RepO w σ2 (rid d 0 0, [(k, j)]) o u := by
    intro k y j o hk hj
    obtain ⟨v, h7, h8, h9⟩ := hR.rep k y hk
    obtain ⟨u, h10, h11⟩ := h9 j o hj
    have hp : ∃ p, (parts.map fun x => (x.1, a.eval x.2))[k]? = some (p, v) := by
      rw [List.getElem?_map] at h7 ⊢
      cases hp : parts[k]? with
      | none => rw [hp] at h7; simp at h7
      | some p => rw [hp] at h7; simp at h7; exact ⟨p.1, by simp [h7]⟩
    obtain ⟨p, hp⟩ := hp
    have hjs : j < i'.size := by
      rcases Nat.lt_or_ge j y.length with h | h
      · rw [hR.size y (List.mem_of_getElem? hk)] at h; exact h
      · rw [List.getElem?_eq_none h] at hj; cases hj
    have := h6 k _ j hp hjs
    simp only [Nat.zero_add] at this h11
    exact ⟨u, this.trans h10, h11⟩
  have htbl : look .un F2.tb (rid d 0 0) = .un := hR.tbl.trans clear_look
  have hn : F2.n = F.n := hR.n.trans clear_n
  cases hys : ys with
  | nil =>
    subst hys
    simp at hyl
    subst hyl
    have hpe : ∀ q' o', (q', o') ∈ pend → False := by
      intro q' o' hm
      rcases hR.pnd q' o' hm with h | ⟨k, j, y, h, _⟩
      · cases h
      · simp at h
    have hd2 : Dom F2 σ2 [] := by
      intro g x hx
      rcases hR.dom g x hx with h | ⟨q', o', s, h, _⟩
      · exact .inl h
      · exact (hpe _ _ h).elim
    obtain ⟨hF3, hg3⟩ := grow_alloc hR.fr (.cells cs' e)
    have hbare : Bare σ2 (rid d 0 0, []) := by
      rintro g x hx ⟨h7, _⟩
      rcases hd2 g x hx with h | ⟨_, _, _, h, _⟩
      · unfold Fr.at at h
        rw [h7] at h
        dsimp only at h
        rw [htbl, at_un] at h
        exact h
      · cases h
    obtain ⟨h7, h8⟩ := mtRoot hF3 hd2 hbare
    exact ⟨_, _, σ2, hrun, h7.put (show RepT _ _ _ from RepA.rz _ _ _), h8, (hg1.trans hR.goes).trans hg3, hn⟩
  | cons y0 ys0 =>
    rw [← hys]
    obtain ⟨hr, h7, h8, h9⟩ := row_made (e := e) (cells := cs') (cap := ys.length) (sz := i'.size) hR.fr hR.dom htbl (by rw [hys]; simp) (Nat.le_refl _) (by rw [hyl]; simp only [maxLen]; omega)
      (by rw [h4, hyl]; simp) hR.size (by
        intro q' o' hm
        rcases hR.pnd q' o' hm with h | ⟨k, j, y, h, h', h''⟩
        · cases h
        · exact ⟨k, j, y, h, h', by simpa using h''⟩) hrep
    have hrf := rfV_sound hr
    rw [hyl] at hrf hr h7 h8 h9
    rw [← hyl] at hrun
    rw [hyl] at hrun
    exact ⟨_, _, _, hrun, h7.put hrf, h8, (hg1.trans hR.goes).trans h9, hn⟩
end
end Go.Proofs.Ytlmejcmnmdleaaa.Ai
