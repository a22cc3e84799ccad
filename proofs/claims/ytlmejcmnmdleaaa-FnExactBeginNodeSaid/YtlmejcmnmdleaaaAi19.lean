/- The abstract interpreter, part 19: append, to its end. -/
import Derived.Test.YtlmejcmnmdleaaaAi18
import Derived.Deep.Upon
namespace Go.Proofs.Ytlmejcmnmdleaaa.Ai
open Go Go.RowKit
set_option linter.unusedSectionVars false
set_option linter.unusedSimpArgs false
section
variable [Fence] {P : Program} {T : Nat → Option Ty} {w w' : World} {σ σ' : Gh} {F : Fr} {vt : Nat → Value} {a : Act}

def sigR (σ : Gh) (R g' : Nat) (x : Own) : Gh := fun k => if k = g' then some x else match σ k with
  | some y => if y.p = (R, []) then none else some y
  | none => none
theorem sigR_same {R g' : Nat} {x : Own} : sigR σ R g' x g' = some x := by simp [sigR]
theorem sigR_keep {R g' k : Nat} {x y : Own} (h : σ k = some y) (hk : k ≠ g') (hp : y.p ≠ (R, [])) : sigR σ R g' x k = some y := by simp [sigR, h, hk, hp]
theorem sigR_none {R g' k : Nat} {x : Own} (h : σ k = none) (hk : k ≠ g') : sigR σ R g' x k = none := by simp [sigR, h, hk]
theorem sigR_inv {R g' k : Nat} {x y : Own} (h : sigR σ R g' x k = some y) : (k = g' ∧ y = x) ∨ (k ≠ g' ∧ σ k = some y ∧ y.p ≠ (R, [])) := by
  unfold sigR at h
  split at h
  · rename_i e; injection h with h; exact .inl ⟨e, h.symm⟩
  · rename_i e
    split at h
    · rename_i z hz
      split at h
      · cases h
      · rename_i hp; injection h with h; subst h; exact .inr ⟨e, hz, hp⟩
    · cases h

theorem fin_row {R : Nat} {xs ys : List (List O)} {v vy : Value} {size t : Nat} {σ0 : Gh} {n : Nat} {news : List Value} (hM : More P w (valT a) R xs ys v size t vy σ0 n F σ news)
    {g' : Nat} {cells : Array Value} {e' : TypeId} {cap : Nat} (hh : w'.heap[g']? = some (.cells cells e' (0, 0))) (hown : g' < w.heap.size → ∃ y, σ g' = some y ∧ y.p = (R, [])) (hkeep : ∀ k, k < w.heap.size → k ≠ g' → w'.heap[k]? = w.heap[k]?)
    (hsz : w.heap.size ≤ w'.heap.size) (hos : w'.os = w.os) (htp : w'.tape = w.tape) (hout : w'.output = w.output)
    (hpos : 0 < (xs ++ ys).length) (hcap : (xs ++ ys).length ≤ cap) (hmax : cap ≤ maxLen) (hcs : cells.size = cap * size) (hys : ∀ y ∈ xs ++ ys, y.length = size)
    (hel : ∀ (i j : Nat) (y : List O) (o : O), (xs ++ ys)[i]? = some y → y[j]? = some o → ∃ u, cells[i * size + j]? = some u ∧ RepO w σ (R, [(i, j)]) o u)
    {d : Nat} {s : Sem Next} {w0 : World} {σ00 : Gh} (hg0 : Goes w0 σ00 w σ0) (hs : s.run P w0 = .ok (.value (.slice (some ⟨g', 0, none⟩) (xs ++ ys).length cap)) w') {F0 : Fr} (hn : n = F0.n) :
    ∃ v w' σ', Made P F0 σ00 w0 a d s ((F.root R (.osl (xs ++ ys))).put d (rfV R (xs ++ ys).length)) v w' σ' := by
  have hst : Stays w σ w' (sigR σ R g' ⟨(R, []), (xs ++ ys).length, cap, size⟩) := by
    refine ⟨fun b hb h0 => sigR_none h0 ?_, fun b hb h0 => hkeep b hb ?_⟩
    · rintro rfl
      obtain ⟨y, hy, _⟩ := hown hb
      rw [h0] at hy; cases hy
    · rintro rfl
      obtain ⟨y, hy, _⟩ := hown hb
      rw [h0] at hy; cases hy
  have hoth : ∀ g y, σ g = some y → y.p ≠ (R, []) → g ≠ g' := by
    rintro g y hy hp rfl
    obtain ⟨z, hz, hp'⟩ := hown (hM.fr.lt g y hy)
    rw [hy] at hz
    injection hz with hz
    exact hp (by rw [hz]; exact hp')
  have hF3 : FR F (sigR σ R g' ⟨(R, []), (xs ++ ys).length, cap, size⟩) w' (valT a) := by
    refine hM.fr.off hM.nr hM.un ?_ hst hsz ?_ ?_
    · intro g y hy hp
      have hp' : y.p ≠ (R, []) := fun e => hp (by rw [e])
      have hne := hoth g y hy hp'
      exact ⟨sigR_keep hy hne hp', hkeep g (hM.fr.lt g y hy) hne⟩
    · intro g1 g2 x y hx hy he
      rcases sigR_inv hx with ⟨e1, e2⟩ | ⟨e1, e2, e3⟩
      · rcases sigR_inv hy with ⟨e4, e5⟩ | ⟨e4, e5, e6⟩
        · rw [e1, e4]
        · exact absurd (by rw [← he, e2]) e6
      · rcases sigR_inv hy with ⟨e4, e5⟩ | ⟨e4, e5, e6⟩
        · exact absurd (by rw [he, e5]) e3
        · exact hM.fr.inj g1 g2 x y e2 e5 he
    · intro g x hx
      rcases sigR_inv hx with ⟨rfl, _⟩ | ⟨_, e2, _⟩
      · exact heap_lt hh
      · have := hM.fr.lt g x e2; omega
  have hrep : RepO w' (sigR σ R g' ⟨(R, []), (xs ++ ys).length, cap, size⟩) (R, []) (.osl (xs ++ ys)) (.slice (some ⟨g', 0, none⟩) (xs ++ ys).length cap) := by
    refine .osl _ _ e' size g' cap cells (fun i j => (cells[i * size + j]?).getD undef) hh ⟨hpos, hcap⟩ hmax hcs hys sigR_same ?_ ?_
    · intro i j y o hi hj
      obtain ⟨u, h1, _⟩ := hel i j y o hi hj
      simp [h1]
    · intro i j y o hi hj
      obtain ⟨u, h1, h2⟩ := hel i j y o hi hj
      simp only [h1, Option.getD_some]
      refine h2.move hsz hst _ ?_
      intro g s n cap sz hg hlt
      have hp : (⟨(R, [(i, j)] ++ s), n, cap, sz⟩ : Own).p ≠ (R, []) := by simp
      have hne := hoth g _ hg hp
      exact ⟨hkeep g hlt hne, sigR_keep (by simpa using hg) hne (by simp)⟩
  refine ⟨_, _, _, hs, (hF3.addRoot hrep).put (rfV_sound hrep), ?_, hg0.trans (hM.goes.trans ⟨hst, hsz, hos, htp, hout⟩), hM.n.trans hn⟩
  intro g x hx
  left
  show Fit ((F.root R (.osl (xs ++ ys))).at std x.p) x.n
  rw [at_root]
  rcases sigR_inv hx with ⟨rfl, rfl⟩ | ⟨e1, e2, e3⟩
  · rw [if_pos rfl]; exact ⟨rfl, hpos⟩
  · rcases hM.dom g x e2 with h | ⟨h, _⟩ | ⟨h1, h2, h3⟩
    · by_cases e : R = x.p.1
      · exfalso
        have := at_root_un hM.un x.p.2
        rw [e, show ((x.p.1, x.p.2) : Path) = x.p from rfl] at this
        rw [this] at h
        exact h
      · rw [if_neg e]; exact h
    · exact absurd h e3
    · rw [if_pos h1.symm]; exact h3

/-- Nothing is appended to nothing. -/
theorem fin_none {R : Nat} {v vy : Value} {size t : Nat} {σ0 : Gh} {n : Nat} {news : List Value} (hM : More P w (valT a) R [] [] v size t vy σ0 n F σ news) {b : Option Addr}
    {d : Nat} {s : Sem Next} {w0 : World} {σ00 : Gh} (hg0 : Goes w0 σ00 w σ0) (hs : s.run P w0 = .ok (.value (.slice b 0 0)) w) {F0 : Fr} (hn : n = F0.n) :
    ∃ v w' σ', Made P F0 σ00 w0 a d s ((F.root R (.osl [])).put d (rfV R 0)) v w' σ' := by
  have hd : Dom F σ [] := by
    intro g x hx
    left
    rcases hM.dom g x hx with h | ⟨h, h2⟩ | ⟨_, h2, h3⟩
    · exact h
    · exact absurd h2.2 (by rw [← h2.1]; simp)
    · exfalso
      cases hx : x.p.2 with
      | nil => exact h2 hx
      | cons ij s => obtain ⟨i, j⟩ := ij; rw [hx] at h3; have := fit_get h3; simp at this
  have hb : Bare σ (R, []) := by
    rintro g x hx ⟨h1, _⟩
    rcases hd g x hx with h | ⟨_, _, _, h, _⟩
    · have := at_root_un hM.un x.p.2
      have e : (R, x.p.2) = x.p := by rw [← show x.p.1 = R from h1]
      rw [e] at this
      rw [this] at h
      exact h
    · cases h
  obtain ⟨h1, h2⟩ := mtRoot hM.fr hd hb
  exact ⟨_, _, _, hs, h1.put (show RepT _ _ _ from RepA.rz _ _ _), h2, hg0.trans hM.goes, hM.n.trans hn⟩

theorem append_made (hT : TyOK P T) (hF : FR F σ w (valT a)) (hd : Dom F σ []) {d t e : Nat} {ty : Ty} {g1 : Bool} {g2 g3 : Nat} {g4 : List C} (ht : T t = some ⟨.sl e, g1, g2, g3, g4⟩) (hte : T e = some ty) {x y : Operand} {F' : Fr}
    (h : appendW std ty d x y (F.drop std (rid d 0 0, [])) = some F') {o : Oper} (ho : o.op = .call ⟨.builtin .append, ⟨[x, y]⟩, ⟨[t, t]⟩⟩) : ∃ v w' σ', Made P F σ w a d (execOp a.eval o) F' v w' σ' := by
  obtain ⟨i, u, z, hi, hu, hz, hty⟩ := tyOf_inv (hT _ _ ht)
  injection hty with hk _ _ _ _
  have hu' := kind_sl hk.symm
  subst hu'
  obtain ⟨i', u', z', hi', hu', hz', rfl⟩ := tyOf_inv (hT _ _ hte)
  have hF0 := hF.drop (rid d 0 0, [])
  have hd0 := hd.drop (rid d 0 0, [])
  have hun0 : look .un (F.drop std (rid d 0 0, [])).tb (rid d 0 0) = .un := by
    show look .un (del F.tb (rid d 0 0)) _ = _
    rw [look_del, if_pos rfl]
  unfold appendW at h
  split at h
  · rename_i xs F1 hbase
    obtain ⟨σ1, hB⟩ := base_sound hF0 hd0 (bare_drop _) (drop_nr _) hun0 (ev1_sound hF0 x) hbase
    split at h
    · rename_i ys m hmore
      split at h
      · rename_i hok
        simp only [Bool.and_eq_true] at hok
        obtain ⟨⟨⟨⟨⟨hlim, hby⟩, hpos⟩, hzl⟩, hsy⟩, hsx⟩ := hok
        simp at h
        subst h
        have hsy := all_sz hsy
        have hsx := all_sz hsx
        have hzl : z'.cells.size = i'.size := by rw [cnt_eq] at hzl; simpa using Nat.eq_of_beq_eq_true hzl
        have hby : i'.bytes ≤ 4096 := le_of_nle hby
        have hpos : 0 < i'.size := le_of_nle hpos
        have hlim : xs.length + ys.length ≤ lim := by simpa [std] using hlim
        have hlim' : lim = 34359738368 := rfl
        obtain ⟨σ2, news, hM⟩ := more_sound hB (ev1_sound hB.fr y) hmore hsy hu
        have hnl := hM.src.newsLen
        have hcat : std.oCat xs ys = xs ++ ys := rfl
        have hlen : std.oLen (xs ++ ys) = (xs ++ ys).length := rfl
        rw [hcat, hlen]
        have hbytes : (xs.length + ys.length) * i'.bytes ≤ 140737488355328 := by
          have := Nat.mul_le_mul (show xs.length + ys.length ≤ 34359738368 by omega) hby
          omega
        have hg0 : Goes w σ w (σ.tr (killP std (rid d 0 0, []))) := goes_tr
        have hall : ∀ y ∈ xs ++ ys, y.length = i'.size := fun y hy => (List.mem_append.1 hy).elim (hsx y) (hsy y)
        -- the operation is the builtin
        have hop : ∀ v' w', (Builtin.append_ #[t, t] o.type #[a.eval x, a.eval y]).run P w = .ok v' w' → (execOp a.eval o).run P w = .ok (.value v') w' := by
          intro v' w' hr
          simp only [execOp, ho, resolve, invoke, builtin, Sem.run_bind, Sem.run_pure, Result.andThen_ok, List.map_toArray, List.map_cons, List.map_nil, hr]
        -- the way that lays a new row
        have grow : ∀ (base : Option Addr) (cap0 : Nat) (olds : List Value), a.eval x = .slice base xs.length cap0 → cap0 < xs.length + ys.length → 0 < xs.length + ys.length → olds.length = xs.length * i'.size →
            (Builtin.firstCells i'.size xs.length (.slice base xs.length cap0)).run P w.drew = .ok olds.toArray w.drew →
            (∀ (i j : Nat) (y : List O) (o : O), xs[i]? = some y → y[j]? = some o → ∃ u, olds[i * i'.size + j]? = some u ∧ RepO w σ2 (rid d 0 0, [(i, j)]) o u) →
            ∃ v w' σ', Made P F σ w a d (execOp a.eval o) (((goneO std F1 m).root (rid d 0 0) (.osl (xs ++ ys))).put d (rfV (rid d 0 0) (xs ++ ys).length)) v w' σ' := by
          intro base cap0 olds hv hc hpos' hol hold hels
          have hfit := growslice_fits hc hbytes
          have hr := run_append_grow_src (P := P) w t t o.type e i' z' hu hi' hz' base xs.length cap0 olds hold (a.eval y) ys.length news hM.src hc (by omega) hfit
          rw [← hv] at hr
          have hge := grownCap_ge w (xs.length + ys.length) cap0 e
          refine fin_row (e' := e) (cap := grownCap w (xs.length + ys.length) cap0 e) (g' := w.heap.size) hM (heap_alloc_new w.drew _) (fun h => by omega) (fun k hk _ => heap_alloc_old w.drew _ k hk) (by simp) rfl rfl rfl
            (by simp only [List.length_append]; exact hpos') (by simp only [List.length_append]; exact hge) (grownCap_le_maxLen w _ _ _ (by simp only [maxLen]; omega)) ?_ hall ?_ hg0 (by simp only [List.length_append]; exact hop _ _ hr) rfl
          · simp only [Array.size_append, List.size_toArray, List.length_append, size_zeroCells, hzl, hol, hnl, ← Nat.add_mul]
            rw [show xs.length + ys.length + (grownCap w (xs.length + ys.length) cap0 e - (xs.length + ys.length)) = grownCap w (xs.length + ys.length) cap0 e by omega]
          · intro i j y o hi hj
            have hj' : j < i'.size := by
              rw [← hall y (List.mem_of_getElem? hi)]
              rcases Nat.lt_or_ge j y.length with h | h
              · exact h
              · rw [List.getElem?_eq_none h] at hj; cases hj
            rcases Nat.lt_or_ge i xs.length with hlt | hge'
            · rw [List.getElem?_append_left hlt] at hi
              obtain ⟨u, h1, h2⟩ := hels i j y o hi hj
              refine ⟨u, ?_, h2⟩
              have hb : i * i'.size + j < olds.length := by
                rw [hol]
                have : (i + 1) * i'.size ≤ xs.length * i'.size := Nat.mul_le_mul_right _ hlt
                rw [Nat.add_mul] at this; omega
              rw [Array.getElem?_append_left (by simp; omega)]
              simp [List.getElem?_append_left hb, h1]
            · rw [List.getElem?_append_right hge'] at hi
              obtain ⟨u, h1, h2⟩ := hM.els (i - xs.length) j y o hi hj
              rw [show xs.length + (i - xs.length) = i by omega] at h2
              refine ⟨u, ?_, h2⟩
              have hb : (i - xs.length) * i'.size + j < news.length := by
                rcases Nat.lt_or_ge ((i - xs.length) * i'.size + j) news.length with h | h
                · exact h
                · rw [List.getElem?_eq_none h] at h1; cases h1
              have he : i * i'.size + j = olds.length + ((i - xs.length) * i'.size + j) := by
                rw [hol, Nat.sub_mul]
                have : xs.length * i'.size ≤ i * i'.size := Nat.mul_le_mul_right _ hge'
                omega
              rw [he, Array.getElem?_append_left (by simp; omega)]
              simp only [List.getElem?_toArray]
              rw [List.getElem?_append_right (Nat.le_add_right _ _), Nat.add_sub_cancel_left]
              exact h1
        have hbv := hM.rep
        generalize hvx : a.eval x = vx at hbv
        cases hbv with
        | oslz _ b =>
          by_cases hm0 : ys.length = 0
          · obtain rfl : ys = [] := List.eq_nil_of_length_eq_zero hm0
            obtain rfl : news = [] := List.eq_nil_of_length_eq_zero (by rw [hnl]; simp)
            have hr := run_append_nothing (P := P) w t t o.type e i' hu hi' b 0 0 (Nat.le_refl _) (a.eval y) hM.src
            rw [← hvx] at hr
            have := fin_none (d := d) (s := execOp a.eval o) hM hg0 (by rw [hop _ _ hr, hvx]) (F0 := F) rfl
            simpa using this
          · refine grow b 0 [] hvx (by simp; omega) (by simp; omega) (by simp) ?_ (fun i j y o h => by simp at h)
            simp only [List.length_nil]
            cases b with
            | none => exact run_firstCells_none w.drew i'.size 0 0 0
            | some ad => exact run_firstCells_some w.drew i'.size 0 ad 0 0 [] (by simp) (fun j u h => by simp at h)
        | osl _ _ e' sz g cap cur us hh hc hcm hl hs' hg hm hr =>
          have hsz : sz = i'.size := by
            cases hxs : xs with
            | nil => subst hxs; simp at hc
            | cons y0 r => rw [← hs' y0 (by rw [hxs]; exact List.mem_cons_self), hsx y0 (by rw [hxs]; exact List.mem_cons_self)]
          subst hsz
          by_cases hroom : xs.length + ys.length ≤ cap
          · have hfit : xs.length * i'.size + news.length ≤ cur.size := by
              rw [hnl, hl, ← Nat.add_mul]; exact Nat.mul_le_mul_right _ hroom
            have hra := run_append_room_src (P := P) w t t o.type e i' hu hi' g 0 xs.length cap (a.eval y) ys.length news hM.src hroom (by
              intro j hj
              rw [cell_of_row w g _ cur e' (0, 0) hh, Nat.zero_add]
              simp [Array.getElem?_eq_getElem (show xs.length * i'.size + j < cur.size by omega)]) (fun j hj => frozen_of_row w g _ cur e' hh)
            rw [← hvx] at hra
            obtain ⟨cur', h1, h2, h3⟩ := setCells_heap g e' news (0 + xs.length * i'.size) w cur hh (by omega)
            obtain ⟨h4, h5, h6, h7⟩ := setCells_rest g news (0 + xs.length * i'.size) w
            refine fin_row (e' := e') (cap := cap) (g' := g) hM h1 (fun _ => ⟨_, hg, rfl⟩) (fun k _ hk => setCells_other g news _ w k hk) (by omega) h5 h6 h7
              (by simp only [List.length_append]; omega) (by simp only [List.length_append]; exact hroom) hcm (by rw [h2, hl]) hall ?_ hg0 (by simp only [List.length_append]; exact hop _ _ hra) rfl
            intro i j y o hi hj
            have hj' : j < i'.size := by
              rw [← hall y (List.mem_of_getElem? hi)]
              rcases Nat.lt_or_ge j y.length with h | h
              · exact h
              · rw [List.getElem?_eq_none h] at hj; cases hj
            rcases Nat.lt_or_ge i xs.length with hlt | hge'
            · rw [List.getElem?_append_left hlt] at hi
              refine ⟨us i j, ?_, hr i j y o hi hj⟩
              have : (i + 1) * i'.size ≤ xs.length * i'.size := Nat.mul_le_mul_right _ hlt
              rw [Nat.add_mul] at this
              rw [h3, if_neg (by omega)]
              exact hm i j y o hi hj
            · rw [List.getElem?_append_right hge'] at hi
              obtain ⟨u, h8, h9⟩ := hM.els (i - xs.length) j y o hi hj
              rw [show xs.length + (i - xs.length) = i by omega] at h9
              refine ⟨u, ?_, h9⟩
              have hb : (i - xs.length) * i'.size + j < news.length := by
                rcases Nat.lt_or_ge ((i - xs.length) * i'.size + j) news.length with h | h
                · exact h
                · rw [List.getElem?_eq_none h] at h8; cases h8
              have he : i * i'.size + j = xs.length * i'.size + ((i - xs.length) * i'.size + j) := by
                rw [Nat.sub_mul]
                have : xs.length * i'.size ≤ i * i'.size := Nat.mul_le_mul_right _ hge'
                omega
              rw [h3, if_pos (by omega), he, Nat.zero_add, Nat.add_sub_cancel_left]
              exact h8
          · have hex : ∀ i j, i < xs.length → j < i'.size → ∃ y o, xs[i]? = some y ∧ y[j]? = some o ∧ cur[i * i'.size + j]? = some (us i j) := by
              intro i j hi hj
              obtain ⟨y, hy⟩ := getD_len hi
              obtain ⟨o, ho⟩ := getD_len (l := y) (i := j) (by rw [hsx y (List.mem_of_getElem? hy)]; exact hj)
              exact ⟨y, o, hy, ho, hm i j y o hy ho⟩
            refine grow (some ⟨g, 0, none⟩) cap (flatN us xs.length i'.size) hvx (by omega) (by omega) (flatN_length _ _ _) ?_ ?_
            · refine run_firstCells_some w.drew i'.size xs.length ⟨g, 0, none⟩ _ _ _ (flatN_length _ _ _) ?_
              intro k u hk
              obtain ⟨i, j, hi, hj, rfl, rfl⟩ := flatN_inv us hk
              obtain ⟨y, o, _, _, h⟩ := hex i j hi hj
              rw [addr_add]
              simp only [World.cell?_drew]
              rw [cell_of_row w g _ cur e' (0, 0) hh, Nat.zero_add]
              exact h
            · intro i j y o hi hj
              have hi' : i < xs.length := by
                rcases Nat.lt_or_ge i xs.length with h | h
                · exact h
                · rw [List.getElem?_eq_none h] at hi; cases hi
              have hj' : j < i'.size := by
                rw [← hsx y (List.mem_of_getElem? hi)]
                rcases Nat.lt_or_ge j y.length with h | h
                · exact h
                · rw [List.getElem?_eq_none h] at hj; cases hj
              exact ⟨us i j, flatN_get us hi' hj', hr i j y o hi hj⟩
      · cases h
    · cases h
  · cases h
end
end Go.Proofs.Ytlmejcmnmdleaaa.Ai
