/- The abstract interpreter, part 13: what is put, assigned, allocated, built, made. -/
import Derived.Test.YtlmejcmnmdleaaaAi12
namespace Go.Proofs.Ytlmejcmnmdleaaa.Ai
open Go Go.RowKit
set_option linter.unusedSectionVars false
set_option linter.unusedSimpArgs false
section
variable [Fence] {P : Program} {T : Nat → Option Ty} {w w' : World} {σ σ' : Gh} {F : Fr} {vt : Nat → Value} {a : Act}

theorem run_valW {s : Sem Value} {v : Value} (h : s.run P w = .ok v w') : (do pure (.value (← s)) : Sem Next).run P w = .ok (.value v) w' := by
  simp only [Sem.run_bind, h, Result.andThen, Sem.run_pure]
/-- What another root owns stays. -/
theorem FR.clearK (h : FR F σ w vt) (hd : Dom F σ []) (id : Nat) : ∃ σ', FR (F.clear std id) σ' w vt ∧ Dom (F.clear std id) σ' [] ∧ Bare σ' (id, []) ∧ Goes w σ w σ' ∧ ∀ g x, σ g = some x → x.p.1 ≠ id → σ' g = some x := by
  unfold Fr.clear
  cases hh : has F.tb id with
  | true => exact ⟨_, h.drop _, hd.drop _, bare_drop _, goes_tr, fun g x hx hne => tr_some hx (killP_not fun hu => hne hu.1)⟩
  | false =>
    obtain ⟨σ', h1, h2, h3, h4⟩ := h.clear hd id
    have e : F.clear std id = F := by unfold Fr.clear; rw [hh]
    rw [e] at h1 h2
    refine ⟨σ, h, hd, ?_, Goes.refl _ _, fun g x hx _ => hx⟩
    intro g x hx hu
    rcases hd g x hx with h5 | ⟨_, _, _, h5, _⟩
    · unfold Fr.at at h5
      rw [hu.1] at h5
      dsimp only at h5
      rw [look_none hh, at_un] at h5
      exact h5
    · cases h5
theorem at_clear {id : Nat} {p : Path} (h : p.1 ≠ id) : (F.clear std id).at std p = F.at std p := by
  unfold Fr.clear
  cases hh : has F.tb id with
  | true =>
    show O.at std (look .un (del F.tb id) p.1) p.2 = _
    rw [look_del, if_neg (Ne.symm h)]
    rfl
  | false => rfl
theorem made_val (hF : FR F σ w (valT a)) (hd : Dom F σ []) {d : Nat} {v : Value} {s : Sem Next} (hs : s.run P w = .ok (.value v) w) {x : TV A} (hx : RepT (fun _ _ => RepA w σ) x v) :
    ∃ v w' σ', Made P F σ w a d s (F.put d x) v w' σ' := ⟨v, w, σ, hs, hF.put hx, hd.put d x, Goes.refl _ _, rfl⟩
theorem made_mt (hF : FR F σ w (valT a)) (hd : Dom F σ []) {d : Nat} {b : Option Addr} {s : Sem Next} (hs : s.run P w = .ok (.value (.slice b 0 0)) w) :
    ∃ v w' σ', Made P F σ w a d s (F.putQ std d .mt) v w' σ' := by
  obtain ⟨σ1, hF1, hd1, hb1, hg1⟩ := hF.clear hd (rid d 0 0)
  obtain ⟨h1, h2⟩ := mtRoot hF1 hd1 hb1
  refine ⟨_, w, σ1, hs, ?_, ?_, hg1, ?_⟩
  · exact h1.put (show RepT _ _ _ from RepA.rz _ _ _)
  · exact h2
  · exact clear_n
theorem made_q (hF : FR F σ w (valT a)) (hd : Dom F σ []) {d : Nat} {v : Value} {s : Sem Next} (hs : s.run P w = .ok (.value v) w) {q : QR} (hq : QRep w σ q v) :
    ∃ v w' σ', Made P F σ w a d s (F.putQ std d q) v w' σ' := by
  cases q with
  | val x => exact made_val hF hd hs hq
  | mt =>
    obtain ⟨b, rfl⟩ := hq
    exact made_mt hF hd hs
/-- What lies whole in a root, as a temporary refers to it. -/
theorem rfV_sound {id : Nat} {xs : List (List O)} {v : Value} (h : RepO w σ (id, []) (.osl xs) v) : RepT (fun _ _ => RepA w σ) (rfV id xs.length) v := refO_sound h
theorem assign_made (hF : FR F σ w (valT a)) (hd : Dom F σ []) {d : Nat} {v : Value} {s : Sem Next} (hs : s.run P w = .ok (.value v) w) {x : TV A} (hx : RepT (fun _ _ => RepA w σ) x v) {F' : Fr} (h : assignW std F d x = some F') :
    ∃ v w' σ', Made P F σ w a d s F' v w' σ' := by
  unfold assignW at h
  split at h
  · rename_i id off len
    split at h
    · rename_i xs hid hxs
      split at h
      · simp at h; subst h
        exact made_val hF hd hs hx
      · cases h
    · rename_i xs hid hxs
      split at h
      · rename_i hw
        simp [std] at hw
        obtain ⟨rfl, rfl⟩ := hw
        simp at h
        subst h
        have hne : id ≠ rid d 0 0 := fun e => by rw [e] at hid; simp at hid
        obtain ⟨σ1, hF1, hd1, hb1, hg1, hk1⟩ := hF.clearK hd (rid d 0 0)
        have hx1 : RepA w σ1 (.rf (id, []) 0 xs.length) v := by
          have hx' : RepA w σ (.rf (id, []) 0 xs.length) v := hx
          generalize hlen : xs.length = len at hx' ⊢
          cases hx' with
          | rf _ _ _ g n cap sz hg hl hn => exact .rf _ _ _ g n cap sz (hk1 _ _ hg hne) hl hn
          | rz _ _ b => exact .rz _ _ b
        have hat : (F.clear std (rid d 0 0)).at std (id, []) = .osl xs := by rw [at_clear hne]; exact hxs
        have hwh := whole_sound hF1 hd1 (fun _ _ h => by cases h) hat hx1
        have hl := hF1.lift (p := (id, [])) hb1
        have hD := hd1.lift (p := (id, [])) (q := (rid d 0 0, [])) (fun _ _ h => by cases h)
        have hr := hwh.lift (q := (rid d 0 0, []))
        refine ⟨v, w, _, hs, (hl.addRoot hr).put (rfV_sound hr), ?_, hg1.trans goes_tr, ?_⟩
        · have := Dom.addRoot (id := rid d 0 0) (o := .osl xs) hD (by
            show look .un (Fr.less std _ _).tb _ = _
            rw [less_look (p := (id, [])) hne]; exact clear_look) (by
            intro q' o' hm
            simp at hm
            obtain ⟨rfl, rfl⟩ := hm
            exact ⟨rfl, hat.symm⟩)
          exact this
        · show (Fr.less std _ _).n = F.n
          rw [less_n, clear_n]
      · simp at h; subst h
        exact made_val hF hd hs hx
    · simp at h; subst h
      exact made_val hF hd hs hx
  · simp at h; subst h
    exact made_val hF hd hs hx
theorem asg_made (hF : FR F σ w (valT a)) (hd : Dom F σ []) {kn : Bool} {d : Nat} {v : Value} {s : Sem Next} (hs : s.run P w = .ok (.value v) w) {x : TV A} (hx : RepT (fun _ _ => RepA w σ) x v) {F' : Fr} (h : asgA std kn F d x = some F') :
    ∃ v w' σ', Made P F σ w a d s F' v w' σ' := by
  unfold asgA at h
  split at h
  · split at h
    · simp at h; subst h
      exact made_val hF hd hs hx
    · simp at h; subst h
      have hx' : RepA w σ (.fz .nilsl) v := hx
      obtain rfl := hx'.fz_inv.nil_inv
      exact made_mt hF hd hs
  · exact assign_made hF hd hs hx h

theorem zeroO_get (kn : Bool) : ∀ (l : List C) (j : Nat), (zeroO kn l)[j]? = (l[j]?).map fun c => match c with | .nilsl => (match kn with | true => O.fz .nilsl | false => .osl []) | c => .fz c := by
  intro l
  induction l with
  | nil => intro j; rfl
  | cons c l ih =>
    intro j
    cases j with
    | zero => cases c <;> rfl
    | succ j =>
      have : (zeroO kn (c :: l))[j + 1]? = (zeroO kn l)[j]? := by cases c <;> rfl
      rw [this, ih j]; rfl
theorem zeroO_length (kn : Bool) (l : List C) : (zeroO kn l).length = l.length := by
  induction l with
  | nil => rfl
  | cons c l ih => cases c <;> simp [zeroO, ih]
theorem zeroO_rep {kn : Bool} {cs : List Value} (hn : noUnL (cs.map zeroC) = true) {j : Nat} {o : O} (hj : (zeroO kn (cs.map zeroC))[j]? = some o) (w : World) (σ : Gh) (p : Path) : ∃ u, cs[j]? = some u ∧ RepO w σ p o u := by
  rw [zeroO_get, List.getElem?_map] at hj
  cases hu : cs[j]? with
  | none => rw [hu] at hj; simp at hj
  | some u =>
    rw [hu] at hj
    simp at hj
    refine ⟨u, rfl, ?_⟩
    have hne : zeroC u ≠ .un := noUnL_get hn _ (List.mem_map_of_mem (List.mem_of_getElem? hu))
    have hr : RepC w σ (zeroC u) u := by
      rcases zeroC_sound (w := w) (σ := σ) u with h | h
      · exact h.fz_inv
      · exact absurd h hne
    subst hj
    split
    · rename_i he
      rw [he] at hr
      obtain rfl := hr.nil_inv
      cases kn with
      | true => exact .fz _ _ _ .nilsl
      | false => exact .oslz _ _
    · exact .fz _ _ _ hr

theorem alloc_made (hT : TyOK P T) (hF : FR F σ w (valT a)) (hd : Dom F σ []) {kn : Bool} {d : Nat} {e : TypeId} {ty : Ty} (ht : T e = some ty) (hn : noUnL ty.zero = true) {o : Oper} (ho : o.op = .alloc e) :
    ∃ v w' σ', Made P F σ w a d (execOp a.eval o) (((F.clear std (rid d 0 0)).root (rid d 0 0) (.obx (zeroO kn ty.zero))).put d (ppV (rid d 0 0))) v w' σ' := by
  obtain ⟨i, u, z, hi, hu, hz, rfl⟩ := tyOf_inv (hT _ _ ht)
  dsimp only at hn ⊢
  obtain ⟨σ1, hF1, hd1, hb1, hg1⟩ := hF.clear hd (rid d 0 0)
  have hrep : RepO (w.alloc (.cells z.cells e)) (sigN σ1 w.heap.size ⟨(rid d 0 0, []), 0, 0, 0⟩) (rid d 0 0, []) (.obx (zeroO kn (z.cells.toList.map zeroC))) (.pointer (some ⟨w.heap.size, 0, none⟩)) := by
    refine .obx _ _ w.heap.size e z.cells (fun j => (z.cells[j]?).getD undef) 0 0 0 (heap_alloc_new w _) (by rw [zeroO_length]; simp) (by simp [sigN]) ?_ ?_
    · intro j o hj
      obtain ⟨u, h1, _⟩ := zeroO_rep hn hj w σ (0, [])
      simp at h1
      simp [h1]
    · intro j o hj
      obtain ⟨u, h1, h2⟩ := zeroO_rep hn hj (w.alloc (.cells z.cells e)) (sigN σ1 w.heap.size ⟨(rid d 0 0, []), 0, 0, 0⟩) (rid d 0 0, [] ++ [(0, j)])
      simp at h1
      simp only [h1, Option.getD_some]
      exact h2
  obtain ⟨h1, h2, h3⟩ := newRoot hF1 hd1 clear_look z.cells e ⟨(rid d 0 0, []), 0, 0, 0⟩ rfl (o := .obx (zeroO kn (z.cells.toList.map zeroC))) (v := .pointer (some ⟨w.heap.size, 0, none⟩)) (fun _ _ h => by cases h) trivial hrep
  refine ⟨.pointer (some ⟨w.heap.size, 0, none⟩), _, _, ?_, ?_, h2, hg1.trans h3, ?_⟩
  · simp only [execOp, ho]
    simp only [Instr.alloc, zeroValue, typeInfo, newVar, newRow, Sem.run_bind, Sem.run_pure]
    simp [hi, hz]
  · refine h1.put ?_
    have := RepA.pp (w := w.alloc (.cells z.cells e)) (σ := sigN σ1 w.heap.size ⟨(rid d 0 0, []), 0, 0, 0⟩) (rid d 0 0, []) 0 0 w.heap.size 0 0 0 (by simp [sigN])
    exact this
  · exact clear_n
end
end Go.Proofs.Ytlmejcmnmdleaaa.Ai
