/- The abstract interpreter, part 12: operations that make memory. -/
import Derived.Test.YtlmejcmnmdleaaaAi11
namespace Go.Proofs.Ytlmejcmnmdleaaa.Ai
open Go Go.RowKit
set_option linter.unusedSectionVars false
set_option linter.unusedSimpArgs false
section
variable [Fence] {P : Program} {T : Nat → Option Ty} {w w' : World} {σ σ' : Gh} {F : Fr} {vt : Nat → Value} {a : Act}

def upd (vt : Nat → Value) (d : Nat) (v : Value) : Nat → Value := fun t => if d = t then v else vt t
theorem valT_put {d : Nat} {v : Value} (h : d < a.tmps.size) : valT (a.put (some d) v) = upd (valT a) d v := by
  funext t
  unfold valT upd Act.put
  simp only [Array.getD_eq_getD_getElem?]
  by_cases e : d = t
  · subst e; simp [Array.getElem?_setIfInBounds_self, h]
  · rw [if_neg e, Array.getElem?_setIfInBounds_ne e]
theorem FR.put (h : FR F σ w vt) {d : Nat} {x : TV A} {v : Value} (hx : RepT (fun _ _ => RepA w σ) x v) : FR (F.put d x) σ w (upd vt d v) := by
  refine ⟨h.inj, h.lt, h.tb, fun t => ?_⟩
  show RepT _ (look unT ((d, x) :: F.tm) t) _
  rw [look_cons]
  unfold upd
  by_cases e : d = t
  · rw [if_pos e, if_pos e]; exact hx
  · rw [if_neg e, if_neg e]; exact h.tm t
theorem Dom.put {pend : List (Path × O)} (h : Dom F σ pend) (d : Nat) (x : TV A) : Dom (F.put d x) σ pend := h
/-- The world has grown, the book of what was there is the same. -/
theorem RepC.grow (hb : Below w.heap.size w w') (hσ : ∀ g, g < w.heap.size → σ' g = σ g) {c : C} {v : Value} (h : RepC w σ c v) : RepC w' σ' c v :=
  h.move hb.size ⟨fun b hb' h0 => by rw [hσ b hb']; exact h0, fun b hb' _ => hb.block b hb'⟩
theorem RepO.grow (hb : Below w.heap.size w w') (hσ : ∀ g, g < w.heap.size → σ' g = σ g) {p : Path} {o : O} {v : Value} (h : RepO w σ p o v) : RepO w' σ' p o v :=
  h.move hb.size ⟨fun b hb' h0 => by rw [hσ b hb']; exact h0, fun b hb' _ => hb.block b hb'⟩ p (fun g s n cap sz hg hlt => ⟨hb.block g hlt, by rw [hσ g hlt]; exact hg⟩)
theorem RepA.grow (hlt : ∀ g x, σ g = some x → g < w.heap.size) (hb : Below w.heap.size w w') (hσ : ∀ g, g < w.heap.size → σ' g = σ g) {x : A} {v : Value} (h : RepA w σ x v) : RepA w' σ' x v := by
  have e : ∀ g x, σ g = some x → σ' g = some x := fun g x h => by rw [hσ g (hlt g x h)]; exact h
  induction h with
  | un v => exact .un v
  | ud => exact .ud
  | fz c v h => exact .fz c v (h.grow hb hσ)
  | rf p off len g n cap sz hg hl hn => exact .rf p off len g n cap sz (e _ _ hg) hl hn
  | rz p off b => exact .rz p off b
  | pp p i j g n cap sz hg => exact .pp p i j g n cap sz (e _ _ hg)
  | clo f caps vs us hl hm hr ih => exact .clo f caps vs us hl hm ih
theorem RepV.imp {α : Type} {R S : Nat → α → Value → Prop} (hf : ∀ j a v, R j a v → S j a v) {x : V1 α} {v : Value} (h : RepV R x v) : RepV S x v := by
  have := RepV.map (S := S) (f := fun a => a) hf h
  simpa using this
theorem RepT.imp {α : Type} {R S : Nat → Nat → α → Value → Prop} (hf : ∀ k j a v, R k j a v → S k j a v) {x : TV α} {v : Value} (h : RepT R x v) : RepT S x v := by
  cases x with
  | v x => exact RepV.imp (hf 0) h
  | tup xs =>
    obtain ⟨vs, rfl, h1, h2⟩ := h
    refine ⟨vs, rfl, h1, fun k x hk => ?_⟩
    obtain ⟨u, hu, hr⟩ := h2 k x hk
    exact ⟨u, hu, RepV.imp (hf k) hr⟩
theorem FR.grow (h : FR F σ w vt) (hb : Below w.heap.size w w') (hσ : ∀ g, g < w.heap.size → σ' g = σ g)
    (hinj : ∀ g g' x y, σ' g = some x → σ' g' = some y → x.p = y.p → g = g') (hlt : ∀ g x, σ' g = some x → g < w'.heap.size) : FR F σ' w' vt :=
  ⟨hinj, hlt, fun id => let ⟨v, hv⟩ := h.tb id; ⟨v, hv.grow hb hσ⟩, fun t => RepT.imp (fun _ _ _ _ hr => hr.grow h.lt hb hσ) (h.tm t)⟩
theorem FR.addRoot (h : FR F σ w vt) {id : Nat} {o : O} {v : Value} (hr : RepO w σ (id, []) o v) : FR (F.root id o) σ w vt := by
  refine ⟨h.inj, h.lt, fun t => ?_, h.tm⟩
  show ∃ v, RepO w σ (t, []) (look .un ((id, o) :: F.tb) t) v
  rw [look_cons]
  by_cases e : id = t
  · subst e; rw [if_pos rfl]; exact ⟨v, hr⟩
  · rw [if_neg e]; exact h.tb t
theorem at_root {id : Nat} {o : O} {x : Path} : (F.root id o).at std x = if id = x.1 then o.at std x.2 else F.at std x := by
  unfold Fr.at Fr.root
  dsimp only
  rw [look_cons]
  by_cases e : id = x.1
  · rw [if_pos e, if_pos e]
  · rw [if_neg e, if_neg e]
/-- A block of the call's own, a new root. -/
def sigN (σ : Gh) (g : Nat) (x : Own) : Gh := fun k => if k = g then some x else σ k
theorem below_alloc' (w : World) (o : Obj) : Below w.heap.size w (w.alloc o) := (Below.refl _ w).alloc (Nat.le_refl _) o
theorem sigN_lt {g : Nat} {x : Own} {k : Nat} (h : k < g) : sigN σ g x k = σ k := by unfold sigN; rw [if_neg (by omega)]
/-- The root is there: what was on its way has come. -/
theorem Dom.addRoot {pend : List (Path × O)} (hd : Dom F σ pend) {id : Nat} {o : O} (hun : look .un F.tb id = .un) (hp : ∀ q' o', (q', o') ∈ pend → q'.1 = id ∧ o.at std q'.2 = o') : Dom (F.root id o) σ [] := by
  intro g x hx
  left
  rw [at_root]
  rcases hd g x hx with h | ⟨q', o', s, h1, h2, h3⟩
  · by_cases e : id = x.p.1
    · exfalso
      unfold Fr.at at h
      rw [← e, hun, at_un] at h
      exact h
    · rw [if_neg e]; exact h
  · obtain ⟨h4, h5⟩ := hp q' o' h1
    rw [h2, if_pos h4.symm]
    dsimp only
    rw [at_append, h5]
    exact h3
theorem newRoot (h : FR F σ w vt) {pend : List (Path × O)} (hd : Dom F σ pend) {id : Nat} (hun : look .un F.tb id = .un) (cells : Array Value) (e : TypeId) (own : Own) (hown : own.p = (id, [])) {o : O} {v : Value}
    (hp : ∀ q' o', (q', o') ∈ pend → q'.1 = id ∧ q'.2 ≠ [] ∧ o.at std q'.2 = o') (hfit : Fit o own.n)
    (hr : RepO (w.alloc (.cells cells e)) (sigN σ w.heap.size own) (id, []) o v) :
    FR (F.root id o) (sigN σ w.heap.size own) (w.alloc (.cells cells e)) vt ∧ Dom (F.root id o) (sigN σ w.heap.size own) [] ∧ Goes w σ (w.alloc (.cells cells e)) (sigN σ w.heap.size own) := by
  have hb := below_alloc' w (.cells cells e)
  have hσ : ∀ g, g < w.heap.size → sigN σ w.heap.size own g = σ g := fun g hg => sigN_lt hg
  have hnone : ∀ g x, σ g = some x → x.p ≠ (id, []) := by
    intro g x hx he
    rcases hd g x hx with h1 | ⟨q', o', s, h1, h2, h3⟩
    · unfold Fr.at at h1
      rw [he] at h1
      dsimp only at h1
      rw [hun] at h1
      exact h1
    · obtain ⟨h4, h5, _⟩ := hp q' o' h1
      rw [he] at h2
      have := congrArg Prod.snd h2
      simp at this
      exact h5 this.1
  have hg : FR F (sigN σ w.heap.size own) (w.alloc (.cells cells e)) vt := by
    refine h.grow hb hσ ?_ ?_
    · intro g g' x y hx hy he
      unfold sigN at hx hy
      split at hx
      · injection hx with hx
        split at hy
        · rw [‹g = _›, ‹g' = _›]
        · subst hx; rw [hown] at he; exact absurd he.symm (hnone g' y hy)
      · split at hy
        · injection hy with hy; subst hy; rw [hown] at he; exact absurd he (hnone g x hx)
        · exact h.inj g g' x y hx hy he
    · intro g x hx
      unfold sigN at hx
      have hs : (w.alloc (.cells cells e)).heap.size = w.heap.size + 1 := by simp
      split at hx
      · omega
      · have := h.lt g x hx; omega
  refine ⟨hg.addRoot hr, ?_, ⟨⟨fun b hb' h0 => by rw [hσ b hb']; exact h0, fun b hb' _ => hb.block b hb'⟩, hb.size, rfl, rfl, rfl⟩⟩
  intro g x hx
  unfold sigN at hx
  split at hx
  · injection hx with hx
    subst hx
    left
    rw [hown, at_root, if_pos rfl]
    exact hfit
  · exact Dom.addRoot hd hun (fun q' o' hm => ⟨(hp q' o' hm).1, (hp q' o' hm).2.2⟩) g x hx
/-- A root without a block: a slice of no element. -/
theorem mtRoot (h : FR F σ w vt) (hd : Dom F σ []) {id : Nat} (hbare : Bare σ (id, [])) : FR (F.root id (.osl [])) σ w vt ∧ Dom (F.root id (.osl [])) σ [] := by
  refine ⟨h.addRoot (.oslz (id, []) none), ?_⟩
  intro g x hx
  left
  rw [at_root]
  have : id ≠ x.p.1 := fun e => hbare g x hx ⟨e.symm, x.p.2, rfl⟩
  rw [if_neg this]
  rcases hd g x hx with h | ⟨_, _, _, h, _⟩
  · exact h
  · cases h
theorem clear_look {id : Nat} : look .un (F.clear std id).tb id = .un := by
  unfold Fr.clear
  cases hh : has F.tb id with
  | true =>
    show look .un (del F.tb id) id = .un
    rw [look_del, if_pos rfl]
  | false => exact look_none hh
theorem clear_n {id : Nat} : (F.clear std id).n = F.n := by
  unfold Fr.clear
  cases has F.tb id <;> rfl
/-- What comes of an operation that writes. -/
structure Made (P : Program) (F : Fr) (σ : Gh) (w : World) (a : Act) (d : Nat) (s : Sem Next) (F' : Fr) (v : Value) (w' : World) (σ' : Gh) : Prop where
  run : s.run P w = .ok (.value v) w'
  fr : FR F' σ' w' (upd (valT a) d v)
  dom : Dom F' σ' []
  goes : Goes w σ w' σ'
  n : F'.n = F.n

theorem goal_qAt (r : Nat) (s : List (Nat × Nat)) (i : Nat) : Goal (qAt r s i) r := by
  refine ⟨fun _ => rfl, ?_⟩
  rintro j j' hne t ⟨_, u, hu⟩
  simp [qAt] at hu
  exact hne hu.1
theorem tv_cells {x : TV A} {v : Value} {as : List A} (h : RepT (fun _ _ => RepA w σ) x v) (hc : x.cells = some as) (hok : okL as = true) : v.cells.size = as.length ∧ ∀ (k : Nat) (y : A), as[k]? = some y → ∃ u, v.cells.toList[k]? = some u ∧ RepA w σ y u := by
  cases x with
  | v x =>
    simp [TV.cells] at hc
    subst hc
    obtain ⟨h1, h2⟩ := cells_sound h hok
    exact ⟨h1, fun k y hk => by simpa using h2 k y hk⟩
  | tup xs => simp [TV.cells] at hc
mutual
theorem tr_ok (τ : Path → Option Path) : (z : A) → (z.tr τ).ok = true → z.ok = true
  | .un, h => h
  | .ud, h => h
  | .fz _, h => h
  | .rf .., _ => rfl
  | .pp .., _ => rfl
  | .clo g caps, h => by simp only [A.tr, A.ok] at h ⊢; exact trL_ok τ caps h
theorem trL_ok (τ : Path → Option Path) : (l : List A) → okL (A.trL τ l) = true → okL l = true
  | [], _ => rfl
  | z :: l, h => by
    simp only [A.trL, okL] at h ⊢
    cases ha : (z.tr τ).ok with
    | true => rw [ha] at h; rw [tr_ok τ z ha]; exact trL_ok τ l h
    | false => rw [ha] at h; simp at h
end
theorem convL_ok {kn : Bool} {q : Nat → Path} : ∀ (as : List A) (j : Nat) (F : Fr) (f : A → A) (os : List O) (F' : Fr), (∀ x, (f x).ok = true → x.ok = true) → convL std kn q j F f as = some (os, F') → okL as = true := by
  intro as
  induction as with
  | nil => intro j F f os F' _ _; rfl
  | cons x as ih =>
    intro j F f os F' hf h
    have hx : ∀ o p, conv1 std kn F (f x) (q j) = some (o, p) → x.ok = true := by
      intro o p ho
      refine hf x ?_
      unfold conv1 at ho
      split at ho
      · rename_i he; rw [he]; rfl
      · cases ho
      · rename_i c h1 h2 he
        rw [he]
        cases c <;> first | rfl | exact absurd rfl h2
      · rename_i he; rw [he]; rfl
      · rename_i he; rw [he]; rfl
      · cases ho
    simp only [convL] at h
    simp only [okL]
    split at h
    · rename_i o ho
      rw [hx _ _ ho]
      split at h
      · rename_i os1 F2 hrec; exact ih _ _ _ _ _ hf hrec
      · cases h
    · rename_i o p ho
      rw [hx _ _ ho]
      split at h
      · rename_i os1 F2 hrec
        refine ih _ _ _ _ _ (fun y hy => hf y ?_) hrec
        exact tr_ok _ _ hy
      · cases h
    · cases h

theorem box_made (hF : FR F σ w (valT a)) (hd : Dom F σ []) {kn : Bool} {d : Nat} {e : TypeId} {x : Operand} {F' : Fr} (h : boxW std kn (F.clear std (rid d 0 0)) d x = some F') {o : Oper} (ho : o.op = .box e x) :
    ∃ v w' σ', Made P F σ w a d (execOp a.eval o) F' v w' σ' := by
  obtain ⟨σ1, hF1, hd1, hb1, hg1⟩ := hF.clear hd (rid d 0 0)
  unfold boxW at h
  split at h
  · rename_i as has
    split at h
    · rename_i os F2 hconv
      simp at h
      subst h
      have hok := convL_ok _ _ _ _ _ _ (fun _ h => h) hconv
      obtain ⟨hl, hv⟩ := tv_cells (ev_sound hF1 x) has hok
      obtain ⟨hlen, σ2, pend, hc⟩ := convL_sound (goal_qAt (rid d 0 0) [] 0) as 0 _ _ σ1 [] (a.eval x).cells.toList os F2 hconv hF1 hd1 (by simp) (fun k _ _ => by
        rintro g y hy ⟨h1, s, h2⟩
        exact hb1 g y hy ⟨h1, y.p.2, rfl⟩) hv
      have hrep : RepO (w.alloc (.cells (a.eval x).cells e)) (sigN σ2 w.heap.size ⟨(rid d 0 0, []), 0, 0, 0⟩) (rid d 0 0, []) (.obx os) (.pointer (some ⟨w.heap.size, 0, none⟩)) := by
        refine .obx _ os w.heap.size e (a.eval x).cells (fun j => ((a.eval x).cells[j]?).getD undef) 0 0 0 (heap_alloc_new w _) (by rw [hl, hlen]) (by simp [sigN]) ?_ ?_
        · intro j o hj
          obtain ⟨u, h1, _⟩ := hc.rep j o hj
          simp at h1
          simp [h1]
        · intro j o hj
          obtain ⟨u, h1, h2⟩ := hc.rep j o hj
          simp at h1
          simp only [h1, Option.getD_some]
          have := h2.grow (σ' := sigN σ2 w.heap.size ⟨(rid d 0 0, []), 0, 0, 0⟩) (below_alloc' w (.cells (a.eval x).cells e)) (fun g hg => sigN_lt hg)
          simpa [qAt] using this
      obtain ⟨h1, h2, h3⟩ := newRoot hc.fr hc.dom (by rw [hc.tbl]; exact clear_look) (a.eval x).cells e ⟨(rid d 0 0, []), 0, 0, 0⟩ rfl (o := .obx os) (v := .pointer (some ⟨w.heap.size, 0, none⟩)) (by
        intro q' o' hm
        rcases hc.pnd q' o' hm with h | ⟨k, h4, h5⟩
        · cases h
        · subst h5
          refine ⟨rfl, by simp [qAt], ?_⟩
          simp [qAt, O.at, nth_eq, h4]) trivial hrep
      refine ⟨.pointer (some ⟨w.heap.size, 0, none⟩), _, _, ?_, ?_, h2, (hg1.trans hc.goes).trans h3, ?_⟩
      · simp only [execOp, ho]
        simp only [Instr.box, newVar, newRow, Sem.run_bind, Sem.run_pure]
        rfl
      · refine h1.put ?_
        have := RepA.pp (w := w.alloc (.cells (a.eval x).cells e)) (σ := sigN σ2 w.heap.size ⟨(rid d 0 0, []), 0, 0, 0⟩) (rid d 0 0, []) 0 0 w.heap.size 0 0 0 (by simp [sigN])
        exact this
      · show F2.n = F.n
        rw [hc.n, clear_n]
    · cases h
  · cases h
end
end Go.Proofs.Ytlmejcmnmdleaaa.Ai
