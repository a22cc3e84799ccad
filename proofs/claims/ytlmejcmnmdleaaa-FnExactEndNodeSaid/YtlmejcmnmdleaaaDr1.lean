/- Operations that add alone: what they do hangs on what they read, and on nothing else. -/
import Derived.Test.YtlmejcmnmdleaaaEx1
namespace Go.Proofs.Ytlmejcmnmdleaaa.Ai
open Go Go.RowKit
set_option linter.unusedSectionVars false
set_option linter.unusedSimpArgs false

def opdT : Operand → List Nat
  | .tmp t => [t]
  | _ => []
def opdsT : List Operand → List Nat
  | [] => []
  | x :: r => opdT x ++ opdsT r
def optT : Option Operand → List Nat
  | none => []
  | some x => opdT x
def partsT : List (Nat × Operand) → List Nat
  | [] => []
  | (_, x) :: r => opdT x ++ partsT r
/-- The temporaries that an operation reads. -/
def opL : Op → List Nat
  | .move x | .unOp _ _ x | .load _ x | .fieldAddr _ x _ | .field _ x _ | .convert _ _ x | .extract x _ => opdT x
  | .pick c a b => opdT c ++ (opdT a ++ opdT b)
  | .binOp _ _ x y _ | .indexAddr _ x y | .index _ x y => opdT x ++ opdT y
  | .assign x => opdT x
  | .slice _ x lo hi mx => opdT x ++ (optT lo ++ (optT hi ++ optT mx))
  | .makeFunc _ _ ⟨caps⟩ => opdsT caps
  | .build _ ⟨parts⟩ => partsT parts
  | .call ⟨.value f, ⟨args⟩, _⟩ => opdT f ++ opdsT args
  | .call ⟨.builtin _, ⟨args⟩, _⟩ => opdsT args
  | _ => []

structure Agree (F G : Fr) (X : List Nat) : Prop where
  tm : ∀ t ∈ X, look unT G.tm t = look unT F.tm t
  tb : ∀ t ∈ X, ∀ id ∈ (look unT F.tm t).ids, look .un G.tb id = look .un F.tb id
theorem Agree.mono {F G : Fr} {X Y : List Nat} (h : Agree F G X) (hs : ∀ t ∈ Y, t ∈ X) : Agree F G Y := ⟨fun t ht => h.tm t (hs t ht), fun t ht => h.tb t (hs t ht)⟩
/-- The roots of a value read alike. -/
def Alike (F G : Fr) (ids : List Nat) : Prop := ∀ id ∈ ids, look .un G.tb id = look .un F.tb id
section
variable {M : Ops} {T : Nat → Option Ty} {F G : Fr}
theorem constA_ids (v : Value) : (constA v).ids = [] := by
  unfold constA
  split <;> rfl
theorem idsL_nil {l : List A} (h : ∀ x ∈ l, x.ids = []) : A.idsL l = [] := by
  induction l with
  | nil => rfl
  | cons a r ih => simp only [A.idsL, h a List.mem_cons_self, ih (fun x hx => h x (List.mem_cons_of_mem _ hx)), List.append_nil]
theorem constT_ids (v : Value) : (constT v).ids = [] := by
  unfold constT
  split
  · simp only [TV.ids]
    exact idsL_nil (by intro x hx; obtain ⟨y, _, rfl⟩ := List.mem_map.1 hx; exact constA_ids y)
  · rfl
  · simp only [TV.ids, A.idsL, constA_ids, List.append_nil]
theorem ev_ag {X : List Nat} (h : Agree F G X) {x : Operand} (hx : ∀ t ∈ opdT x, t ∈ X) : ev G x = ev F x ∧ Alike F G (ev F x).ids := by
  cases x with
  | tmp t => exact ⟨h.tm t (hx t (by simp [opdT])), h.tb t (hx t (by simp [opdT]))⟩
  | const v => exact ⟨rfl, by show Alike F G (constT v).ids; rw [constT_ids]; intro id hid; cases hid⟩
  | func f => exact ⟨rfl, by intro id hid; simp [ev, TV.ids, A.idsL, A.ids] at hid⟩
  | global g => exact ⟨rfl, by intro id hid; simp [ev, unT, TV.ids, A.idsL, A.ids] at hid⟩
theorem one_ids {x : TV A} {id : Nat} (h : id ∈ (one x).ids) : id ∈ x.ids := by
  unfold one at h
  split at h
  · simpa [TV.ids, A.idsL] using h
  · simp [A.ids] at h
theorem ev1_ag {X : List Nat} (h : Agree F G X) {x : Operand} (hx : ∀ t ∈ opdT x, t ∈ X) : ev1 G x = ev1 F x ∧ Alike F G (ev1 F x).ids := by
  obtain ⟨h1, h2⟩ := ev_ag h hx
  exact ⟨by unfold ev1; rw [h1], fun id hid => h2 id (one_ids hid)⟩
theorem at_ag {p : Path} (h : look .un G.tb p.1 = look .un F.tb p.1) : G.at M p = F.at M p := by unfold Fr.at; rw [h]
theorem cellsAt_ag {n : Nat} {x : A} (h : Alike F G x.ids) : cellsAt M G n x = cellsAt M F n x := by
  cases x with
  | pp p i j => simp only [cellsAt, at_ag (M := M) (h p.1 (by simp [A.ids]))]
  | fz c => cases c <;> (unfold cellsAt; rfl)
  | _ => rfl
theorem elemsC_ag {x : A} (h : Alike F G x.ids) : elemsC M G x = elemsC M F x := by
  cases x with
  | rf p off len => simp only [elemsC, at_ag (M := M) (h p.1 (by simp [A.ids]))]
  | fz c => cases c <;> (unfold elemsC; rfl)
  | _ => rfl
theorem elemOk_ag {n : Nat} {x : A} (h : Alike F G x.ids) : elemOk M G n x = elemOk M F n x := by
  cases x with
  | pp p i j => simp only [elemOk, at_ag (M := M) (h p.1 (by simp [A.ids]))]
  | fz c => cases c <;> (unfold elemOk; rfl)
  | _ => rfl
theorem sliceA_ag {n : Nat} {x : A} {lo hi mx : Option A} (h : Alike F G x.ids) : sliceA M G n x lo hi mx = sliceA M F n x lo hi mx := by
  cases x with
  | rf p off len => simp only [sliceA, at_ag (M := M) (h p.1 (by simp [A.ids]))]
  | fz c => cases c <;> (unfold sliceA; rfl)
  | _ => rfl
theorem alike_idsL {l : List A} (h : Alike F G (A.idsL l)) {x : A} (hx : x ∈ l) : Alike F G x.ids := by
  intro id hid
  obtain ⟨j, hj⟩ := List.mem_iff_getElem?.1 hx
  exact h id (@idsL_get noFence _ _ _ hj _ hid)
mutual
theorem frzA_ag : (x : A) → Alike F G x.ids → frzA M G x = frzA M F x
  | .un, _ | .ud, _ | .fz _, _ => rfl
  | .rf p off len, h => by simp only [frzA, at_ag (M := M) (h p.1 (by simp [A.ids]))]
  | .pp p i j, h => by simp only [frzA, at_ag (M := M) (h p.1 (by simp [A.ids]))]
  | .clo f caps, h => by simp only [frzA, frzAL_ag caps (by simpa [A.ids] using h)]
theorem frzAL_ag : (l : List A) → Alike F G (A.idsL l) → frzAL M G l = frzAL M F l
  | [], _ => rfl
  | x :: r, h => by
    simp only [A.idsL] at h
    simp only [frzAL, frzA_ag x (fun id hid => h id (by simp [hid])), frzAL_ag r (fun id hid => h id (by simp [hid]))]
end
theorem frzV_ag {x : TV A} (h : Alike F G x.ids) : frzV M G x = frzV M F x := by
  cases x with
  | v x =>
    obtain ⟨g, as⟩ := x
    simp only [frzV, frzAL_ag as h]
  | tup xs => rfl
theorem opdsT_sub {x : Operand} {r : List Operand} {X : List Nat} (h : ∀ t ∈ opdsT (x :: r), t ∈ X) : (∀ t ∈ opdT x, t ∈ X) ∧ ∀ t ∈ opdsT r, t ∈ X :=
  ⟨fun t ht => h t (by simp [opdsT, ht]), fun t ht => h t (by simp [opdsT, ht])⟩
theorem argsC_ag {X : List Nat} (h : Agree F G X) : ∀ (l : List Operand), (∀ t ∈ opdsT l, t ∈ X) → argsC M G l = argsC M F l ∧ lend G l = lend F l ∧ evC G l = evC F l ∧ ev1L G l = ev1L F l
  | [], _ => ⟨rfl, rfl, rfl, rfl⟩
  | x :: r, hx => by
    obtain ⟨h1, h2⟩ := opdsT_sub hx
    obtain ⟨h3, h4, h5, h6⟩ := argsC_ag h r h2
    obtain ⟨h7, h8⟩ := ev_ag h h1
    simp only [argsC, lend, evC, ev1L, h3, h4, h5, h6, h7, (ev1_ag h h1).1, frzV_ag h8, and_self]
theorem callee_ag {X : List Nat} (h : Agree F G X) {f : Operand} (hx : ∀ t ∈ opdT f, t ∈ X) : callee M G f = callee M F f := by
  obtain ⟨h1, h2⟩ := ev1_ag h hx
  unfold callee
  rw [h1]
  split
  · rfl
  · rename_i g caps he
    rw [he] at h2
    rw [frzAL_ag caps (by simpa [A.ids] using h2)]
  · rfl
theorem buildA_ag {X : List Nat} (h : Agree F G X) {fs : List (Nat × Nat × Bool)} : ∀ (l : List (Nat × Operand)) (as : List A), (∀ t ∈ partsT l, t ∈ X) → buildA G fs as l = buildA F fs as l
  | [], as, _ => rfl
  | (i, x) :: r, as, hx => by
    have h1 := (ev_ag h (x := x) (fun t ht => hx t (by simp [partsT, ht]))).1
    have ih := fun as => buildA_ag h (fs := fs) r as (fun t ht => hx t (by simp [partsT, ht]))
    simp only [buildA, h1]
    split
    · split
      · split
        · split
          · exact ih _
          · rfl
        · rfl
      · rfl
    · rfl
theorem ev1O_ag {X : List Nat} (h : Agree F G X) {x : Option Operand} (hx : ∀ t ∈ optT x, t ∈ X) : ev1O G x = ev1O F x := by
  cases x with
  | none => rfl
  | some y => simp only [ev1O, (ev1_ag h (x := y) hx).1]
theorem qop_ag {op : Op} (h : Agree F G (opL op)) : qop M T G op = qop M T F op := by
  cases op with
  | move x => simp only [qop, (ev_ag h (x := x) (by intro t ht; simpa [opL] using ht)).1]
  | pick c a b =>
    simp only [qop, (ev1_ag h (x := c) (by intro t ht; simp [opL, ht])).1, (ev_ag h (x := a) (by intro t ht; simp [opL, ht])).1, (ev_ag h (x := b) (by intro t ht; simp [opL, ht])).1]
  | binOp op t x y t' => simp only [qop, (ev1_ag h (x := x) (by intro t ht; simp [opL, ht])).1, (ev1_ag h (x := y) (by intro t ht; simp [opL, ht])).1]
  | unOp op t x => simp only [qop, (ev1_ag h (x := x) (by intro t ht; simpa [opL] using ht)).1]
  | load t x =>
    obtain ⟨h1, h2⟩ := ev1_ag h (x := x) (by intro t ht; simpa [opL] using ht)
    simp only [qop, h1, cellsAt_ag h2]
  | fieldAddr t x f => simp only [qop, (ev1_ag h (x := x) (by intro t ht; simpa [opL] using ht)).1]
  | field t x f => simp only [qop, (ev_ag h (x := x) (by intro t ht; simpa [opL] using ht)).1]
  | indexAddr t x i =>
    obtain ⟨h1, h2⟩ := ev1_ag h (x := x) (by intro t ht; simp [opL, ht])
    have h3 := (ev1_ag h (x := i) (by intro t ht; simp [opL, ht])).1
    have key : ∀ a, indexA M (ev1 F x) (ev1 F i) = some a → Alike F G a.ids := by
      intro a ha
      unfold indexA at ha
      split at ha
      · split at ha
        · rename_i p off len he
          split at ha
          · injection ha with ha
            subst ha
            rw [he] at h2
            exact h2
          · cases ha
        · split at ha
          · split at ha
            · injection ha with ha; subst ha; intro id hid; simp [A.ids] at hid
            · cases ha
          · cases ha
        · cases ha
      · cases ha
    simp only [qop, h1, h3]
    split
    · split
      · split
        · rename_i a ha
          rw [elemOk_ag (key a ha)]
        · rfl
      · rfl
    · rfl
  | index t x i => simp only [qop, (ev1_ag h (x := x) (by intro t ht; simp [opL, ht])).1, (ev1_ag h (x := i) (by intro t ht; simp [opL, ht])).1]
  | slice t x lo hi mx =>
    obtain ⟨h1, h2⟩ := ev1_ag h (x := x) (by intro t ht; simp [opL, ht])
    simp only [qop, h1, sliceA_ag h2, ev1O_ag h (x := lo) (by intro t ht; simp [opL, ht]), ev1O_ag h (x := hi) (by intro t ht; simp [opL, ht]), ev1O_ag h (x := mx) (by intro t ht; simp [opL, ht])]
  | convert s t x =>
    obtain ⟨h1, h2⟩ := ev1_ag h (x := x) (by intro t ht; simpa [opL] using ht)
    simp only [qop, h1, elemsC_ag h2]
  | extract x i => simp only [qop, (ev_ag h (x := x) (by intro t ht; simpa [opL] using ht)).1]
  | makeFunc fn first caps =>
    obtain ⟨l⟩ := caps
    have := (argsC_ag (M := M) h l (by intro t ht; simpa [opL] using ht)).2.2.2
    cases fn with
    | func f =>
      obtain ⟨fl⟩ := first
      cases fl with
      | nil => simp only [qop, this]
      | cons _ _ => rfl
    | _ => rfl
  | build t parts =>
    obtain ⟨l⟩ := parts
    have hb := fun as fs => buildA_ag h (fs := fs) l as (by intro t ht; simpa [opL] using ht)
    simp only [qop, hb]
  | call c =>
    obtain ⟨cal, ⟨args⟩, ⟨ts⟩⟩ := c
    cases cal with
    | builtin bi =>
      obtain ⟨_, _, h3, _⟩ := argsC_ag (M := M) h args (by intro t ht; simpa [opL] using ht)
      cases bi with
      | max => simp only [qop, mxOp, h3]
      | min => simp only [qop, mxOp, h3]
      | len =>
        match args, ts with
        | [x], [t] => simp only [qop, (ev1_ag h (x := x) (by intro t ht; simp [opL, opdsT, ht])).1]
        | [], _ => rfl
        | _ :: _ :: _, _ => rfl
        | [_], [] => rfl
        | [_], _ :: _ :: _ => rfl
      | cap =>
        match args, ts with
        | [x], [t] => simp only [qop, (ev1_ag h (x := x) (by intro t ht; simp [opL, opdsT, ht])).1]
        | [], _ => rfl
        | _ :: _ :: _, _ => rfl
        | [_], [] => rfl
        | [_], _ :: _ :: _ => rfl
      | _ => rfl
    | _ => rfl
  | _ => rfl
end

/-- An operation that adds: its slot, the roots and the value. -/
abbrev It := Nat × List (Nat × O) × TV A
def Fr.ap (F : Fr) (it : It) : Fr := (F.adds it.2.1).put it.1 it.2.2
/-- A value that is assigned without further ado. -/
def simT : TV A → Bool
  | .v (false, [.fz .nilsl]) => false
  | .v (false, [.fz _]) => true
  | _ => false
def aopS (M : Ops) (T : Nat → Option Ty) (kn : Bool) (ora : Ora) (F : Fr) (o : Oper) : Option It :=
  match o.dst with
  | none => none
  | some d => match nlt d F.n with
    | true => (match o.op with
      | .call ⟨.value f, ⟨args⟩, _⟩ => (match callee M F f, argsC M F args with
        | some (g, caps), some as => (match askO ora g (as ++ capsV caps) with
          | some r => (match r.fits with
            | true => (match lend F (f :: args) with
              | true => some (d, rootsT d r, impT M d r)
              | false => (match r.cleanM M with
                | true => some (d, rootsT d r, impT M d r)
                | false => none))
            | false => none)
          | none => none)
        | _, _ => none)
      | .alloc e => (match T e with
        | some ty => (match noUnL ty.zero with
          | true => some (d, [(rid d 0 0, .obx (zeroO kn ty.zero))], ppV (rid d 0 0))
          | false => none)
        | none => none)
      | .assign x => (match simT (ev F x) with
        | true => some (d, [], ev F x)
        | false => none)
      | op => (match qop M T F op with
        | some (.val x) => some (d, [], x)
        | _ => none))
    | false => none
theorem clears_id {M : Ops} : ∀ (l : List (Nat × O)) (F : Fr), (∀ id o, (id, o) ∈ l → has F.tb id = false) → F.clears M l = F := by
  intro l
  induction l with
  | nil => intro F _; rfl
  | cons x l ih =>
    obtain ⟨id, o⟩ := x
    intro F h
    have h1 : F.clear M id = F := by unfold Fr.clear; rw [h id o List.mem_cons_self]
    simp only [Fr.clears, h1]
    exact ih F (fun id o hm => h id o (List.mem_cons_of_mem _ hm))
theorem clear_id {M : Ops} {F : Fr} {id : Nat} (h : has F.tb id = false) : F.clear M id = F := by unfold Fr.clear; rw [h]
theorem aopS_opS {M : Ops} {T : Nat → Option Ty} {kn : Bool} {ora : Ora} {F : Fr} {o : Oper} {it : It} (h : aopS M T kn ora F o = some it) (hf : ∀ id o', (id, o') ∈ it.2.1 → has F.tb id = false) :
    opS M T kn ora F o = some (F.ap it) ∧ o.dst = some it.1 := by
  unfold aopS at h
  unfold opS
  split at h
  · cases h
  · rename_i d hd
    split at h
    · rename_i hlt
      simp only [hd, hlt]
      split at h
      · rename_i f args ts hop
        simp only [hop]
        split at h
        · rename_i g caps as hc ha
          split at h
          · rename_i r hr
            split at h
            · rename_i hfit
              have key : it = (d, rootsT d r, impT M d r) → F.import M d r = some (F.ap it) := by
                rintro rfl
                unfold Fr.import
                rw [hfit]
                simp only [Fr.ap, clears_id _ _ hf]
              unfold callW
              simp only [hc, ha, hr]
              split at h
              · rename_i hl
                injection h with h
                simp only [hl, key h.symm]
                subst h
                exact ⟨trivial, rfl⟩
              · rename_i hl
                split at h
                · rename_i hcl
                  injection h with h
                  simp only [hl, hcl, key h.symm]
                  subst h
                  exact ⟨trivial, rfl⟩
                · cases h
            · cases h
          · cases h
        · cases h
      · rename_i e hop
        simp only [hop, wop]
        split at h
        · rename_i ty ht
          split at h
          · rename_i hn
            injection h with h
            subst h
            simp only [ht, hn, clear_id (M := M) (hf (rid d 0 0) (.obx (zeroO kn ty.zero)) (by simp))]
            exact ⟨rfl, trivial⟩
          · cases h
        · cases h
      · rename_i x hop
        simp only [hop, wop]
        split at h
        · rename_i hs
          injection h with h
          subst h
          have : asgA M kn F d (ev F x) = some (F.put d (ev F x)) := by
            generalize ev F x = y at hs ⊢
            unfold simT at hs
            split at hs
            · cases hs
            · rename_i c hc
              cases c <;> first | rfl | exact (hc rfl).elim
            · cases hs
          rw [this]
          exact ⟨rfl, rfl⟩
        · cases h
      · rename_i op h1 h2 h3
        split at h
        · rename_i x hq
          injection h with h
          subst h
          have hw : wop M T kn F d o.op = putQO M F d (qop M T F o.op) := by
            generalize o.op = op' at hq h2 ⊢
            unfold wop
            split <;> first | rfl | (simp [qop] at hq; done) | exact absurd rfl (h2 _) | exact absurd rfl (h3 _)
          have hc : ∀ f args ts, o.op = .call ⟨.value f, ⟨args⟩, ts⟩ → False := fun f args ts he => h1 f args ts he
          refine ⟨?_, rfl⟩
          split
          · rename_i f args ts he; exact (hc _ _ _ he).elim
          · rw [hw, hq]; rfl
        · cases h
    · cases h
theorem aopS_ag {M : Ops} {T : Nat → Option Ty} {kn : Bool} {ora : Ora} {F G : Fr} {o : Oper} (hn : G.n = F.n) (h : Agree F G (opL o.op)) : aopS M T kn ora G o = aopS M T kn ora F o := by
  unfold aopS
  rw [hn]
  split
  · rfl
  · split
    · split
      · rename_i f args ts hop
        rw [hop] at h
        have hf : ∀ t ∈ opdT f, t ∈ opL (.call ⟨.value f, ⟨args⟩, ts⟩) := by intro t ht; simp [opL, ht]
        obtain ⟨h1, h2, _, _⟩ := argsC_ag (M := M) h args (by intro t ht; simp [opL, ht])
        have h3 : lend G (f :: args) = lend F (f :: args) := by simp only [lend, (ev_ag h hf).1, h2]
        rw [callee_ag h hf, h1, h3]
      · rfl
      · rename_i x hop
        rw [hop] at h
        rw [(ev_ag h (x := x) (by intro t ht; simpa [opL] using ht)).1]
      · rw [qop_ag h]
    · rfl
end Go.Proofs.Ytlmejcmnmdleaaa.Ai
