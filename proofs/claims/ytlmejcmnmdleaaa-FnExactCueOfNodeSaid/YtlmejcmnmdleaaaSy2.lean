/- Symbolic runs, part 2: the frame, places, values; each is the interpreter's own step. -/
import Derived.Test.YtlmejcmnmdleaaaSy1
namespace Go.Proofs.Ytlmejcmnmdleaaa.Ai
open Go
set_option linter.unusedSectionVars false
set_option linter.unusedSimpArgs false

/-- A result under conditions. -/
abbrev R (α : Type) := Option (List Prop × α)
def catP : List Prop → List Prop → List Prop
  | [], r => r
  | p :: l, r => p :: catP l r
def R.ok {α : Type} (a : α) : R α := some ([], a)
def R.bd {α β : Type} (x : R α) (f : α → R β) : R β := match x with
  | none => none
  | some (ps, a) => match f a with
    | none => none
    | some (qs, b) => some (catP ps qs, b)
def R.req {α : Type} (ps : List Prop) (x : R α) : R α := match x with
  | none => none
  | some (qs, b) => some (catP ps qs, b)
def Holds (ps : List Prop) : Prop := ∀ p ∈ ps, p
def R.Sim {α : Type} (x : R α) (Q : α → Prop) : Prop := ∀ ps a, x = some (ps, a) → Holds ps → Q a
theorem catP_eq (l r : List Prop) : catP l r = l ++ r := by induction l with | nil => rfl | cons a l ih => simp [catP, ih]
theorem R.Sim.ok {α : Type} {a : α} {Q : α → Prop} (h : Q a) : (R.ok a).Sim Q := by intro ps b hb _; injection hb with hb; injection hb with _ hb; subst hb; exact h
theorem R.Sim.none' {α : Type} {Q : α → Prop} : R.Sim (none : R α) Q := by intro ps b hb; cases hb
theorem R.Sim.bd {α β : Type} {x : R α} {f : α → R β} {P : α → Prop} {Q : β → Prop} (h : x.Sim P) (hf : ∀ a, P a → (f a).Sim Q) : (x.bd f).Sim Q := by
  intro ps b hb hp
  unfold R.bd at hb
  split at hb
  · cases hb
  · rename_i ps' a
    split at hb
    · cases hb
    · rename_i qs b' hfa
      injection hb with hb
      injection hb with h1 h2
      subst h1 h2
      rw [catP_eq] at hp
      exact hf a (h ps' a rfl (fun p hm => hp p (List.mem_append.2 (.inl hm)))) qs _ hfa (fun p hm => hp p (List.mem_append.2 (.inr hm)))
theorem R.Sim.req {α : Type} {ps : List Prop} {x : R α} {Q : α → Prop} (h : Holds ps → x.Sim Q) : (R.req ps x).Sim Q := by
  intro ps' b hb hp
  unfold R.req at hb
  split at hb
  · cases hb
  · rename_i qs b'
    injection hb with hb
    injection hb with h1 h2
    subst h1 h2
    rw [catP_eq] at hp
    exact h (fun p hm => hp p (List.mem_append.2 (.inl hm))) qs _ rfl (fun p hm => hp p (List.mem_append.2 (.inr hm)))
theorem R.Sim.mono {α : Type} {x : R α} {P Q : α → Prop} (h : x.Sim P) (hq : ∀ a, P a → Q a) : x.Sim Q := fun ps a hx hp => hq a (h ps a hx hp)
theorem Holds.one {p : Prop} (h : Holds [p]) : p := h p (by simp)
theorem Holds.two {p q : Prop} (h : Holds [p, q]) : p ∧ q := ⟨h p (by simp), h q (by simp)⟩
theorem Holds.three {p q r : Prop} (h : Holds [p, q, r]) : p ∧ q ∧ r := ⟨h p (by simp), h q (by simp), h r (by simp)⟩

structure SF where
  n : Nat
  tm : List (Nat × TV B)
  tb : List (Nat × W)
def unB : TV B := .v (false, [.un])
def v1er {α β : Type} (f : List α → List β) (x : V1 α) : V1 β := (x.1, f x.2)
def vserL {α β : Type} (f : List α → List β) : List (V1 α) → List (V1 β)
  | [] => []
  | x :: r => v1er f x :: vserL f r
def TV.er {α β : Type} (f : List α → List β) : TV α → TV β
  | .v x => .v (v1er f x)
  | .tup xs => .tup (vserL f xs)
def tmEr : List (Nat × TV B) → List (Nat × TV A)
  | [] => []
  | (t, x) :: r => (t, x.er B.erL) :: tmEr r
def tbEr : List (Nat × W) → List (Nat × O)
  | [] => []
  | (t, x) :: r => (t, x.er) :: tbEr r
def SF.er (F : SF) : Fr := ⟨F.n, tmEr F.tm, tbEr F.tb⟩
theorem look_tm (l : List (Nat × TV B)) (t : Nat) : look unT (tmEr l) t = (look unB l t).er B.erL := by
  induction l with
  | nil => rfl
  | cons x l ih => obtain ⟨k, v⟩ := x; simp only [tmEr, look]; cases nq k t <;> simp [ih]
theorem look_tb (l : List (Nat × W)) (t : Nat) : look .un (tbEr l) t = (look .un l t).er := by
  induction l with
  | nil => rfl
  | cons x l ih => obtain ⟨k, v⟩ := x; simp only [tbEr, look]; cases nq k t <;> simp [ih]
theorem has_tb (l : List (Nat × W)) (t : Nat) : has (tbEr l) t = has l t := by
  induction l with
  | nil => rfl
  | cons x l ih => obtain ⟨k, v⟩ := x; simp only [tbEr, has, ih]
theorem del_tb (l : List (Nat × W)) (t : Nat) : del (tbEr l) t = tbEr (del l t) := by
  induction l with
  | nil => rfl
  | cons x l ih => obtain ⟨k, v⟩ := x; simp only [tbEr, del, ih]; cases nq k t <;> rfl

/-! ### places -/
theorem nth_er {l : List W} {j : Nat} : (l.map W.er)[j]? = (l[j]?).map W.er := by simp
theorem LL.set1_ro {x y : LL} {n j : Nat} {c : W} (h : x.set1 stdB n j c = some y) (hn : n < x.len stdB) : ∃ cs : List O, x.ro[n]? = some cs ∧ j < cs.length ∧ y.ro = x.ro.set n (cs.set j c.er) := by
  have key : ∀ {α : Type} (l : List α) (f : α → List O) (d a : α) (cs' : List O), n < l.length → f a = cs' → (l.set n a).map f = (l.map f).set n cs' := by
    intro α l f d a cs' _ he; rw [List.map_set, he]
  unfold LL.set1 at h
  split at h
  case h_9 o l =>
    split at h <;> first | (cases h; done) | (
      simp only [Option.some.injEq] at h
      subst h
      simp only [LL.len, stdB] at hn
      simp only [LL.ro, holeAt, stdB, modL]
      refine ⟨_, by rw [List.getElem?_map, List.getElem?_eq_getElem hn]; rfl, by simp [Node.ro], ?_⟩
      first
        | (rw [List.map_set]; simp [Node.ro, hn, List.getD_eq_getElem?_getD, W.er, D.er, subO, LL.ro, LL.rc]; done)
        | (apply List.ext_getElem?; intro i; simp only [List.getElem?_modify, List.getElem?_set, List.getElem?_map, List.length_map]; by_cases e : n = i
           · subst e; simp [hn, W.er]
           · simp [e]))
  case h_10 o l =>
    split at h <;> first | (cases h; done) | (
      simp only [Option.some.injEq] at h
      subst h
      simp only [LL.len, stdB] at hn
      simp only [LL.ro, holeAt, stdB, modL]
      refine ⟨_, by rw [List.getElem?_map, List.getElem?_eq_getElem hn]; rfl, by simp, ?_⟩
      first
        | (rw [List.map_set]; simp [hn, List.getD_eq_getElem?_getD, W.er, D.er, subO, LL.ro, LL.rc]; done)
        | (apply List.ext_getElem?; intro i; simp only [List.getElem?_modify, List.getElem?_set, List.getElem?_map, List.length_map]; by_cases e : n = i
           · subst e; simp [hn, W.er]
           · simp [e]))
  case h_11 => cases h
  all_goals
    split at h <;> first | (cases h; done) | (
      simp only [Option.some.injEq] at h
      subst h
      simp only [LL.len, stdB] at hn
      simp only [LL.ro, roI, stdB, modL]
      refine ⟨_, by rw [List.getElem?_map, List.getElem?_eq_getElem hn]; rfl, by simp [Cue.rc, Tie.rc, Edge.rc, Link.rc], ?_⟩
      rw [List.map_set]
      simp [hn, List.getD_eq_getElem?_getD, W.er, D.er, Cue.rc, Tie.rc, Edge.rc, Link.rc])
theorem LL.back_ro {x y : LL} {n j : Nat} {c : W} {ps : List Prop} (h : x.back stdB n j c = some (ps, y)) (hp : Holds ps) (hn : n < x.len stdB) : ∃ cs : List O, x.ro[n]? = some cs ∧ j < cs.length ∧ y.ro = x.ro.set n (cs.set j c.er) := by
  have hI : ∀ a, intsW c = some a → c.er = .osl (roI a) := by
    intro a ha
    unfold intsW at ha
    split at ha <;> first | (simp only [Option.some.injEq] at ha; subst ha; rfl) | cases ha
  unfold LL.back at h
  split at h
  · rename_i m l
    split at h
    · split at h
      · rename_i a
        injection h with h
        injection h with h1 h2
        subst h1 h2
        simp only [LL.len, stdB] at hn
        refine ⟨_, by simp only [LL.ro, holeAt, List.getElem?_modify, List.getElem?_map, List.getElem?_eq_getElem hn]; rfl, by by_cases e : m = n <;> simp [e, Node.ro], ?_⟩
        simp only [LL.ro, holeAt, stdB]
        apply List.ext_getElem?
        intro i
        simp only [List.getElem?_modify, List.getElem?_set, List.getElem?_map, List.length_map, List.length_modify, List.length_set]
        by_cases e : n = i
        · subst e; by_cases e2 : m = n <;> simp [hn, e2, Node.ro, List.getD_eq_getElem?_getD, W.er, D.er]
        · by_cases e2 : m = i <;> simp [e, e2]
      · cases h
    · split at h
      · rename_i a ha
        injection h with h
        injection h with h1 h2
        subst h1 h2
        have e : n = m := hp.one
        subst e
        simp only [LL.len, stdB] at hn
        refine ⟨_, by simp only [LL.ro, holeAt, List.getElem?_modify, List.getElem?_map, List.getElem?_eq_getElem hn]; simp; rfl, by simp [Node.ro], ?_⟩
        rw [hI a ha]
        simp only [LL.ro, holeAt, stdB]
        apply List.ext_getElem?
        intro i
        simp only [List.getElem?_modify, List.getElem?_set, List.getElem?_map, List.length_map, List.length_modify, List.length_set]
        by_cases e : n = i
        · subst e; simp [hn, Node.ro, subO, List.getD_eq_getElem?_getD]
        · simp [e]
      · cases h
    · split at h
      · rename_i a
        injection h with h
        injection h with h1 h2
        subst h1 h2
        simp only [LL.len, stdB] at hn
        refine ⟨_, by simp only [LL.ro, holeAt, List.getElem?_modify, List.getElem?_map, List.getElem?_eq_getElem hn]; rfl, by by_cases e : m = n <;> simp [e, Node.ro], ?_⟩
        simp only [LL.ro, holeAt, stdB]
        apply List.ext_getElem?
        intro i
        simp only [List.getElem?_modify, List.getElem?_set, List.getElem?_map, List.length_map, List.length_modify, List.length_set]
        by_cases e : n = i
        · subst e; by_cases e2 : m = n <;> simp [hn, e2, Node.ro, List.getD_eq_getElem?_getD, W.er, D.er]
        · by_cases e2 : m = i <;> simp [e, e2]
      · cases h
    · cases h
  · rename_i m l
    split at h
    · rename_i a ha
      injection h with h
      injection h with h1 h2
      subst h1 h2
      have e : n = m := hp.one
      subst e
      simp only [LL.len, stdB] at hn
      refine ⟨_, by simp only [LL.ro, holeAt, List.getElem?_modify, List.getElem?_map, List.getElem?_eq_getElem hn]; simp; rfl, by simp, ?_⟩
      rw [hI a ha]
      simp only [LL.ro, holeAt, stdB]
      apply List.ext_getElem?
      intro i
      simp only [List.getElem?_modify, List.getElem?_set, List.getElem?_map, List.length_map, List.length_modify, List.length_set]
      by_cases e : n = i
      · subst e; simp [hn, subO]
      · simp [e]
    · cases h
  · split at h
    · rename_i y' hy
      injection h with h
      injection h with h1 h2
      subst h1 h2
      exact LL.set1_ro hy hn
    · cases h
abbrev SPath := List ((Bool × Nat) × Nat)
def W.atR (M : MB) : W → SPath → R W
  | o, [] => R.ok o
  | .osl x, ((_, i), j) :: s => match x.atJ M i j with
    | some o => R.req [M.pLtN i (x.len M)] (W.atR M o s)
    | none => none
  | .obx cs, ((true, 0), j) :: s => (match nth cs j with | some o => W.atR M o s | none => none)
  | _, _ :: _ => none
theorem W.atR_sim : ∀ (s : SPath) (o : W), (o.atR stdB s).Sim fun w => o.er.at std (ixs s) = w.er
  | [], o => by cases o <;> exact R.Sim.ok rfl
  | ((k, i), j) :: s, o => by
    cases o with
    | osl x =>
      simp only [W.atR]
      cases hc : x.atJ stdB i j with
      | none => exact R.Sim.none'
      | some o' =>
        dsimp only
        refine R.Sim.req fun hp => (W.atR_sim s o').mono fun w hw => ?_
        obtain ⟨cs, h1, h3⟩ := LL.ro_getJ x i j hc hp.one
        show O.at std (.osl x.ro) ((i, j) :: ixs s) = _
        simp only [O.at]
        have h2 : std.oGet x.ro i = some cs := h1
        rw [h2]
        dsimp only
        rw [nth_eq, h3]
        exact hw
    | obx cs =>
      cases k with
      | false => exact R.Sim.none'
      | true =>
        cases i with
        | succ i => exact R.Sim.none'
        | zero =>
          simp only [W.atR]
          cases hj : nth cs j with
          | none => exact R.Sim.none'
          | some o' =>
            refine (W.atR_sim s o').mono fun w hw => ?_
            rw [nth_eq] at hj
            show O.at std (.obx (W.erL cs)) ((0, j) :: ixs s) = _
            simp only [O.at]
            rw [nth_eq, W.erL_eq, nth_er, hj]
            exact hw
    | _ => exact R.Sim.none'
def W.setR (M : MB) : W → SPath → W → R W
  | _, [], n => R.ok n
  | .osl x, ((_, i), j) :: s, n => (match s with
    | [] => R.req [M.pLtN i (x.len M)] (R.bd (x.back M i j n) fun y => R.ok (.osl y))
    | _ :: _ => (match x.atJ M i j with
      | some o => R.req [M.pLtN i (x.len M)] ((W.setR M o s n).bd fun o' => R.bd (x.back M i j o') fun y => R.ok (.osl y))
      | none => none))
  | .obx cs, ((true, 0), j) :: s, n => (match nth cs j with | some o => (W.setR M o s n).bd fun o' => R.ok (.obx (setN cs j o')) | none => none)
  | _, _ :: _, _ => none
theorem back_sim {x : LL} {n j : Nat} {c : W} (hn : n < x.len stdB) : R.Sim (x.back stdB n j c) fun y => ∃ cs : List O, x.ro[n]? = some cs ∧ j < cs.length ∧ y.ro = x.ro.set n (cs.set j c.er) :=
  fun _ _ h hp => LL.back_ro h hp hn
theorem W.setR_sim : ∀ (s : SPath) (o n : W), (o.setR stdB s n).Sim fun w => O.set std o.er (ixs s) n.er = w.er
  | [], o, n => by cases o <;> exact R.Sim.ok (by simp [ixs, O.set])
  | ((k, i), j) :: s, o, n => by
    cases o with
    | osl x =>
      cases s with
      | nil =>
        simp only [W.setR]
        refine R.Sim.req fun hp => R.Sim.bd (back_sim hp.one) fun y ⟨cs, h1, h2, h3⟩ => R.Sim.ok ?_
        show O.set std (.osl x.ro) ((i, j) :: []) n.er = .osl y.ro
        simp only [O.set]
        have h4 : std.oGet x.ro i = some cs := h1
        rw [h4]
        dsimp only
        rw [nth_eq, List.getElem?_eq_getElem h2]
        dsimp only
        rw [h3, setN_eq]
        rfl
      | cons z s =>
        simp only [W.setR]
        cases hc : x.atJ stdB i j with
        | none => exact R.Sim.none'
        | some o' =>
          dsimp only
          refine R.Sim.req fun hp => R.Sim.bd (W.setR_sim (z :: s) o' n) fun o2 ho2 => R.Sim.bd (back_sim hp.one) fun y ⟨cs', h1, h2, h3⟩ => R.Sim.ok ?_
          obtain ⟨cs, h0, hj⟩ := LL.ro_getJ x i j hc hp.one
          rw [h0] at h1
          injection h1 with h1
          subst h1
          show O.set std (.osl x.ro) ((i, j) :: ixs (z :: s)) n.er = .osl y.ro
          simp only [O.set]
          have h4 : std.oGet x.ro i = some cs := h0
          rw [h4]
          dsimp only
          rw [nth_eq, hj]
          dsimp only
          rw [ho2, h3, setN_eq]
          rfl
    | obx cs =>
      cases k with
      | false => exact R.Sim.none'
      | true =>
        cases i with
        | succ i => exact R.Sim.none'
        | zero =>
          simp only [W.setR]
          cases hj : nth cs j with
          | none => exact R.Sim.none'
          | some o' =>
            refine R.Sim.bd (W.setR_sim s o' n) fun o2 ho2 => R.Sim.ok ?_
            rw [nth_eq] at hj
            show O.set std (.obx (W.erL cs)) ((0, j) :: ixs s) n.er = .obx (W.erL (setN cs j o2))
            simp only [O.set]
            rw [nth_eq, W.erL_eq, nth_er, hj]
            dsimp only [Option.map_some]
            rw [ho2, setN_eq, setN_eq, W.erL_eq, List.map_set]
    | _ => exact R.Sim.none'
def SF.atR (M : MB) (F : SF) (p : SP) : R W := (look .un F.tb p.1).atR M p.2
def SF.setR (M : MB) (F : SF) (p : SP) (o : W) : R SF := ((look .un F.tb p.1).setR M p.2 o).bd fun w => R.ok { F with tb := (p.1, w) :: del F.tb p.1 }
theorem SF.atR_sim (F : SF) (p : SP) : (F.atR stdB p).Sim fun w => F.er.at std p.er = w.er := by
  refine (W.atR_sim p.2 _).mono fun w hw => ?_
  unfold Fr.at
  show (look .un (tbEr F.tb) p.1).at std (ixs p.2) = _
  rw [look_tb]
  exact hw
theorem SF.setR_sim (F : SF) (p : SP) (o : W) : (F.setR stdB p o).Sim fun G => F.er.setAt std p.er o.er = G.er := by
  refine R.Sim.bd (W.setR_sim p.2 _ o) fun w hw => R.Sim.ok ?_
  unfold Fr.setAt SF.er
  show Fr.mk F.n (tmEr F.tm) ((p.1, (look .un (tbEr F.tb) p.1).set std (ixs p.2) o.er) :: del (tbEr F.tb) p.1) = _
  rw [look_tb, hw, del_tb]
  rfl

/-! ### what is killed, what moves -/
def preR : SPath → SPath → Option (Option SPath)
  | [], s => some (some s)
  | _ :: _, [] => some none
  | ((k, a), b) :: p, ((k', c), d) :: s => match nq b d with
    | false => some none
    | true => (match k with
      | true => (match k' with
        | true => (match nq a c with | true => preR p s | false => some none)
        | false => none)
      | false => none)
def killR (p x : SP) : Option (Option SP) := match nq x.1 p.1 with
  | true => (match preR p.2 x.2 with
    | some (some _) => some none
    | some none => some (some x)
    | none => none)
  | false => some (some x)
def moveR (p q x : SP) : Option (Option SP) := match nq x.1 p.1 with
  | true => (match preR p.2 x.2 with
    | some (some s) => some (some (q.1, q.2 ++ s))
    | some none => some (some x)
    | none => none)
  | false => some (some x)
theorem ixs_append (l r : SPath) : ixs (l ++ r) = ixs l ++ ixs r := by
  induction l with
  | nil => rfl
  | cons x l ih => obtain ⟨⟨k, i⟩, j⟩ := x; simp [ixs, ih]
theorem pre_cons (a b c d : Nat) (p s : List (Nat × Nat)) : pre std ((a, b) :: p) ((c, d) :: s) = if a = c ∧ b = d then pre std p s else none := by
  have h : (std.nEq a c && std.nEq b d) = decide (a = c ∧ b = d) := by
    show ((a == c) && (b == d)) = _
    by_cases h1 : a = c <;> by_cases h2 : b = d <;> simp [h1, h2]
  simp only [pre, h]
  by_cases h1 : a = c ∧ b = d
  · rw [if_pos h1]; simp [h1]
  · rw [if_neg h1]; simp only [h1, decide_false]
theorem preR_sound : ∀ (p s : SPath) {r : Option SPath}, preR p s = some r → pre std (ixs p) (ixs s) = r.map ixs
  | [], s, r, h => by simp only [preR, Option.some.injEq] at h; subst h; rfl
  | _ :: _, [], r, h => by simp only [preR, Option.some.injEq] at h; subst h; rfl
  | ((k, a), b) :: p, ((k', c), d) :: s, r, h => by
    simp only [preR] at h
    cases hb : nq b d with
    | false =>
      rw [hb] at h
      simp only [Option.some.injEq] at h
      subst h
      have hne : ¬ b = d := fun e => by subst e; simp at hb
      simp [pre_cons, ixs, hne]
    | true =>
      rw [hb] at h
      obtain rfl := Nat.eq_of_beq_eq_true hb
      cases k with
      | false => cases h
      | true =>
        cases k' with
        | false => cases h
        | true =>
          dsimp only at h
          cases hac : nq a c with
          | false =>
            rw [hac] at h
            simp only [Option.some.injEq] at h
            subst h
            have hne : ¬ a = c := fun e => by subst e; simp at hac
            simp [pre_cons, ixs, hne]
          | true =>
            rw [hac] at h
            obtain rfl := Nat.eq_of_beq_eq_true hac
            have := preR_sound p s h
            simpa [pre_cons, ixs] using this
theorem killR_sound {p x : SP} {r : Option SP} (h : killR p x = some r) : killP std p.er x.er = r.map SP.er := by
  unfold killR at h
  unfold killP
  show (match nq x.1 p.1 with | true => (match pre std (ixs p.2) (ixs x.2) with | some _ => none | none => some x.er) | false => some x.er) = _
  split at h
  · rename_i e
    split at h
    · rename_i s hs
      rw [preR_sound _ _ hs]
      simp only [Option.some.injEq] at h
      subst h
      rfl
    · rename_i hs
      rw [preR_sound _ _ hs]
      simp only [Option.some.injEq] at h
      subst h
      rfl
    · cases h
  · rename_i e
    simp only [Option.some.injEq] at h
    subst h
    rfl
theorem moveR_sound {p q x : SP} {r : Option SP} (h : moveR p q x = some r) : moveP std p.er q.er x.er = r.map SP.er := by
  unfold moveR at h
  unfold moveP
  show (match nq x.1 p.1 with | true => (match pre std (ixs p.2) (ixs x.2) with | some s => some (q.er.1, q.er.2 ++ s) | none => some x.er) | false => some x.er) = _
  split at h
  · rename_i e
    split at h
    · rename_i s hs
      rw [preR_sound _ _ hs]
      simp only [Option.some.injEq] at h
      subst h
      simp [SP.er, ixs_append]
    · rename_i hs
      rw [preR_sound _ _ hs]
      simp only [Option.some.injEq] at h
      subst h
      rfl
    · cases h
  · rename_i e
    simp only [Option.some.injEq] at h
    subst h
    rfl
mutual
def B.tr (τ : SP → Option (Option SP)) : B → Option B
  | .un => some .un
  | .ud => some .ud
  | .fz d => some (.fz d)
  | .rf p w off len => match τ p with | some (some q) => some (.rf q w off len) | some none => some .un | none => none
  | .pp p i j => match τ p with | some (some q) => some (.pp q i j) | some none => some .un | none => none
  | .clo f caps => match B.trL τ caps with | some l => some (.clo f l) | none => none
def B.trL (τ : SP → Option (Option SP)) : List B → Option (List B)
  | [] => some []
  | a :: r => match a.tr τ, B.trL τ r with | some x, some l => some (x :: l) | _, _ => none
end
def vsTr (τ : SP → Option (Option SP)) : List (V1 B) → Option (List (V1 B))
  | [] => some []
  | x :: r => match B.trL τ x.2, vsTr τ r with | some y, some l => some ((x.1, y) :: l) | _, _ => none
def tvTr (τ : SP → Option (Option SP)) : TV B → Option (TV B)
  | .v x => match B.trL τ x.2 with | some y => some (.v (x.1, y)) | none => none
  | .tup xs => match vsTr τ xs with | some l => some (.tup l) | none => none
def tmTr (τ : SP → Option (Option SP)) : List (Nat × TV B) → Option (List (Nat × TV B))
  | [] => some []
  | (t, x) :: r => match tvTr τ x, tmTr τ r with | some y, some l => some ((t, y) :: l) | _, _ => none
section
variable {τ : SP → Option (Option SP)} {τ' : Path → Option Path}
mutual
theorem B.tr_sound (ht : ∀ x r, τ x = some r → τ' x.er = r.map SP.er) : (x : B) → {y : B} → x.tr τ = some y → x.er.tr τ' = y.er
  | .un, y, h => by simp only [B.tr, Option.some.injEq] at h; subst h; rfl
  | .ud, y, h => by simp only [B.tr, Option.some.injEq] at h; subst h; rfl
  | .fz d, y, h => by simp only [B.tr, Option.some.injEq] at h; subst h; rfl
  | .rf p w off len, y, h => by
    simp only [B.tr] at h
    simp only [B.er, A.tr]
    split at h
    · rename_i q hq
      rw [ht p _ hq]
      simp only [Option.some.injEq] at h
      subst h
      rfl
    · rename_i hq
      rw [ht p _ hq]
      simp only [Option.some.injEq] at h
      subst h
      rfl
    · cases h
  | .pp p i j, y, h => by
    simp only [B.tr] at h
    simp only [B.er, A.tr]
    split at h
    · rename_i q hq
      rw [ht p _ hq]
      simp only [Option.some.injEq] at h
      subst h
      rfl
    · rename_i hq
      rw [ht p _ hq]
      simp only [Option.some.injEq] at h
      subst h
      rfl
    · cases h
  | .clo f caps, y, h => by
    simp only [B.tr] at h
    split at h
    · rename_i l hl
      simp only [Option.some.injEq] at h
      subst h
      simp only [B.er, A.tr, B.trL_sound ht caps hl]
    · cases h
theorem B.trL_sound (ht : ∀ x r, τ x = some r → τ' x.er = r.map SP.er) : (l : List B) → {r : List B} → B.trL τ l = some r → A.trL τ' (B.erL l) = B.erL r
  | [], r, h => by simp only [B.trL, Option.some.injEq] at h; subst h; rfl
  | a :: l, r, h => by
    simp only [B.trL] at h
    split at h
    · rename_i x y hx hy
      simp only [Option.some.injEq] at h
      subst h
      simp only [B.erL, A.trL, B.tr_sound ht a hx, B.trL_sound ht l hy]
    · cases h
end
theorem vsTr_sound (ht : ∀ x r, τ x = some r → τ' x.er = r.map SP.er) : (l : List (V1 B)) → {r : List (V1 B)} → vsTr τ l = some r → trVs τ' (vserL B.erL l) = vserL B.erL r
  | [], r, h => by simp only [vsTr, Option.some.injEq] at h; subst h; rfl
  | x :: l, r, h => by
    simp only [vsTr] at h
    split at h
    · rename_i y z hy hz
      simp only [Option.some.injEq] at h
      subst h
      simp only [vserL, trVs, v1er, trV, B.trL_sound ht x.2 hy, vsTr_sound ht l hz]
    · cases h
theorem tvTr_sound (ht : ∀ x r, τ x = some r → τ' x.er = r.map SP.er) {x y : TV B} (h : tvTr τ x = some y) : (x.er B.erL).tr τ' = y.er B.erL := by
  unfold tvTr at h
  split at h
  · rename_i x
    split at h
    · rename_i z hz
      simp only [Option.some.injEq] at h
      subst h
      simp only [TV.er, TV.tr, v1er, trV, B.trL_sound ht _ hz]
    · cases h
  · split at h
    · rename_i l hl
      simp only [Option.some.injEq] at h
      subst h
      simp only [TV.er, TV.tr, vsTr_sound ht _ hl]
    · cases h
theorem tmTr_sound (ht : ∀ x r, τ x = some r → τ' x.er = r.map SP.er) : (l : List (Nat × TV B)) → {r : List (Nat × TV B)} → tmTr τ l = some r → trTm τ' (tmEr l) = tmEr r
  | [], r, h => by simp only [tmTr, Option.some.injEq] at h; subst h; rfl
  | (t, x) :: l, r, h => by
    simp only [tmTr] at h
    split at h
    · rename_i y z hy hz
      simp only [Option.some.injEq] at h
      subst h
      simp only [tmEr, trTm, tvTr_sound ht hy, tmTr_sound ht l hz]
    · cases h
end
def oR {α : Type} : Option α → R α
  | some a => some ([], a)
  | none => none
theorem oR_sim {α : Type} {x : Option α} {Q : α → Prop} (h : ∀ a, x = some a → Q a) : (oR x).Sim Q := by
  cases x with
  | none => exact R.Sim.none'
  | some a => exact R.Sim.ok (h a rfl)
def SF.trR (F : SF) (τ : SP → Option (Option SP)) : R SF := match tmTr τ F.tm with
  | some l => R.ok { F with tm := l }
  | none => none
def SF.lessR (M : MB) (F : SF) (p : SP) : R SF := match p.2 with
  | [] => R.ok { F with tb := del F.tb p.1 }
  | _ :: _ => F.setR M p .un
def SF.dropR (M : MB) (F : SF) (p : SP) : R SF := (F.lessR M p).bd fun G => G.trR (killR p)
def SF.liftR (M : MB) (F : SF) (p q : SP) : R SF := (F.lessR M p).bd fun G => G.trR (moveR p q)
def SF.clearR (M : MB) (F : SF) (id : Nat) : R SF := match has F.tb id with
  | true => F.dropR M (id, [])
  | false => R.ok F
def SF.put (F : SF) (d : Nat) (x : TV B) : SF := { F with tm := (d, x) :: F.tm }
def SF.root (F : SF) (id : Nat) (o : W) : SF := { F with tb := (id, o) :: F.tb }
theorem SF.trR_sim (F : SF) {τ : SP → Option (Option SP)} {τ' : Path → Option Path} (ht : ∀ x r, τ x = some r → τ' x.er = r.map SP.er) : (F.trR τ).Sim fun G => F.er.tr τ' = G.er := by
  unfold SF.trR
  split
  · rename_i l hl
    refine R.Sim.ok ?_
    simp only [Fr.tr, SF.er, tmTr_sound ht _ hl]
  · exact R.Sim.none'
theorem SF.lessR_sim (F : SF) (p : SP) : (F.lessR stdB p).Sim fun G => F.er.less std p.er = G.er := by
  obtain ⟨r, s⟩ := p
  cases s with
  | nil => exact R.Sim.ok (by simp only [Fr.less, SP.er, ixs, SF.er, del_tb])
  | cons x s =>
    refine (SF.setR_sim F (r, x :: s) .un).mono fun G h => ?_
    obtain ⟨⟨k, i⟩, j⟩ := x
    exact h
theorem SF.dropR_sim (F : SF) (p : SP) : (F.dropR stdB p).Sim fun G => F.er.drop std p.er = G.er :=
  R.Sim.bd (F.lessR_sim p) fun G h => (G.trR_sim (fun x r => killR_sound)).mono fun G' h' => by unfold Fr.drop; rw [h, h']
theorem SF.liftR_sim (F : SF) (p q : SP) : (F.liftR stdB p q).Sim fun G => F.er.lift std p.er q.er = G.er :=
  R.Sim.bd (F.lessR_sim p) fun G h => (G.trR_sim (fun x r => moveR_sound)).mono fun G' h' => by unfold Fr.lift; rw [h, h']
theorem SF.clearR_sim (F : SF) (id : Nat) : (F.clearR stdB id).Sim fun G => F.er.clear std id = G.er := by
  unfold SF.clearR Fr.clear
  have h : has F.er.tb id = has F.tb id := has_tb _ _
  rw [h]
  cases has F.tb id with
  | true => exact F.dropR_sim (id, [])
  | false => exact R.Sim.ok rfl
theorem SF.put_er (F : SF) (d : Nat) (x : TV B) : (F.put d x).er = F.er.put d (x.er B.erL) := rfl
theorem SF.root_er (F : SF) (id : Nat) (o : W) : (F.root id o).er = F.er.root id o.er := rfl
end Go.Proofs.Ytlmejcmnmdleaaa.Ai
