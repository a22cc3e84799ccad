/- The abstract interpreter, a function's code, step by step, by rules. -/
import Derived.Test.YtlmejcmnmdleaaaAi25
namespace Go.Proofs.Ytlmejcmnmdleaaa.Ai
open Go Go.RowKit
set_option linter.unusedSectionVars false
set_option linter.unusedSimpArgs false
section
variable [Fence] {P : Program} {T : Nat → Option Ty} {w w' : World} {σ σ' : Gh} {F : Fr} {vt : Nat → Value} {a : Act}

/-! ### what a loop's head forgets -/
theorem look_append {α : Type} (d : α) (l r : List (Nat × α)) (t : Nat) : look d (l ++ r) t = if has l t then look d l t else look d r t := by
  induction l with
  | nil => simp [has]
  | cons x l ih =>
    obtain ⟨k, v⟩ := x
    simp only [List.cons_append, look, has]
    by_cases e : k = t
    · subst e; simp
    · simp only [beq_ne e, cond_false]; exact ih
theorem has_append {α : Type} (l r : List (Nat × α)) (t : Nat) : has (l ++ r) t = (has l t || has r t) := by
  induction l with
  | nil => simp [has]
  | cons x l ih =>
    obtain ⟨k, v⟩ := x
    simp only [List.cons_append, has]
    by_cases e : k = t
    · subst e; simp
    · simp only [beq_ne e, cond_false]; exact ih
theorem keepTb_look : ∀ (l : List Nat) (acc : List (Nat × O)) (t : Nat), look .un (keepTb F l acc) t = if has acc t then look .un acc t else if t ∈ l then look .un F.tb t else .un := by
  intro l
  induction l with
  | nil =>
    intro acc t
    simp only [keepTb]
    cases h : has acc t with
    | true => simp
    | false => simp [look_none h]
  | cons id l ih =>
    intro acc t
    simp only [keepTb]
    rw [ih]
    by_cases e : id = t
    · subst e
      cases h : has acc id with
      | true => simp [h]
      | false =>
        have h1 : has (acc ++ [(id, look .un F.tb id)]) id = true := by rw [has_append, h]; simp [has]
        simp [h1, look_append, h, look]
    · have e' : ¬ t = id := fun h => e h.symm
      cases h : has acc id with
      | true => simp [e']
      | false =>
        have h1 : has (acc ++ [(id, look .un F.tb id)]) t = has acc t := by rw [has_append]; simp [has, beq_ne e]
        have h2 : look .un (acc ++ [(id, look .un F.tb id)]) t = if has acc t then look .un acc t else .un := by rw [look_append]; simp [look, beq_ne e]
        simp only [h1, h2, List.mem_cons, e', false_or]
        cases has acc t <;> simp
theorem keepTm_look (l : List Nat) (t : Nat) : look unT (keepTm F l) t = if t ∈ l then look unT F.tm t else unT := by
  induction l with
  | nil => rfl
  | cons x l ih =>
    simp only [keepTm]
    rw [look_cons, ih]
    by_cases e : x = t
    · subst e; simp
    · have e' : ¬ t = x := fun h => e h.symm
      simp [e, e']
theorem mem_tmIds {l : List Nat} {t id : Nat} (ht : t ∈ l) (h : id ∈ (look unT F.tm t).ids) : id ∈ tmIds (keepTm F l) := by
  induction l with
  | nil => cases ht
  | cons x l ih =>
    simp only [keepTm, tmIds, List.mem_append]
    rcases List.mem_cons.1 ht with rfl | ht
    · exact .inl h
    · exact .inr (ih ht)
theorem idsL_get {l : List A} {j : Nat} {x : A} (h : l[j]? = some x) {id : Nat} (hi : id ∈ x.ids) : id ∈ A.idsL l := by
  induction l generalizing j with
  | nil => simp at h
  | cons y l ih =>
    simp only [A.idsL, List.mem_append]
    cases j with
    | zero => simp at h; subst h; exact .inl hi
    | succ j => exact .inr (ih (by simpa using h))
theorem RepA.kept {S : Nat → Prop} (hk : ∀ g y, σ g = some y → S y.p.1 → σ' g = some y) (hst : Stays w σ w σ') {x : A} {v : Value} (h : RepA w σ x v) : (∀ id, id ∈ x.ids → S id) → RepA w σ' x v := by
  induction h with
  | un v => exact fun _ => .un v
  | ud => exact fun _ => .ud
  | fz c v h => exact fun _ => .fz c v (h.move (Nat.le_refl _) hst)
  | rf p off len g n cap sz hg hl hc => exact fun hs => .rf p off len g n cap sz (hk _ _ hg (hs _ (by simp [A.ids]))) hl hc
  | rz p off b => exact fun _ => .rz p off b
  | pp p i j g n cap sz hg => exact fun hs => .pp p i j g n cap sz (hk _ _ hg (hs _ (by simp [A.ids])))
  | clo f caps vs us hl hm hr ih => exact fun hs => .clo f caps vs us hl hm (fun j c hj => ih j c hj (fun id hi => hs id (by simp only [A.ids]; exact idsL_get hj hi)))
theorem vIds_get {xs : List (V1 A)} {k : Nat} {x : V1 A} (h : xs[k]? = some x) {id : Nat} (hi : id ∈ A.idsL x.2) : id ∈ vIds xs := by
  induction xs generalizing k with
  | nil => simp at h
  | cons y l ih =>
    simp only [vIds, List.mem_append]
    cases k with
    | zero => simp at h; subst h; exact .inl hi
    | succ k => exact .inr (ih (by simpa using h))
theorem RepT.kept {S : Nat → Prop} (hk : ∀ g y, σ g = some y → S y.p.1 → σ' g = some y) (hst : Stays w σ w σ') {x : TV A} {v : Value} (h : RepT (fun _ _ => RepA w σ) x v) (hs : ∀ id, id ∈ x.ids → S id) : RepT (fun _ _ => RepA w σ') x v := by
  have key : ∀ {y : V1 A} {v : Value}, (∀ id, id ∈ A.idsL y.2 → S id) → RepV (fun _ => RepA w σ) y v → RepV (fun _ => RepA w σ') y v := by
    intro y v hy h
    obtain ⟨g, as⟩ := y
    cases g with
    | true =>
      obtain ⟨cs, rfl, h1, h2⟩ := h
      refine ⟨cs, rfl, h1, fun j x hj => ?_⟩
      obtain ⟨u, h3, h4⟩ := h2 j x hj
      exact ⟨u, h3, h4.kept hk hst (fun id hi => hy id (idsL_get hj hi))⟩
    | false =>
      match as, h with
      | [x], h =>
        have h' : RepA w σ x v := h
        exact h'.kept hk hst (fun id hi => hy id (by simp [A.idsL, hi]))
  cases x with
  | v x => exact key hs h
  | tup xs =>
    obtain ⟨vs, rfl, h1, h2⟩ := h
    refine ⟨vs, rfl, h1, fun k x hk' => ?_⟩
    obtain ⟨u, h3, h4⟩ := h2 k x hk'
    exact ⟨u, h3, key (fun id hi => hs id (vIds_get hk' hi)) h4⟩
theorem keep_sound (hF : FR F σ w vt) (hd : Dom F σ []) (l : List Nat) : ∃ σ', FR (F.keep l) σ' w vt ∧ Dom (F.keep l) σ' [] ∧ Goes w σ w σ' := by
  let ids := tmIds (keepTm F l)
  let σ' : Gh := fun g => match σ g with | some y => if y.p.1 ∈ ids then some y else none | none => none
  have hk : ∀ g y, σ g = some y → y.p.1 ∈ ids → σ' g = some y := by intro g y hy hi; simp only [σ', hy, if_pos hi]
  have hsub : ∀ g y, σ' g = some y → σ g = some y ∧ y.p.1 ∈ ids := by
    intro g y hy
    simp only [σ'] at hy
    split at hy
    · rename_i z hz
      split at hy
      · rename_i hi; injection hy with hy; subst hy; exact ⟨hz, hi⟩
      · cases hy
    · cases hy
  have hst : Stays w σ w σ' := ⟨fun b _ h0 => by simp only [σ', h0], fun _ _ _ => rfl⟩
  have hlook : ∀ t, look .un (F.keep l).tb t = if t ∈ ids then look .un F.tb t else .un := by
    intro t
    show look .un (keepTb F (tmIds (keepTm F l)) []) t = _
    rw [keepTb_look]
    simp [has, ids]
  refine ⟨σ', ⟨fun g g' x y hx hy he => hF.inj g g' x y (hsub g x hx).1 (hsub g' y hy).1 he, fun g x hx => hF.lt g x (hsub g x hx).1, fun t => ?_, fun t => ?_⟩, ?_, ⟨hst, Nat.le_refl _, rfl, rfl, rfl⟩⟩
  · rw [hlook]
    split
    · rename_i hi
      obtain ⟨v, hv⟩ := hF.tb t
      refine ⟨v, hv.move (Nat.le_refl _) hst _ ?_⟩
      intro g s n cap sz hg _
      exact ⟨rfl, hk g _ hg hi⟩
    · exact ⟨.bool false, .un _ _ rfl⟩
  · show RepT _ (look unT (keepTm F l) t) _
    rw [keepTm_look]
    split
    · rename_i ht
      exact RepT.kept (S := fun id => id ∈ ids) hk hst (hF.tm t) (fun id hi => mem_tmIds ht hi)
    · exact RepA.un _
  · intro g x hx
    obtain ⟨h1, h2⟩ := hsub g x hx
    rcases hd g x h1 with h3 | ⟨_, _, _, h3, _⟩
    · left
      unfold Fr.at at h3 ⊢
      rw [hlook, if_pos h2]
      exact h3
    · cases h3

/-! ### guards -/
theorem nthOp_eq (l : List Oper) (g : Nat) : nthOp l g = l[g]? := by
  induction l generalizing g with
  | nil => simp [nthOp]
  | cons o l ih => cases g <;> simp [nthOp, ih]
theorem guard_sound (hF : FR F σ w (valT a)) {all : Array Oper} {g : Nat} : (∀ b : Bool, guardV F all g = .fz (.bool b) → yielded all a.tmps g = some b) ∧ (guardV F all g = .ud → yielded all a.tmps g = none) := by
  obtain ⟨l⟩ := all
  have key : ∀ (t : Nat), RepA w σ (one (look unT F.tm t)) (valT a t) := fun t => one_sound (hF.tm t)
  unfold guardV
  simp only [nthOp_eq]
  refine ⟨fun b h => ?_, fun h => ?_⟩
  · split at h
    · rename_i t _ _ _ _ _ hl
      have hk := key t
      rw [h] at hk
      have hv := hk.fz_inv.bool_inv
      unfold yielded
      simp only [List.getElem?_toArray, hl, Option.bind_some]
      unfold valT at hv
      rw [Array.getD_eq_getD_getElem?] at hv
      cases ht : a.tmps[t]? with
      | none => rw [ht] at hv; simp [undef] at hv
      | some u => rw [ht] at hv; simp at hv; subst hv; rfl
    · cases h
  · split at h
    · rename_i t _ _ _ _ _ hl
      have hk := key t
      rw [h] at hk
      have hv : valT a t = undef := by
        generalize valT a t = v at hk
        cases hk
        rfl
      unfold yielded
      simp only [List.getElem?_toArray, hl, Option.bind_some]
      unfold valT at hv
      rw [Array.getD_eq_getD_getElem?] at hv
      cases ht : a.tmps[t]? with
      | none => rfl
      | some u => rw [ht] at hv; simp at hv; subst hv; rfl
    · cases h
theorem skip_sound (hF : FR F σ w (valT a)) (hd : Dom F σ []) (o : Oper) : FR (skipOp F o) σ w (valT (a.put o.dst undef)) ∧ Dom (skipOp F o) σ [] ∧ (skipOp F o).n = F.n := by
  unfold skipOp
  cases o.dst with
  | none => exact ⟨hF, hd, rfl⟩
  | some d =>
    dsimp only
    rw [valT_undef]
    exact ⟨hF.put (show RepT _ _ _ from RepA.ud), hd, rfl⟩

/-! ### the machine -/
def itemK : K → Item
  | .c x => .code x
  | .r all l => .inRegion all (List.range' (all.size - l.length) l.length)
  | .bl id => .inBlock id
  | .lp b => .inLoop b
def okK : K → Prop
  | .r all l => l.length ≤ all.size ∧ l = all.toList.drop (all.size - l.length)
  | _ => True
theorem popTo_exit {id : Nat} : ∀ {ks ks' : List K}, popTo id ks = some ks' → exitTo id (ks.map itemK) = some (ks'.map itemK) ∧ ∀ k ∈ ks', k ∈ ks := by
  intro ks
  induction ks with
  | nil => intro ks' h; simp [popTo] at h
  | cons k ks ih =>
    intro ks' h
    cases k with
    | bl id' =>
      simp only [popTo] at h
      split at h
      · rename_i e
        have e := Nat.eq_of_beq_eq_true e
        simp at h
        subst h
        refine ⟨by simp [itemK, exitTo, e], fun k hk => List.mem_cons_of_mem _ hk⟩
      · rename_i e
        obtain ⟨h1, h2⟩ := ih h
        refine ⟨?_, fun k hk => List.mem_cons_of_mem _ (h2 k hk)⟩
        have : (id' == id) = false := by
          cases hb : (id' == id) with
          | false => rfl
          | true => rw [beq_iff_eq] at hb; subst hb; simp at e
        simp only [List.map_cons, itemK, exitTo, this, Bool.false_eq_true, if_false]
        exact h1
    | c x => obtain ⟨h1, h2⟩ := ih (show popTo id ks = some ks' from h); exact ⟨h1, fun k hk => List.mem_cons_of_mem _ (h2 k hk)⟩
    | r all l => obtain ⟨h1, h2⟩ := ih (show popTo id ks = some ks' from h); exact ⟨h1, fun k hk => List.mem_cons_of_mem _ (h2 k hk)⟩
    | lp b => obtain ⟨h1, h2⟩ := ih (show popTo id ks = some ks' from h); exact ⟨h1, fun k hk => List.mem_cons_of_mem _ (h2 k hk)⟩

/-- The items that a stack stands for; behind a round of a loop the machine has not yet looked at the loop again. -/
def Items (ks : List K) (its : List Item) : Prop := its = ks.map itemK ∨ ∃ b ks', ks = .c (.loop b) :: ks' ∧ its = .inLoop b :: ks'.map itemK

end
/-- From the stack ks and the frame F on the function comes to its end, with a frame of which Post holds. -/
def Ex (P : Program) (ks : List K) (F : Fr) (Post : Fr → Prop) : Prop :=
  ∀ (J : Fence) (a : Act) (w : World) (σ : Gh), (∀ k ∈ ks, okK k) → @FR J F σ w (valT a) → Dom F σ [] → F.n ≤ a.tmps.size → ∀ (its : List Item), Items ks its → ∀ (b : Frame) (cs : List Frame),
    ∃ F' a' w' σ' todo, Post F' ∧ Steps P (lone (b.at a its) cs w) (lone { b.at a' todo with mode := .returning } cs w') ∧ @FR J F' σ' w' (valT a') ∧ Dom F' σ' [] ∧ Goes w σ w' σ' ∧ F'.n = F.n ∧ a'.defers = a.defers ∧ a'.tmps.size = a.tmps.size
/-- One operation leads from F to F'. -/
def OpOK (P : Program) (F : Fr) (o : Oper) (F' : Fr) : Prop :=
  ∀ (J : Fence) (a : Act) (w : World) (σ : Gh), @FR J F σ w (valT a) → Dom F σ [] → F.n ≤ a.tmps.size → @OpGoes J P F σ w a o F'
theorem OpOK.of_opS {P : Program} {T : Nat → Option Ty} {F : Fr} (hT : TyOK P T) {ora : Ora} (hO : ∀ g args r, ora g args = some r → CallOK P g args r) {kn : Bool} {o : Oper} {F' : Fr} (h : opS std T kn ora F o = some F') : OpOK P F o F' := by
  intro J a w σ hF hd hn
  letI := J
  exact opS_sound hT hF hd hO hn h
section
variable {P : Program} {ks : List K} {F F1 : Fr} {Post : Fr → Prop}
theorem FR.drawn {J : Fence} {σ : Gh} {w : World} {vt : Nat → Value} (h : FR F σ w vt) (n : Nat) : FR F σ { w with drawn := n } vt :=
  h.grow (w' := { w with drawn := n }) ⟨rfl, rfl, rfl, Nat.le_refl _, fun _ _ => rfl⟩ (fun _ _ => rfl) h.inj h.lt
theorem Goes.drawn (w : World) (σ : Gh) (n : Nat) : Goes w σ { w with drawn := n } σ := ⟨⟨fun _ _ h => h, fun _ _ _ => rfl⟩, Nat.le_refl _, rfl, rfl, rfl⟩
theorem okK_tail {k : K} (h : ∀ x ∈ k :: ks, okK x) : ∀ x ∈ ks, okK x := fun x hx => h x (List.mem_cons_of_mem _ hx)
theorem okK_cons {k : K} (h0 : okK k) (h : ∀ x ∈ ks, okK x) : ∀ x ∈ k :: ks, okK x := fun x hx => (List.mem_cons.1 hx).elim (fun e => e ▸ h0) (h x)
/-- The machine goes on to another stack, memory stays. -/
theorem Ex.same {ks' : List K} (hk : (∀ k ∈ ks, okK k) → ∀ k ∈ ks', okK k) (hs : ∀ (a : Act) (b : Frame) (cs : List Frame) (w : World) (its : List Item), Items ks its → ∃ its', Items ks' its' ∧ Steps P (lone (b.at a its) cs w) (lone (b.at a its') cs w))
    (h : Ex P ks' F Post) : Ex P ks F Post := by
  intro J a w σ hok hF hd hn its hi b cs
  obtain ⟨its', h1, h2⟩ := hs a b cs w its hi
  obtain ⟨F', a', w', σ', todo, k0, k1, k2⟩ := h J a w σ (hk hok) hF hd hn its' h1 b cs
  exact ⟨F', a', w', σ', todo, k0, h2.trans k1, k2⟩
theorem items_of {k : K} (hk : ∀ b, k ≠ .c (.loop b)) {its : List Item} (h : Items (k :: ks) its) : its = (k :: ks).map itemK := by
  rcases h with h | ⟨b, ks', h, _⟩
  · exact h
  · injection h with h _
    exact absurd h (hk b)
theorem Ex.nil (h : Post F) : Ex P [] F Post := by
  intro J a w σ hok hF hd hn its hi b cs
  rcases hi with rfl | ⟨_, _, h', _⟩
  · exact ⟨F, a, w, σ, [], h, .one step_end, hF, hd, Goes.refl _ _, rfl, rfl, rfl⟩
  · cases h'
theorem Ex.ret (h : Post F) : Ex P (.c .ret :: ks) F Post := by
  intro J a w σ hok hF hd hn its hi b cs
  obtain rfl := items_of (by intro b; simp) hi
  exact ⟨F, a, w, σ, _, h, .one step_ret, hF, hd, Goes.refl _ _, rfl, rfl, rfl⟩
theorem Ex.bl {id : Nat} (h : Ex P ks F Post) : Ex P (.bl id :: ks) F Post :=
  h.same okK_tail fun a b cs w its hi => ⟨ks.map itemK, .inl rfl, by rw [items_of (by intro b; simp) hi]; exact .one step_inBlock⟩
theorem Ex.lp {bd : Code} (h : Ex P (.c (.loop bd) :: ks) F Post) : Ex P (.lp bd :: ks) F Post :=
  h.same (fun hk => okK_cons (by trivial) (okK_tail hk)) fun a b cs w its hi => ⟨_, .inr ⟨bd, ks, rfl, rfl⟩, by rw [items_of (by intro b; simp) hi]; exact .refl P _⟩
theorem Ex.skip (h : Ex P ks F Post) : Ex P (.c .skip :: ks) F Post :=
  h.same okK_tail fun a b cs w its hi => ⟨ks.map itemK, .inl rfl, by rw [items_of (by intro b; simp) hi]; exact .one step_skip⟩
theorem Ex.seq {x y : Code} (h : Ex P (.c x :: .c y :: ks) F Post) : Ex P (.c (.seq x y) :: ks) F Post :=
  h.same (fun hk => okK_cons (by trivial) (okK_cons (by trivial) (okK_tail hk))) fun a b cs w its hi => ⟨_, .inl rfl, by rw [items_of (by intro b; simp) hi]; exact .one step_seq⟩
theorem Ex.block {id : Nat} {x : Code} (h : Ex P (.c x :: .bl id :: ks) F Post) : Ex P (.c (.block id x) :: ks) F Post :=
  h.same (fun hk => okK_cons (by trivial) (okK_cons (by trivial) (okK_tail hk))) fun a b cs w its hi => ⟨_, .inl rfl, by rw [items_of (by intro b; simp) hi]; exact .one step_block⟩
theorem Ex.exit {id : Nat} {ks' : List K} (hp : popTo id ks = some ks') (h : Ex P ks' F Post) : Ex P (.c (.exit id) :: ks) F Post :=
  h.same (fun hk x hx => okK_tail hk x ((@popTo_exit noFence _ _ _ hp).2 x hx)) fun a b cs w its hi => ⟨_, .inl rfl, by rw [items_of (by intro b; simp) hi]; exact .one (step_exit (@popTo_exit noFence _ _ _ hp).1)⟩
theorem Ex.reg {id : Nat} {l : List Oper} (h : Ex P (.r ⟨l⟩ l :: ks) F Post) : Ex P (.c (.region id ⟨l⟩ false) :: ks) F Post :=
  h.same (fun hk => okK_cons (show okK (.r ⟨l⟩ l) from ⟨by simp, by simp⟩) (okK_tail hk)) fun a b cs w its hi => ⟨_, .inl rfl, by
    rw [items_of (by intro b; simp) hi]
    have : (K.r ⟨l⟩ l :: ks).map itemK = .inRegion ⟨l⟩ (List.range l.length) :: ks.map itemK := by simp [itemK, List.range_eq_range']
    rw [this]
    exact .one step_region⟩
theorem Ex.reg_end {all : Array Oper} (h : Ex P ks F Post) : Ex P (.r all [] :: ks) F Post :=
  h.same okK_tail fun a b cs w its hi => ⟨_, .inl rfl, by
    rw [items_of (by intro b; simp) hi]
    have : (K.r all [] :: ks).map itemK = .inRegion all [] :: ks.map itemK := by simp [itemK]
    rw [this]
    exact .one step_region_end⟩
/-- Less is known, or the same in other words. -/
theorem Ex.weak {G : Fr} (hn' : G.n = F.n) (hw : ∀ (J : Fence) (σ : Gh) (w : World) (vt : Nat → Value), @FR J F σ w vt → Dom F σ [] → ∃ σ', @FR J G σ' w vt ∧ Dom G σ' [] ∧ Goes w σ w σ') (h : Ex P ks G Post) : Ex P ks F Post := by
  intro J a w σ hok hF hd hn its hi b cs
  obtain ⟨σ1, h1, h2, h3⟩ := hw J σ w _ hF hd
  obtain ⟨F', a', w', σ', todo, k0, k1, k2, k3, k4, k5, k6⟩ := h J a w σ1 hok h1 h2 (by omega) its hi b cs
  exact ⟨F', a', w', σ', todo, k0, k1, k2, k3, h3.trans k4, k5.trans hn', k6⟩
theorem Ex.loop {bd : Code} (l : List Nat) (h : Ex P (.c bd :: .lp bd :: ks) (F.keep l) Post) : Ex P (.c (.loop bd) :: ks) F Post := by
  refine Ex.weak (G := F.keep l) rfl (fun J σ w vt hF hd => ?_) ?_
  · letI := J
    exact keep_sound hF hd l
  · refine h.same (fun hk => okK_cons (by trivial) (okK_cons (by trivial) (okK_tail hk))) fun a b cs w its hi => ⟨_, .inl rfl, ?_⟩
    rcases hi with rfl | ⟨_, _, h', rfl⟩
    · exact .one step_loop
    · injection h' with h1 h2
      injection h1 with h1
      injection h1 with h1
      subst h1 h2
      exact .one step_inLoop
theorem Ex.cond {y : Operand} {x1 x2 : Code} {t : Bool} (hy : ev1 F y = .fz (.bool t)) (h : Ex P (.c (match t with | true => x1 | false => x2) :: ks) F Post) : Ex P (.c (.cond y x1 x2) :: ks) F Post := by
  intro J a w σ hok hF hd hn its hi b cs
  letI := J
  obtain rfl := items_of (by intro b; simp) hi
  have hv := ev1_sound hF y
  rw [hy] at hv
  have hv := hv.fz_inv.bool_inv
  obtain ⟨F', a', w', σ', todo, k0, k1, k2⟩ := h J a w σ (okK_cons (by trivial) (okK_tail hok)) hF hd hn _ (.inl rfl) b cs
  refine ⟨F', a', w', σ', todo, k0, .head ?_ k1, k2⟩
  cases t <;> exact step_cond hv
theorem okK_r {all : Array Oper} {o : Oper} {l : List Oper} (h : okK (.r all (o :: l))) : okK (.r all l) ∧ all[all.size - (l.length + 1)]? = some o ∧ l.length + 1 ≤ all.size := by
  obtain ⟨hl1, hl2⟩ := h
  have hi : all[all.size - (l.length + 1)]? = some o := by
    have : (all.toList.drop (all.size - (l.length + 1)))[0]? = some o := by
      have := congrArg (fun x : List Oper => x[0]?) hl2
      simpa using this.symm
    simpa using this
  have hl1' : l.length + 1 ≤ all.size := by simpa using hl1
  refine ⟨⟨by omega, ?_⟩, hi, hl1'⟩
  have := congrArg List.tail hl2
  simp only [List.tail_cons, List.tail_drop, List.length_cons] at this
  exact this.trans (by congr 1; omega)
theorem map_r {all : Array Oper} {o : Oper} {l : List Oper} (h : l.length + 1 ≤ all.size) : (K.r all (o :: l) :: ks).map itemK = .inRegion all ((all.size - (l.length + 1)) :: List.range' (all.size - l.length) l.length) :: ks.map itemK := by
  simp only [List.map_cons, itemK, List.length_cons, List.range'_succ]
  rw [show all.size - (l.length + 1) + 1 = all.size - l.length by omega]
/-- Is the operation wanted? -/
def Wants (F : Fr) (all : Array Oper) (o : Oper) (b : Bool) : Prop := match o.guard with
  | none => b = true
  | some (g, want) => guardV F all g = .fz (.bool (match b with | true => want | false => !want)) ∨ (b = false ∧ guardV F all g = .ud)
theorem Wants.sound {J : Fence} {σ : Gh} {w : World} {a : Act} {all : Array Oper} {o : Oper} {b : Bool} (h : Wants F all o b) (hF : FR F σ w (valT a)) : Region.wanted o (yielded all a.tmps) = b := by
  unfold Wants at h
  unfold Region.wanted
  split at h
  · rename_i hg; rw [hg]; exact h.symm
  · rename_i g want hg
    rw [hg]
    obtain ⟨h1, h2⟩ := guard_sound (all := all) (g := g) hF
    show (yielded all a.tmps g == some want) = b
    rcases h with h | ⟨rfl, h⟩
    · rw [h1 _ h]
      cases b <;> cases want <;> rfl
    · rw [h2 h]
      cases want <;> rfl
theorem Ex.op {all : Array Oper} {o : Oper} {l : List Oper} (hw : Wants F all o true) (ho : OpOK P F o F1) (h : Ex P (.r all l :: ks) F1 Post) : Ex P (.r all (o :: l) :: ks) F Post := by
  intro J a w σ hok hF hd hn its hi b cs
  letI := J
  obtain rfl := items_of (by intro b; simp) hi
  obtain ⟨h1, h2, h3⟩ := okK_r (hok _ List.mem_cons_self)
  obtain ⟨a1, w1, σ1, k1, k2, k3, k4, k5, k6, k7⟩ := ho J a w σ hF hd hn b (ks.map itemK) cs all _ (List.range' (all.size - l.length) l.length) h2 (hw.sound hF)
  rw [map_r h3]
  obtain ⟨F', a', w', σ', todo, m0, m1, m2, m3, m4, m5, m6, m7⟩ := h J a1 w1 σ1 (okK_cons h1 (okK_tail hok)) k2 k3 (by omega) _ (.inl rfl) b cs
  exact ⟨F', a', w', σ', todo, m0, k1.trans m1, m2, m3, k4.trans m4, m5.trans k5, m6.trans k6, m7.trans k7⟩
theorem Ex.op_not {all : Array Oper} {o : Oper} {l : List Oper} (hw : Wants F all o false) (h : Ex P (.r all l :: ks) (skipOp F o) Post) : Ex P (.r all (o :: l) :: ks) F Post := by
  intro J a w σ hok hF hd hn its hi b cs
  letI := J
  obtain rfl := items_of (by intro b; simp) hi
  obtain ⟨h1, h2, h3⟩ := okK_r (hok _ List.mem_cons_self)
  obtain ⟨g1, g2, g3⟩ := skip_sound hF hd o
  have hs := step_op_skip (P := P) (b := b) (a := a) (k := ks.map itemK) (cs := cs) (w := w) (ops := all) (i := all.size - (l.length + 1)) (rest := List.range' (all.size - l.length) l.length) (by rw [h2]; simpa using hw.sound hF)
  rw [h2] at hs
  simp only [Option.bind_some] at hs
  rw [map_r h3]
  obtain ⟨F', a', w', σ', todo, m0, m1, m2, m3, m4, m5, m6, m7⟩ := h J (a.put o.dst undef) w σ (okK_cons h1 (okK_tail hok)) g1 g2 (by rw [g3, put_size]; exact hn) _ (.inl rfl) b cs
  exact ⟨F', a', w', σ', todo, m0, .head hs m1, m2, m3, m4, m5.trans g3, m6.trans (put_defers _ _), m7.trans (put_size _ _)⟩
end
end Go.Proofs.Ytlmejcmnmdleaaa.Ai
