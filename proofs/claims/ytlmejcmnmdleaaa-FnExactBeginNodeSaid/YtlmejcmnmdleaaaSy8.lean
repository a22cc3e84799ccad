/- Symbolic runs, part 8: the walk over a function's code, as one proposition. -/
import Derived.Test.YtlmejcmnmdleaaaSy7
namespace Go.Proofs.Ytlmejcmnmdleaaa.Ai
open Go
set_option linter.unusedSectionVars false
set_option linter.unusedSimpArgs false

/-! ### regions that draw: what is asked of the text -/
def prefOK (ops : List Oper) (a : List Nat) (k i : Nat) (o : Oper) : Bool := match o.dst with
  | none => false
  | some d => (List.range k).all fun j => match ops[j]? with
    | some o' => (match o'.dst with
      | some d' => (!(nq d d') || nq i j) && (!((lkT ⟨ops⟩ o).contains d') || ((a.getD i 0).testBit j && nlt j i))
      | none => false)
    | none => false
def ancsG (ed : Oper → List Nat) : List Oper → List Nat → List Nat
  | [], acc => acc
  | o :: r, acc => ancsG ed r (acc ++ [(ed o).foldl (fun s e => s ||| (1 <<< e) ||| acc.getD e 0) 0])
def statB (ops : List Oper) (k : Nat) : Bool :=
  nle k ops.length && (List.range ops.length).all fun i => match ops[i]? with
    | some o => (o.after.toList.all fun e => plainE e && nlt e.on i) && (match nlt i k with
      | true => prefOK ops (ancsG edgesL ops []) k i o
      | false => nq ((ancsG edgesL ops []).getD i 0) (2 ^ i - 1))
    | none => false
def topoL (md : Region.Mode) (ops : List Oper) : Nat → List Nat → List Nat
  | 0, done => done.reverse
  | n + 1, done => match (List.range ops.length).find? (fun i => !(done.contains i) && (match ops[i]? with | some o => (bindsL md o).all fun e => done.contains e | none => false)) with
    | some i => topoL md ops n (i :: done)
    | none => done.reverse
def topoB (ops : List Oper) (md : Region.Mode) (ord : List Nat) : Bool := (List.range ops.length).all fun i => match ops[i]? with
  | some o => (bindsL md o).all fun e => nlt e ops.length && nlt (ord.idxOf e) (ord.idxOf i)
  | none => false
def statB2 (ops : List Oper) : Bool :=
  ((List.range ops.length).all fun i => match ops[i]? with
    | some o => ((edgesP o).all fun e => nlt e i) && prefOK ops (ancsG edgesP ops []) ops.length i o
    | none => false) && (topoB ops .any (topoL .any ops ops.length []) && (topoB ops .text (topoL .text ops ops.length []) && topoB ops .gc (topoL .gc ops ops.length [])))
def ancA (a : List Nat) (i j : Nat) : Prop := (a.getD i 0).testBit j = true
theorem ancs_pre (ed : Oper → List Nat) : ∀ (ops : List Oper) (acc : List Nat), ∃ r, ancsG ed ops acc = acc ++ r := by
  intro ops
  induction ops with
  | nil => intro acc; exact ⟨[], by simp [ancsG]⟩
  | cons o ops ih =>
    intro acc
    obtain ⟨r, hr⟩ := ih (acc ++ [(ed o).foldl (fun s e => s ||| (1 <<< e) ||| acc.getD e 0) 0])
    exact ⟨[(ed o).foldl (fun s e => s ||| (1 <<< e) ||| acc.getD e 0) 0] ++ r, by simp only [ancsG, hr, List.append_assoc]⟩
theorem fold_bit (acc : List Nat) (j : Nat) : ∀ (es : List Nat) (s : Nat), (es.foldl (fun s e => s ||| (1 <<< e) ||| acc.getD e 0) s).testBit j = true → s.testBit j = true ∨ ∃ e ∈ es, e = j ∨ (acc.getD e 0).testBit j = true := by
  intro es
  induction es with
  | nil => intro s h; exact .inl h
  | cons e es ih =>
    intro s h
    rcases ih _ h with h | ⟨e', he, h⟩
    · simp only [Nat.testBit_or, Bool.or_eq_true] at h
      rcases h with (h | h) | h
      · exact .inl h
      · right
        refine ⟨e, List.mem_cons_self, .inl ?_⟩
        rw [Nat.one_shiftLeft, Nat.testBit_two_pow] at h
        simpa using h
      · exact .inr ⟨e, List.mem_cons_self, .inr h⟩
    · exact .inr ⟨e', List.mem_cons_of_mem _ he, h⟩
theorem ancs_get (ed : Oper → List Nat) : ∀ (ops : List Oper) (acc : List Nat) (i j : Nat) (o : Oper), ops[i]? = some o → ((ancsG ed ops acc).getD (acc.length + i) 0).testBit j = true → ∃ e ∈ ed o, e = j ∨ ((ancsG ed ops acc).getD e 0).testBit j = true := by
  intro ops
  induction ops with
  | nil => intro acc i j o h; simp at h
  | cons o0 ops ih =>
    intro acc i j o h ht
    cases i with
    | zero =>
      simp only [List.getElem?_cons_zero, Option.some.injEq] at h
      subst h
      obtain ⟨r, hr⟩ := ancs_pre ed ops (acc ++ [(ed o0).foldl (fun s e => s ||| (1 <<< e) ||| acc.getD e 0) 0])
      have e1 : ancsG ed (o0 :: ops) acc = acc ++ [(ed o0).foldl (fun s e => s ||| (1 <<< e) ||| acc.getD e 0) 0] ++ r := by simp only [ancsG]; exact hr
      rw [e1] at ht ⊢
      have h2 : (acc ++ [(ed o0).foldl (fun s e => s ||| (1 <<< e) ||| acc.getD e 0) 0] ++ r).getD (acc.length + 0) 0 = (ed o0).foldl (fun s e => s ||| (1 <<< e) ||| acc.getD e 0) 0 := by simp [List.getD_eq_getElem?_getD]
      rw [h2] at ht
      rcases fold_bit acc j _ 0 ht with h | ⟨e, he, h⟩
      · simp at h
      · refine ⟨e, he, h.imp id fun h => ?_⟩
        have hlt : e < acc.length := by
          rcases Nat.lt_or_ge e acc.length with hl | hl
          · exact hl
          · simp [List.getD_eq_getElem?_getD, List.getElem?_eq_none hl] at h
        rw [List.append_assoc]
        simp only [List.getD_eq_getElem?_getD, List.getElem?_append_left hlt] at h ⊢
        exact h
    | succ i =>
      simp only [List.getElem?_cons_succ] at h
      have := ih (acc ++ [(ed o0).foldl (fun s e => s ||| (1 <<< e) ||| acc.getD e 0) 0]) i j o h (by
        simp only [ancsG] at ht
        rw [show acc.length + (i + 1) = (acc ++ [(ed o0).foldl (fun s e => s ||| (1 <<< e) ||| acc.getD e 0) 0]).length + i by simp; omega] at ht
        exact ht)
      simpa only [ancsG] using this
theorem statB_all {ops : List Oper} {k : Nat} (h : statB ops k = true) : k ≤ ops.length ∧ ∀ (i : Nat) (o : Oper), ops[i]? = some o → (∀ e ∈ o.after.toList, plainE e = true ∧ e.on < i) ∧
    (i < k → prefOK ops (ancsG edgesL ops []) k i o = true) ∧ (k ≤ i → (ancsG edgesL ops []).getD i 0 = 2 ^ i - 1) := by
  simp only [statB, Bool.and_eq_true] at h
  refine ⟨le_of_nle h.1, fun i o ho => ?_⟩
  have hi : i < ops.length := (List.getElem?_eq_some_iff.1 ho).1
  have h2 := List.all_eq_true.1 h.2 i (List.mem_range.2 hi)
  rw [ho] at h2
  simp only [Bool.and_eq_true] at h2
  obtain ⟨h3, h4⟩ := h2
  refine ⟨fun e he => ?_, fun hk => ?_, fun hk => ?_⟩
  · have := List.all_eq_true.1 h3 e he
    simp only [Bool.and_eq_true] at this
    exact ⟨this.1, Nat.lt_of_succ_le (le_of_nle this.2)⟩
  · have hb : nlt i k = true := nle_of_le hk
    rw [hb] at h4
    exact h4
  · have hb : nlt i k = false := by
      cases hc : nlt i k with
      | false => rfl
      | true => have := Nat.lt_of_succ_le (le_of_nle hc); omega
    rw [hb] at h4
    exact Nat.eq_of_beq_eq_true h4
theorem statB_stat {ops : List Oper} {k : Nat} (h : statB ops k = true) : Stat ops k (ancA (ancsG edgesL ops [])) := by
  obtain ⟨h1, h2⟩ := statB_all h
  refine ⟨h1, fun i o ho => (h2 i o ho).1, fun i j o ho ha => ?_, fun i j hk hi hj => ?_⟩
  · exact ancs_get edgesL ops [] i j o ho (by simpa [ancA] using ha)
  · have := (h2 i _ (List.getElem?_eq_getElem hi)).2.2 hk
    unfold ancA
    rw [this]
    simp [Nat.testBit_two_pow_sub_one, hj]
theorem statB2_all {ops : List Oper} (h : statB2 ops = true) : Stat2 ops (ancA (ancsG edgesP ops [])) ∧ ∀ (i : Nat) (o : Oper), ops[i]? = some o → prefOK ops (ancsG edgesP ops []) ops.length i o = true := by
  simp only [statB2, Bool.and_eq_true] at h
  obtain ⟨h1, h2, h3, h4⟩ := h
  have key : ∀ (i : Nat) (o : Oper), ops[i]? = some o → (∀ e ∈ edgesP o, e < i) ∧ prefOK ops (ancsG edgesP ops []) ops.length i o = true := by
    intro i o ho
    have := List.all_eq_true.1 h1 i (List.mem_range.2 (List.getElem?_eq_some_iff.1 ho).1)
    rw [ho] at this
    simp only [Bool.and_eq_true] at this
    exact ⟨fun e he => Nat.lt_of_succ_le (le_of_nle (List.all_eq_true.1 this.1 e he)), this.2⟩
  have top : ∀ (md : Region.Mode) (ord : List Nat), topoB ops md ord = true → ∃ rank : Nat → Nat, ∀ (i : Nat) (o : Oper), ops[i]? = some o → ∀ e ∈ bindsL md o, e < ops.length ∧ rank e < rank i := by
    intro md ord h
    refine ⟨fun i => ord.idxOf i, fun i o ho e he => ?_⟩
    have := List.all_eq_true.1 h i (List.mem_range.2 (List.getElem?_eq_some_iff.1 ho).1)
    rw [ho] at this
    have := List.all_eq_true.1 this e he
    simp only [Bool.and_eq_true] at this
    exact ⟨Nat.lt_of_succ_le (le_of_nle this.1), Nat.lt_of_succ_le (le_of_nle this.2)⟩
  refine ⟨⟨fun i o ho => (key i o ho).1, fun i j o ho ha => ancs_get edgesP ops [] i j o ho (by simpa [ancA] using ha), fun md => ?_⟩, fun i o ho => (key i o ho).2⟩
  cases md with
  | text => exact top _ _ h3
  | gc => exact top _ _ h4
  | any => exact top _ _ h2
/-! ### tests -/
def side (M : MB) : List Prop → Prop → Prop
  | [], K => K
  | p :: r, K => M.pAnd p (side M r K)
theorem side_std : ∀ (ps : List Prop) (K : Prop), side stdB ps K → Holds ps ∧ K
  | [], K, h => ⟨(fun p hp => by cases hp), h⟩
  | p :: r, K, h => by
    obtain ⟨h1, h2⟩ : p ∧ side stdB r K := h
    obtain ⟨h3, h4⟩ := side_std r K h2
    exact ⟨fun q hq => (List.mem_cons.1 hq).elim (fun e => e ▸ h1) (h3 q), h4⟩
def gtmp (all : List Oper) (g : Nat) : Option Nat := match nthOp all g with
  | some ⟨some t, _, _, _, _, _⟩ => some t
  | _ => none
def forkB (M : MB) (F : SF) (t : Nat) (b : Bool) (K1 K2 : SF → Prop) : Prop :=
  M.pAnd (M.pImp b (K1 (F.know t true))) (M.pImp (M.bNot b) (K2 (F.know t false)))
def withGuard (M : MB) (all : List Oper) (F : SF) (o : Oper) (doK skipK : SF → Prop) : Prop :=
  match o.guard with
  | none => doK F
  | some (g, want) => (match gtmp all g with
    | some t => (match look unB F.tm t with
      | .v (false, [.fz (.bool kn b)]) => (match kn with
        | true => (match b with
          | true => (match want with | true => doK F | false => skipK F)
          | false => (match want with | true => skipK F | false => doK F))
        | false => (match want with
          | true => forkB M F t b doK skipK
          | false => forkB M F t b skipK doK))
      | .v (false, [.ud]) => skipK F
      | _ => M.pNo 1)
    | none => M.pNo 2)
def withPick (M : MB) (F : SF) (o : Oper) (K : SF → Prop) : Prop :=
  match o.op with
  | .pick (.tmp t) _ _ => (match look unB F.tm t with
    | .v (false, [.fz (.bool kn b)]) => (match kn with
      | true => K F
      | false => forkB M F t b K K)
    | _ => K F)
  | _ => K F
theorem forkB_sound {F : SF} {t : Nat} {b kn : Bool} {K1 K2 : SF → Prop} (hl : look unB F.tm t = .v (false, [.fz (.bool kn b)])) (h : forkB stdB F t b K1 K2) :
    LE F.er (F.know t b).er ∧ look unB (F.know t b).tm t = .v (false, [.fz (.bool true b)]) ∧ ((b = true ∧ K1 (F.know t b)) ∨ (b = false ∧ K2 (F.know t b))) := by
  refine ⟨know_le ⟨kn, hl⟩, by simp [SF.know, SF.put, look], ?_⟩
  obtain ⟨h1, h2⟩ : (b = true → K1 (F.know t true)) ∧ ((!b) = true → K2 (F.know t false)) := h
  cases b with
  | true => exact .inl ⟨rfl, h1 rfl⟩
  | false => exact .inr ⟨rfl, h2 rfl⟩
theorem guardV_eq {F : SF} {all : List Oper} {g t : Nat} (h : gtmp all g = some t) : guardV F.er ⟨all⟩ g = (oneB (look unB F.tm t)).er := by
  unfold gtmp at h
  unfold guardV
  dsimp only
  split at h
  · rename_i t' _ _ _ _ _ hn
    simp only [Option.some.injEq] at h
    subst h
    rw [hn]
    dsimp only
    rw [oneB_er, ← show look unT F.er.tm t' = (look unB F.tm t').er B.erL from look_tm _ _]
  · cases h
theorem withGuard_sound {F : SF} {all : List Oper} {o : Oper} {doK skipK : SF → Prop} (h : withGuard stdB all F o doK skipK) :
    ∃ F' : SF, LE F.er F'.er ∧ ((Wants F'.er ⟨all⟩ o true ∧ doK F') ∨ (Wants F'.er ⟨all⟩ o false ∧ skipK F')) := by
  unfold withGuard at h
  split at h
  · rename_i hg
    exact ⟨F, LE.refl _, .inl ⟨by unfold Wants; rw [hg], h⟩⟩
  · rename_i g want hg
    split at h
    · rename_i t ht
      have key : ∀ (F' : SF) (b kn : Bool), look unB F'.tm t = .v (false, [.fz (.bool kn b)]) → Wants F'.er ⟨all⟩ o (b == want) := by
        intro F' b kn hl
        unfold Wants
        rw [hg]
        refine .inl ?_
        rw [guardV_eq ht, hl]
        cases b <;> cases want <;> rfl
      split at h
      · rename_i kn b hl
        split at h
        · split at h
          · split at h
            · exact ⟨F, LE.refl _, .inl ⟨key F _ _ hl, h⟩⟩
            · exact ⟨F, LE.refl _, .inr ⟨key F _ _ hl, h⟩⟩
          · split at h
            · exact ⟨F, LE.refl _, .inr ⟨key F _ _ hl, h⟩⟩
            · exact ⟨F, LE.refl _, .inl ⟨key F _ _ hl, h⟩⟩
        · split at h
          · obtain ⟨h1, h2, h3⟩ := forkB_sound hl h
            refine ⟨_, h1, ?_⟩
            have := key _ _ _ h2
            rcases h3 with ⟨rfl, h3⟩ | ⟨rfl, h3⟩
            · exact .inl ⟨this, h3⟩
            · exact .inr ⟨this, h3⟩
          · obtain ⟨h1, h2, h3⟩ := forkB_sound hl h
            refine ⟨_, h1, ?_⟩
            have := key _ _ _ h2
            rcases h3 with ⟨rfl, h3⟩ | ⟨rfl, h3⟩
            · exact .inr ⟨this, h3⟩
            · exact .inl ⟨this, h3⟩
      · rename_i hl
        refine ⟨F, LE.refl _, .inr ⟨?_, h⟩⟩
        unfold Wants
        rw [hg]
        refine .inr ⟨rfl, ?_⟩
        rw [guardV_eq ht, hl]
        rfl
      · exact h.elim
    · exact h.elim
theorem withPick_sound {F : SF} {o : Oper} {K : SF → Prop} (h : withPick stdB F o K) : ∃ F' : SF, LE F.er F'.er ∧ K F' := by
  unfold withPick at h
  split at h
  · split at h
    · rename_i kn b hl
      split at h
      · exact ⟨F, LE.refl _, h⟩
      · obtain ⟨h1, _, h3⟩ := forkB_sound hl h
        exact ⟨_, h1, h3.elim (fun x => x.2) (fun x => x.2)⟩
    · exact ⟨F, LE.refl _, h⟩
  · exact ⟨F, LE.refl _, h⟩
theorem Wants.le {F G : Fr} {all : Array Oper} {o : Oper} {b : Bool} (h : LE F G) (hw : Wants F all o b) : Wants G all o b := by
  refine wants_ag hw ⟨fun t _ => h.tm t, fun t _ id _ => h.tb id⟩

/-! ### regions that draw: the run -/
abbrev ItB := Nat × List (Nat × W) × TV B
def itEr (it : ItB) : It := (it.1, tbEr it.2.1, it.2.2.er B.erL)
def SF.apB (F : SF) (it : ItB) : SF := (F.addsB it.2.1).put it.1 it.2.2
theorem apB_er (F : SF) (it : ItB) : (F.apB it).er = F.er.ap (itEr it) := by unfold SF.apB Fr.ap; rw [SF.put_er, addsB_er]; rfl
def simB : TV B → Bool
  | .v (false, [.fz .nilsl]) => false
  | .v (false, [.fz _]) => true
  | _ => false
theorem simB_er {x : TV B} (h : simB x = true) : simT (x.er B.erL) = true := by
  unfold simB at h
  split at h
  · cases h
  · rename_i d hd
    cases d <;> first | rfl | exact (hd rfl).elim
  · cases h
def aopB (M : MB) (X : SX) (ora : SOra) (F : SF) (o : Oper) : R ItB :=
  match o.dst with
  | none => none
  | some d => (match nlt d F.n with
    | true => (match o.op with
      | .call ⟨.value f, ⟨args⟩, _⟩ => (calleeB M F f).bd fun g => (argsB M F args).bd fun as => (ora g.1 (appB as (capsD g.2))).bd fun r => (match fitsB r with
        | true => (match lendB F (f :: args) with
          | true => R.ok (d, rootsTB d r, impTB M d r)
          | false => (match tvClean r with
            | true => R.ok (d, rootsTB d r, impTB M d r)
            | false => none))
        | false => none)
      | .alloc e => (match X.T e with
        | some ty => (match zWL ty.zero with
          | some zs => R.ok (d, [(rid d 0 0, .obx zs)], ppB (rid d 0 0))
          | none => none)
        | none => none)
      | .assign x => (match simB (evB F x) with
        | true => R.ok (d, [], evB F x)
        | false => none)
      | op => (qopB M X.T F op).bd fun v => R.ok (d, [], v))
    | false => none)
theorem aopS_q {M : Ops} {T : Nat → Option Ty} {kn : Bool} {ora : Ora} {F : Fr} {o : Oper} {d : Nat} (hd : o.dst = some d) (hlt : nlt d F.n = true) (h1 : ∀ f args ts, o.op = .call ⟨.value f, ⟨args⟩, ts⟩ → False) (h2 : ∀ e, o.op = .alloc e → False) (h3 : ∀ e, o.op = .assign e → False) :
    aopS M T kn ora F o = (match qop M T F o.op with | some (.val x) => some (d, [], x) | _ => none) := by
  unfold aopS
  rw [hd]
  dsimp only
  rw [hlt]
  dsimp only
  split
  · rename_i he; exact (h1 _ _ _ he).elim
  · rename_i he; exact (h2 _ he).elim
  · rename_i he; exact (h3 _ he).elim
  · rfl
theorem aopB_sim {P : Program} (X : SX) {ora : SOra} (hO : SOraOK P ora) (F : SF) (o : Oper) : (aopB stdB X ora F o).Sim fun it => o.dst = some it.1 ∧ ∃ ora' : Ora, (∀ g as r, ora' g as = some r → CallOK P g as r) ∧ aopS std X.T false ora' F.er o = some (itEr it) := by
  unfold aopB
  split
  · exact R.Sim.none'
  · rename_i d hd
    split
    · rename_i hlt
      have hlt : nlt d F.er.n = true := hlt
      split
      · rename_i f args ts hop
        refine R.Sim.bd (calleeB_sim F f) fun g hg => R.Sim.bd (argsB_sim F args) fun as has => R.Sim.bd (hO g.1 _) fun r hr => ?_
        split
        · rename_i hf
          have h1 : ora1 g.1 (vserL D.erL (appB as (capsD g.2))) (r.er W.erL) g.1 (vserL D.erL as ++ capsV (D.erL g.2)) = some (r.er W.erL) := by
            unfold ora1
            rw [if_pos ⟨rfl, by rw [appB_eq, vserL_append, capsD_er]⟩]
          have key : (lendB F (f :: args) = true ∨ tvClean r = true) → ∃ ora' : Ora, (∀ g as r, ora' g as = some r → CallOK P g as r) ∧ aopS std X.T false ora' F.er o = some (itEr (d, rootsTB d r, impTB stdB d r)) := by
            intro hc
            refine ⟨ora1 g.1 (vserL D.erL (appB as (capsD g.2))) (r.er W.erL), ?_, ?_⟩
            · intro g' as' r' h'
              unfold ora1 at h'
              split at h'
              · rename_i hh
                simp only [Option.some.injEq] at h'
                subst h'
                rw [hh.1, hh.2]
                exact hr
              · cases h'
            · unfold aopS askO
              simp only [hd, hlt, hop, hg, has, h1, fitsB_er hf, lendB_er]
              rcases hc with hc | hc
              · simp only [hc, itEr, rootsTB_er, impTB_er]
              · cases hl : lendB F (f :: args) with
                | true => simp only [itEr, rootsTB_er, impTB_er]
                | false => simp only [tvClean_er hc, itEr, rootsTB_er, impTB_er]
          split
          · rename_i hl; exact R.Sim.ok ⟨hd, key (.inl hl)⟩
          · split
            · rename_i hc; exact R.Sim.ok ⟨hd, key (.inr hc)⟩
            · exact R.Sim.none'
        · exact R.Sim.none'
      · rename_i e hop
        split
        · rename_i ty ht
          split
          · rename_i zs hz
            obtain ⟨h1, h2⟩ := zWL_er _ hz
            refine R.Sim.ok ⟨hd, fun _ _ => none, (fun _ _ _ h => by cases h), ?_⟩
            unfold aopS
            simp only [hd, hlt, hop, ht, h2, itEr, tbEr, W.er, ← h1]
            rfl
          · exact R.Sim.none'
        · exact R.Sim.none'
      · rename_i x hop
        split
        · rename_i hs
          refine R.Sim.ok ⟨hd, fun _ _ => none, (fun _ _ _ h => by cases h), ?_⟩
          have hs := simB_er hs
          rw [evB_er] at hs
          unfold aopS
          simp only [hd, hlt, hop, hs, itEr, tbEr, evB_er]
        · exact R.Sim.none'
      · rename_i h1 h2 h3
        refine R.Sim.bd (qopB_sim X.T F o.op) fun v hv => R.Sim.ok ⟨hd, fun _ _ => none, (fun _ _ _ h => by cases h), ?_⟩
        rw [aopS_q hd hlt h1 h2 h3, hv]
        rfl
    · exact R.Sim.none'
def memN : List Nat → Nat → Bool
  | [], _ => false
  | a :: r, n => match nq a n with | true => true | false => memN r n
theorem memN_iff {l : List Nat} {n : Nat} : memN l n = true ↔ n ∈ l := by
  induction l with
  | nil => simp [memN]
  | cons a r ih =>
    simp only [memN, List.mem_cons]
    cases h : nq a n with
    | true => obtain rfl := Nat.eq_of_beq_eq_true h; simp
    | false =>
      have : ¬ n = a := fun e => by subst e; simp at h
      simp [ih, this]
def chkIds (DS : List Nat) (t : Nat) : List Nat → Bool
  | [] => true
  | id :: r => match nq (Nat.div id 4096) t with
    | true => chkIds DS t r
    | false => (match memN DS (Nat.div id 4096) with | true => false | false => chkIds DS t r)
def chkTs (F : SF) (DS : List Nat) : List Nat → Bool
  | [] => true
  | t :: r => match chkIds DS t (tvIds (look unB F.tm t)) with | true => chkTs F DS r | false => false
def chkRs (F0 : SF) (d : Nat) : List (Nat × W) → Bool
  | [] => true
  | (id, _) :: r => match has F0.tb id with
    | true => false
    | false => (match nq (Nat.div id 4096) d with | true => chkRs F0 d r | false => false)
theorem chkIds_iff {DS : List Nat} {t : Nat} {l : List Nat} (h : chkIds DS t l = true) : ∀ id ∈ l, id / 4096 = t ∨ id / 4096 ∉ DS := by
  induction l with
  | nil => intro id hid; cases hid
  | cons a r ih =>
    simp only [chkIds] at h
    intro id hid
    split at h
    · rename_i he
      rcases List.mem_cons.1 hid with rfl | hid
      · exact .inl (Nat.eq_of_beq_eq_true he)
      · exact ih h id hid
    · split at h
      · cases h
      · rename_i hm
        rcases List.mem_cons.1 hid with rfl | hid
        · exact .inr (fun hh => by have := memN_iff.2 hh; rw [show id / 4096 = Nat.div id 4096 from rfl, hm] at this; cases this)
        · exact ih h id hid
theorem chkTs_iff {F : SF} {DS : List Nat} {l : List Nat} (h : chkTs F DS l = true) : ∀ t ∈ l, ∀ id ∈ (look unT F.er.tm t).ids, id / 4096 = t ∨ id / 4096 ∉ DS := by
  induction l with
  | nil => intro t ht; cases ht
  | cons a r ih =>
    simp only [chkTs] at h
    split at h
    · rename_i hc
      intro t ht
      rcases List.mem_cons.1 ht with rfl | ht
      · rw [show look unT F.er.tm t = (look unB F.tm t).er B.erL from look_tm _ _, tvIds_er]
        exact chkIds_iff hc
      · exact ih h t ht
    · cases h
theorem chkRs_iff {F0 : SF} {d : Nat} {l : List (Nat × W)} (h : chkRs F0 d l = true) : fresh F0.er (tbEr l) ∧ ∀ id o, (id, o) ∈ tbEr l → id / 4096 = d := by
  induction l with
  | nil => exact ⟨(fun id o hm => by cases hm), (fun id o hm => by cases hm)⟩
  | cons a r ih =>
    obtain ⟨i, w⟩ := a
    simp only [chkRs] at h
    split at h
    · cases h
    · rename_i hh
      split at h
      · rename_i he
        obtain ⟨h1, h2⟩ := ih h
        refine ⟨fun id o hm => ?_, fun id o hm => ?_⟩
        · rcases List.mem_cons.1 hm with e | hm
          · injection e with e _; subst e; rw [show F0.er.tb = tbEr F0.tb from rfl, has_tb]; exact hh
          · exact h1 id o hm
        · rcases List.mem_cons.1 hm with e | hm
          · injection e with e _; subst e; exact Nat.eq_of_beq_eq_true he
          · exact h2 id o hm
      · cases h
def wpD (M : MB) (X : SX) (ora : SOra) (all : List Oper) (F0 : SF) (DS : List Nat) : List Oper → SF → (SF → Prop) → Prop
  | [], F, K => K F
  | o :: l, F, K => withGuard M all F o
    (fun F1 => withPick M F1 o fun F2 => (match aopB M X ora F2 o with
      | some (ps, it) => (match chkTs F2 DS (appB (opL o.op) (gdT ⟨all⟩ o)) with
        | true => (match chkRs F0 it.1 it.2.1 with
          | true => side M ps (wpD M X ora all F0 DS l (F2.apB it) K)
          | false => M.pNo 3)
        | false => M.pNo 4)
      | none => M.pNo 5))
    (fun F1 => (match o.dst with
      | some d => (match chkTs F1 DS (appB (opL o.op) (gdT ⟨all⟩ o)) with
        | true => wpD M X ora all F0 DS l (F1.apB (d, [], .v (false, [.ud]))) K
        | false => M.pNo 6)
      | none => M.pNo 7))
def frs (F : Fr) (its : List It) (i : Nat) : Fr := (its.take i).foldl Fr.ap F
theorem frs_zero (F : Fr) (its : List It) : frs F its 0 = F := rfl
theorem frs_succ (F : Fr) (it : It) (its : List It) (i : Nat) : frs F (it :: its) (i + 1) = frs (F.ap it) its i := rfl
theorem LE.ap {F G : Fr} (h : LE F G) (it : It) : LE (F.ap it) (G.ap it) := by
  have htb : ∀ H : Fr, (H.ap it).tb = it.2.1.reverse ++ H.tb := fun H => adds_tb _ _
  have htm : ∀ H : Fr, (H.ap it).tm = (it.1, it.2.2) :: H.tm := by intro H; show (it.1, it.2.2) :: (H.adds it.2.1).tm = _; rw [(@adds_tm noFence it.2.1 H).1]
  refine ⟨?_, fun t => ?_, fun id => ?_, fun id => ?_⟩
  · show (G.adds it.2.1).n = (F.adds it.2.1).n; rw [(@adds_tm noFence it.2.1 G).2, (@adds_tm noFence it.2.1 F).2, h.n]
  · rw [htm, htm, @look_cons noFence, @look_cons noFence, h.tm]
  · rw [htb, htb, @look_append noFence, @look_append noFence, h.tb]
  · rw [htb, htb, @has_append noFence, @has_append noFence, h.has]
structure ItOK (P : Program) (all : List Oper) (F0 : SF) (DS : List Nat) (F : Fr) (o : Oper) (x : It) : Prop where
  item : AItem P ⟨all⟩ F o x
  dst : o.dst = some x.1
  fr : fresh F0.er x.2.1
  blk : ∀ id o', (id, o') ∈ x.2.1 → id / 4096 = x.1
  ids : ∀ t ∈ lkT ⟨all⟩ o, ∀ id ∈ (look unT F.tm t).ids, id / 4096 = t ∨ id / 4096 ∉ DS
theorem wpD_sound {P : Program} {X : SX} (hT : TyOK P X.T) {ora : SOra} (hO : SOraOK P ora) {all : List Oper} {F0 : SF} {DS : List Nat} {K : SF → Prop} : ∀ (l : List Oper) (F : SF) (Fc : Fr), LE Fc F.er → wpD stdB X ora all F0 DS l F K →
    ∃ (its : List It) (G : SF), its.length = l.length ∧ K G ∧ LE (frs Fc its l.length) G.er ∧ ∀ (i : Nat) (o : Oper) (x : It), l[i]? = some o → its[i]? = some x → ItOK P all F0 DS (frs Fc its i) o x := by
  intro l
  induction l with
  | nil => intro F Fc hl h; exact ⟨[], F, rfl, h, hl, fun i o x ho => by simp at ho⟩
  | cons o l ih =>
    intro F Fc hl h
    simp only [wpD] at h
    obtain ⟨F1, h1, h2⟩ := withGuard_sound h
    have go : ∀ (F2 : SF) (it : It) (F3 : SF), LE Fc F2.er → F3.er = F2.er.ap it → wpD stdB X ora all F0 DS l F3 K → ItOK P all F0 DS Fc o it →
        ∃ (its : List It) (G : SF), its.length = (o :: l).length ∧ K G ∧ LE (frs Fc its (o :: l).length) G.er ∧ ∀ (i : Nat) (o' : Oper) (x : It), (o :: l)[i]? = some o' → its[i]? = some x → ItOK P all F0 DS (frs Fc its i) o' x := by
      intro F2 it F3 hle he hw hit
      obtain ⟨its, G, k1, k2, k3, k4⟩ := ih F3 (Fc.ap it) (by rw [he]; exact hle.ap it) hw
      refine ⟨it :: its, G, by simp [k1], k2, k3, fun i o' x ho hx => ?_⟩
      cases i with
      | zero =>
        simp only [List.getElem?_cons_zero, Option.some.injEq] at ho hx
        subst ho hx
        exact hit
      | succ i => exact k4 i o' x (by simpa using ho) (by simpa using hx)
    have hlk : ∀ t ∈ lkT ⟨all⟩ o, t ∈ appB (opL o.op) (gdT ⟨all⟩ o) := by intro t ht; rw [appB_eq]; exact ht
    rcases h2 with ⟨hw, h2⟩ | ⟨hw, h2⟩
    · obtain ⟨F2, h3, h4⟩ := withPick_sound h2
      split at h4
      · rename_i ps it hit
        split at h4
        · rename_i hc1
          split at h4
          · rename_i hc2
            obtain ⟨hps, h5⟩ := side_std ps _ h4
            obtain ⟨hdst, ora', hO', hag⟩ := aopB_sim X hO F2 o ps it hit hps
            have hle : LE Fc F2.er := (hl.trans h1).trans h3
            obtain ⟨hf1, hf2⟩ := chkRs_iff hc2
            refine go F2 (itEr it) _ hle (apB_er F2 it) h5 ⟨?_, hdst, hf1, hf2, ?_⟩
            · exact AItem.le hle (AItem.of_aop hT hO' (hw.le h3) hag)
            · intro t ht id hid
              rw [← hle.tm t] at hid
              exact chkTs_iff hc1 t (hlk t ht) id hid
          · exact h4.elim
        · exact h4.elim
      · exact h4.elim
    · split at h2
      · rename_i d hd
        split at h2
        · rename_i hc1
          have hle : LE Fc F1.er := hl.trans h1
          refine go F1 (d, [], .v (false, [.ud])) _ hle (apB_er F1 _) h2 ⟨?_, hd, fun id o hm => by (cases hm), fun id o hm => by (cases hm), ?_⟩
          · exact AItem.le hle (AItem.of_skip hd hw)
          · intro t ht id hid
            rw [← hle.tm t] at hid
            exact chkTs_iff hc1 t (hlk t ht) id hid
        · exact h2.elim
      · exact h2.elim
end Go.Proofs.Ytlmejcmnmdleaaa.Ai
