/- A region that draws its order: if its operations only add, each order comes to the same. -/
import Derived.Test.YtlmejcmnmdleaaaDr1
namespace Go.Proofs.Ytlmejcmnmdleaaa.Ai
open Go Go.RowKit
set_option linter.unusedSectionVars false
set_option linter.unusedSimpArgs false

/-- One step, taken or passed by. -/
def StepOK (P : Program) (all : Array Oper) (G : Fr) (o : Oper) (G' : Fr) : Prop := (Wants G all o true ∧ OpOK P G o G') ∨ (Wants G all o false ∧ G' = skipOp G o)
def gdT (all : Array Oper) (o : Oper) : List Nat := match o.guard with
  | none => []
  | some (g, _) => (match (all.toList)[g]? with | some ⟨some t, _, _, _, _, _⟩ => [t] | _ => [])
def lkT (all : Array Oper) (o : Oper) : List Nat := opL o.op ++ gdT all o
def fresh (G : Fr) (rs : List (Nat × O)) : Prop := ∀ id o', (id, o') ∈ rs → has G.tb id = false
/-- What the operation does wherever it reads the same. -/
def AItem (P : Program) (all : Array Oper) (F : Fr) (o : Oper) (it : It) : Prop := ∀ G : Fr, G.n = F.n → Agree F G (lkT all o) → fresh G it.2.1 → StepOK P all G o (G.ap it)
theorem guardV_ag {F G : Fr} {all : Array Oper} {o : Oper} {g : Nat} {want : Bool} (hg : o.guard = some (g, want)) (h : Agree F G (lkT all o)) : guardV G all g = guardV F all g := by
  have hs : ∀ t ∈ gdT all o, look unT G.tm t = look unT F.tm t := fun t ht => h.tm t (by simp [lkT, ht])
  unfold gdT at hs
  rw [hg] at hs
  obtain ⟨l⟩ := all
  unfold guardV
  simp only [@nthOp_eq noFence]
  dsimp only at hs
  split
  · rename_i t _ _ _ _ _ hl
    rw [hl] at hs
    rw [hs t (by simp)]
  · rfl
theorem wants_ag {F G : Fr} {all : Array Oper} {o : Oper} {b : Bool} (hw : Wants F all o b) (h : Agree F G (lkT all o)) : Wants G all o b := by
  unfold Wants at hw ⊢
  split
  · rename_i hg; rw [hg] at hw; exact hw
  · rename_i g want hg; rw [hg] at hw; rw [guardV_ag hg h]; exact hw
theorem AItem.of_aop {P : Program} {T : Nat → Option Ty} (hT : TyOK P T) {ora : Ora} (hO : ∀ g args r, ora g args = some r → CallOK P g args r) {kn : Bool} {all : Array Oper} {F : Fr} {o : Oper} {it : It} (hw : Wants F all o true) (h : aopS std T kn ora F o = some it) : AItem P all F o it := by
  intro G hn ha hf
  refine .inl ⟨wants_ag hw ha, ?_⟩
  have h' := (aopS_ag (M := std) (T := T) (kn := kn) (ora := ora) hn (ha.mono (fun t ht => by simp [lkT, ht]))).trans h
  exact OpOK.of_opS hT hO (aopS_opS h' hf).1
theorem AItem.of_skip {P : Program} {all : Array Oper} {F : Fr} {o : Oper} {d : Nat} (hd : o.dst = some d) (hw : Wants F all o false) : AItem P all F o (d, [], .v (false, [.ud])) := by
  intro G _ ha _
  refine .inr ⟨wants_ag hw ha, ?_⟩
  simp [skipOp, hd, Fr.ap, Fr.adds]

/-! ### what is asked of the text -/
def edgesL (o : Oper) : List Nat := o.after.toList.map (·.on)
def plainE (e : Edge) : Bool := match e.ground with
  | .textOnly _ | .gcOnly _ => false
  | _ => true
def ancs : List Oper → List Nat → List Nat      -- as bits
  | [], acc => acc
  | o :: r, acc => ancs r (acc ++ [(edgesL o).foldl (fun s e => s ||| (1 <<< e) ||| acc.getD e 0) 0])
structure Stat (all : List Oper) (k : Nat) (anc : Nat → Nat → Prop) : Prop where
  le : k ≤ all.length
  plain : ∀ (i : Nat) (o : Oper), all[i]? = some o → ∀ e ∈ o.after.toList, plainE e = true ∧ e.on < i
  an : ∀ (i j : Nat) (o : Oper), all[i]? = some o → anc i j → ∃ e ∈ edgesL o, e = j ∨ anc e j
  suf : ∀ i j, k ≤ i → i < all.length → j < i → anc i j
/-- The prefix, its items, and what they read. -/
structure Dyn (all : List Oper) (k : Nat) (anc : Nat → Nat → Prop) (F : Fr) (its : List It) (Fs : Nat → Fr) : Prop where
  len : its.length = k
  d_inj : ∀ (i j : Nat) (x y : It), its[i]? = some x → its[j]? = some y → x.1 = y.1 → i = j
  rd : ∀ (i j : Nat) (o : Oper) (y : It), i < k → all[i]? = some o → its[j]? = some y → y.1 ∈ lkT ⟨all⟩ o → anc i j ∧ j < i
  fr : ∀ (j : Nat) (y : It), its[j]? = some y → fresh F y.2.1
  blk : ∀ (j : Nat) (y : It), its[j]? = some y → ∀ id o', (id, o') ∈ y.2.1 → id / 4096 = y.1
  ids : ∀ (i : Nat) (o : Oper), i < k → all[i]? = some o → ∀ t ∈ lkT ⟨all⟩ o, ∀ id ∈ (look unT (Fs i).tm t).ids, ∀ (j : Nat) (y : It), its[j]? = some y → id / 4096 = y.1 → id / 4096 = t
  f0 : Fs 0 = F
  fs : ∀ (i : Nat) (x : It), its[i]? = some x → Fs (i + 1) = (Fs i).ap x

theorem adds_tb : ∀ (l : List (Nat × O)) (F : Fr), (F.adds l).tb = l.reverse ++ F.tb := by
  intro l
  induction l with
  | nil => intro F; rfl
  | cons x l ih => obtain ⟨id, o⟩ := x; intro F; simp only [Fr.adds]; rw [ih]; simp [Fr.root]
theorem has_mem {l : List (Nat × O)} {id : Nat} (h : has l id = true) : ∃ o, (id, o) ∈ l := by
  induction l with
  | nil => simp [has] at h
  | cons x l ih =>
    obtain ⟨k, v⟩ := x
    simp only [has] at h
    cases hb : nq k id with
    | true => obtain rfl := Nat.eq_of_beq_eq_true hb; exact ⟨v, List.mem_cons_self⟩
    | false => rw [hb] at h; obtain ⟨o, ho⟩ := ih h; exact ⟨o, List.mem_cons_of_mem _ ho⟩
theorem mem_has {l : List (Nat × O)} {id : Nat} {o : O} (h : (id, o) ∈ l) : has l id = true := by
  induction l with
  | nil => cases h
  | cons x l ih =>
    obtain ⟨k, v⟩ := x
    simp only [has]
    rcases List.mem_cons.1 h with h | h
    · injection h with h _; subst h; simp
    · cases hb : nq k id with
      | true => rfl
      | false => exact ih h
/-- What a frame says behind the operations of E, whatever their order. -/
structure Inv (k : Nat) (F : Fr) (its : List It) (E : Nat → Prop) (G : Fr) : Prop where
  n : G.n = F.n
  tm1 : ∀ (j : Nat) (y : It), its[j]? = some y → E j → look unT G.tm y.1 = y.2.2
  tm2 : ∀ t, (∀ (j : Nat) (y : It), its[j]? = some y → E j → y.1 ≠ t) → look unT G.tm t = look unT F.tm t
  tb1 : ∀ (j : Nat) (y : It), its[j]? = some y → E j → ∀ id, has y.2.1.reverse id = true → look .un G.tb id = look .un y.2.1.reverse id
  tb2 : ∀ id, (∀ (j : Nat) (y : It), its[j]? = some y → E j → has y.2.1.reverse id = false) → look .un G.tb id = look .un F.tb id ∧ has G.tb id = has F.tb id
section
variable {P : Program} {all : List Oper} {k : Nat} {anc : Nat → Nat → Prop} {F G : Fr} {its : List It} {Fs : Nat → Fr} {E : Nat → Prop}
theorem Inv.start : Inv k F its (fun _ => False) F := ⟨rfl, fun _ _ _ h => h.elim, fun _ _ => rfl, fun _ _ _ h => h.elim, fun _ _ => ⟨rfl, rfl⟩⟩
theorem Inv.step (hD : Dyn all k anc F its Fs) (h : Inv k F its E G) {i : Nat} {x : It} (hx : its[i]? = some x) (hi : ¬ E i) : Inv k F its (fun j => j = i ∨ E j) (G.ap x) := by
  have htb : (G.ap x).tb = x.2.1.reverse ++ G.tb := adds_tb _ _
  have htm : (G.ap x).tm = (x.1, x.2.2) :: G.tm := by show (x.1, x.2.2) :: (G.adds x.2.1).tm = _; rw [(@adds_tm noFence x.2.1 G).1]
  refine ⟨?_, ?_, ?_, ?_, ?_⟩
  · show (G.adds x.2.1).n = F.n; rw [(@adds_tm noFence x.2.1 G).2, h.n]
  · intro j y hy hE
    rw [htm, @look_cons noFence]
    by_cases e : x.1 = y.1
    · obtain rfl := hD.d_inj i j x y hx hy e
      rw [hx] at hy
      injection hy with hy
      subst hy
      rw [if_pos rfl]
    · rw [if_neg e]
      rcases hE with rfl | hE
      · rw [hx] at hy; injection hy with hy; subst hy; exact absurd rfl e
      · exact h.tm1 j y hy hE
  · intro t ht
    rw [htm, @look_cons noFence, if_neg (ht i x hx (.inl rfl))]
    exact h.tm2 t (fun j y hy hE => ht j y hy (.inr hE))
  · intro j y hy hE id hid
    rw [htb, @look_append noFence]
    have hb : ∀ z : It, (∃ m : Nat, its[m]? = some z) → has z.2.1.reverse id = true → id / 4096 = z.1 := by
      rintro z ⟨m, hm⟩ hz
      obtain ⟨o, ho⟩ := has_mem hz
      exact hD.blk m z hm id o (by simpa using ho)
    cases hxi : has x.2.1.reverse id with
    | true =>
      obtain rfl := hD.d_inj i j x y hx hy ((hb x ⟨i, hx⟩ hxi).symm.trans (hb y ⟨j, hy⟩ hid))
      rw [hx] at hy
      injection hy with hy
      subst hy
      simp
    | false =>
      rcases hE with rfl | hE
      · rw [hx] at hy; injection hy with hy; subst hy; rw [hxi] at hid; cases hid
      · simpa using h.tb1 j y hy hE id hid
  · intro id hid
    have h1 := hid i x hx (.inl rfl)
    rw [htb, @look_append noFence, @has_append noFence, h1]
    simpa using h.tb2 id (fun j y hy hE => hid j y hy (.inr hE))
theorem inv_text (hD : Dyn all k anc F its Fs) : ∀ i, i ≤ k → Inv k F its (fun j => j < i) (Fs i) := by
  intro i
  induction i with
  | zero => intro _; rw [hD.f0]; exact ⟨rfl, fun _ _ _ h => absurd h (by omega), fun _ _ => rfl, fun _ _ _ h => absurd h (by omega), fun _ _ => ⟨rfl, rfl⟩⟩
  | succ i ih =>
    intro hi
    have hlt : i < its.length := by rw [hD.len]; omega
    have hx : its[i]? = some its[i] := List.getElem?_eq_getElem hlt
    rw [hD.fs i _ hx]
    have := (ih (by omega)).step hD hx (by omega)
    have he : (fun j => j = i ∨ j < i) = (fun j => j < i + 1) := by funext j; exact propext ⟨fun h => by omega, fun h => by omega⟩
    rwa [he] at this
theorem agree_of (hD : Dyn all k anc F its Fs) (h : Inv k F its E G) {i : Nat} {o : Oper} (hi : i < k) (ho : all[i]? = some o) (ha : ∀ j, anc i j → E j) : Agree (Fs i) G (lkT ⟨all⟩ o) := by
  have ht := inv_text hD i (Nat.le_of_lt hi)
  have key : ∀ t ∈ lkT ⟨all⟩ o, look unT G.tm t = look unT (Fs i).tm t := by
    intro t hm
    by_cases hj : ∃ (j : Nat) (y : It), its[j]? = some y ∧ y.1 = t
    · obtain ⟨j, y, hy, rfl⟩ := hj
      obtain ⟨h1, h2⟩ := hD.rd i j o y hi ho hy hm
      rw [h.tm1 j y hy (ha j h1), ht.tm1 j y hy h2]
    · rw [h.tm2 t (fun j y hy _ e => hj ⟨j, y, hy, e⟩), ht.tm2 t (fun j y hy _ e => hj ⟨j, y, hy, e⟩)]
  refine ⟨key, fun t hm id hid => ?_⟩
  by_cases hj : ∃ (j : Nat) (y : It), its[j]? = some y ∧ has y.2.1.reverse id = true
  · obtain ⟨j, y, hy, hh⟩ := hj
    obtain ⟨o', ho'⟩ := has_mem hh
    have hb := hD.blk j y hy id o' (by simpa using ho')
    have e := hD.ids i o hi ho t hm id hid j y hy hb
    obtain ⟨h1, h2⟩ := hD.rd i j o y hi ho hy (by rw [← hb, e]; exact hm)
    rw [h.tb1 j y hy (ha j h1) id hh, ht.tb1 j y hy h2 id hh]
  · have hno : ∀ (j : Nat) (y : It), its[j]? = some y → has y.2.1.reverse id = false := by
      intro j y hy
      cases hh : has y.2.1.reverse id with
      | false => rfl
      | true => exact absurd ⟨j, y, hy, hh⟩ hj
    rw [(h.tb2 id (fun j y hy _ => hno j y hy)).1, (ht.tb2 id (fun j y hy _ => hno j y hy)).1]
theorem fresh_of (hD : Dyn all k anc F its Fs) (h : Inv k F its E G) {i : Nat} {x : It} (hx : its[i]? = some x) (hi : ¬ E i) : fresh G x.2.1 := by
  intro id o' hm
  rw [(h.tb2 id ?_).2]
  · exact hD.fr i x hx id o' hm
  · intro j y hy hE
    cases hh : has y.2.1.reverse id with
    | false => rfl
    | true =>
      obtain ⟨o'', ho⟩ := has_mem hh
      have h1 := hD.blk j y hy id o'' (by simpa using ho)
      have h2 := hD.blk i x hx id o' hm
      obtain rfl := hD.d_inj i j x y hx hy (h2.symm.trans h1)
      exact absurd hE hi
theorem inv_fr {J : Fence} {σ : Gh} {w : World} {vt : Nat → Value} {G' : Fr} (h : Inv k F its E G) (h' : Inv k F its E G') (hF : FR G σ w vt) (hd : Dom G σ []) : FR G' σ w vt ∧ Dom G' σ [] := by
  have htm : ∀ t, look unT G'.tm t = look unT G.tm t := by
    intro t
    by_cases hj : ∃ (j : Nat) (y : It), its[j]? = some y ∧ E j ∧ y.1 = t
    · obtain ⟨j, y, hy, hE, rfl⟩ := hj
      rw [h.tm1 j y hy hE, h'.tm1 j y hy hE]
    · rw [h.tm2 t (fun j y hy hE e => hj ⟨j, y, hy, hE, e⟩), h'.tm2 t (fun j y hy hE e => hj ⟨j, y, hy, hE, e⟩)]
  have htb : ∀ id, look .un G'.tb id = look .un G.tb id := by
    intro id
    by_cases hj : ∃ (j : Nat) (y : It), its[j]? = some y ∧ E j ∧ has y.2.1.reverse id = true
    · obtain ⟨j, y, hy, hE, hh⟩ := hj
      rw [h.tb1 j y hy hE id hh, h'.tb1 j y hy hE id hh]
    · have hno : ∀ (j : Nat) (y : It), its[j]? = some y → E j → has y.2.1.reverse id = false := by
        intro j y hy hE
        cases hh : has y.2.1.reverse id with
        | false => rfl
        | true => exact absurd ⟨j, y, hy, hE, hh⟩ hj
      rw [(h.tb2 id hno).1, (h'.tb2 id hno).1]
  refine ⟨⟨hF.inj, hF.lt, fun id => by rw [htb]; exact hF.tb id, fun t => by rw [htm]; exact hF.tm t⟩, fun g x hx => ?_⟩
  rcases hd g x hx with h1 | h1
  · left
    have : G'.at std x.p = G.at std x.p := by unfold Fr.at; rw [htb]
    rw [this]
    exact h1
  · exact .inr h1
end

/-! ### the order that is drawn -/
def cntU : Nat → (Nat → Bool) → Nat
  | 0, _ => 0
  | n + 1, f => cntU n f + (match f n with | true => 0 | false => 1)
theorem cntU_congr {f g : Nat → Bool} : ∀ n, (∀ i, i < n → f i = g i) → cntU n f = cntU n g := by
  intro n
  induction n with
  | zero => intro _; rfl
  | succ n ih => intro h; simp only [cntU, ih (fun i hi => h i (by omega)), h n (by omega)]
theorem cntU_set {f : Nat → Bool} {i : Nat} : ∀ n, i < n → f i = false → cntU n (fun j => if j = i then true else f j) + 1 = cntU n f := by
  intro n
  induction n with
  | zero => intro h; omega
  | succ n ih =>
    intro hi hf
    simp only [cntU]
    by_cases e : i = n
    · subst e
      have : cntU i (fun j => if j = i then true else f j) = cntU i f := cntU_congr i (fun j hj => by rw [if_neg (by omega)])
      rw [this, hf]
      simp
    · have := ih (by omega) hf
      rw [if_neg (by omega)]
      omega
theorem cntU_lt : ∀ (n j : Nat), j ≤ n → cntU n (fun i => decide (i < j)) = n - j := by
  intro n
  induction n with
  | zero => intro j h; simp [cntU]
  | succ n ih =>
    intro j h
    simp only [cntU]
    by_cases e : j ≤ n
    · rw [ih j e]
      have : decide (n < j) = false := by simp; omega
      rw [this]
      simp
      omega
    · have hj : j = n + 1 := by omega
      subst hj
      have : cntU n (fun i => decide (i < n + 1)) = cntU n (fun i => decide (i < n)) := cntU_congr n (fun i hi => by simp; omega)
      rw [this, ih n (Nat.le_refl _)]
      simp
section
variable {P : Program} {all : List Oper} {k : Nat} {anc : Nat → Nat → Prop} {F : Fr} {its : List It} {Fs : Nat → Fr}
theorem ready_mem {listed : Array Bool} {i : Nat} (hS : Stat all k anc) : i ∈ Region.ready .any ⟨all⟩ listed ↔ i < all.length ∧ listed.getD i true = false ∧ ∃ o, all[i]? = some o ∧ ∀ e ∈ edgesL o, listed.getD e false = true := by
  unfold Region.ready
  simp only [List.mem_filter, List.mem_range, Bool.and_eq_true, Bool.not_eq_true']
  constructor
  · rintro ⟨h1, h2, h3⟩
    refine ⟨h1, h2, ?_⟩
    have ho : all[i]? = some all[i] := List.getElem?_eq_getElem h1
    refine ⟨_, ho, ?_⟩
    simp only [List.getElem?_toArray, ho, Option.map_some, Option.getD_some] at h3
    intro e he
    obtain ⟨x, hx, rfl⟩ := List.mem_map.1 he
    have := Array.all_eq_true'.1 h3 x (by simpa using hx)
    have hp := (hS.plain i _ ho x hx).1
    have hb : Region.binds .any x = true := by unfold plainE at hp; unfold Region.binds; split <;> simp_all
    rw [hb] at this
    simpa using this
  · rintro ⟨h1, h2, o, ho, h3⟩
    refine ⟨h1, h2, ?_⟩
    simp only [List.getElem?_toArray, ho, Option.map_some, Option.getD_some]
    refine Array.all_eq_true'.2 fun x hx => ?_
    simp [h3 x.on (List.mem_map.2 ⟨x, by simpa using hx, rfl⟩)]
theorem anc_done (hS : Stat all k anc) {listed : Array Bool} (hd : ∀ (i : Nat) (o : Oper), all[i]? = some o → listed.getD i false = true → ∀ e ∈ edgesL o, listed.getD e false = true) :
    ∀ (i : Nat) (o : Oper), all[i]? = some o → (∀ e ∈ edgesL o, listed.getD e false = true) → ∀ j, anc i j → listed.getD j false = true := by
  intro i
  induction i using Nat.strongRecOn with
  | _ i ih =>
    intro o ho he j hj
    obtain ⟨e, he1, he2⟩ := hS.an i j o ho hj
    rcases he2 with rfl | he2
    · exact he e he1
    · obtain ⟨x, hx, rfl⟩ := List.mem_map.1 he1
      have hlt := (hS.plain i o ho x hx).2
      have hlen : i < all.length := (List.getElem?_eq_some_iff.1 ho).1
      have hxo : all[x.on]? = some all[x.on] := List.getElem?_eq_getElem (by omega)
      exact ih x.on hlt _ hxo (hd x.on _ hxo (he x.on he1)) j he2
theorem lin_step (md : Region.Mode) (ops : Array Oper) (fuel t : Nat) (listed : Array Bool) : Region.linearise.go md ops (fuel + 1) t listed [] =
    match (Region.ready md ops listed)[t % (Region.ready md ops listed).length]? with
      | some i => i :: Region.linearise.go md ops fuel (t / (Region.ready md ops listed).length) (listed.setIfInBounds i true) []
      | none => [] := by
  simp only [Region.linearise.go]
  show (match (Region.ready md ops listed)[t % (Region.ready md ops listed).length]? with
      | some i => Region.linearise.go md ops fuel (t / (Region.ready md ops listed).length) (listed.setIfInBounds i true) [i]
      | none => [].reverse) = _
  split
  · rw [linearise_go_acc]; rfl
  · rfl
theorem pick_mem {l : List Nat} (h : l ≠ []) (t : Nat) : ∃ i, l[t % l.length]? = some i ∧ i ∈ l := by
  have hl : 0 < l.length := by cases l with | nil => exact absurd rfl h | cons _ _ => simp
  have hlt := Nat.mod_lt t hl
  exact ⟨l[t % l.length], List.getElem?_eq_getElem hlt, List.getElem_mem hlt⟩
theorem getD_set {listed : Array Bool} {i j : Nat} (hi : i < listed.size) (d : Bool) : (listed.setIfInBounds i true).getD j d = if j = i then true else listed.getD j d := by
  simp only [Array.getD_eq_getD_getElem?, Array.getElem?_setIfInBounds]
  by_cases e : i = j
  · subst e; simp [hi]
  · rw [if_neg e, if_neg (fun h => e h.symm)]
/-- Behind the prefix the order is the text's. -/
theorem lin_suf (hS : Stat all k anc) : ∀ (m j t : Nat) (listed : Array Bool), j + m = all.length → k ≤ j → listed.size = all.length → (∀ i d, i < all.length → listed.getD i d = decide (i < j)) → Region.linearise.go .any ⟨all⟩ m t listed [] = List.range' j m := by
  intro m
  induction m with
  | zero => intro j t listed _ _ _ _; simp [Region.linearise.go]
  | succ m ih =>
    intro j t listed hj hk hsz hl
    have hjl : j < all.length := by omega
    have hr : Region.ready .any ⟨all⟩ listed = [j] := by
      have hmem : ∀ i, i ∈ Region.ready .any ⟨all⟩ listed ↔ i = j := by
        intro i
        rw [ready_mem hS]
        constructor
        · rintro ⟨h1, h2, o, ho, h3⟩
          rw [hl i true h1] at h2
          simp at h2
          rcases Nat.lt_or_ge j i with hlt | hge
          · exfalso
            have ha := hS.suf i j (by omega) h1 hlt
            have hdn : ∀ (i : Nat) (o : Oper), all[i]? = some o → listed.getD i false = true → ∀ e ∈ edgesL o, listed.getD e false = true := by
              intro i' o' ho' hi' e he
              obtain ⟨x, hx, rfl⟩ := List.mem_map.1 he
              have hx2 := (hS.plain i' o' ho' x hx).2
              have hi2 : i' < all.length := (List.getElem?_eq_some_iff.1 ho').1
              rw [hl i' false hi2] at hi'
              rw [hl x.on false (by omega)]
              simp at hi' ⊢
              omega
            have := anc_done hS hdn i o ho h3 j ha
            rw [hl j false hjl] at this
            simp at this
          · omega
        · rintro rfl
          refine ⟨hjl, by rw [hl i true hjl]; simp, _, List.getElem?_eq_getElem hjl, fun e he => ?_⟩
          obtain ⟨x, hx, rfl⟩ := List.mem_map.1 he
          have hx2 := (hS.plain i _ (List.getElem?_eq_getElem hjl) x hx).2
          rw [hl x.on false (by omega)]
          simp
          omega
      have hnd : (Region.ready .any ⟨all⟩ listed).Nodup := by unfold Region.ready; exact List.Nodup.sublist List.filter_sublist List.nodup_range
      cases hq : Region.ready .any ⟨all⟩ listed with
      | nil => have := (hmem j).2 rfl; rw [hq] at this; cases this
      | cons a r =>
        rw [hq] at hmem hnd
        have ha := (hmem a).1 List.mem_cons_self
        subst ha
        cases r with
        | nil => rfl
        | cons b r =>
          have hb := (hmem b).1 (by simp)
          subst hb
          simp at hnd
    rw [lin_step, hr]
    simp only [List.length_cons, List.length_nil, Nat.zero_add, Nat.mod_one, List.getElem?_cons_zero, List.range'_succ]
    congr 1
    refine ih (j + 1) _ _ (by omega) (by omega) (by simpa using hsz) ?_
    intro i d hi
    rw [getD_set (by omega), hl i d hi]
    by_cases e : i = j
    · simp [e]
    · rw [if_neg e]; simp; omega
theorem draw_run (hS : Stat all k anc) (hD : Dyn all k anc F its Fs) (hA : ∀ (i : Nat) (o : Oper) (x : It), all[i]? = some o → its[i]? = some x → AItem P ⟨all⟩ (Fs i) o x) {J : Fence} (b : Frame) (ks : List Item) (cs : List Frame) :
    ∀ (fuel t : Nat) (listed : Array Bool) (G : Fr) (a : Act) (w : World) (σ : Gh), listed.size = all.length → fuel = cntU all.length (fun i => listed.getD i false) → (∀ i, k ≤ i → listed.getD i false = false) →
      (∀ (i : Nat) (o : Oper), all[i]? = some o → listed.getD i false = true → ∀ e ∈ edgesL o, listed.getD e false = true) → Inv k F its (fun j => j < k ∧ listed.getD j false = true) G → FR G σ w (valT a) → Dom G σ [] → G.n ≤ a.tmps.size →
      ∃ a' w' σ', Steps P (lone (b.at a (.inRegion ⟨all⟩ (Region.linearise.go .any ⟨all⟩ fuel t listed []) :: ks)) cs w) (lone (b.at a' (.inRegion ⟨all⟩ (List.range' k (all.length - k)) :: ks)) cs w') ∧
        FR (Fs k) σ' w' (valT a') ∧ Dom (Fs k) σ' [] ∧ Goes w σ w' σ' ∧ a'.defers = a.defers ∧ a'.tmps.size = a.tmps.size := by
  intro fuel
  induction fuel with
  | zero =>
    intro t listed G a w σ hsz hfu hsuf hdn hI hF hd hn
    -- nothing is left: k = all.length
    have hall : ∀ i, i < all.length → listed.getD i false = true := by
      intro i hi
      cases hl : listed.getD i false with
      | true => rfl
      | false =>
        have := cntU_set (f := fun i => listed.getD i false) all.length hi hl
        omega
    have hk : k = all.length := by
      rcases Nat.lt_or_ge k all.length with h | h
      · have := hall k h; rw [hsuf k (Nat.le_refl _)] at this; cases this
      · have := hS.le; omega
    refine ⟨a, w, σ, ?_, ?_⟩
    · rw [hk]; simp [Region.linearise.go]; exact .refl P _
    · have he : (fun j => j < k ∧ listed.getD j false = true) = (fun j => j < k) := by funext j; exact propext ⟨fun h => h.1, fun h => ⟨h, hall j (by omega)⟩⟩
      rw [he] at hI
      obtain ⟨h1, h2⟩ := inv_fr hI (inv_text hD k (Nat.le_refl _)) hF hd
      exact ⟨h1, h2, Goes.refl _ _, rfl, rfl⟩
  | succ fuel ih =>
    intro t listed G a w σ hsz hfu hsuf hdn hI hF hd hn
    by_cases hpre : ∀ i, i < k → listed.getD i false = true
    · -- the prefix is done
      have hl : ∀ i d, i < all.length → listed.getD i d = decide (i < k) := by
        intro i d hi
        have h0 : listed.getD i d = listed.getD i false := by simp only [Array.getD_eq_getD_getElem?, Array.getElem?_eq_getElem (show i < listed.size by omega), Option.getD_some]
        rw [h0]
        by_cases h : i < k
        · rw [hpre i h]; simp [h]
        · rw [hsuf i (by omega)]; simp [h]
      have hc : fuel + 1 = all.length - k := by
        rw [hfu, cntU_congr (g := fun i => decide (i < k)) _ (fun i hi => hl i false hi)]
        exact cntU_lt _ _ hS.le
      refine ⟨a, w, σ, ?_, ?_⟩
      · rw [lin_suf hS (fuel + 1) k t listed (by omega) (Nat.le_refl _) hsz hl, ← hc]; exact .refl P _
      · have he : (fun j => j < k ∧ listed.getD j false = true) = (fun j => j < k) := by funext j; exact propext ⟨fun h => h.1, fun h => ⟨h, hpre j h⟩⟩
        rw [he] at hI
        obtain ⟨h1, h2⟩ := inv_fr hI (inv_text hD k (Nat.le_refl _)) hF hd
        exact ⟨h1, h2, Goes.refl _ _, rfl, rfl⟩
    · -- some operation of the prefix comes next
      obtain ⟨i0, hi0, hl0, hmin⟩ : ∃ i0, i0 < k ∧ listed.getD i0 false = false ∧ ∀ i, i < i0 → listed.getD i false = true := by
        have hex : ∃ i, i < k ∧ listed.getD i false = false := by
          refine Classical.byContradiction fun hno => hpre fun i hi => ?_
          cases hl : listed.getD i false with
          | true => rfl
          | false => exact absurd ⟨i, hi, hl⟩ hno
        obtain ⟨i, hi, hl⟩ := hex
        induction i using Nat.strongRecOn with
        | _ i ihi =>
          by_cases hm : ∀ j, j < i → listed.getD j false = true
          · exact ⟨i, hi, hl, hm⟩
          · obtain ⟨j, hj, hlj⟩ : ∃ j, j < i ∧ listed.getD j false = false := by
              refine Classical.byContradiction fun hno => hm fun j hj => ?_
              cases hl' : listed.getD j false with
              | true => rfl
              | false => exact absurd ⟨j, hj, hl'⟩ hno
            exact ihi j hj (by omega) hlj
      have hle := hS.le
      have hgd : ∀ i, i < all.length → listed.getD i true = listed.getD i false := by
        intro i hi
        simp only [Array.getD_eq_getD_getElem?, Array.getElem?_eq_getElem (show i < listed.size by omega), Option.getD_some]
      have hne : Region.ready .any ⟨all⟩ listed ≠ [] := by
        intro hq
        have hr : i0 ∈ Region.ready .any ⟨all⟩ listed := by
          rw [ready_mem hS]
          have ho : all[i0]? = some all[i0] := List.getElem?_eq_getElem (by omega)
          refine ⟨by omega, by rw [hgd i0 (by omega)]; exact hl0, _, ho, fun e he => ?_⟩
          obtain ⟨x, hx, rfl⟩ := List.mem_map.1 he
          exact hmin x.on (hS.plain i0 _ ho x hx).2
        rw [hq] at hr
        cases hr
      obtain ⟨i, hpi, hmi⟩ := pick_mem hne t
      rw [ready_mem hS] at hmi
      obtain ⟨hil, hiu, o, ho, hed⟩ := hmi
      rw [hgd i hil] at hiu
      have hanc := anc_done hS hdn i o ho hed
      have hik : i < k := by
        rcases Nat.lt_or_ge i k with h | h
        · exact h
        · have := hanc i0 (hS.suf i i0 h hil (by omega))
          rw [hl0] at this
          cases this
      obtain ⟨itx, hix⟩ : ∃ x, its[i]? = some x := ⟨its[i]'(by rw [hD.len]; exact hik), List.getElem?_eq_getElem _⟩
      have hancE : ∀ j, anc i j → j < k ∧ listed.getD j false = true := by
        intro j hj
        have h1 := hanc j hj
        refine ⟨?_, h1⟩
        rcases Nat.lt_or_ge j k with h | h
        · exact h
        · rw [hsuf j h] at h1; cases h1
      have hag := agree_of hD hI hik ho hancE
      have hnE : ¬ (i < k ∧ listed.getD i false = true) := by rw [hiu]; simp
      have hfr := fresh_of hD hI hix hnE
      have hGn : G.n = (Fs i).n := by rw [hI.n, (inv_text hD i (Nat.le_of_lt hik)).n]
      have hst := hA i o _ ho hix G hGn hag hfr
      have hI' := hI.step hD hix hnE
      have hE : (fun j => j = i ∨ j < k ∧ listed.getD j false = true) = (fun j => j < k ∧ (listed.setIfInBounds i true).getD j false = true) := by
        funext j
        rw [getD_set (by omega)]
        refine propext ⟨?_, ?_⟩
        · rintro (rfl | ⟨h1, h2⟩)
          · exact ⟨hik, by simp⟩
          · refine ⟨h1, ?_⟩
            split
            · rfl
            · exact h2
        · rintro ⟨h1, h2⟩
          split at h2
          · exact .inl (by assumption)
          · exact .inr ⟨h1, h2⟩
      rw [hE] at hI'
      have hfu' : fuel = cntU all.length (fun j => (listed.setIfInBounds i true).getD j false) := by
        have h1 := cntU_set (f := fun j => listed.getD j false) all.length hil hiu
        have h2 : cntU all.length (fun j => (listed.setIfInBounds i true).getD j false) = cntU all.length (fun j => if j = i then true else listed.getD j false) :=
          cntU_congr _ (fun j _ => getD_set (by omega) _)
        omega
      have hrest := fun a1 w1 σ1 => ih (t / (Region.ready .any ⟨all⟩ listed).length) (listed.setIfInBounds i true) (G.ap itx) a1 w1 σ1 (by simpa using hsz) hfu'
        (by intro j hj; rw [getD_set (by omega), if_neg (by omega)]; exact hsuf j hj)
        (by
          intro j o' ho' hj e he
          rw [getD_set (by omega)] at hj ⊢
          split
          · rfl
          · split at hj
            · rename_i hji
              subst hji
              rw [ho] at ho'
              injection ho' with ho'
              subst ho'
              exact hed e he
            · exact hdn j o' ho' hj e he) hI'
      rw [lin_step, hpi]
      dsimp only
      have hoa : (⟨all⟩ : Array Oper)[i]? = some o := by simpa using ho
      rcases hst with ⟨hw, hop⟩ | ⟨hw, hsk⟩
      · obtain ⟨a1, w1, σ1, k1, k2, k3, k4, k5, k6, k7⟩ := hop J a w σ hF hd hn b ks cs ⟨all⟩ i _ hoa (hw.sound hF)
        obtain ⟨a', w', σ', m1, m2, m3, m4, m5, m6⟩ := hrest a1 w1 σ1 k2 k3 (by omega)
        exact ⟨a', w', σ', k1.trans m1, m2, m3, k4.trans m4, m5.trans k6, m6.trans k7⟩
      · obtain ⟨g1, g2, g3⟩ := skip_sound hF hd o
        have hs := step_op_skip (P := P) (b := b) (a := a) (k := ks) (cs := cs) (w := w) (ops := ⟨all⟩) (i := i) (rest := Region.linearise.go .any ⟨all⟩ fuel (t / (Region.ready .any ⟨all⟩ listed).length) (listed.setIfInBounds i true) []) (by rw [hoa]; simpa using hw.sound hF)
        rw [hoa] at hs
        simp only [Option.bind_some] at hs
        rw [← hsk] at g1 g2 g3
        obtain ⟨a', w', σ', m1, m2, m3, m4, m5, m6⟩ := hrest _ w σ g1 g2 (by rw [g3, put_size]; exact hn)
        exact ⟨a', w', σ', .head hs m1, m2, m3, m4, m5.trans (put_defers _ _), m6.trans (put_size _ _)⟩
theorem Ex.draw {ks : List K} {Post : Fr → Prop} {id : Nat} (hS : Stat all k anc) (hD : Dyn all k anc F its Fs) (hA : ∀ (i : Nat) (o : Oper) (x : It), all[i]? = some o → its[i]? = some x → AItem P ⟨all⟩ (Fs i) o x)
    (h : Ex P (.r ⟨all⟩ (all.drop k) :: ks) (Fs k) Post) : Ex P (.c (.region id ⟨all⟩ true) :: ks) F Post := by
  intro J a w σ hok hF hd hn its' hi b cs
  obtain rfl := items_of (by intro b; simp) hi
  have hstep := step_region_draw (P := P) (b := b) (a := a) (k := ks.map itemK) (cs := cs) (w := w) (ops := ⟨all⟩) (id := id)
  have hdep : Region.departs ⟨all⟩ = false := by
    unfold Region.departs
    cases hc : (⟨all⟩ : Array Oper).any (fun o => o.after.any fun e => !Region.binds .any e) with
    | false => rfl
    | true =>
      exfalso
      obtain ⟨o, ho, h2⟩ := Array.any_eq_true'.1 hc
      obtain ⟨e, he, h3⟩ := Array.any_eq_true'.1 h2
      obtain ⟨i, hi'⟩ := List.mem_iff_getElem?.1 (show o ∈ all by simpa using ho)
      have hp := (hS.plain i o hi' e (by simpa using he)).1
      unfold plainE at hp
      unfold Region.binds at h3
      split at h3 <;> simp_all
  have hsch : ∀ t, Region.schedule (P.follows .mixedOrders) ⟨all⟩ t = Region.linearise.go .any ⟨all⟩ all.length t (Array.replicate all.length false) [] := by
    intro t
    unfold Region.schedule
    rw [hdep]
    simp [Region.linearise]
  rw [hsch] at hstep
  have hrep : ∀ (i : Nat) (d : Bool), (Array.replicate all.length false).getD i false = false := by
    intro i _
    simp only [Array.getD_eq_getD_getElem?, Array.getElem?_replicate]
    split <;> rfl
  have hF' : FR F σ { w with drawn := w.drawn + 1 } (valT a) := hF.drawn _
  have hd' : Dom F σ [] := hd
  obtain ⟨a1, w1, σ1, k1, k2, k3, k4, k5, k6⟩ := draw_run hS hD hA b (ks.map itemK) cs all.length (w.tape w.drawn (.order b.fn id)) (Array.replicate all.length false) F a { w with drawn := w.drawn + 1 } σ (by simp)
    (by
      rw [cntU_congr (g := fun i => decide (i < 0)) _ (fun i _ => by rw [hrep i false]; simp)]
      rw [cntU_lt _ _ (Nat.zero_le _)]
      simp)
    (fun i _ => hrep i false) (fun i o _ hi => by rw [hrep i false] at hi; cases hi)
    (by
      have he : (fun j => j < k ∧ (Array.replicate all.length false).getD j false = true) = (fun _ => False) := by
        funext j; rw [hrep j false]; simp
      rw [he]
      exact Inv.start) hF' hd' hn
  have hgo : Goes w σ w1 σ1 := (Goes.drawn w σ _).trans k4
  have hokr : okK (.r ⟨all⟩ (all.drop k)) := by
    refine ⟨by simp, ?_⟩
    have := hS.le
    simp only [List.length_drop]
    rw [show (⟨all⟩ : Array Oper).size - (all.length - k) = k by simp; omega]
  have hit : (K.r ⟨all⟩ (all.drop k) :: ks).map itemK = .inRegion ⟨all⟩ (List.range' k (all.length - k)) :: ks.map itemK := by
    have := hS.le
    simp only [List.map_cons, itemK, List.length_drop]
    rw [show (⟨all⟩ : Array Oper).size - (all.length - k) = k by simp; omega]
  obtain ⟨F', a', w', σ', todo, m0, m1, m2, m3, m4, m5, m6, m7⟩ := h J a1 w1 σ1 (okK_cons hokr (okK_tail hok)) k2 k3 (by rw [(inv_text hD k (Nat.le_refl _)).n]; omega) _ (.inl rfl) b cs
  rw [hit] at m1
  exact ⟨F', a', w', σ', todo, m0, .head hstep (k1.trans m1), m2, m3, hgo.trans m4, m5.trans (inv_text hD k (Nat.le_refl _)).n, m6.trans k5, m7.trans k6⟩
end
end Go.Proofs.Ytlmejcmnmdleaaa.Ai
