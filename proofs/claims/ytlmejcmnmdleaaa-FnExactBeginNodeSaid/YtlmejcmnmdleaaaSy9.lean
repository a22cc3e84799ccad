/- Symbolic runs, part 9: a function's walk is one proposition; who proves it knows the call. -/
import Derived.Test.YtlmejcmnmdleaaaSy8
namespace Go.Proofs.Ytlmejcmnmdleaaa.Ai
open Go
set_option linter.unusedSectionVars false
set_option linter.unusedSimpArgs false

def takeN {α : Type} : List α → Nat → List α
  | _, 0 => []
  | [], _ + 1 => []
  | a :: r, n + 1 => a :: takeN r n
theorem takeN_eq {α : Type} (l : List α) (n : Nat) : takeN l n = l.take n := by
  induction l generalizing n with
  | nil => cases n <;> rfl
  | cons a r ih => cases n <;> simp [takeN, ih]
def dstsB : List Oper → List Nat
  | [] => []
  | o :: r => match o.dst with | some d => d :: dstsB r | none => dstsB r
/-- The regions that draw are fit. -/
def codeOK (dr : Nat → Nat) : Code → Bool
  | .region id ⟨ops⟩ true => statB ops (dr id) || (nq (dr id) ops.length && statB2 ops)
  | .seq a b => codeOK dr a && codeOK dr b
  | .cond _ a b => codeOK dr a && codeOK dr b
  | .block _ b => codeOK dr b
  | .loop b => codeOK dr b
  | _ => true
def kOK (dr : Nat → Nat) : K → Bool
  | .c x => codeOK dr x
  | .lp b => codeOK dr b
  | _ => true
def opB (M : MB) (X : SX) (ora : SOra) (F : SF) (o : Oper) : R SF :=
  match o.dst with
  | none => (match o.op with
    | .store t a x => (match X.T t with
      | some ty => storeB M F ty.size a x
      | none => none)
    | _ => none)
  | some d => (match nlt d F.n with
    | true => (match o.op with
      | .call ⟨.value f, ⟨args⟩, _⟩ => callB M ora F d f args
      | op => wopB M X F d op)
    | false => none)
theorem opB_sim {P : Program} {X : SX} (hT : TyOK P X.T) {ora : SOra} (hO : SOraOK P ora) (F : SF) (o : Oper) : (opB stdB X ora F o).Sim fun G => OpOK P F.er o G.er := by
  have none' : ∀ g as r, (fun _ _ => none : Ora) g as = some r → CallOK P g as r := fun _ _ _ h => by cases h
  unfold opB
  split
  · rename_i hd
    split
    · rename_i t a x hop
      split
      · rename_i ty ht
        refine (storeB_sim F ty.size a x).mono fun G hG => ?_
        refine OpOK.of_opS (kn := false) hT none' ?_
        unfold opS
        simp only [hd, hop, ht]
        exact hG
      · exact R.Sim.none'
    · exact R.Sim.none'
  · rename_i d hd
    split
    · rename_i hlt
      have hlt : nlt d F.er.n = true := hlt
      split
      · rename_i f args ts hop
        refine (callB_sim hO F d f args).mono fun G ⟨g, as, r, h1, h2⟩ => ?_
        refine OpOK.of_opS (kn := false) (ora := ora1 g as r) hT ?_ ?_
        · intro g' as' r' h'
          unfold ora1 at h'
          split at h'
          · rename_i hh
            simp only [Option.some.injEq] at h'
            subst h'
            rw [hh.1, hh.2]
            exact h1
          · cases h'
        · unfold opS
          simp only [hd, hlt, hop]
          exact h2
      · rename_i h1
        refine (wopB_sim X F d o.op).mono fun G hG => OpOK.of_opS (kn := false) hT none' ?_
        unfold opS
        rw [hd]
        dsimp only
        rw [hlt]
        dsimp only
        split
        · rename_i he; exact (h1 _ _ _ he).elim
        · exact hG
    · exact R.Sim.none'
/-- The walk. L: what is left over at a loop's head; fin: at the end. -/
def wp (M : MB) (X : SX) (dr : Nat → Nat) (lv : Nat → List Nat) (ora : SOra) (fin : SF → Prop) (L N : List K → SF → Prop) : Nat → List K → SF → Prop
  | 0, ks, F => N ks F
  | n + 1, ks, F => (match ks with
    | [] => fin F
    | .bl _ :: ks => wp M X dr lv ora fin L N n ks F
    | .lp b :: ks => wp M X dr lv ora fin L N n (.c (.loop b) :: ks) F
    | .c x :: ks => (match x with
      | .skip => wp M X dr lv ora fin L N n ks F
      | .region id ⟨ops⟩ d => (match d with
        | false => wp M X dr lv ora fin L N n (.r ⟨ops⟩ ops :: ks) F
        | true => wpD M X ora ops F (dstsB (takeN ops (dr id))) (takeN ops (dr id)) F fun G => wp M X dr lv ora fin L N n (.r ⟨ops⟩ (dropN ops (dr id)) :: ks) G)
      | .seq a b => wp M X dr lv ora fin L N n (.c a :: .c b :: ks) F
      | .cond y a b => (match evB1 F y with
        | .fz (.bool kn t) => (match kn with
          | true => (match t with
            | true => wp M X dr lv ora fin L N n (.c a :: ks) F
            | false => wp M X dr lv ora fin L N n (.c b :: ks) F)
          | false => M.pAnd (M.pImp t (wp M X dr lv ora fin L N n (.c a :: ks) F)) (M.pImp (M.bNot t) (wp M X dr lv ora fin L N n (.c b :: ks) F)))
        | _ => M.pNo 10)
      | .block id b => wp M X dr lv ora fin L N n (.c b :: .bl id :: ks) F
      | .loop b => L (.c b :: .lp b :: ks) (F.keepB (lv (fstReg b)))
      | .exit id => (match popTo id ks with
        | some ks' => wp M X dr lv ora fin L N n ks' F
        | none => M.pNo 11)
      | .ret => fin F
      | _ => M.pNo 12)
    | .r all l :: ks => (match l with
      | [] => wp M X dr lv ora fin L N n ks F
      | o :: l => (match all with
        | ⟨al⟩ => withGuard M al F o
          (fun F1 => withPick M F1 o fun F2 => (match opB M X ora F2 o with
            | some (ps, G) => side M ps (wp M X dr lv ora fin L N n (.r ⟨al⟩ l :: ks) G)
            | none => M.pNo 13))
          (fun F1 => (match o.dst with
            | some d => wp M X dr lv ora fin L N n (.r ⟨al⟩ l :: ks) (F1.put d (.v (false, [.ud])))
            | none => wp M X dr lv ora fin L N n (.r ⟨al⟩ l :: ks) F1)))))
theorem getD_nil_take {α : Type} {l : List α} {k i : Nat} (h : i < k) : (l.take k)[i]? = l[i]? := by simp [List.getElem?_take, h]
theorem dyn_of {P : Program} {ops : List Oper} {k : Nat} {a : List Nat} {F : SF} {its : List It} (hle : k ≤ ops.length) (hall : ∀ (i : Nat) (o : Oper), ops[i]? = some o → i < k → prefOK ops a k i o = true)
    (k1 : its.length = (ops.take k).length) (k4 : ∀ (i : Nat) (o : Oper) (x : It), (ops.take k)[i]? = some o → its[i]? = some x → ItOK P ops F (dstsB (ops.take k)) (frs F.er its i) o x) :
    Dyn ops k (ancA a) F.er its (frs F.er its) ∧ (∀ (i : Nat) (o : Oper) (x : It), ops[i]? = some o → its[i]? = some x → AItem P ⟨ops⟩ (frs F.er its i) o x) ∧ (ops.take k).length = k := by
  have hlen : its.length = k := by rw [k1, List.length_take]; omega
  have get : ∀ (i : Nat) (x : It), its[i]? = some x → ∃ o, i < k ∧ ops[i]? = some o ∧ ItOK P ops F (dstsB (ops.take k)) (frs F.er its i) o x := by
    intro i x hx
    have hi : i < k := by rw [← hlen]; exact (List.getElem?_eq_some_iff.1 hx).1
    have ho : ops[i]? = some ops[i] := List.getElem?_eq_getElem (by omega)
    exact ⟨ops[i], hi, ho, k4 i _ x (by rw [getD_nil_take hi]; exact ho) hx⟩
  have hmem : ∀ (j : Nat) (y : It), its[j]? = some y → y.1 ∈ dstsB (ops.take k) := by
    intro j y hy
    obtain ⟨o, hj, ho, hio⟩ := get j y hy
    have hin : o ∈ ops.take k := List.mem_of_getElem? (i := j) (by rw [getD_nil_take hj]; exact ho)
    have key : ∀ l : List Oper, o ∈ l → y.1 ∈ dstsB l := by
      intro l
      induction l with
      | nil => intro h; cases h
      | cons a l ihl =>
        intro hm
        simp only [dstsB]
        rcases List.mem_cons.1 hm with rfl | hm
        · rw [hio.dst]; exact List.mem_cons_self
        · split
          · exact List.mem_cons_of_mem _ (ihl hm)
          · exact ihl hm
    exact key _ hin
  have hpair : ∀ (i j : Nat) (o o' : Oper) (d d' : Nat), i < k → j < k → ops[i]? = some o → ops[j]? = some o' → o.dst = some d → o'.dst = some d' →
      (d = d' → i = j) ∧ (d' ∈ lkT ⟨ops⟩ o → ancA a i j ∧ j < i) := by
    intro i j o o' d d' hi hj ho ho' hd hd'
    have := hall i o ho hi
    unfold prefOK at this
    rw [hd] at this
    dsimp only at this
    have := List.all_eq_true.1 this j (List.mem_range.2 hj)
    rw [ho'] at this
    dsimp only at this
    rw [hd'] at this
    simp only [Bool.and_eq_true, Bool.or_eq_true, Bool.not_eq_true'] at this
    obtain ⟨h1, h2⟩ := this
    refine ⟨fun e => ?_, fun hm => ?_⟩
    · subst e
      rcases h1 with h1 | h1
      · simp at h1
      · exact Nat.eq_of_beq_eq_true h1
    · rcases h2 with h2 | h2
      · rw [List.contains_iff_mem.2 hm] at h2; cases h2
      · exact ⟨h2.1, Nat.lt_of_succ_le (le_of_nle h2.2)⟩
  refine ⟨⟨hlen, ?_, ?_, ?_, ?_, ?_, rfl, ?_⟩, ?_, by rw [List.length_take]; omega⟩
  · intro i j x y hx hy he
    obtain ⟨o, hi, ho, hio⟩ := get i x hx
    obtain ⟨o', hj, ho', hjo⟩ := get j y hy
    exact (hpair i j o o' _ _ hi hj ho ho' hio.dst hjo.dst).1 he
  · intro i j o y hi ho hy hm
    obtain ⟨o', hj, ho', hjo⟩ := get j y hy
    obtain ⟨x, hx⟩ : ∃ x, its[i]? = some x := ⟨its[i]'(by omega), List.getElem?_eq_getElem _⟩
    obtain ⟨o2, _, ho2, hio⟩ := get i x hx
    rw [ho] at ho2
    injection ho2 with ho2
    subst ho2
    exact (hpair i j o o' _ _ hi hj ho ho' hio.dst hjo.dst).2 hm
  · intro j y hy
    obtain ⟨o, _, _, hjo⟩ := get j y hy
    exact hjo.fr
  · intro j y hy
    obtain ⟨o, _, _, hjo⟩ := get j y hy
    exact hjo.blk
  · intro i o hi ho t ht id' hid j y hy he
    obtain ⟨x, hx⟩ : ∃ x, its[i]? = some x := ⟨its[i]'(by omega), List.getElem?_eq_getElem _⟩
    obtain ⟨o2, _, ho2, hio⟩ := get i x hx
    rw [ho] at ho2
    injection ho2 with ho2
    subst ho2
    rcases hio.ids t ht id' hid with h | h
    · exact h
    · rw [he] at h
      exact (h (hmem j y hy)).elim
  · intro i x hx
    unfold frs
    rw [List.take_add_one, hx]
    simp
  · intro i o x ho hx
    obtain ⟨o2, _, ho2, hio⟩ := get i x hx
    rw [ho] at ho2
    injection ho2 with ho2
    subst ho2
    exact hio.item
theorem wp_sound {P : Program} {X : SX} (hT : TyOK P X.T) {dr : Nat → Nat} {lv : Nat → List Nat} {ora : SOra} (hO : SOraOK P ora) {fin : SF → Prop} {L N : List K → SF → Prop} {Post : Fr → Prop} (hfin : ∀ F, fin F → Post F.er)
    (hL : ∀ ks F, (∀ k ∈ ks, kOK dr k = true) → L ks F → Ex P ks F.er Post) (hN : ∀ ks F, (∀ k ∈ ks, kOK dr k = true) → N ks F → Ex P ks F.er Post) : ∀ (n : Nat) (ks : List K) (F : SF), (∀ k ∈ ks, kOK dr k = true) → wp stdB X dr lv ora fin L N n ks F → Ex P ks F.er Post := by
  intro n
  induction n with
  | zero => intro ks F hk h; exact hN ks F hk h
  | succ n ih =>
    intro ks F hk h
    cases ks with
    | nil => exact Ex.nil (hfin F h)
    | cons k ks =>
      have hks : ∀ k ∈ ks, kOK dr k = true := fun x hx => hk x (List.mem_cons_of_mem _ hx)
      have hk0 := hk k List.mem_cons_self
      have cons1 : ∀ k', kOK dr k' = true → ∀ x ∈ k' :: ks, kOK dr x = true := fun k' h' x hx => (List.mem_cons.1 hx).elim (fun e => e ▸ h') (hks x)
      have cons2 : ∀ k' k'', kOK dr k' = true → kOK dr k'' = true → ∀ x ∈ k' :: k'' :: ks, kOK dr x = true := fun k' k'' h' h'' x hx => (List.mem_cons.1 hx).elim (fun e => e ▸ h') (cons1 k'' h'' x)
      cases k with
      | bl id => exact Ex.bl (ih ks F hks h)
      | lp b => exact Ex.lp (ih _ F (cons1 _ hk0) h)
      | r all l =>
        obtain ⟨al⟩ := all
        cases l with
        | nil => exact Ex.reg_end (ih ks F hks h)
        | cons o l =>
          simp only [wp] at h
          obtain ⟨F1, h1, h2⟩ := withGuard_sound h
          refine Ex.le h1 ?_
          rcases h2 with ⟨hw, h2⟩ | ⟨hw, h2⟩
          · obtain ⟨F2, h3, h4⟩ := withPick_sound h2
            refine Ex.le h3 ?_
            split at h4
            · rename_i ps G hG
              obtain ⟨hps, h5⟩ := side_std ps _ h4
              exact Ex.op (hw.le h3) (opB_sim hT hO F2 o ps G hG hps) (ih _ G (cons1 _ rfl) h5)
            · exact h4.elim
          · refine Ex.op_not hw ?_
            unfold skipOp
            split at h2
            · rename_i d hd
              rw [hd]
              exact ih _ _ (cons1 _ rfl) h2
            · rename_i hd
              rw [hd]
              exact ih _ _ (cons1 _ rfl) h2
      | c x =>
        simp only [wp] at h
        cases x with
        | skip => exact Ex.skip (ih ks F hks h)
        | region id ops d =>
          obtain ⟨ops⟩ := ops
          cases d with
          | false => exact Ex.reg (ih _ F (cons1 _ rfl) h)
          | true =>
            dsimp only at h
            have hst : (statB ops (dr id) || (nq (dr id) ops.length && statB2 ops)) = true := hk0
            rw [takeN_eq] at h
            rw [Bool.or_eq_true] at hst
            rcases hst with hst | hst
            · obtain ⟨hle, hall⟩ := statB_all hst
              obtain ⟨its, G, k1, k2, k3, k4⟩ := wpD_sound hT hO (ops.take (dr id)) F F.er (LE.refl _) h
              obtain ⟨hD, hit, hlt⟩ := dyn_of hle (fun i o ho hi => (hall i o ho).2.1 hi) k1 k4
              rw [hlt] at k3
              refine Ex.draw (statB_stat hst) hD hit (Ex.le k3 ?_)
              rw [dropN_eq] at k2
              exact ih _ G (cons1 _ rfl) k2
            · simp only [Bool.and_eq_true] at hst
              obtain ⟨hk, hst⟩ := hst
              have hk := Nat.eq_of_beq_eq_true hk
              obtain ⟨hst2, hall⟩ := statB2_all hst
              obtain ⟨its, G, k1, k2, k3, k4⟩ := wpD_sound hT hO (ops.take (dr id)) F F.er (LE.refl _) h
              obtain ⟨hD, hit, hlt⟩ := dyn_of (Nat.le_of_eq hk) (fun i o ho hi => by rw [hk]; exact hall i o ho) k1 k4
              rw [hlt] at k3
              rw [hk] at hD k3 k2
              refine Ex.draw2 hst2 hD hit (Ex.le k3 ?_)
              rw [dropN_eq, List.drop_length] at k2
              exact ih _ G (cons1 _ rfl) k2
        | seq a b =>
          have hab : codeOK dr a = true ∧ codeOK dr b = true := by simpa [kOK, codeOK] using hk0
          exact Ex.seq (ih _ F (cons2 _ _ hab.1 hab.2) h)
        | cond y a b =>
          have hab : codeOK dr a = true ∧ codeOK dr b = true := by simpa [kOK, codeOK] using hk0
          dsimp only at h
          split at h
          · rename_i kn t hy
            have hy' : ev1 F.er y = .fz (.bool t) := by rw [← evB1_er, hy]; rfl
            have h' : (t = true → wp stdB X dr lv ora fin L N n (.c a :: ks) F) ∧ (t = false → wp stdB X dr lv ora fin L N n (.c b :: ks) F) := by
              cases kn with
              | true => cases t with
                | true => exact ⟨fun _ => h, fun e => by cases e⟩
                | false => exact ⟨(fun e => by cases e), fun _ => h⟩
              | false =>
                obtain ⟨h1, h2⟩ : (t = true → _) ∧ ((!t) = true → _) := h
                exact ⟨h1, fun e => h2 (by rw [e]; rfl)⟩
            clear h
            refine Ex.cond hy' ?_
            cases t with
            | true => exact ih _ F (cons1 _ hab.1) (h'.1 rfl)
            | false => exact ih _ F (cons1 _ hab.2) (h'.2 rfl)
          · exact h.elim
        | block id b => exact Ex.block (ih _ F (cons2 _ _ hk0 rfl) h)
        | loop b =>
          refine Ex.loop (lv (fstReg b)) ?_
          rw [← keepB_er]
          exact hL _ _ (cons2 _ _ hk0 hk0) h
        | exit id =>
          dsimp only at h
          split at h
          · rename_i ks' hp
            exact Ex.exit hp (ih ks' F (fun k hk' => hks k ((@popTo_exit noFence _ _ _ hp).2 k hk')) h)
          · exact h.elim
        | ret => exact Ex.ret (hfin F h)
        | _ => exact h.elim
/-! ### a call -/
def enterB : Nat → List (V1 D) → List (Nat × TV B)
  | _, [] => []
  | i, x :: r => (i, .v (x.1, fzB x.2)) :: enterB (i + 1) r
def entF (n : Nat) (args : List (V1 D)) : SF := ⟨n, enterB 0 args, []⟩
theorem entF_er (n : Nat) (args : List (V1 D)) : (entF n args).er = enter n (vserL D.erL args) := by
  have key : ∀ (l : List (V1 D)) (i : Nat), tmEr (enterB i l) = enterTm i (vserL D.erL l) := by
    intro l
    induction l with
    | nil => intro i; rfl
    | cons x l ih => intro i; simp only [enterB, tmEr, vserL, enterTm, ih, TV.er, v1er, fzB_er]
  unfold entF enter SF.er
  simp only [key]
  rfl
def finB (M : MB) (T : Nat → Option Ty) (rs : Array ResultVar) (R : TV W → Prop) (F : SF) : Prop := match exportB M T F rs with
  | some (ps, r) => side M ps (R r)
  | none => M.pNo 14
/-- What a function's stack comes to. -/
def SEx (P : Program) (T : Nat → Option Ty) (dr : Nat → Nat) (rs : Array ResultVar) (ks : List K) (F : SF) (r : TV W) : Prop := (∀ k ∈ ks, kOK dr k = true) → Ex P ks F.er (fun F' => export_ std T false F' rs = some (r.er W.erL))
theorem SEx.walk {P : Program} {X : SX} (hT : TyOK P X.T) {dr : Nat → Nat} (lv : Nat → List Nat) {ora : SOra} (hO : SOraOK P ora) {rs : Array ResultVar} {ks : List K} {F : SF} {r : TV W} (n : Nat)
    (h : ∀ (M : MB) (R : TV W → Prop) (L N : List K → SF → Prop), M = stdB → (∀ r', r'.er W.erL = r.er W.erL → R r') → (∀ ks F, SEx P X.T dr rs ks F r → L ks F) → (∀ ks F, SEx P X.T dr rs ks F r → N ks F) → wp M X dr lv ora (finB M X.T rs R) L N n ks F) : SEx P X.T dr rs ks F r := by
  intro hk
  refine wp_sound hT hO (fin := finB stdB X.T rs fun r' => r'.er W.erL = r.er W.erL) (L := fun ks F => SEx P X.T dr rs ks F r) (N := fun ks F => SEx P X.T dr rs ks F r) ?_ (fun ks F hk h => h hk) (fun ks F hk h => h hk) n ks F hk (h stdB _ _ _ rfl (fun _ h => h) (fun _ _ h => h) (fun _ _ h => h))
  intro F hF
  unfold finB at hF
  split at hF
  · rename_i ps r' he
    obtain ⟨h1, h2⟩ := side_std ps _ hF
    rw [exportB_sim X.T F rs ps r' he h1, h2]
  · exact hF.elim
/-- What it says of callers. -/
def SCall (P : Program) (g : FuncId) (args : List (V1 D)) (r : TV W) : Prop := CallOK P g (vserL D.erL args) (r.er W.erL)
theorem SCall.of {P : Program} {T : Nat → Option Ty} (hT : TyOK P T) {g : FuncId} {fn : Func} {c : Code} {args : List (V1 D)} {r : TV W} {dr : Nat → Nat} (hf : P.funcs[g]? = some fn) (hb : fn.body = some c) (hnm : (fn.name == "runtime.NumGoroutine") = false) (h1 : nle (cnt args) fn.ntmps = true) (hc : codeOK dr c = true)
    (h : SEx P T dr fn.results [.c c] (entF fn.ntmps args) r) : SCall P g args r := by
  refine CallOK.of_Ex (kn := false) hT hf hb hnm ?_ ?_
  · have hl : ∀ l : List (V1 D), (vserL D.erL l).length = cnt l := by intro l; induction l with | nil => rfl | cons x l ih => simp [vserL, cnt, ih]
    rw [hl]
    exact le_of_nle h1
  · have := h (fun k hk => by simp at hk; subst hk; exact hc)
    rwa [entF_er] at this
/-- A loop, by a measure. -/
theorem SEx.ind {P : Program} {T : Nat → Option Ty} {dr : Nat → Nat} {rs : Array ResultVar} {ks : List K} {α : Type} (f : α → SF) (R : α → TV W) (Inv : α → Prop) (μ : α → Nat) (x0 : α) (hI : Inv x0)
    (step : ∀ x, Inv x → (∀ y, Inv y → μ y < μ x → SEx P T dr rs ks (f y) (R y)) → SEx P T dr rs ks (f x) (R x)) : SEx P T dr rs ks (f x0) (R x0) := by
  have key : ∀ n x, μ x = n → Inv x → SEx P T dr rs ks (f x) (R x) := by
    intro n
    induction n using Nat.strongRecOn with
    | _ n ih =>
      intro x hx hI
      exact step x hI (fun y hy hlt => ih (μ y) (by omega) y rfl hy)
  exact key _ x0 rfl hI
/-- What is kept is enough. -/
theorem SEx.keep {P : Program} {T : Nat → Option Ty} {dr : Nat → Nat} {rs : Array ResultVar} {ks : List K} {F : SF} {r : TV W} (l : List Nat) (h : SEx P T dr rs ks (F.keepB l) r) : SEx P T dr rs ks F r := by
  intro hk
  have := h hk
  rw [keepB_er] at this
  exact Ex.weak (G := F.er.keep l) rfl (fun J σ w vt hF hd => by letI := J; exact keep_sound hF hd l) this
def keyK : List K → Nat
  | .r _ (o :: _) :: _ => (match o.dst with | some d => d + 1 | none => 0)
  | _ => 0
def SF.trimB (F : SF) (lv : Nat → Option (List Nat)) (n : Nat) : SF := match lv n with | some l => F.keepB l | none => F
theorem SEx.trim {P : Program} {T : Nat → Option Ty} {dr : Nat → Nat} {rs : Array ResultVar} {ks : List K} {F : SF} {r : TV W} (lv : Nat → Option (List Nat)) (h : SEx P T dr rs ks (F.trimB lv (keyK ks)) r) : SEx P T dr rs ks F r := by
  unfold SF.trimB at h
  split at h
  · exact SEx.keep _ h
  · exact h
/-- The walk, with the meaning of the operations held back to the end. Where the fuel ends it goes on, with what still lives. -/
theorem SEx.go {P : Program} {X : SX} (hT : TyOK P X.T) {dr : Nat → Nat} (lv : Nat → List Nat) (lt : Nat → Option (List Nat)) {ora : SOra} (hO : SOraOK P ora) {rs : Array ResultVar} {ks : List K} {F : SF} {r : TV W} (n : Nat)
    (h : ∀ (M : MB) (R : TV W → Prop) (L N : List K → SF → Prop), M = stdB → (∀ p q : Prop, p → q → M.pAnd p q) → (∀ (b : Bool) (p : Prop), (b = true → p) → M.pImp b p) → (∀ r', r'.er W.erL = r.er W.erL → R r') → (∀ ks F, SEx P X.T dr rs ks F r → L ks F) →
      (∀ ks F, wp M X dr lv ora (finB M X.T rs R) L N n ks (F.trimB lt (keyK ks)) → N ks F) → wp M X dr lv ora (finB M X.T rs R) L N n ks F) : SEx P X.T dr rs ks F r := by
  have key : ∀ ks F, wp stdB X dr lv ora (finB stdB X.T rs fun r' => r'.er W.erL = r.er W.erL) (fun ks F => SEx P X.T dr rs ks F r) (fun ks F => SEx P X.T dr rs ks F r) n ks F → SEx P X.T dr rs ks F r := by
    intro ks F hw hk
    refine wp_sound hT hO (fin := finB stdB X.T rs fun r' => r'.er W.erL = r.er W.erL) (L := fun ks F => SEx P X.T dr rs ks F r) (N := fun ks F => SEx P X.T dr rs ks F r) ?_ (fun ks F hk h => h hk) (fun ks F hk h => h hk) n ks F hk hw
    intro F hF
    unfold finB at hF
    split at hF
    · rename_i ps r' he
      obtain ⟨h1, h2⟩ := side_std ps _ hF
      rw [exportB_sim X.T F rs ps r' he h1, h2]
    · exact hF.elim
  exact key ks F (h stdB _ _ _ rfl (fun _ _ h1 h2 => ⟨h1, h2⟩) (fun _ _ h => h) (fun _ h => h) (fun _ _ h => h) (fun ks F hw => SEx.trim lt (key ks _ hw)))
/-- Another frame that means the same. -/
theorem SEx.same {P : Program} {T : Nat → Option Ty} {dr : Nat → Nat} {rs : Array ResultVar} {ks : List K} {F G : SF} {r r' : TV W} (h : SEx P T dr rs ks G r') (he : G.er = F.er) (hr : r'.er W.erL = r.er W.erL) : SEx P T dr rs ks F r := by
  intro hk
  have := h hk
  rw [he, hr] at this
  exact this
end Go.Proofs.Ytlmejcmnmdleaaa.Ai
