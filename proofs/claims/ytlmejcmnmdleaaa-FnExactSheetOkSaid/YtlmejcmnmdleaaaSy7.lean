/- Symbolic runs, part 7: results, and what a loop's head keeps. -/
import Derived.Test.YtlmejcmnmdleaaaSy6
namespace Go.Proofs.Ytlmejcmnmdleaaa.Ai
open Go
set_option linter.unusedSectionVars false
set_option linter.unusedSimpArgs false

def exp1B (M : MB) (k : Nat) (F : SF) : TV B → R (V1 W × SF)
  | .v (g, as) => (match nle (cnt as) 64 with
    | true => (convNB M (qB resRoot [] (true, k)) 0 (cnt as) F as).bd fun s => R.ok ((g, s.1), s.2)
    | false => none)
  | .tup _ => none
theorem exp1B_sim (k : Nat) (F : SF) (x : TV B) : (exp1B stdB k F x).Sim fun r => exp1 std false k F.er (x.er B.erL) = some (v1er W.erL r.1, r.2.er) := by
  unfold exp1B
  split
  · rename_i g as
    split
    · rename_i hc
      refine R.Sim.bd (convNB_at resRoot [] (true, k) _ F as) fun s hs => R.Sim.ok ?_
      have hs' : convL std false (qAt resRoot [] k) 0 F.er idA (B.erL as) = some (W.erL s.1, s.2.er) := hs
      simp only [TV.er, v1er, exp1, cnt_erL, hc, hs']
    · exact R.Sim.none'
  · exact R.Sim.none'
def resTB (M : MB) (T : Nat → Option Ty) (F : SF) : ResultVar → R (TV B)
  | .tmp t => R.ok (look unB F.tm t)
  | .cell a t => (match T t with
    | some ty => (cellsR M F ty.size (oneB (look unB F.tm a))).bd fun as => oR (mkVB ty.agg as)
    | none => none)
theorem resTB_sim (T : Nat → Option Ty) (F : SF) (r : ResultVar) : (resTB stdB T F r).Sim fun x => resT std T F.er r = some (x.er B.erL) := by
  cases r with
  | tmp t =>
    refine R.Sim.ok ?_
    simp only [resT]
    rw [show look unT F.er.tm t = (look unB F.tm t).er B.erL from look_tm _ _]
  | cell c t =>
    unfold resTB
    dsimp only
    split
    · rename_i ty ht
      refine R.Sim.bd (cellsR_sim F _ _) fun as has => oR_sim fun v hv => ?_
      simp only [resT, ht]
      rw [show look unT F.er.tm c = (look unB F.tm c).er B.erL from look_tm _ _, ← oneB_er, has]
      exact mkVB_er hv
    · exact R.Sim.none'
def expRsB (M : MB) (T : Nat → Option Ty) : Nat → SF → List ResultVar → R (List (V1 W))
  | _, _, [] => R.ok []
  | k, F, rv :: r => (resTB M T F rv).bd fun v => (exp1B M k F v).bd fun x => (expRsB M T (k + 1) x.2 r).bd fun xs => R.ok (x.1 :: xs)
theorem expRsB_sim (T : Nat → Option Ty) : ∀ (rs : List ResultVar) (k : Nat) (F : SF), (expRsB stdB T k F rs).Sim fun xs => expRs std T false k F.er rs = some (vserL W.erL xs)
  | [], k, F => R.Sim.ok rfl
  | rv :: r, k, F => by
    simp only [expRsB]
    refine R.Sim.bd (resTB_sim T F rv) fun v hv => R.Sim.bd (exp1B_sim k F _) fun x hx => R.Sim.bd (expRsB_sim T r (k + 1) x.2) fun xs hxs => R.Sim.ok ?_
    simp only [expRs, hv, hx, hxs, vserL]
def exportB (M : MB) (T : Nat → Option Ty) (F : SF) (rs : Array ResultVar) : R (TV W) :=
  match rs with
  | ⟨rs⟩ => (match nle (cnt rs) 64 with
    | true => (F.dropR M (resRoot, [])).bd fun G => (expRsB M T 0 G rs).bd fun xs => (match xs with
      | [x] => R.ok (.v x)
      | xs => R.ok (.tup xs))
    | false => none)
theorem exportB_sim (T : Nat → Option Ty) (F : SF) (rs : Array ResultVar) : (exportB stdB T F rs).Sim fun r => export_ std T false F.er rs = some (r.er W.erL) := by
  obtain ⟨rs⟩ := rs
  unfold exportB
  dsimp only
  split
  · rename_i hc
    refine R.Sim.bd (F.dropR_sim _) fun G hG => R.Sim.bd (expRsB_sim T rs 0 G) fun xs hxs => ?_
    have hG : F.er.drop std (resRoot, []) = G.er := hG
    split
    · refine R.Sim.ok ?_
      simp only [export_, hc, hG, hxs, vserL]
      rfl
    · rename_i h
      refine R.Sim.ok ?_
      simp only [export_, hc, hG, hxs]
      match xs, h with
      | [], _ => rfl
      | [x], h => exact (h x rfl).elim
      | x :: y :: r, _ => rfl
  · exact R.Sim.none'
mutual
def B.idsB : B → List Nat
  | .rf p _ _ _ => [p.1]
  | .pp p _ _ => [p.1]
  | .clo _ caps => idsBL caps
  | _ => []
def idsBL : List B → List Nat
  | [] => []
  | a :: r => appB a.idsB (idsBL r)
end
mutual
theorem idsB_er : (x : B) → x.er.ids = x.idsB
  | .un => rfl
  | .ud => rfl
  | .fz d => rfl
  | .rf .. => rfl
  | .pp .. => rfl
  | .clo f caps => by simp only [B.er, A.ids, B.idsB, idsBL_er caps]
theorem idsBL_er : (l : List B) → A.idsL (B.erL l) = idsBL l
  | [] => rfl
  | a :: r => by simp only [B.erL, A.idsL, idsBL, appB_eq, idsB_er a, idsBL_er r]
end
def vIdsB : List (V1 B) → List Nat
  | [] => []
  | x :: r => appB (idsBL x.2) (vIdsB r)
def tvIds : TV B → List Nat
  | .v x => idsBL x.2
  | .tup xs => vIdsB xs
theorem tvIds_er (x : TV B) : (x.er B.erL).ids = tvIds x := by
  cases x with
  | v x => exact idsBL_er x.2
  | tup xs =>
    have key : ∀ l : List (V1 B), vIds (vserL B.erL l) = vIdsB l := by
      intro l
      induction l with
      | nil => rfl
      | cons x l ih => simp only [vserL, vIds, v1er, vIdsB, appB_eq, idsBL_er, ih]
    exact key xs
def keepTmB (F : SF) : List Nat → List (Nat × TV B)
  | [] => []
  | t :: r => (t, look unB F.tm t) :: keepTmB F r
def tmIdsB : List (Nat × TV B) → List Nat
  | [] => []
  | (_, x) :: r => appB (tvIds x) (tmIdsB r)
def keepTbB (F : SF) : List Nat → List (Nat × W) → List (Nat × W)
  | [], acc => acc
  | id :: r, acc => keepTbB F r (match has acc id with | true => acc | false => appB acc [(id, look .un F.tb id)])
def SF.keepB (F : SF) (l : List Nat) : SF := { F with tm := keepTmB F l, tb := keepTbB F (tmIdsB (keepTmB F l)) [] }
theorem keepB_er (F : SF) (l : List Nat) : (F.keepB l).er = F.er.keep l := by
  have h1 : ∀ l, tmEr (keepTmB F l) = keepTm F.er l := by
    intro l
    induction l with
    | nil => rfl
    | cons t l ih => simp only [keepTmB, tmEr, keepTm, ih]; rw [show look unT F.er.tm t = (look unB F.tm t).er B.erL from look_tm _ _]
  have h2 : ∀ l : List (Nat × TV B), tmIds (tmEr l) = tmIdsB l := by
    intro l
    induction l with
    | nil => rfl
    | cons x l ih => obtain ⟨t, x⟩ := x; simp only [tmEr, tmIds, tmIdsB, appB_eq, tvIds_er, ih]
  have h3 : ∀ (l : List Nat) (acc : List (Nat × W)), tbEr (keepTbB F l acc) = keepTb F.er l (tbEr acc) := by
    intro l
    induction l with
    | nil => intro acc; rfl
    | cons id l ih =>
      intro acc
      simp only [keepTbB, keepTb, ih, has_tb]
      cases has acc id with
      | true => rfl
      | false =>
        dsimp only
        rw [appB_eq, tbEr_append]
        rw [show look .un F.er.tb id = (look .un F.tb id).er from look_tb _ _]
        rfl
  unfold SF.keepB Fr.keep SF.er
  simp only
  have := h3 (tmIdsB (keepTmB F l)) []
  rw [this, ← h2, h1]
  rfl

/-! ### frames that read alike -/
structure LE (F G : Fr) : Prop where
  n : G.n = F.n
  tm : ∀ t, look unT G.tm t = look unT F.tm t
  tb : ∀ id, look .un G.tb id = look .un F.tb id
  has : ∀ id, has G.tb id = has F.tb id
theorem LE.refl (F : Fr) : LE F F := ⟨rfl, fun _ => rfl, fun _ => rfl, fun _ => rfl⟩
theorem LE.symm {F G : Fr} (h : LE F G) : LE G F := ⟨h.n.symm, fun t => (h.tm t).symm, fun t => (h.tb t).symm, fun t => (h.has t).symm⟩
theorem LE.trans {F G H : Fr} (h : LE F G) (k : LE G H) : LE F H := ⟨k.n.trans h.n, fun t => (k.tm t).trans (h.tm t), fun t => (k.tb t).trans (h.tb t), fun t => (k.has t).trans (h.has t)⟩
theorem LE.fr {F G : Fr} (h : LE F G) {J : Fence} {σ : Gh} {w : World} {vt : Nat → Value} (hF : FR F σ w vt) (hd : Dom F σ []) : FR G σ w vt ∧ Dom G σ [] := by
  refine ⟨⟨hF.inj, hF.lt, fun id => by rw [h.tb]; exact hF.tb id, fun t => by rw [h.tm]; exact hF.tm t⟩, fun g x hx => ?_⟩
  rcases hd g x hx with h1 | h1
  · left
    have : G.at std x.p = F.at std x.p := by unfold Fr.at; rw [h.tb]
    rw [this]
    exact h1
  · exact .inr h1
theorem Ex.le {P : Program} {ks : List K} {F G : Fr} {Post : Fr → Prop} (h : LE F G) (hx : Ex P ks G Post) : Ex P ks F Post :=
  hx.weak h.n fun _ σ _ _ hF hd => ⟨σ, (h.fr hF hd).1, (h.fr hF hd).2, Goes.refl _ _⟩
theorem LE.agree {F G H : Fr} (h : LE F G) {X : List Nat} (ha : Agree F H X) : Agree G H X :=
  ⟨fun t ht => (ha.tm t ht).trans (h.tm t).symm, fun t ht id hid => by rw [h.tm] at hid; exact (ha.tb t ht id hid).trans (h.tb id).symm⟩
theorem AItem.le {P : Program} {all : Array Oper} {F G : Fr} {o : Oper} {it : It} (h : LE F G) (ha : AItem P all G o it) : AItem P all F o it :=
  fun H hn hag hf => ha H (hn.trans h.n.symm) (h.agree hag) hf
/-- A test's outcome is written down. -/
def SF.know (F : SF) (t : Nat) (b : Bool) : SF := F.put t (.v (false, [.fz (.bool true b)]))
theorem know_le {F : SF} {t : Nat} {b : Bool} (h : ∃ kn, look unB F.tm t = .v (false, [.fz (.bool kn b)])) : LE F.er (F.know t b).er := by
  obtain ⟨kn, h⟩ := h
  refine ⟨rfl, fun t' => ?_, fun _ => rfl, fun _ => rfl⟩
  show look unT ((t, _) :: F.er.tm) t' = _
  rw [@look_cons noFence]
  split
  · rename_i e
    subst e
    rw [show look unT F.er.tm t = (look unB F.tm t).er B.erL from look_tm _ _, h]
    rfl
  · rfl
end Go.Proofs.Ytlmejcmnmdleaaa.Ai
