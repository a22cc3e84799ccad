/- Symbolic runs, part 3: operations that read. -/
import Derived.Test.YtlmejcmnmdleaaaSy2
namespace Go.Proofs.Ytlmejcmnmdleaaa.Ai
open Go
set_option linter.unusedSectionVars false
set_option linter.unusedSimpArgs false

def const1 : Value → B
  | .int k n => .fz (.int k n)
  | .bool b => .fz (.bool true b)
  | .string s => .fz (.str s)
  | .slice none 0 0 => .fz .nilsl
  | _ => .un
def const1L : List Value → List B
  | [] => []
  | v :: r => const1 v :: const1L r
def constB : Value → TV B
  | .agg ⟨cs⟩ => .v (true, const1L cs)
  | .tuple _ => unB
  | v => .v (false, [const1 v])
def evB (F : SF) : Operand → TV B
  | .tmp t => look unB F.tm t
  | .const v => constB v
  | .func f => .v (false, [.fz (.fn f [])])
  | .global _ => unB
def oneB : TV B → B
  | .v (false, [a]) => a
  | _ => .un
def evB1 (F : SF) (x : Operand) : B := oneB (evB F x)
theorem const1_er (v : Value) : (const1 v).er = constA v := by
  unfold const1 constA
  split <;> first | rfl | (split <;> simp_all [B.er, D.er])
theorem const1L_er (l : List Value) : B.erL (const1L l) = l.map constA := by induction l with | nil => rfl | cons a r ih => simp [const1L, B.erL, const1_er, ih]
theorem evB_er (F : SF) (x : Operand) : (evB F x).er B.erL = ev F.er x := by
  cases x with
  | tmp t => exact (look_tm F.tm t).symm
  | const v =>
    show (constB v).er B.erL = constT v
    cases v <;> first | rfl | (simp only [constB, constT, TV.er, v1er, B.erL, const1_er]; done) | skip
    case agg cs => obtain ⟨l⟩ := cs; simp only [constB, constT, TV.er, v1er, const1L_er]
  | func f => rfl
  | global g => rfl
theorem oneB_er (x : TV B) : (oneB x).er = one (x.er B.erL) := by
  cases x with
  | tup xs => rfl
  | v x =>
    obtain ⟨g, as⟩ := x
    cases g with
    | true => rfl
    | false =>
      match as with
      | [] => rfl
      | [a] => rfl
      | a :: b :: r => rfl
theorem evB1_er (F : SF) (x : Operand) : (evB1 F x).er = ev1 F.er x := by unfold evB1 ev1; rw [oneB_er, evB_er]

/-! ### arithmetic -/
def intOpB (M : MB) (op : BinOp) (k : IntKind) (a b : Int) : R D :=
  match op with
  | .add => R.ok (.int k (M.iAdd k a b))
  | .sub => R.ok (.int k (M.iSub k a b))
  | .mul => R.ok (.int k (M.iMul k a b))
  | .quo => some ([M.pNeZ b], .int k (M.iQuo k a b))
  | .rem => some ([M.pNeZ b], .int k (M.iRem a b))
  | .and => R.ok (.int k (M.iAnd k a b))
  | .or => R.ok (.int k (M.iOr k a b))
  | .xor => R.ok (.int k (M.iXor k a b))
  | .eql => R.ok (.bool false (M.bEq a b))
  | .neq => R.ok (.bool false (M.bNot (M.bEq a b)))
  | .lss => R.ok (.bool false (M.bLt a b))
  | .leq => R.ok (.bool false (M.bLe a b))
  | .gtr => R.ok (.bool false (M.bLt b a))
  | .geq => R.ok (.bool false (M.bLe b a))
  | _ => none
theorem intOpB_sim (op : BinOp) (k : IntKind) (a b : Int) : (intOpB stdB op k a b).Sim fun d => intOp std op k a b = some d.er := by
  unfold intOpB
  split <;> first
    | exact R.Sim.none'
    | (refine R.Sim.ok ?_; simp [intOp, D.er, std, stdB]; done)
    | (intro ps d h hp
       injection h with h
       injection h with h1 h2
       subst h1 h2
       have : b ≠ 0 := hp.one
       simp [intOp, std, this, D.er, stdB])
def strOpB (M : MB) (op : BinOp) (a b : ByteArray) : R D :=
  match op with
  | .add => some ([M.pStr a b], .str (M.sCat a b))
  | .eql => R.ok (.bool false (M.sEq a b))
  | .neq => R.ok (.bool false (M.bNot (M.sEq a b)))
  | _ => none
theorem strOpB_sim (op : BinOp) (a b : ByteArray) : (strOpB stdB op a b).Sim fun d => strOp std op a b = some d.er := by
  unfold strOpB
  split
  · intro ps d h hp
    injection h with h
    injection h with h1 h2
    subst h1 h2
    have : a.size + b.size ≤ 9223372036854775807 := hp.one
    simp [strOp, std, this, D.er, stdB]
  · exact R.Sim.ok rfl
  · exact R.Sim.ok (by simp [strOp, D.er, std, stdB])
  · exact R.Sim.none'
def binCB (M : MB) (op : BinOp) (x y : D) : R D :=
  match x, y with
  | .int k a, .int k' b => (match op with
    | .shl => some ([M.pGeZ b], .int k (M.iShl k a b))
    | .shr => some ([M.pGeZ b], .int k (M.iShr a b k))
    | op => (match kindEq k k' with | true => intOpB M op k a b | false => none))
  | .str a, .str b => strOpB M op a b
  | _, _ => none
theorem binCB_sim (op : BinOp) (x y : D) : (binCB stdB op x y).Sim fun d => binC std op x.er y.er = some d.er := by
  unfold binCB
  split
  · rename_i k a k' b
    split
    · intro ps d h hp
      injection h with h
      injection h with h1 h2
      subst h1 h2
      have : ¬ b < 0 := by have := hp.one; simp only [stdB] at this; omega
      simp [binC, std, this, D.er, stdB]
    · intro ps d h hp
      injection h with h
      injection h with h1 h2
      subst h1 h2
      have : ¬ b < 0 := by have := hp.one; simp only [stdB] at this; omega
      simp [binC, std, this, D.er, stdB]
    · rename_i h1 h2
      split
      · rename_i hk
        refine (intOpB_sim _ k a b).mono fun d hd => ?_
        cases op <;> first | exact (h1 rfl).elim | exact (h2 rfl).elim | (simp only [D.er, binC, hk]; exact hd)
      · exact R.Sim.none'
  · exact (strOpB_sim op _ _).mono fun d hd => by simpa only [D.er, binC] using hd
  · exact R.Sim.none'
def eqTB (M : MB) (k : TK) (x y : B) : R Bool :=
  match k with
  | .bool => (match x, y with
    | .fz (.bool _ a), .fz (.bool _ b) => R.ok (M.bEqB a b)
    | _, _ => none)
  | _ => none
def binB (M : MB) (k : TK) (op : BinOp) (x y : B) : R D :=
  match x, y with
  | .fz (.int i a), .fz (.int j b) => binCB M op (.int i a) (.int j b)
  | .fz (.str a), .fz (.str b) => binCB M op (.str a) (.str b)
  | x, y => (match op with
    | .eql => (eqTB M k x y).bd fun b => R.ok (.bool false b)
    | .neq => (eqTB M k x y).bd fun b => R.ok (.bool false (M.bNot b))
    | _ => none)
theorem eqTB_sim (k : TK) (x y : B) : (eqTB stdB k x y).Sim fun b => ∀ op, op = BinOp.eql ∨ op = .neq → binA std k op x.er y.er = some (.bool (match op with | .neq => !b | _ => b)) := by
  unfold eqTB
  split
  · split
    · refine R.Sim.ok fun op hop => ?_
      rcases hop with rfl | rfl <;> simp [B.er, D.er, binA, eqT, std, stdB]
    · exact R.Sim.none'
  · exact R.Sim.none'
theorem binB_sim (k : TK) (op : BinOp) (x y : B) : (binB stdB k op x y).Sim fun d => binA std k op x.er y.er = some d.er := by
  unfold binB
  split
  · exact (binCB_sim op _ _).mono fun d hd => by simpa only [B.er, D.er, binA] using hd
  · exact (binCB_sim op _ _).mono fun d hd => by simpa only [B.er, D.er, binA] using hd
  · split
    · exact R.Sim.bd (eqTB_sim k x y) fun b hb => R.Sim.ok (hb .eql (.inl rfl))
    · exact R.Sim.bd (eqTB_sim k x y) fun b hb => R.Sim.ok (hb .neq (.inr rfl))
    · exact R.Sim.none'
def unCB (M : MB) (op : UnOp) : B → R D
  | .fz (.int k n) => (match op with
    | .neg => R.ok (.int k (M.iSub k 0 n))
    | _ => none)
  | .fz (.bool kn b) => (match op with
    | .not => R.ok (.bool kn (match kn with | true => notB b | false => M.bNot b))
    | _ => none)
  | _ => none
theorem unCB_sim (op : UnOp) (x : B) : (unCB stdB op x).Sim fun d => unC std op x.er = some d.er := by
  unfold unCB
  split
  · split
    · exact R.Sim.ok rfl
    · exact R.Sim.none'
  · split
    · refine R.Sim.ok ?_
      simp only [B.er, D.er, unC, stdB]
      split <;> simp
    · exact R.Sim.none'
  · exact R.Sim.none'

/-! ### memory -/
def refW (M : MB) (q : SP) : W → B
  | .un => .un
  | .fz d => .fz d
  | .osl x => .rf q true 0 (x.len M)
  | .onil => .rf q true 0 0
  | .obx _ => .pp q (true, 0) 0
def refWL (M : MB) (r : Nat) (s : SPath) (i : Bool × Nat) : Nat → List W → List B
  | _, [] => []
  | j, o :: rest => refW M (r, s ++ [(i, j)]) o :: refWL M r s i (j + 1) rest
theorem refW_er (q : SP) (o : W) : (refW stdB q o).er = refO std q.er o.er := by
  cases o with
  | osl x => show A.rf q.er 0 (x.len stdB) = A.rf q.er 0 (x.ro.length); rw [LL.len_ro]
  | _ => rfl
theorem refWL_er (r : Nat) (s : SPath) (i : Bool × Nat) : ∀ (l : List W) (j : Nat), B.erL (refWL stdB r s i j l) = refL std r (ixs s) i.2 j (W.erL l)
  | [], j => rfl
  | o :: l, j => by simp only [refWL, B.erL, refL, W.erL, refW_er, refWL_er r s i l]; simp only [SP.er, ixs_append]; rfl
def fzB : List D → List B
  | [] => []
  | d :: r => .fz d :: fzB r
theorem fzB_er (l : List D) : B.erL (fzB l) = fzL (D.erL l) := by induction l with | nil => rfl | cons a r ih => simp [fzB, B.erL, fzL, D.erL, B.er, ih]
theorem cut_map {α β : Type} (f : α → β) : ∀ (l : List α) (j n : Nat), cut (l.map f) j n = (cut l j n).map (·.map f)
  | [], 0, 0 => rfl
  | [], 0, n + 1 => rfl
  | [], j + 1, n => by cases n <;> rfl
  | a :: l, 0, 0 => rfl
  | a :: l, j + 1, 0 => by simp only [List.map_cons, cut]; exact cut_map f l j 0
  | a :: l, j + 1, n + 1 => by simp only [List.map_cons, cut]; exact cut_map f l j (n + 1)
  | a :: l, 0, n + 1 => by
    simp only [List.map_cons, cut, cut_map f l 0 n]
    cases cut l 0 n <;> rfl
def cellsR (M : MB) (F : SF) (n : Nat) : B → R (List B)
  | .pp p i j => (F.atR M p).bd fun o => (match o with
    | .osl x => (match x.atW M i.2 with
      | some cs => (match cut cs j n with
        | some l => some ([M.pLtN i.2 (x.len M)], refWL M p.1 p.2 i j l)
        | none => none)
      | none => none)
    | .obx cs => (match i with
      | (true, 0) => oR (match cut cs j n with | some l => some (refWL M p.1 p.2 (true, 0) j l) | none => none)
      | _ => none)
    | _ => none)
  | .fz (.ptr cs) => oR (match cut cs 0 n with | some l => some (fzB l) | none => none)
  | _ => none
theorem cellsR_sim (F : SF) (n : Nat) (x : B) : (cellsR stdB F n x).Sim fun l => cellsAt std F.er n x.er = some (B.erL l) := by
  unfold cellsR
  split
  · rename_i p i j
    refine R.Sim.bd (F.atR_sim p) fun o ho => ?_
    simp only [B.er, cellsAt, ho]
    split
    · rename_i x
      split
      · rename_i cs hc
        split
        · rename_i l hl
          intro ps d h hp
          injection h with h
          injection h with h1 h2
          subst h1 h2
          have h1 : std.oGet x.ro i.2 = some (cs.map W.er) := LL.ro_get x i.2 hc hp.one
          simp only [W.er, h1, cut_map, hl, Option.map_some]
          rw [refWL_er, W.erL_eq]
          rfl
        · exact R.Sim.none'
      · exact R.Sim.none'
    · rename_i cs
      split
      · refine oR_sim fun a ha => ?_
        split at ha
        · rename_i l hl
          simp only [Option.some.injEq] at ha
          subst ha
          simp only [W.er, W.erL_eq, cut_map, hl, Option.map_some]
          rw [refWL_er, W.erL_eq]
          rfl
        · cases ha
      · exact R.Sim.none'
    · exact R.Sim.none'
  · refine oR_sim fun a ha => ?_
    split at ha
    · rename_i l hl
      simp only [Option.some.injEq] at ha
      subst ha
      simp only [B.er, D.er, cellsAt, D.erL_eq, cut_map, hl, Option.map_some, fzB_er]
    · cases ha
  · exact R.Sim.none'
def mkVB (agg : Bool) (as : List B) : Option (TV B) :=
  match agg with
  | true => some (.v (true, as))
  | false => match as with
    | [a] => some (.v (false, [a]))
    | _ => none
theorem mkVB_er {agg : Bool} {as : List B} {x : TV B} (h : mkVB agg as = some x) : mkV agg (B.erL as) = some (x.er B.erL) := by
  unfold mkVB at h
  split at h
  · simp only [Option.some.injEq] at h; subst h; rfl
  · split at h
    · simp only [Option.some.injEq] at h; subst h; rfl
    · cases h
/-- Owned, read as frozen. -/
def W.frzR : W → Option D
  | .fz d => some d
  | .osl x => match x.here with | true => some (.sl x) | false => none
  | .un => some .un
  | _ => none
def frzRL : List W → Option (List D)
  | [] => some []
  | o :: r => match o.frzR, frzRL r with | some d, some l => some (d :: l) | _, _ => none
theorem W.frzR_er {o : W} {d : D} (h : o.frzR = some d) : o.er.frz = d.er := by
  unfold W.frzR at h
  split at h
  · simp only [Option.some.injEq] at h; subst h; rfl
  · rename_i x
    split at h
    · rename_i hh
      simp only [Option.some.injEq] at h
      subst h
      simp only [W.er, O.frz, D.er, LL.frz_ro x hh]
    · cases h
  · simp only [Option.some.injEq] at h; subst h; rfl
  · cases h
theorem frzRL_er : ∀ (l : List W) {r : List D}, frzRL l = some r → O.frzL (W.erL l) = D.erL r
  | [], r, h => by simp only [frzRL, Option.some.injEq] at h; subst h; rfl
  | o :: l, r, h => by
    simp only [frzRL] at h
    split at h
    · rename_i d l' hd hl
      simp only [Option.some.injEq] at h
      subst h
      simp only [W.erL, O.frzL, D.erL, W.frzR_er hd, frzRL_er l hl]
    · cases h
theorem dropN_map {α β : Type} (f : α → β) (l : List α) (n : Nat) : dropN (l.map f) n = (dropN l n).map f := by simp [dropN_eq, List.map_drop]
mutual
def frzB (M : MB) (F : SF) : B → R D
  | .un => R.ok .un
  | .ud => R.ok .un
  | .fz d => R.ok d
  | .rf p w off len => (F.atR M p).bd fun o => (match o with
    | .osl x => (match x.here with
      | true => (match w with
        | true => some ([M.pEqN off 0, M.pEqN len (x.len M)], .sl x)
        | false => (match x.cut M off len with
          | some y => some ([M.pLeN (M.nAdd off len) (x.len M)], .sl y)
          | none => none))
      | false => none)
    | .onil => some ([M.pEqN off 0, M.pEqN len 0], .sl (.i []))
    | _ => none)
  | .pp p i j => (F.atR M p).bd fun o => (match o with
    | .osl x => (match x.here with
      | true => some ([M.pLtN i.2 (x.len M)], .ptr (dropN (x.atD M i.2) j))
      | false => none)
    | .obx cs => (match i with
      | (true, 0) => oR (match frzRL (dropN cs j) with | some l => some (.ptr l) | none => none)
      | _ => none)
    | _ => none)
  | .clo f caps => (frzBL M F caps).bd fun l => R.ok (.fn f l)
def frzBL (M : MB) (F : SF) : List B → R (List D)
  | [] => R.ok []
  | a :: r => (frzB M F a).bd fun d => (frzBL M F r).bd fun l => R.ok (d :: l)
end
theorem nLe_std (a b : Nat) : std.nLe a b = decide (a ≤ b) := rfl
mutual
theorem frzB_sim (F : SF) : (x : B) → (frzB stdB F x).Sim fun d => frzA std F.er x.er = d.er
  | .un => R.Sim.ok rfl
  | .ud => R.Sim.ok rfl
  | .fz d => R.Sim.ok rfl
  | .rf p w off len => by
    simp only [frzB]
    refine R.Sim.bd (F.atR_sim p) fun o ho => ?_
    simp only [B.er, frzA, ho]
    split
    · rename_i x
      split
      · rename_i hh
        split
        · intro ps d h hp
          injection h with h
          injection h with h1 h2
          subst h1 h2
          obtain ⟨h1, h2⟩ := hp.two
          have h1 : off = 0 := h1
          have h2 : len = x.len stdB := h2
          subst h1 h2
          have h3 : x.len stdB = x.ro.length := (LL.len_ro x).symm
          simp only [W.er, nLe_std, D.er]
          show (match decide (0 + x.len stdB ≤ x.ro.length) with | true => C.sl (O.frzLL ((x.ro.drop 0).take (x.len stdB))) | false => .un) = _
          rw [h3]
          simp [LL.frz_ro x hh]
        · split
          · rename_i y hy
            intro ps d h hp
            injection h with h
            injection h with h1 h2
            subst h1 h2
            have h1 : off + len ≤ x.len stdB := hp.one
            simp only [W.er, D.er]
            show (match decide (off + len ≤ x.ro.length) with | true => C.sl (O.frzLL ((x.ro.drop off).take len)) | false => .un) = _
            rw [LL.len_ro, ← LL.cut_ro hy]
            simp only [h1, decide_true]
            have hy' : y.here = true := by
              unfold LL.cut at hy
              split at hy <;> first | (simp only [Option.some.injEq] at hy; subst hy; rfl) | cases hy
            rw [LL.frz_ro y hy']
          · exact R.Sim.none'
      · exact R.Sim.none'
    · intro ps d h hp
      injection h with h
      injection h with h1 h2
      subst h1 h2
      obtain ⟨h1, h2⟩ := hp.two
      have h1 : off = 0 := h1
      have h2 : len = 0 := h2
      subst h1 h2
      rfl
    · exact R.Sim.none'
  | .pp p i j => by
    simp only [frzB]
    refine R.Sim.bd (F.atR_sim p) fun o ho => ?_
    simp only [B.er, frzA, ho]
    split
    · rename_i x
      split
      · rename_i hh
        intro ps d h hp
        injection h with h
        injection h with h1 h2
        subst h1 h2
        have h1 : i.2 < x.len stdB := hp.one
        have h2 : i.2 < x.ro.length := by rw [LL.len_ro]; exact h1
        have h3 : std.oGet x.ro i.2 = some x.ro[i.2] := List.getElem?_eq_getElem h2
        simp only [W.er, h3, D.er]
        have h4 := congrArg (fun l : List (List C) => l[i.2]?) (LL.frz_ro x hh)
        simp only [O.frzLL_eq, List.getElem?_map, List.getElem?_eq_getElem h2, LL.rc_get x i.2 h1, Option.map_some, Option.some.injEq] at h4
        rw [O.frzL_eq, dropN_eq, List.map_drop, h4, ← List.map_drop, ← dropN_eq, D.erL_eq]
      · exact R.Sim.none'
    · split
      · refine oR_sim fun a ha => ?_
        split at ha
        · rename_i l hl
          simp only [Option.some.injEq] at ha
          subst ha
          simp only [W.er, W.erL_eq, dropN_map, D.er]
          rw [← W.erL_eq, frzRL_er _ hl]
        · cases ha
      · exact R.Sim.none'
    · exact R.Sim.none'
  | .clo f caps => by
    simp only [frzB]
    refine R.Sim.bd (frzBL_sim F caps) fun l hl => R.Sim.ok ?_
    simp only [B.er, frzA, hl, D.er]
theorem frzBL_sim (F : SF) : (l : List B) → (frzBL stdB F l).Sim fun d => frzAL std F.er (B.erL l) = D.erL d
  | [] => R.Sim.ok rfl
  | a :: r => by
    simp only [frzBL]
    exact R.Sim.bd (frzB_sim F a) fun d hd => R.Sim.bd (frzBL_sim F r) fun l hl => R.Sim.ok (by simp only [B.erL, frzAL, D.erL, hd, hl])
end
end Go.Proofs.Ytlmejcmnmdleaaa.Ai
