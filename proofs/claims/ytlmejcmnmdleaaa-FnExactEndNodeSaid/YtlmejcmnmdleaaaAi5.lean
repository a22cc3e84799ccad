/- The abstract interpreter, part 5: what it says of values is so (operations that read alone). -/
import Derived.Test.YtlmejcmnmdleaaaAi3
import Derived.Laws.Cover3
namespace Go.Proofs.Ytlmejcmnmdleaaa.Ai
open Go
set_option linter.unusedSectionVars false
set_option linter.unusedSimpArgs false

def bytesL : List (List C) → Option (List UInt8)
  | [] => some []
  | [.int .u8 n] :: r => match bytesL r with | some l => some (UInt8.ofNat n.toNat :: l) | none => none
  | _ => none
def noUn : C → Bool
  | .un => false
  | _ => true
def bndOk (lo hi : Option Int) (len : Nat) : Option (Nat × Nat) :=
  match lo, hi with
  | none, none => some (0, len)
  | some l, none => if 0 ≤ l ∧ l ≤ len then some (l.toNat, len) else none
  | none, some h => if 0 ≤ h ∧ h ≤ len then some (0, h.toNat) else none
  | some l, some h => if 0 ≤ l ∧ l ≤ h ∧ h ≤ len then some (l.toNat, h.toNat) else none
/-- What the operations are. -/
def std : Ops where
  iAdd k a b := k.wrap (a + b)
  iSub k a b := k.wrap (a - b)
  iMul k a b := k.wrap (a * b)
  iQuo k a b := if b = 0 then none else some (k.wrap (a.tdiv b))
  iRem a b := if b = 0 then none else some (a.tmod b)
  iAnd k a b := k.wrap (BitVec.ofInt k.bits a &&& BitVec.ofInt k.bits b).toNat
  iOr k a b := k.wrap (BitVec.ofInt k.bits a ||| BitVec.ofInt k.bits b).toNat
  iXor k a b := k.wrap (BitVec.ofInt k.bits a ^^^ BitVec.ofInt k.bits b).toNat
  iShl k a b := if b < 0 then none else some (k.wrap (a * 2 ^ min b.toNat k.bits))
  iShr k a b := if b < 0 then none else some (a.fdiv (2 ^ min b.toNat k.bits))
  iWrap k a := k.wrap a
  iMax a b := if b > a then b else a
  iMin a b := if b < a then b else a
  bEq a b := a == b
  bLt a b := decide (a < b)
  bLe a b := decide (a ≤ b)
  bNot b := !b
  bEqB a b := a == b
  sEq a b := a.toList == b.toList
  sCat a b := if a.size + b.size ≤ 9223372036854775807 then some (a ++ b) else none
  sLen s := s.size
  sCut s l h := s.extract l h
  sAt s n := if 0 ≤ n then (s[n.toNat]?).map (fun b => (b.toNat : Int)) else none
  sOf xs := (bytesL xs).map fun l => ⟨l.toArray⟩
  nI n := n
  nAdd a b := a + b
  nSub a b := a - b
  nEq a b := a == b
  nLe a b := decide (a ≤ b)
  ix n len := if 0 ≤ n ∧ n < len then some n.toNat else none
  lh := bndOk
  cLen l := l.length
  cGet l i := l[i]?
  cCut l off len := (l.drop off).take len
  cSz n l := l.all fun y => y.length == n
  oLen l := l.length
  oGet l i := l[i]?
  oCut l off len := (l.drop off).take len
  oCat l r := l ++ r
  oSet l i y := l.set i y
  oFrz l := O.frzLL l
  oOf l := l.map (·.map .fz)
  oRep n y := if 0 ≤ n ∧ n ≤ lim then some (List.replicate n.toNat y) else none
  oSz n l := l.all fun y => y.length == n
  oFlat l := l.all (·.all O.isFz)
  oClean l := O.cleanLL l

theorem nth_eq {α : Type} (l : List α) (n : Nat) : nth l n = l[n]? := by
  induction l generalizing n with
  | nil => simp [nth]
  | cons a r ih => cases n <;> simp [nth, ih]
theorem cnt_eq {α : Type} (l : List α) : cnt l = l.length := by induction l with | nil => rfl | cons a r ih => simp [cnt, ih]
theorem fzL_eq (l : List C) : fzL l = l.map .fz := by induction l with | nil => rfl | cons a r ih => simp [fzL, ih]
theorem dropN_eq {α : Type} (l : List α) (n : Nat) : dropN l n = l.drop n := by
  induction l generalizing n with
  | nil => cases n <;> simp [dropN]
  | cons a r ih => cases n <;> simp [dropN, ih]
theorem setN_eq {α : Type} (l : List α) (n : Nat) (x : α) : setN l n x = l.set n x := by
  induction l generalizing n with
  | nil => simp [setN]
  | cons a r ih => cases n <;> simp [setN, ih]
theorem cut_eq {α : Type} (l : List α) (j n : Nat) (r : List α) (h : cut l j n = some r) : j + n ≤ l.length ∧ r = (l.drop j).take n := by
  induction l generalizing j n r with
  | nil =>
    cases j <;> cases n <;> simp [cut] at h
    subst h; simp
  | cons a l ih =>
    cases j with
    | zero =>
      cases n with
      | zero => simp [cut] at h; subst h; simp
      | succ n =>
        simp only [cut] at h
        cases h1 : cut l 0 n with
        | none => simp [h1] at h
        | some l' =>
          simp [h1] at h
          subst h
          obtain ⟨h2, rfl⟩ := ih 0 n l' h1
          simp at h2 ⊢
          omega
    | succ j =>
      simp only [cut] at h
      obtain ⟨h2, rfl⟩ := ih j n r h
      simp
      omega
theorem frzAL_eq (M : Ops) (F : Fr) (l : List A) : frzAL M F l = l.map (frzA M F) := by induction l with | nil => rfl | cons a r ih => simp [frzAL, ih]
theorem trL_eq (τ : Path → Option Path) (l : List A) : A.trL τ l = l.map (A.tr τ) := by induction l with | nil => rfl | cons a r ih => simp [A.trL, ih]
theorem okL_eq (l : List A) : okL l = l.all A.ok := by
  induction l with
  | nil => rfl
  | cons a r ih => simp only [okL, List.all_cons]; cases h : a.ok <;> simp [ih]

structure FR [Fence] (F : Fr) (σ : Gh) (w : World) (vt : Nat → Value) : Prop where
  inj : ∀ g g' x y, σ g = some x → σ g' = some y → x.p = y.p → g = g'
  lt : ∀ g x, σ g = some x → g < w.heap.size
  tb : ∀ id, ∃ v, RepO w σ (id, []) (look .un F.tb id) v
  tm : ∀ t, RepT (fun _ _ => RepA w σ) (look unT F.tm t) (vt t)
def valT (a : Act) (t : Nat) : Value := a.tmps.getD t undef

section
variable [Fence] {P : Program} {F : Fr} {σ : Gh} {w : World} {a : Act}

theorem RepA.fz_inv {c : C} {v : Value} (h : RepA w σ (.fz c) v) : RepC w σ c v := by cases h; assumption
theorem RepC.int_inv {k : IntKind} {n : Int} {v : Value} (h : RepC w σ (.int k n) v) : v = .int k n := by cases h; rfl
theorem RepC.bool_inv {b : Bool} {v : Value} (h : RepC w σ (.bool b) v) : v = .bool b := by cases h; rfl
theorem RepC.str_inv {s : ByteArray} {v : Value} (h : RepC w σ (.str s) v) : v = .string s := by cases h; rfl
theorem RepC.nil_inv {v : Value} (h : RepC w σ .nilsl v) : v = .slice none 0 0 := by cases h; rfl
theorem repT_un (v : Value) : RepT (fun _ _ => RepA w σ) unT v := RepA.un v
theorem constA_sound (v : Value) : RepA w σ (constA v) v := by
  unfold constA
  split
  · exact .fz _ _ (.int _ _)
  · exact .fz _ _ (.bool _)
  · exact .fz _ _ (.str _)
  · exact .fz _ _ .nilsl
  · exact .un _
theorem constT_sound (v : Value) : RepT (fun _ _ => RepA w σ) (constT v) v := by
  unfold constT
  split
  · rename_i cs
    refine ⟨cs, rfl, by simp, fun j a hj => ?_⟩
    rw [List.getElem?_map] at hj
    cases h : cs.toList[j]? with
    | none => rw [h] at hj; simp at hj
    | some u =>
      rw [h] at hj
      simp at hj
      subst hj
      exact ⟨u, by simpa using h, constA_sound u⟩
  · exact repT_un _
  · exact constA_sound _
theorem ev_sound (h : FR F σ w (valT a)) (x : Operand) : RepT (fun _ _ => RepA w σ) (ev F x) (a.eval x) := by
  cases x with
  | tmp t => exact h.tm t
  | const v => exact constT_sound v
  | func f => exact RepA.fz _ _ (RepC.fn f [] #[] (fun _ => undef) rfl (fun j c hj => by simp at hj) (fun j c hj => by simp at hj))
  | global g => exact repT_un _
theorem one_sound {x : TV A} {v : Value} (h : RepT (fun _ _ => RepA w σ) x v) : RepA w σ (one x) v := by
  unfold one
  split
  · exact h
  · exact .un _
theorem ev1_sound (h : FR F σ w (valT a)) (x : Operand) : RepA w σ (ev1 F x) (a.eval x) := one_sound (ev_sound h x)

/-! ### arithmetic -/
theorem intOp_sound {op : BinOp} {k : IntKind} {x y : Int} {c : C} (h : intOp std op k x y = some c) (hs : op ≠ .shl ∧ op ≠ .shr) (t : TypeId) :
    ∃ v, (binOp op t (.int k x) (.int k y)).run P w = .ok v w ∧ RepC w σ c v := by
  cases op <;> simp [intOp, std] at h hs
  case add => subst h; exact ⟨_, by simp [binOp, Op.intArith], .int _ _⟩
  case sub => subst h; exact ⟨_, by simp [binOp, Op.intArith], .int _ _⟩
  case mul => subst h; exact ⟨_, by simp [binOp, Op.intArith], .int _ _⟩
  case quo =>
    split at h
    · rename_i z hz
      split at hz
      · cases hz
      · rename_i hy
        simp at h hz
        subst h hz
        exact ⟨_, by simp [binOp, Op.intDiv, hy], .int _ _⟩
    · cases h
  case rem =>
    split at h
    · rename_i z hz
      split at hz
      · cases hz
      · rename_i hy
        simp at h hz
        subst h hz
        exact ⟨_, by simp [binOp, Op.intDiv, hy], .int _ _⟩
    · cases h
  case and => subst h; exact ⟨_, by simp [binOp, Op.intBits], .int _ _⟩
  case or => subst h; exact ⟨_, by simp [binOp, Op.intBits], .int _ _⟩
  case xor => subst h; exact ⟨_, by simp [binOp, Op.intBits], .int _ _⟩
  case eql => subst h; exact ⟨_, by simp [binOp, Op.intCmp], .bool _⟩
  case neq => subst h; exact ⟨_, by simp [binOp, Op.intCmp]; rfl, .bool _⟩
  case lss => subst h; exact ⟨_, by simp [binOp, Op.intCmp], .bool _⟩
  case leq => subst h; exact ⟨_, by simp [binOp, Op.intCmp], .bool _⟩
  case gtr => subst h; exact ⟨_, by simp [binOp, Op.intCmp], .bool _⟩
  case geq => subst h; exact ⟨_, by simp [binOp, Op.intCmp], .bool _⟩

theorem kindEq_eq {k k' : IntKind} (h : kindEq k k' = true) : k = k' := by cases k <;> cases k' <;> simp_all [kindEq]
theorem binC_sound {op : BinOp} {x y c : C} (h : binC std op x y = some c) (t : TypeId) {v v' : Value} (hx : RepC w σ x v) (hy : RepC w σ y v') :
    ∃ u, (binOp op t v v').run P w = .ok u w ∧ RepC w σ c u := by
  cases x <;> cases y <;> simp only [binC] at h <;> try cases h
  case int.int k a k' b =>
    cases hx; cases hy
    split at h
    · simp only [std] at h
      split at h
      · rename_i z hz
        split at hz
        · cases hz
        · rename_i hb
          simp at h hz
          subst h hz
          exact ⟨_, by simp [binOp, Op.shift, hb], .int _ _⟩
      · cases h
    · simp only [std] at h
      split at h
      · rename_i z hz
        split at hz
        · cases hz
        · rename_i hb
          simp at h hz
          subst h hz
          exact ⟨_, by simp [binOp, Op.shift, hb], .int _ _⟩
      · cases h
    · rename_i h1 h2
      split at h
      · rename_i hk
        obtain rfl := kindEq_eq hk
        exact intOp_sound h ⟨h1, h2⟩ t
      · cases h
  case str.str s s' =>
    cases hx; cases hy
    cases op <;> simp [strOp, std] at h
    case add =>
      split at h
      · rename_i z hz
        split at hz
        · rename_i hb
          simp at h hz
          subst h hz
          exact ⟨_, by simpa [binOp] using run_string_add_sum (P := P) w s s' hb, .str _⟩
        · cases hz
      · cases h
    case eql => subst h; exact ⟨_, by simp [binOp, Op.stringOp], .bool _⟩
    case neq => subst h; exact ⟨_, by simp [binOp, Op.stringOp], .bool _⟩

/-- The table tells of the program's types what is so. -/
def TyOK (P : Program) (T : Nat → Option Ty) : Prop := ∀ t y, T t = some y → tyOf P t = some y
theorem tyOf_inv {t : TypeId} {y : Ty} (h : tyOf P t = some y) : ∃ i u z, P.info? t = some i ∧ P.underlying t = some u ∧ i.zero = some z ∧
    y = { kind := kindOf P u, agg := isAggD (some u), size := i.size, bytes := i.bytes, zero := z.cells.toList.map zeroC } := by
  unfold tyOf at h
  split at h
  · rename_i i u hi hu
    split at h
    · rename_i z hz
      simp at h
      exact ⟨i, u, z, hi, hu, hz, h.symm⟩
    · cases h
  · cases h
theorem kind_bool {u : TypeDesc} (h : kindOf P u = .bool) : u = .bool := by cases u <;> simp only [kindOf] at h <;> first | rfl | cases h | (split at h <;> cases h)
theorem kind_str {u : TypeDesc} (h : kindOf P u = .str) : u = .string := by cases u <;> simp only [kindOf] at h <;> first | rfl | cases h | (split at h <;> cases h)
theorem kind_sl {u : TypeDesc} {e : Nat} (h : kindOf P u = .sl e) : u = .slice e := by cases u <;> simp only [kindOf] at h <;> first | (injection h with h; subst h; rfl) | cases h | (split at h <;> cases h)
theorem kind_int {u : TypeDesc} {k : IntKind} (h : kindOf P u = .int k) : u = .int k := by cases u <;> simp only [kindOf] at h <;> first | (injection h with h; subst h; rfl) | cases h | (split at h <;> cases h)
theorem kind_st {u : TypeDesc} {fs : List (Nat × Nat × Bool)} (h : kindOf P u = .st fs) : ∃ gs : Array Field, u = .struct gs ∧ fs = gs.toList.map (fun f => (f.offset, P.cellsOf f.type, isAggD (P.underlying f.type))) ∧
    ∀ f ∈ gs.toList, ∃ ud inf, P.underlying f.type = some ud ∧ P.info? f.type = some inf := by
  cases u <;> simp only [kindOf] at h <;> try cases h
  rename_i gs
  split at h
  · rename_i ha
    injection h with h
    refine ⟨gs, rfl, h.symm, fun f hf => ?_⟩
    have := List.all_eq_true.1 ha f hf
    obtain ⟨ud, hud⟩ := Option.isSome_iff_exists.1 this
    cases hi : P.info? f.type with
    | none => simp [Program.underlying, hi] at hud
    | some inf => exact ⟨ud, inf, hud, rfl⟩
  · cases h
theorem run_equalIn_bool (d : Nat) (t : TypeId) (x y : Bool) (h : P.underlying t = some .bool) : (Op.equalIn (d + 1) t (.bool x) (.bool y)).run P w = .ok (x == y) w := by
  simp [Op.equalIn, run_underlying h]
theorem eqT_sound {k : TK} {x y : A} {b : Bool} (h : eqT std k x y = some b) {t : TypeId} {ty : Ty} (ht : tyOf P t = some ty) (hk : ty.kind = k) {v v' : Value} (hx : RepA w σ x v) (hy : RepA w σ y v') :
    (Op.equal t v v').run P w = .ok b w ∧ (binOp .eql t v v').run P w = .ok (.bool b) w ∧ (binOp .neq t v v').run P w = .ok (.bool !b) w := by
  obtain ⟨i, u, z, hi, hu, hz, rfl⟩ := tyOf_inv ht
  dsimp only at hk
  unfold eqT at h
  split at h
  · obtain rfl := kind_bool hk
    split at h
    · rename_i p q
      simp [std] at h
      subst h
      obtain rfl := hx.fz_inv.bool_inv
      obtain rfl := hy.fz_inv.bool_inv
      have e : (Op.equal t (.bool p) (.bool q)).run P w = .ok (p == q) w := run_equalIn_bool 9999 t p q hu
      exact ⟨e, by simp [binOp, e], by simp [binOp, e]⟩
    · cases h
  · obtain rfl := kind_sl hk
    split at h
    · obtain rfl := hy.fz_inv.nil_inv
      unfold isNil? at h
      split at h
      · obtain rfl := hx.fz_inv.nil_inv
        simp at h
        subst h
        have e := run_equal_slice_nil (P := P) w t _ none 0 0 hu
        exact ⟨e, by simp [binOp, e], by simp [binOp, e]⟩
      · rename_i x xs
        simp at h
        subst h
        cases hx.fz_inv with
        | sl _ sz a cap us hc hs ha hm hr =>
          obtain ⟨ad, rfl, _⟩ := ha (by simp)
          have e : (Op.equal t (.slice (some ad) (x :: xs).length cap) (.slice none 0 0)).run P w = .ok false w := run_equal_slice_nil (P := P) w t _ (some ad) (x :: xs).length cap hu
          exact ⟨e, by simp only [binOp, Sem.run_bind, e]; simp, by simp only [binOp, Sem.run_bind, e]; simp⟩
      · simp at h
        subst h
        cases hx with
        | rf p off len g n cap sz hg hl hn =>
          rename_i off' len
          have e : (Op.equal t (.slice (some ⟨g, off' * sz, none⟩) (len + 1) (cap - off')) (.slice none 0 0)).run P w = .ok false w := run_equal_slice_nil (P := P) w t _ (some ⟨g, off' * sz, none⟩) _ (cap - off') hu
          exact ⟨e, by simp only [binOp, Sem.run_bind, e]; simp, by simp only [binOp, Sem.run_bind, e]; simp⟩
      · cases h
    · cases h
  · cases h
end
end Go.Proofs.Ytlmejcmnmdleaaa.Ai
