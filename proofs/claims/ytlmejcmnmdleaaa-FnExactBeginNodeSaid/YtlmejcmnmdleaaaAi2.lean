/- The abstract interpreter, part 2: what it does with values. -/
import Derived.Test.YtlmejcmnmdleaaaAi1
namespace Go.Proofs.Ytlmejcmnmdleaaa.Ai
open Go

/-- What is asked of numbers, strings and long lists: by a variable, so that evaluation leaves it alone. -/
structure Ops where
  iAdd : IntKind → Int → Int → Int
  iSub : IntKind → Int → Int → Int
  iMul : IntKind → Int → Int → Int
  iQuo : IntKind → Int → Int → Option Int
  iRem : Int → Int → Option Int
  iAnd : IntKind → Int → Int → Int
  iOr : IntKind → Int → Int → Int
  iXor : IntKind → Int → Int → Int
  iShl : IntKind → Int → Int → Option Int
  iShr : IntKind → Int → Int → Option Int
  iWrap : IntKind → Int → Int
  iMax : Int → Int → Int
  iMin : Int → Int → Int
  bEq : Int → Int → Bool
  bLt : Int → Int → Bool
  bLe : Int → Int → Bool
  bNot : Bool → Bool
  bEqB : Bool → Bool → Bool
  sEq : ByteArray → ByteArray → Bool
  sCat : ByteArray → ByteArray → Option ByteArray
  sLen : ByteArray → Nat
  sCut : ByteArray → Nat → Nat → ByteArray
  sAt : ByteArray → Int → Option Int
  sOf : List (List C) → Option ByteArray
  nI : Nat → Int
  nAdd : Nat → Nat → Nat
  nSub : Nat → Nat → Nat
  nEq : Nat → Nat → Bool
  nLe : Nat → Nat → Bool
  ix : Int → Nat → Option Nat
  lh : Option Int → Option Int → Nat → Option (Nat × Nat)
  cLen : List (List C) → Nat
  cGet : List (List C) → Nat → Option (List C)
  cCut : List (List C) → Nat → Nat → List (List C)
  cSz : Nat → List (List C) → Bool
  oLen : List (List O) → Nat
  oGet : List (List O) → Nat → Option (List O)
  oCut : List (List O) → Nat → Nat → List (List O)
  oCat : List (List O) → List (List O) → List (List O)
  oSet : List (List O) → Nat → List O → List (List O)
  oFrz : List (List O) → List (List C)
  oOf : List (List C) → List (List O)
  oRep : Int → List O → Option (List (List O))
  oSz : Nat → List (List O) → Bool
  oFlat : List (List O) → Bool
  oClean : List (List O) → Bool

/-- 'Not', evaluated at once where it can be. -/
def notB : Bool → Bool
  | true => false
  | false => true
@[simp] theorem notB_eq (b : Bool) : notB b = !b := by cases b <;> rfl

/-! ### numbers that are known: compared at once -/
def nq (a b : Nat) : Bool := @BEq.beq Nat ⟨Nat.beq⟩ a b
def nle (a b : Nat) : Bool := decide (a ≤ b)
def nlt (a b : Nat) : Bool := nle (a + 1) b
theorem nq_eq (a b : Nat) : nq a b = Nat.beq a b := rfl
@[simp] theorem nq_iff {a b : Nat} : nq a b = true ↔ a = b := by rw [nq_eq]; exact Nat.beq_eq ▸ Iff.rfl
@[simp] theorem nq_self (a : Nat) : nq a a = true := nq_iff.2 rfl
theorem le_of_nle {a b : Nat} (h : nle a b = true) : a ≤ b := of_decide_eq_true h
theorem nle_of_le {a b : Nat} (h : a ≤ b) : nle a b = true := decide_eq_true h
@[simp] theorem nle_iff {a b : Nat} : nle a b = true ↔ a ≤ b := ⟨le_of_nle, nle_of_le⟩
@[simp] theorem nlt_iff {a b : Nat} : nlt a b = true ↔ a < b := ⟨fun h => le_of_nle h, fun h => nle_of_le h⟩

/-! ### tables -/
def look {α : Type} (d : α) : List (Nat × α) → Nat → α
  | [], _ => d
  | (k, v) :: r, t => bif nq k t then v else look d r t
def has {α : Type} : List (Nat × α) → Nat → Bool
  | [], _ => false
  | (k, _) :: r, t => bif nq k t then true else has r t
def del {α : Type} : List (Nat × α) → Nat → List (Nat × α)
  | [], _ => []
  | (k, v) :: r, t => bif nq k t then del r t else (k, v) :: del r t
def nth {α : Type} : List α → Nat → Option α
  | [], _ => none
  | a :: _, 0 => some a
  | _ :: r, n + 1 => nth r n
def cnt {α : Type} : List α → Nat
  | [] => 0
  | _ :: r => cnt r + 1

/-- What a type is, as far as the interpreter asks. -/
inductive TK where
  | int (k : IntKind)
  | bool
  | str
  | sl (e : Nat)
  | st (fs : List (Nat × Nat × Bool))
  | oth
structure Ty where
  kind : TK
  agg : Bool
  size : Nat
  bytes : Nat
  zero : List C
def zeroC : Value → C
  | .int k n => .int k n
  | .bool b => .bool b
  | .string s => .str s
  | .slice none 0 0 => .nilsl
  | _ => .un
def isAggD : Option TypeDesc → Bool
  | some (.struct _) | some (.array _ _) => true
  | _ => false
def kindOf (P : Program) : TypeDesc → TK
  | .int k => .int k
  | .bool => .bool
  | .string => .str
  | .slice e => .sl e
  | .struct fs => if fs.toList.all (fun f => (P.underlying f.type).isSome) then .st (fs.toList.map fun f => (f.offset, P.cellsOf f.type, isAggD (P.underlying f.type))) else .oth
  | _ => .oth
def tyOf (P : Program) (t : TypeId) : Option Ty :=
  match P.info? t, P.underlying t with
  | some i, some u => match i.zero with
    | some z => some { kind := kindOf P u, agg := isAggD (some u), size := i.size, bytes := i.bytes, zero := z.cells.toList.map zeroC }
    | none => none
  | _, _ => none

/-! ### places -/
def pre (M : Ops) : List (Nat × Nat) → List (Nat × Nat) → Option (List (Nat × Nat))
  | [], s => some s
  | _ :: _, [] => none
  | (a, b) :: p, (c, d) :: s => match M.nEq a c && M.nEq b d with | true => pre M p s | false => none
def killP (M : Ops) (p x : Path) : Option Path := match nq x.1 p.1 with
  | true => (match pre M p.2 x.2 with | some _ => none | none => some x)
  | false => some x
def moveP (M : Ops) (p q x : Path) : Option Path := match nq x.1 p.1 with
  | true => (match pre M p.2 x.2 with | some s => some (q.1, q.2 ++ s) | none => some x)
  | false => some x

mutual
def A.tr (τ : Path → Option Path) : A → A
  | .un => .un
  | .ud => .ud
  | .fz c => .fz c
  | .rf p off len => match τ p with | some q => .rf q off len | none => .un
  | .pp p i j => match τ p with | some q => .pp q i j | none => .un
  | .clo f caps => .clo f (A.trL τ caps)
def A.trL (τ : Path → Option Path) : List A → List A
  | [] => []
  | a :: r => a.tr τ :: A.trL τ r
end
def trV (τ : Path → Option Path) (x : V1 A) : V1 A := (x.1, A.trL τ x.2)
def trVs (τ : Path → Option Path) : List (V1 A) → List (V1 A)
  | [] => []
  | x :: r => trV τ x :: trVs τ r
def TV.tr (τ : Path → Option Path) : TV A → TV A
  | .v x => .v (trV τ x)
  | .tup xs => .tup (trVs τ xs)
def trTm (τ : Path → Option Path) : List (Nat × TV A) → List (Nat × TV A)
  | [] => []
  | (t, x) :: r => (t, x.tr τ) :: trTm τ r

def O.at (M : Ops) : O → List (Nat × Nat) → O
  | o, [] => o
  | .osl xs, (i, j) :: s => match M.oGet xs i with
    | some y => match nth y j with
      | some o => O.at M o s
      | none => .un
    | none => .un
  | .obx cs, (i, j) :: s => match i with
    | 0 => (match nth cs j with | some o => O.at M o s | none => .un)
    | _ + 1 => .un
  | _, _ :: _ => .un
def setN {α : Type} : List α → Nat → α → List α
  | [], _, _ => []
  | _ :: r, 0, x => x :: r
  | a :: r, n + 1, x => a :: setN r n x
def O.set (M : Ops) : O → List (Nat × Nat) → O → O
  | _, [], n => n
  | .osl xs, (i, j) :: s, n => match M.oGet xs i with
    | some y => match nth y j with
      | some o => .osl (M.oSet xs i (setN y j (O.set M o s n)))
      | none => .osl xs
    | none => .osl xs
  | .obx cs, (i, j) :: s, n => match i with
    | 0 => (match nth cs j with | some o => .obx (setN cs j (O.set M o s n)) | none => .obx cs)
    | _ + 1 => .obx cs
  | o, _ :: _, _ => o

mutual
/-- Frozen: the meaning. -/
def O.frz : O → C
  | .un => .un
  | .fz c => c
  | .osl xs => .sl (O.frzLL xs)
  | .obx cs => .ptr (O.frzL cs)
def O.frzL : List O → List C
  | [] => []
  | o :: r => o.frz :: O.frzL r
def O.frzLL : List (List O) → List (List C)
  | [] => []
  | y :: r => O.frzL y :: O.frzLL r
end
/-- Frozen: as it is evaluated. -/
def O.frzM (M : Ops) : O → C
  | .un => .un
  | .fz c => c
  | .osl xs => .sl (M.oFrz xs)
  | .obx cs => .ptr (O.frzL cs)
theorem O.frzL_eq (l : List O) : O.frzL l = l.map O.frz := by induction l with | nil => rfl | cons a r ih => simp [O.frzL, ih]
theorem O.frzLL_eq (l : List (List O)) : O.frzLL l = l.map (·.map O.frz) := by induction l with | nil => rfl | cons a r ih => simp [O.frzLL, ih, O.frzL_eq]

/-- Leads to no block. -/
def C.flat : C → Bool
  | .sl [] => true
  | .sl _ | .ptr _ | .un => false
  | .fn _ caps => caps.isEmpty
  | _ => true
mutual
def O.clean : O → Bool
  | .un => false
  | .fz c => c.flat
  | .osl xs => O.cleanLL xs
  | .obx cs => O.cleanL cs
def O.cleanL : List O → Bool
  | [] => true
  | o :: r => o.clean && O.cleanL r
def O.cleanLL : List (List O) → Bool
  | [] => true
  | y :: r => O.cleanL y && O.cleanLL r
end
theorem O.cleanL_eq (l : List O) : O.cleanL l = l.all O.clean := by induction l with | nil => rfl | cons a r ih => simp [O.cleanL, ih]
theorem O.cleanLL_eq (l : List (List O)) : O.cleanLL l = l.all (·.all O.clean) := by induction l with | nil => rfl | cons a r ih => simp [O.cleanLL, ih, O.cleanL_eq]
mutual
def O.cleanM (M : Ops) : O → Bool
  | .un => false
  | .fz c => c.flat
  | .osl xs => M.oClean xs
  | .obx cs => O.cleanML M cs
def O.cleanML (M : Ops) : List O → Bool
  | [] => true
  | o :: r => match o.cleanM M with | true => O.cleanML M r | false => false
end
def O.isFz : O → Bool
  | .fz _ => true
  | _ => false

/-! ### the frame -/
structure Fr where
  n : Nat
  tm : List (Nat × TV A)
  tb : List (Nat × O)
def unT : TV A := .v (false, [.un])
def rid (d k j : Nat) : Nat := d * 4096 + k * 64 + j
def Fr.at (M : Ops) (F : Fr) (p : Path) : O := (look .un F.tb p.1).at M p.2
def Fr.setAt (M : Ops) (F : Fr) (p : Path) (o : O) : Fr := { F with tb := (p.1, (look .un F.tb p.1).set M p.2 o) :: del F.tb p.1 }
def Fr.tr (F : Fr) (τ : Path → Option Path) : Fr := { F with tm := trTm τ F.tm }
def Fr.less (M : Ops) (F : Fr) (p : Path) : Fr := match p.2 with
  | [] => { F with tb := del F.tb p.1 }
  | _ :: _ => F.setAt M p .un
/-- What lay at p is given up, and whatever refers to it. -/
def Fr.drop (M : Ops) (F : Fr) (p : Path) : Fr := (F.less M p).tr (killP M p)
/-- What lay at p goes to q (which is not there yet). -/
def Fr.lift (M : Ops) (F : Fr) (p q : Path) : Fr := (F.less M p).tr (moveP M p q)
def Fr.clear (M : Ops) (F : Fr) (id : Nat) : Fr := match has F.tb id with
  | true => F.drop M (id, [])
  | false => F
def Fr.put (F : Fr) (d : Nat) (x : TV A) : Fr := { F with tm := (d, x) :: F.tm }
def Fr.root (F : Fr) (id : Nat) (o : O) : Fr := { F with tb := (id, o) :: F.tb }

/-! ### values -/
def constA : Value → A
  | .int k n => .fz (.int k n)
  | .bool b => .fz (.bool b)
  | .string s => .fz (.str s)
  | .slice none 0 0 => .fz .nilsl
  | _ => .un
def constT : Value → TV A
  | .agg cs => .v (true, cs.toList.map constA)
  | .tuple _ => unT
  | v => .v (false, [constA v])
def ev (F : Fr) : Operand → TV A
  | .tmp t => look unT F.tm t
  | .const v => constT v
  | .func f => .v (false, [.fz (.fn f [])])
  | .global _ => unT
def one : TV A → A
  | .v (false, [a]) => a
  | _ => .un
def ev1 (F : Fr) (x : Operand) : A := one (ev F x)

def intOp (M : Ops) (op : BinOp) (k : IntKind) (a b : Int) : Option C :=
  match op with
  | .add => some (.int k (M.iAdd k a b))
  | .sub => some (.int k (M.iSub k a b))
  | .mul => some (.int k (M.iMul k a b))
  | .quo => match M.iQuo k a b with | some x => some (.int k x) | none => none
  | .rem => match M.iRem a b with | some x => some (.int k x) | none => none
  | .and => some (.int k (M.iAnd k a b))
  | .or => some (.int k (M.iOr k a b))
  | .xor => some (.int k (M.iXor k a b))
  | .eql => some (.bool (M.bEq a b))
  | .neq => some (.bool (notB (M.bEq a b)))
  | .lss => some (.bool (M.bLt a b))
  | .leq => some (.bool (M.bLe a b))
  | .gtr => some (.bool (M.bLt b a))
  | .geq => some (.bool (M.bLe b a))
  | _ => none
def strOp (M : Ops) (op : BinOp) (a b : ByteArray) : Option C :=
  match op with
  | .add => match M.sCat a b with | some s => some (.str s) | none => none
  | .eql => some (.bool (M.sEq a b))
  | .neq => some (.bool (notB (M.sEq a b)))
  | _ => none
def kindEq : IntKind → IntKind → Bool
  | .i8, .i8 | .i16, .i16 | .i32, .i32 | .i64, .i64 | .u8, .u8 | .u16, .u16 | .u32, .u32 | .u64, .u64 => true
  | _, _ => false
def binC (M : Ops) (op : BinOp) (x y : C) : Option C :=
  match x, y with
  | .int k a, .int k' b => match op with
    | .shl => match M.iShl k a b with | some x => some (.int k x) | none => none
    | .shr => match M.iShr k a b with | some x => some (.int k x) | none => none
    | op => match kindEq k k' with | true => intOp M op k a b | false => none
  | .str a, .str b => strOp M op a b
  | _, _ => none
/-- '==' of two bools, and of a slice with nil: the type is asked. -/
def isNil? : A → Option Bool
  | .fz .nilsl => some true
  | .fz (.sl (_ :: _)) => some false
  | .rf _ _ (_ + 1) => some false
  | _ => none
def eqT (M : Ops) (k : TK) (x y : A) : Option Bool :=
  match k with
  | .bool => match x, y with
    | .fz (.bool a), .fz (.bool b) => some (M.bEqB a b)
    | _, _ => none
  | .sl _ => match y with
    | .fz .nilsl => isNil? x
    | _ => none
  | _ => none
def binA (M : Ops) (k : TK) (op : BinOp) (x y : A) : Option C :=
  match x, y with
  | .fz (.int i a), .fz (.int j b) => binC M op (.int i a) (.int j b)
  | .fz (.str a), .fz (.str b) => binC M op (.str a) (.str b)
  | x, y => match op with
    | .eql => match eqT M k x y with | some b => some (.bool b) | none => none
    | .neq => match eqT M k x y with | some b => some (.bool (notB b)) | none => none
    | _ => none
def unC (M : Ops) (op : UnOp) : A → Option C
  | .fz (.int k n) => match op with
    | .neg => some (.int k (M.iSub k 0 n))
    | _ => none
  | .fz (.bool b) => match op with
    | .not => some (.bool (notB b))
    | _ => none
  | _ => none

/-- A cell of an own object, as a temporary holds it. -/
def refO (M : Ops) (q : Path) : O → A
  | .un => .un
  | .fz c => .fz c
  | .osl xs => .rf q 0 (M.oLen xs)
  | .obx _ => .pp q 0 0
def refL (M : Ops) (r : Nat) (s : List (Nat × Nat)) (i : Nat) : Nat → List O → List A
  | _, [] => []
  | j, o :: rest => refO M (r, s ++ [(i, j)]) o :: refL M r s i (j + 1) rest
/-- n from j on. -/
def cut {α : Type} : List α → Nat → Nat → Option (List α)
  | _, 0, 0 => some []
  | [], _, _ => none
  | _ :: r, j + 1, n => cut r j n
  | a :: r, 0, n + 1 => match cut r 0 n with | some l => some (a :: l) | none => none
def fzL : List C → List A
  | [] => []
  | c :: r => .fz c :: fzL r
def noUnL : List C → Bool
  | [] => true
  | .un :: _ => false
  | _ :: r => noUnL r
def dropN {α : Type} : List α → Nat → List α
  | l, 0 => l
  | [], _ + 1 => []
  | _ :: r, n + 1 => dropN r n

/-- The cells that a pointer leads to: n of them. -/
def cellsAt (M : Ops) (F : Fr) (n : Nat) : A → Option (List A)
  | .pp p i j => match F.at M p with
    | .osl xs => match M.oGet xs i with
      | some y => match cut y j n with | some l => some (refL M p.1 p.2 i j l) | none => none
      | none => none
    | .obx cs => match i with
      | 0 => match cut cs j n with | some l => some (refL M p.1 p.2 0 j l) | none => none
      | _ + 1 => none
    | _ => none
  | .fz (.ptr cs) => match cut cs 0 n with | some l => some (fzL l) | none => none
  | _ => none
def mkV (agg : Bool) (as : List A) : Option (TV A) :=
  match agg with
  | true => some (.v (true, as))
  | false => match as with
    | [a] => some (.v (false, [a]))
    | _ => none

/-- The elements of a slice, frozen. -/
def elemsC (M : Ops) (F : Fr) : A → Option (List (List C))
  | .fz .nilsl => some []
  | .fz (.sl xs) => some xs
  | .rf p off len => match F.at M p with
    | .osl xs => match M.nLe (M.nAdd off len) (M.oLen xs) with | true => some (M.oFrz (M.oCut xs off len)) | false => none
    | _ => none
  | _ => none
mutual
def frzA (M : Ops) (F : Fr) : A → C
  | .un | .ud => .un
  | .fz c => c
  | .rf p off len => match F.at M p with
    | .osl xs => match M.nLe (M.nAdd off len) (M.oLen xs) with | true => .sl (M.oFrz (M.oCut xs off len)) | false => .un
    | _ => .un
  | .pp p i j => match F.at M p with
    | .osl xs => match M.oGet xs i with
      | some y => .ptr (O.frzL (dropN y j))
      | none => .un
    | .obx cs => match i with
      | 0 => .ptr (O.frzL (dropN cs j))
      | _ + 1 => .un
    | _ => .un
  | .clo f caps => .fn f (frzAL M F caps)
def frzAL (M : Ops) (F : Fr) : List A → List C
  | [] => []
  | a :: r => frzA M F a :: frzAL M F r
end
mutual
def A.ok : A → Bool
  | .un | .ud | .fz .un => false
  | .clo _ caps => okL caps
  | _ => true
def okL : List A → Bool
  | [] => true
  | a :: r => match a.ok with | true => okL r | false => false
end
def frzV (M : Ops) (F : Fr) : TV A → Option (V1 C)
  | .v (g, as) => match okL as with
    | true => some (g, frzAL M F as)
    | false => none
  | .tup _ => none

end Go.Proofs.Ytlmejcmnmdleaaa.Ai
