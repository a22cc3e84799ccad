/- Symbolic runs, part 1: typed data, and what they mean to the interpreter. -/
import Derived.Test.YtlmejcmnmdleaaaEx2
namespace Go.Proofs.Ytlmejcmnmdleaaa.Ai
open Go
set_option linter.unusedSectionVars false

structure Cue where
  name : ByteArray
  after : Int
  atEnd : Bool
  low : Int
  high : Int
  min : Int
  max : Int
  free : Bool
  cond : Int
  watch : Int
  device : Int
structure Tie where
  src : Int
  dst : Int
  low : Int
  high : Int
  free : Bool
structure Edge where
  src : Int
  dst : Int
  w : Int
structure Link where
  src : Int
  dst : Int
  low : Int
  high : Int
structure Node where
  name : ByteArray
  label : List Int
  watch : Int
def Cue.z : Cue := ⟨⟨#[]⟩, 0, false, 0, 0, 0, 0, false, 0, 0, 0⟩
def Tie.z : Tie := ⟨0, 0, 0, 0, false⟩
def Edge.z : Go.Proofs.Ytlmejcmnmdleaaa.Ai.Edge := ⟨0, 0, 0⟩
def Link.z : Link := ⟨0, 0, 0, 0⟩
def Node.z : Node := ⟨⟨#[]⟩, [], 0⟩

/-- Lists of the program's elements; o: are slices in them owned?; h: an element whose slice is away. -/
inductive LL where
  | i (l : List Int)
  | u (l : List Int)
  | b (l : List Bool)
  | s (l : List ByteArray)
  | cue (l : List Cue)
  | tie (l : List Tie)
  | edge (l : List Go.Proofs.Ytlmejcmnmdleaaa.Ai.Edge)
  | link (l : List Link)
  | node (o : Bool) (h : Option Nat) (l : List Node)
  | ii (o : Bool) (h : Option Nat) (l : List (List Int))
/-- Frozen. -/
inductive D where
  | un
  | int (k : IntKind) (n : Int)
  | bool (known : Bool) (b : Bool)
  | str (s : ByteArray)
  | nilsl
  | sl (x : LL)
  | ptr (cs : List D)
  | fn (f : FuncId) (caps : List D)
/-- Owned. -/
inductive W where
  | un
  | fz (d : D)
  | osl (x : LL)
  | onil
  | obx (cs : List W)
/-- A place: indices bear a mark: is the number known? -/
abbrev SP := Nat × List ((Bool × Nat) × Nat)
/-- What a temporary holds. -/
inductive B where
  | un
  | ud
  | fz (d : D)
  | rf (p : SP) (whole : Bool) (off len : Nat)
  | pp (p : SP) (i : Bool × Nat) (j : Nat)
  | clo (f : FuncId) (caps : List B)

/-- An element is changed. -/
def modL {α : Type} (d : α) (l : List α) (n : Nat) (f : α → α) : List α := l.set n (f (l.getD n d))
theorem modL_modL {α : Type} (d : α) (l : List α) (n : Nat) (f g : α → α) : modL d (modL d l n f) n g = modL d l n (fun x => g (f x)) := by
  unfold modL
  by_cases h : n < l.length
  · simp [List.getD_eq_getElem?_getD, h]
  · rw [List.set_eq_of_length_le (by simp; omega), List.set_eq_of_length_le (by omega), List.set_eq_of_length_le (by omega)]
theorem modL_const {α : Type} (d : α) (l : List α) (n : Nat) (x : α) : modL d l n (fun _ => x) = l.set n x := rfl
@[simp] theorem modL_length {α : Type} (d : α) (l : List α) (n : Nat) (f : α → α) : (modL d l n f).length = l.length := by simp [modL]
structure MB where
  iAdd : IntKind → Int → Int → Int
  iSub : IntKind → Int → Int → Int
  iMul : IntKind → Int → Int → Int
  iQuo : IntKind → Int → Int → Int
  iRem : Int → Int → Int
  iAnd : IntKind → Int → Int → Int
  iOr : IntKind → Int → Int → Int
  iXor : IntKind → Int → Int → Int
  iShl : IntKind → Int → Int → Int
  iShr : Int → Int → IntKind → Int
  iWrap : IntKind → Int → Int
  iMax : Int → Int → Int
  iMin : Int → Int → Int
  bEq : Int → Int → Bool
  bLt : Int → Int → Bool
  bLe : Int → Int → Bool
  bNot : Bool → Bool
  bEqB : Bool → Bool → Bool
  sEq : ByteArray → ByteArray → Bool
  sCat : ByteArray → ByteArray → ByteArray
  sLen : ByteArray → Nat
  sCut : ByteArray → Nat → Nat → ByteArray
  sAt : ByteArray → Nat → Int
  sOf : List Int → ByteArray
  nI : Nat → Int
  toN : Int → Nat
  nAdd : Nat → Nat → Nat
  nSub : Nat → Nat → Nat
  len : {α : Type} → List α → Nat
  get : {α : Type} → α → List α → Nat → α
  set : {α : Type} → List α → Nat → α → List α
  mod : {α : Type} → α → List α → Nat → (α → α) → List α
  app : {α : Type} → List α → List α → List α
  cut : {α : Type} → List α → Nat → Nat → List α
  rep : {α : Type} → Nat → α → List α
  pAnd : Prop → Prop → Prop
  pImp : Bool → Prop → Prop
  pIx : Int → Nat → Prop
  pEqN : Nat → Nat → Prop
  pLeN : Nat → Nat → Prop
  pLtN : Nat → Nat → Prop
  pEqI : Int → Int → Prop
  pGeZ : Int → Prop
  pNeZ : Int → Prop
  pLeLim : Nat → Prop
  pRep : Int → Prop
  pStr : ByteArray → ByteArray → Prop
  pByte : List Int → Prop
  pNo : Nat → Prop
  zCue : Cue
  zTie : Tie
  zEdge : Go.Proofs.Ytlmejcmnmdleaaa.Ai.Edge
  zLink : Link
  zNode : Node
  zS : ByteArray

/-! ### cells -/
def Cue.d (q : Cue) : List D := [.str q.name, .int .i64 q.after, .bool false q.atEnd, .int .i64 q.low, .int .i64 q.high, .int .i64 q.min, .int .i64 q.max, .bool false q.free, .int .i64 q.cond, .int .i64 q.watch, .int .i64 q.device]
def Tie.d (t : Tie) : List D := [.int .i64 t.src, .int .i64 t.dst, .int .i64 t.low, .int .i64 t.high, .bool false t.free]
def Edge.d (t : Go.Proofs.Ytlmejcmnmdleaaa.Ai.Edge) : List D := [.int .i64 t.src, .int .i64 t.dst, .int .i64 t.w]
def Link.d (t : Link) : List D := [.int .i64 t.src, .int .i64 t.dst, .int .i64 t.low, .int .i64 t.high]
def Node.d (t : Node) : List D := [.str t.name, .sl (.i t.label), .int .i64 t.watch]
def fzW : List D → List W
  | [] => []
  | d :: r => .fz d :: fzW r
def subW (o : Bool) (l : List Int) : W := match o with
  | true => .osl (.i l)
  | false => .fz (.sl (.i l))
def Node.w (o : Bool) (t : Node) : List W := [.fz (.str t.name), subW o t.label, .fz (.int .i64 t.watch)]
def LL.len (M : MB) : LL → Nat
  | .i l => M.len l
  | .u l => M.len l
  | .b l => M.len l
  | .s l => M.len l
  | .cue l => M.len l
  | .tie l => M.len l
  | .edge l => M.len l
  | .link l => M.len l
  | .node _ _ l => M.len l
  | .ii _ _ l => M.len l
def LL.sz : LL → Nat
  | .cue _ => 11
  | .tie _ => 5
  | .edge _ => 3
  | .link _ => 4
  | .node _ _ _ => 3
  | _ => 1
/-- The cells of an element, frozen. -/
def LL.atD (M : MB) (n : Nat) : LL → List D
  | .i l => [.int .i64 (M.get 0 l n)]
  | .u l => [.int .u8 (M.get 0 l n)]
  | .b l => [.bool false (M.get false l n)]
  | .s l => [.str (M.get M.zS l n)]
  | .cue l => (M.get M.zCue l n).d
  | .tie l => (M.get M.zTie l n).d
  | .edge l => (M.get M.zEdge l n).d
  | .link l => (M.get M.zLink l n).d
  | .node _ _ l => (M.get M.zNode l n).d
  | .ii _ _ l => [.sl (.i (M.get [] l n))]
/-- The cells of an element, owned. -/
def LL.atW (M : MB) (n : Nat) : LL → Option (List W)
  | .i l => some [.fz (.int .i64 (M.get 0 l n))]
  | .u l => some [.fz (.int .u8 (M.get 0 l n))]
  | .b l => some [.fz (.bool false (M.get false l n))]
  | .s l => some [.fz (.str (M.get M.zS l n))]
  | .cue l => some (fzW (M.get M.zCue l n).d)
  | .tie l => some (fzW (M.get M.zTie l n).d)
  | .edge l => some (fzW (M.get M.zEdge l n).d)
  | .link l => some (fzW (M.get M.zLink l n).d)
  | .node o none l => some ((M.get M.zNode l n).w o)
  | .ii o none l => some [subW o (M.get [] l n)]
  | _ => none
/-- One cell of an element, owned. -/
def LL.atJ (M : MB) (n j : Nat) : LL → Option W
  | .node _ (some _) l => match j with
    | 0 => some (.fz (.str (M.get M.zNode l n).name))
    | 2 => some (.fz (.int .i64 (M.get M.zNode l n).watch))
    | _ => none
  | x => match x.atW M n with
    | some cs => nth cs j
    | none => none
/-- An owned slice of ints on its way into a list. -/
def intsW : W → Option (List Int)
  | .osl (.i l) => some l
  | .onil => some []
  | _ => none
/-- One cell of an element is set: the others stay. -/
def kEq : IntKind → IntKind → Bool
  | .i64, .i64 | .u8, .u8 => true
  | _, _ => false
def LL.set1 (M : MB) (n : Nat) (j : Nat) (c : W) : LL → Option LL
  | .i l => match j, c with | 0, .fz (.int .i64 a) => some (.i (M.set l n a)) | _, _ => none
  | .u l => match j, c with | 0, .fz (.int .u8 a) => some (.u (M.set l n a)) | _, _ => none
  | .b l => match j, c with | 0, .fz (.bool _ a) => some (.b (M.set l n a)) | _, _ => none
  | .s l => match j, c with | 0, .fz (.str a) => some (.s (M.set l n a)) | _, _ => none
  | .cue l => match j, c with
    | 0, .fz (.str a) => some (.cue (M.mod M.zCue l n (fun q => { q with name := a })))
    | 1, .fz (.int .i64 a) => some (.cue (M.mod M.zCue l n (fun q => { q with after := a })))
    | 2, .fz (.bool _ a) => some (.cue (M.mod M.zCue l n (fun q => { q with atEnd := a })))
    | 3, .fz (.int .i64 a) => some (.cue (M.mod M.zCue l n (fun q => { q with low := a })))
    | 4, .fz (.int .i64 a) => some (.cue (M.mod M.zCue l n (fun q => { q with high := a })))
    | 5, .fz (.int .i64 a) => some (.cue (M.mod M.zCue l n (fun q => { q with min := a })))
    | 6, .fz (.int .i64 a) => some (.cue (M.mod M.zCue l n (fun q => { q with max := a })))
    | 7, .fz (.bool _ a) => some (.cue (M.mod M.zCue l n (fun q => { q with free := a })))
    | 8, .fz (.int .i64 a) => some (.cue (M.mod M.zCue l n (fun q => { q with cond := a })))
    | 9, .fz (.int .i64 a) => some (.cue (M.mod M.zCue l n (fun q => { q with watch := a })))
    | 10, .fz (.int .i64 a) => some (.cue (M.mod M.zCue l n (fun q => { q with device := a })))
    | _, _ => none
  | .tie l => match j, c with
    | 0, .fz (.int .i64 a) => some (.tie (M.mod M.zTie l n (fun q => { q with src := a })))
    | 1, .fz (.int .i64 a) => some (.tie (M.mod M.zTie l n (fun q => { q with dst := a })))
    | 2, .fz (.int .i64 a) => some (.tie (M.mod M.zTie l n (fun q => { q with low := a })))
    | 3, .fz (.int .i64 a) => some (.tie (M.mod M.zTie l n (fun q => { q with high := a })))
    | 4, .fz (.bool _ a) => some (.tie (M.mod M.zTie l n (fun q => { q with free := a })))
    | _, _ => none
  | .edge l => match j, c with
    | 0, .fz (.int .i64 a) => some (.edge (M.mod M.zEdge l n (fun q => { q with src := a })))
    | 1, .fz (.int .i64 a) => some (.edge (M.mod M.zEdge l n (fun q => { q with dst := a })))
    | 2, .fz (.int .i64 a) => some (.edge (M.mod M.zEdge l n (fun q => { q with w := a })))
    | _, _ => none
  | .link l => match j, c with
    | 0, .fz (.int .i64 a) => some (.link (M.mod M.zLink l n (fun q => { q with src := a })))
    | 1, .fz (.int .i64 a) => some (.link (M.mod M.zLink l n (fun q => { q with dst := a })))
    | 2, .fz (.int .i64 a) => some (.link (M.mod M.zLink l n (fun q => { q with low := a })))
    | 3, .fz (.int .i64 a) => some (.link (M.mod M.zLink l n (fun q => { q with high := a })))
    | _, _ => none
  | .node o none l => match j, c, o with
    | 0, .fz (.str a), _ => some (.node o none (M.mod M.zNode l n (fun q => { q with name := a })))
    | 2, .fz (.int .i64 a), _ => some (.node o none (M.mod M.zNode l n (fun q => { q with watch := a })))
    | 1, .un, true => some (.node o (some n) l)
    | 1, .osl (.i a), true => some (.node o none (M.mod M.zNode l n (fun q => { q with label := a })))
    | 1, .fz (.sl (.i a)), false => some (.node o none (M.mod M.zNode l n (fun q => { q with label := a })))
    | _, _, _ => none
  | .ii o none l => match j, c, o with
    | 0, .un, true => some (.ii o (some n) l)
    | 0, .osl (.i a), true => some (.ii o none (M.set l n a))
    | 0, .fz (.sl (.i a)), false => some (.ii o none (M.set l n a))
    | _, _, _ => none
  | _ => none
/-- The slice that is away comes back, at the same index. -/
def LL.back (M : MB) (n : Nat) (j : Nat) (c : W) : LL → Option (List Prop × LL)
  | .node true (some m) l => match j with
    | 0 => (match c with | .fz (.str a) => some ([], .node true (some m) (M.set l n { M.get M.zNode l n with name := a })) | _ => none)
    | 1 => (match intsW c with
      | some a => some ([M.pEqN n m], .node true none (M.set l n { M.get M.zNode l n with label := a }))
      | none => none)
    | 2 => (match c with | .fz (.int .i64 a) => some ([], .node true (some m) (M.set l n { M.get M.zNode l n with watch := a })) | _ => none)
    | _ => none
  | .ii true (some m) l => match j, intsW c with
    | 0, some a => some ([M.pEqN n m], .ii true none (M.set l n a))
    | _, _ => none
  | x => match x.set1 M n j c with
    | some y => some ([], y)
    | none => none
def LL.app (M : MB) : LL → LL → Option LL
  | .i l, .i r => some (.i (M.app l r))
  | .u l, .u r => some (.u (M.app l r))
  | .b l, .b r => some (.b (M.app l r))
  | .s l, .s r => some (.s (M.app l r))
  | .cue l, .cue r => some (.cue (M.app l r))
  | .tie l, .tie r => some (.tie (M.app l r))
  | .edge l, .edge r => some (.edge (M.app l r))
  | .link l, .link r => some (.link (M.app l r))
  | .node true none l, .node true none r => some (.node true none (M.app l r))
  | .node false none l, .node false none r => some (.node false none (M.app l r))
  | .ii true none l, .ii true none r => some (.ii true none (M.app l r))
  | .ii false none l, .ii false none r => some (.ii false none (M.app l r))
  | _, _ => none
def LL.cut (M : MB) (a n : Nat) : LL → Option LL
  | .i l => some (.i (M.cut l a n))
  | .u l => some (.u (M.cut l a n))
  | .b l => some (.b (M.cut l a n))
  | .s l => some (.s (M.cut l a n))
  | .cue l => some (.cue (M.cut l a n))
  | .tie l => some (.tie (M.cut l a n))
  | .edge l => some (.edge (M.cut l a n))
  | .link l => some (.link (M.cut l a n))
  | .node o none l => some (.node o none (M.cut l a n))
  | .ii o none l => some (.ii o none (M.cut l a n))
  | _ => none
/-- No slice is away. -/
def LL.here : LL → Bool
  | .node _ (some _) _ => false
  | .ii _ (some _) _ => false
  | _ => true
/-- Copied out of frozen memory. -/
def LL.thaw : LL → LL
  | .node _ _ l => .node false none l
  | .ii _ _ l => .ii false none l
  | x => x
/-- No element leads to owned memory. -/
def LL.flat : LL → Bool
  | .node true _ _ => false
  | .ii true _ _ => false
  | _ => true
/-- One element for sure. -/
def LL.some1 : LL → Bool
  | .node _ none (_ :: _) => true
  | .ii _ none (_ :: _) => true
  | _ => false
def LL.clean : LL → Bool
  | .node o h _ => match h with | none => o | some _ => false
  | .ii o h _ => match h with | none => o | some _ => false
  | _ => true
/-- Kinds of elements that are structs of the program. -/
inductive EK where
  | i | u | b | s | cue | tie | edge | link | node | ii
def LL.one (k : EK) (cs : List W) : Option LL := match k with
  | .i => (match cs with | [.fz (.int .i64 a)] => some (.i [a]) | _ => none)
  | .u => (match cs with | [.fz (.int .u8 a)] => some (.u [a]) | _ => none)
  | .b => (match cs with | [.fz (.bool _ a)] => some (.b [a]) | _ => none)
  | .s => (match cs with | [.fz (.str a)] => some (.s [a]) | _ => none)
  | .cue => (match cs with
    | [.fz (.str x1), .fz (.int .i64 x2), .fz (.bool _ x3), .fz (.int .i64 x4), .fz (.int .i64 x5), .fz (.int .i64 x6), .fz (.int .i64 x7), .fz (.bool _ x8), .fz (.int .i64 x9), .fz (.int .i64 x10), .fz (.int .i64 x11)] => some (.cue [⟨x1, x2, x3, x4, x5, x6, x7, x8, x9, x10, x11⟩])
    | _ => none)
  | .tie => (match cs with
    | [.fz (.int .i64 x1), .fz (.int .i64 x2), .fz (.int .i64 x3), .fz (.int .i64 x4), .fz (.bool _ x5)] => some (.tie [⟨x1, x2, x3, x4, x5⟩])
    | _ => none)
  | .edge => (match cs with | [.fz (.int .i64 x1), .fz (.int .i64 x2), .fz (.int .i64 x3)] => some (.edge [⟨x1, x2, x3⟩]) | _ => none)
  | .link => (match cs with | [.fz (.int .i64 x1), .fz (.int .i64 x2), .fz (.int .i64 x3), .fz (.int .i64 x4)] => some (.link [⟨x1, x2, x3, x4⟩]) | _ => none)
  | .node => (match cs with
    | [.fz (.str a), .osl (.i l), .fz (.int .i64 c)] => some (.node true none [⟨a, l, c⟩])
    | [.fz (.str a), .fz (.sl (.i l)), .fz (.int .i64 c)] => some (.node false none [⟨a, l, c⟩])
    | [.fz (.str a), .onil, .fz (.int .i64 c)] => some (.node true none [⟨a, [], c⟩])
    | _ => none)
  | .ii => (match cs with
    | [.osl (.i l)] => some (.ii true none [l])
    | [.fz (.sl (.i l))] => some (.ii false none [l])
    | [.onil] => some (.ii true none [[]])
    | _ => none)
/-- n times one. -/
def LL.rep (M : MB) (n : Nat) : LL → Option LL
  | .i [a] => some (.i (M.rep n a))
  | .u [a] => some (.u (M.rep n a))
  | .b [a] => some (.b (M.rep n a))
  | .s [a] => some (.s (M.rep n a))
  | .cue [a] => some (.cue (M.rep n a))
  | .tie [a] => some (.tie (M.rep n a))
  | .edge [a] => some (.edge (M.rep n a))
  | .link [a] => some (.link (M.rep n a))
  | .node o none [a] => some (.node o none (M.rep n a))
  | .ii o none [a] => some (.ii o none (M.rep n a))
  | _ => none

/-! ### what it means -/
def rcI (l : List Int) : List (List C) := l.map fun n => [.int .i64 n]
def roI (l : List Int) : List (List O) := l.map fun n => [.fz (.int .i64 n)]
def Node.rc (t : Node) : List C := [.str t.name, .sl (rcI t.label), .int .i64 t.watch]
def Cue.rc (q : Cue) : List C := [.str q.name, .int .i64 q.after, .bool q.atEnd, .int .i64 q.low, .int .i64 q.high, .int .i64 q.min, .int .i64 q.max, .bool q.free, .int .i64 q.cond, .int .i64 q.watch, .int .i64 q.device]
def Tie.rc (t : Tie) : List C := [.int .i64 t.src, .int .i64 t.dst, .int .i64 t.low, .int .i64 t.high, .bool t.free]
def Edge.rc (t : Go.Proofs.Ytlmejcmnmdleaaa.Ai.Edge) : List C := [.int .i64 t.src, .int .i64 t.dst, .int .i64 t.w]
def Link.rc (t : Link) : List C := [.int .i64 t.src, .int .i64 t.dst, .int .i64 t.low, .int .i64 t.high]
def LL.rc : LL → List (List C)
  | .i l => rcI l
  | .u l => l.map fun n => [.int .u8 n]
  | .b l => l.map fun n => [.bool n]
  | .s l => l.map fun n => [.str n]
  | .cue l => l.map Cue.rc
  | .tie l => l.map Tie.rc
  | .edge l => l.map Edge.rc
  | .link l => l.map Link.rc
  | .node _ _ l => l.map Node.rc
  | .ii _ _ l => l.map fun x => [.sl (rcI x)]
def subO (o : Bool) (l : List Int) : O := match o with
  | true => .osl (roI l)
  | false => .fz (.sl (rcI l))
def Node.ro (o : Bool) (t : Node) : List O := [.fz (.str t.name), subO o t.label, .fz (.int .i64 t.watch)]
def holeAt (h : Option Nat) (j : Nat) (xs : List (List O)) : List (List O) := match h with
  | none => xs
  | some m => xs.modify m (fun y => y.set j .un)
def LL.ro : LL → List (List O)
  | .i l => roI l
  | .u l => l.map fun n => [.fz (.int .u8 n)]
  | .b l => l.map fun n => [.fz (.bool n)]
  | .s l => l.map fun n => [.fz (.str n)]
  | .cue l => l.map fun q => q.rc.map .fz
  | .tie l => l.map fun q => q.rc.map .fz
  | .edge l => l.map fun q => q.rc.map .fz
  | .link l => l.map fun q => q.rc.map .fz
  | .node o h l => holeAt h 1 (l.map (Node.ro o))
  | .ii o h l => holeAt h 0 (l.map fun x => [subO o x])
mutual
def D.er : D → C
  | .un => .un
  | .int k n => .int k n
  | .bool _ b => .bool b
  | .str s => .str s
  | .nilsl => .nilsl
  | .sl x => .sl x.rc
  | .ptr cs => .ptr (D.erL cs)
  | .fn f caps => .fn f (D.erL caps)
def D.erL : List D → List C
  | [] => []
  | d :: r => d.er :: D.erL r
end
mutual
def W.er : W → O
  | .un => .un
  | .fz d => .fz d.er
  | .osl x => .osl x.ro
  | .onil => .osl []
  | .obx cs => .obx (W.erL cs)
def W.erL : List W → List O
  | [] => []
  | d :: r => d.er :: W.erL r
end
def ixs : List ((Bool × Nat) × Nat) → List (Nat × Nat)
  | [] => []
  | ((_, i), j) :: r => (i, j) :: ixs r
def SP.er (p : SP) : Path := (p.1, ixs p.2)
mutual
def B.er : B → A
  | .un => .un
  | .ud => .ud
  | .fz d => .fz d.er
  | .rf p _ off len => .rf p.er off len
  | .pp p i j => .pp p.er i.2 j
  | .clo f caps => .clo f (B.erL caps)
def B.erL : List B → List A
  | [] => []
  | d :: r => d.er :: B.erL r
end
theorem D.erL_eq (l : List D) : D.erL l = l.map D.er := by induction l with | nil => rfl | cons a r ih => simp [D.erL, ih]
theorem W.erL_eq (l : List W) : W.erL l = l.map W.er := by induction l with | nil => rfl | cons a r ih => simp [W.erL, ih]
theorem B.erL_eq (l : List B) : B.erL l = l.map B.er := by induction l with | nil => rfl | cons a r ih => simp [B.erL, ih]

def stdB : MB where
  iAdd k a b := k.wrap (a + b)
  iSub k a b := k.wrap (a - b)
  iMul k a b := k.wrap (a * b)
  iQuo k a b := k.wrap (a.tdiv b)
  iRem a b := a.tmod b
  iAnd k a b := k.wrap (BitVec.ofInt k.bits a &&& BitVec.ofInt k.bits b).toNat
  iOr k a b := k.wrap (BitVec.ofInt k.bits a ||| BitVec.ofInt k.bits b).toNat
  iXor k a b := k.wrap (BitVec.ofInt k.bits a ^^^ BitVec.ofInt k.bits b).toNat
  iShl k a b := k.wrap (a * 2 ^ min b.toNat k.bits)
  iShr a b k := a.fdiv (2 ^ min b.toNat k.bits)
  iWrap k a := k.wrap a
  iMax a b := if b > a then b else a
  iMin a b := if b < a then b else a
  bEq a b := a == b
  bLt a b := decide (a < b)
  bLe a b := decide (a ≤ b)
  bNot b := !b
  bEqB a b := a == b
  sEq a b := a.toList == b.toList
  sCat a b := a ++ b
  sLen s := s.size
  sCut s l h := s.extract l h
  sAt s n := ((s[n]?).getD 0).toNat
  sOf l := ⟨(l.map fun n => UInt8.ofNat n.toNat).toArray⟩
  nI n := n
  toN n := n.toNat
  nAdd a b := a + b
  nSub a b := a - b
  len l := l.length
  get d l n := l.getD n d
  set l n x := l.set n x
  mod d l n f := modL d l n f
  app l r := l ++ r
  cut l a n := (l.drop a).take n
  rep n x := List.replicate n x
  pAnd a b := a ∧ b
  pImp b a := b = true → a
  pIx n len := 0 ≤ n ∧ n < len
  pEqN a b := a = b
  pLeN a b := a ≤ b
  pLtN a b := a < b
  pEqI a b := a = b
  pGeZ a := 0 ≤ a
  pNeZ a := a ≠ 0
  pLeLim n := n ≤ lim
  pRep n := 0 ≤ n ∧ n ≤ lim
  pStr a b := a.size + b.size ≤ 9223372036854775807
  pByte l := ∀ n ∈ l, 0 ≤ n ∧ n < 256
  pNo _ := False
  zCue := Cue.z
  zTie := Tie.z
  zEdge := Edge.z
  zLink := Link.z
  zNode := Node.z
  zS := ⟨#[]⟩

/-! ### lists mean what they should -/
@[simp] theorem roI_len (l : List Int) : (roI l).length = l.length := by simp [roI]
@[simp] theorem rcI_len (l : List Int) : (rcI l).length = l.length := by simp [rcI]
@[simp] theorem holeAt_len (h : Option Nat) (j : Nat) (xs : List (List O)) : (holeAt h j xs).length = xs.length := by cases h <;> simp [holeAt]
theorem LL.len_rc (x : LL) : x.rc.length = x.len stdB := by cases x <;> simp [LL.rc, LL.len, stdB]
theorem LL.len_ro (x : LL) : x.ro.length = x.len stdB := by cases x <;> simp [LL.ro, LL.len, stdB]
theorem Cue.d_er (q : Cue) : q.d.map D.er = q.rc := rfl
theorem Tie.d_er (q : Tie) : q.d.map D.er = q.rc := rfl
theorem Edge.d_er (q : Go.Proofs.Ytlmejcmnmdleaaa.Ai.Edge) : q.d.map D.er = q.rc := rfl
theorem Link.d_er (q : Link) : q.d.map D.er = q.rc := rfl
theorem Node.d_er (q : Node) : q.d.map D.er = q.rc := rfl
theorem fzW_er (l : List D) : (fzW l).map W.er = (l.map D.er).map .fz := by induction l with | nil => rfl | cons a r ih => simp [fzW, ih, W.er]
theorem subW_er (o : Bool) (l : List Int) : (subW o l).er = subO o l := by cases o <;> rfl
theorem Node.w_er (o : Bool) (t : Node) : (t.w o).map W.er = t.ro o := by simp [Node.w, Node.ro, subW_er, W.er, D.er]
theorem LL.rc_get (x : LL) (n : Nat) (h : n < x.len stdB) : x.rc[n]? = some ((x.atD stdB n).map D.er) := by
  cases x <;> simp only [LL.len, stdB] at h <;> simp [LL.rc, LL.atD, stdB, rcI, D.er, h, List.getD_eq_getElem?_getD, Cue.d_er, Tie.d_er, Edge.d_er, Link.d_er, Node.d_er]
theorem LL.ro_get (x : LL) (n : Nat) {cs : List W} (hc : x.atW stdB n = some cs) (h : n < x.len stdB) : x.ro[n]? = some (cs.map W.er) := by
  cases x <;> simp only [LL.len, stdB] at h
  case node o hh l =>
    cases hh with
    | some m => simp [LL.atW] at hc
    | none => simp only [LL.atW, Option.some.injEq] at hc; subst hc; simp [LL.ro, holeAt, stdB, Node.w_er, h, List.getD_eq_getElem?_getD]
  case ii o hh l =>
    cases hh with
    | some m => simp [LL.atW] at hc
    | none => simp only [LL.atW, Option.some.injEq] at hc; subst hc; simp [LL.ro, holeAt, stdB, subW_er, h, List.getD_eq_getElem?_getD]
  all_goals
    simp only [LL.atW, Option.some.injEq] at hc
    subst hc
    simp [LL.ro, stdB, roI, D.er, W.er, h, List.getD_eq_getElem?_getD, fzW_er, Cue.d_er, Tie.d_er, Edge.d_er, Link.d_er]
theorem LL.ro_getJ (x : LL) (n j : Nat) {o : W} (hc : x.atJ stdB n j = some o) (h : n < x.len stdB) : ∃ cs : List O, x.ro[n]? = some cs ∧ cs[j]? = some o.er := by
  unfold LL.atJ at hc
  split at hc
  · rename_i g m l
    simp only [LL.len, stdB] at h
    split at hc <;> first | (cases hc; done) | (
      simp only [Option.some.injEq] at hc
      subst hc
      refine ⟨_, by simp only [LL.ro, holeAt, List.getElem?_modify, List.getElem?_map, List.getElem?_eq_getElem h]; rfl, ?_⟩
      by_cases e : m = n <;> simp [e, Node.ro, stdB, List.getD_eq_getElem?_getD, h, W.er, D.er])
  · split at hc
    · rename_i cs hcs
      refine ⟨_, LL.ro_get x n hcs h, ?_⟩
      rw [nth_eq] at hc
      simp [hc]
    · cases hc
theorem LL.rc_sz (x : LL) : ∀ y ∈ x.rc, y.length = x.sz := by
  cases x <;> simp only [LL.rc, rcI, LL.sz, List.mem_map] <;> (rintro y ⟨z, _, rfl⟩; rfl)
theorem LL.ro_sz (x : LL) : ∀ y ∈ x.ro, y.length = x.sz := by
  have key : ∀ (h : Option Nat) (j n : Nat) (xs : List (List O)), (∀ y ∈ xs, y.length = n) → ∀ y ∈ holeAt h j xs, y.length = n := by
    intro h j n xs hx y hy
    cases h with
    | none => exact hx y hy
    | some m =>
      obtain ⟨i, hi⟩ := List.mem_iff_getElem?.1 hy
      simp only [holeAt, List.getElem?_modify] at hi
      cases hz : xs[i]? with
      | none => rw [hz] at hi; simp at hi
      | some z =>
        rw [hz] at hi
        have := hx z (List.mem_of_getElem? hz)
        simp at hi
        split at hi <;> (subst hi; simpa using this)
  cases x
  case node o h l => exact key h 1 3 _ (by intro y hy; simp at hy; obtain ⟨z, _, rfl⟩ := hy; rfl)
  case ii o h l => exact key h 0 1 _ (by intro y hy; simp at hy; obtain ⟨z, _, rfl⟩ := hy; rfl)
  all_goals simp only [LL.ro, roI, LL.sz, List.mem_map] <;> (rintro y ⟨z, _, rfl⟩; rfl)
theorem LL.app_ro {x y z : LL} (h : x.app stdB y = some z) : z.ro = x.ro ++ y.ro := by
  unfold LL.app at h
  split at h <;> first | (simp only [Option.some.injEq] at h; subst h; simp [LL.ro, roI, stdB, holeAt]; done) | cases h
theorem LL.cut_ro {x z : LL} {a n : Nat} (h : x.cut stdB a n = some z) : z.ro = (x.ro.drop a).take n := by
  unfold LL.cut at h
  split at h <;> first | (simp only [Option.some.injEq] at h; subst h; simp [LL.ro, roI, stdB, holeAt, List.map_drop, List.map_take]; done) | cases h
theorem LL.cut_rc {x z : LL} {a n : Nat} (h : x.cut stdB a n = some z) : z.rc = (x.rc.drop a).take n := by
  unfold LL.cut at h
  split at h <;> first | (simp only [Option.some.injEq] at h; subst h; simp [LL.rc, rcI, stdB, List.map_drop, List.map_take]; done) | cases h
theorem frzI (l : List Int) : O.frzLL (roI l) = rcI l := by simp [O.frzLL_eq, roI, rcI, O.frz]
theorem subO_frz (o : Bool) (l : List Int) : (subO o l).frz = .sl (rcI l) := by cases o <;> simp [subO, O.frz, frzI]
theorem LL.frz_ro (x : LL) (h : x.here = true) : O.frzLL x.ro = x.rc := by
  cases x
  case node o hh l => cases hh with | some _ => simp [LL.here] at h | none => simp [LL.ro, LL.rc, holeAt, O.frzLL_eq, Node.ro, Node.rc, O.frz, subO_frz, Function.comp_def]
  case ii o hh l => cases hh with | some _ => simp [LL.here] at h | none => simp [LL.ro, LL.rc, holeAt, O.frzLL_eq, subO_frz, Function.comp_def]
  all_goals simp [LL.ro, LL.rc, roI, rcI, O.frzLL_eq, O.frz, Function.comp_def]
theorem LL.thaw_ro (x : LL) : x.thaw.ro = x.rc.map (·.map .fz) := by
  cases x <;> simp [LL.thaw, LL.ro, LL.rc, roI, rcI, holeAt, Node.ro, Node.rc, subO, Function.comp_def]
theorem LL.flat_ro (x : LL) (h : x.flat = true) (hh : x.here = true) : (x.ro.all fun y => y.all O.isFz) = true := by
  cases x
  case node o g l => cases g with
    | some _ => simp [LL.here] at hh
    | none => cases o with
      | true => simp [LL.flat] at h
      | false => simp [LL.ro, holeAt, Node.ro, subO, O.isFz]
  case ii o g l => cases g with
    | some _ => simp [LL.here] at hh
    | none => cases o with
      | true => simp [LL.flat] at h
      | false => simp [LL.ro, holeAt, subO, O.isFz]
  all_goals simp [LL.ro, roI, O.isFz]
theorem LL.some1_ro (x : LL) (h : x.some1 = true) (hf : x.flat = false) : (x.ro.all fun y => y.all O.isFz) = false := by
  cases x
  case node o g l =>
    cases g with
    | some _ => simp [LL.some1] at h
    | none => cases l with
      | nil => simp [LL.some1] at h
      | cons a r => cases o with
        | false => simp [LL.flat] at hf
        | true => simp [LL.ro, holeAt, Node.ro, subO, O.isFz]
  case ii o g l =>
    cases g with
    | some _ => simp [LL.some1] at h
    | none => cases l with
      | nil => simp [LL.some1] at h
      | cons a r => cases o with
        | false => simp [LL.flat] at hf
        | true => simp [LL.ro, holeAt, subO, O.isFz]
  all_goals simp [LL.some1] at h
theorem LL.clean_ro (x : LL) (h : x.clean = true) : O.cleanLL x.ro = true := by
  cases x
  case node o g l =>
    cases g with
    | some _ => simp [LL.clean] at h
    | none => simp [LL.clean] at h; subst h; simp [LL.ro, holeAt, Node.ro, subO, O.cleanLL_eq, O.clean, C.flat, roI]
  case ii o g l =>
    cases g with
    | some _ => simp [LL.clean] at h
    | none => simp [LL.clean] at h; subst h; simp [LL.ro, holeAt, subO, O.cleanLL_eq, O.clean, C.flat, roI]
  all_goals simp [LL.ro, roI, O.cleanLL_eq, O.clean, C.flat, Cue.rc, Tie.rc, Edge.rc, Link.rc]
theorem LL.one_ro {k : EK} {cs : List W} {x : LL} (h : LL.one k cs = some x) : x.ro = [cs.map W.er] := by
  unfold LL.one at h
  cases k <;> dsimp only at h <;> split at h <;> first | (injection h with h; subst h; rfl) | (cases h; done)
theorem LL.rep_ro {x z : LL} {n : Nat} (h : x.rep stdB n = some z) : ∃ y, x.ro = [y] ∧ z.ro = List.replicate n y := by
  unfold LL.rep at h
  split at h <;> first | (simp only [Option.some.injEq] at h; subst h; exact ⟨_, rfl, by simp [LL.ro, roI, stdB, holeAt]⟩) | cases h
end Go.Proofs.Ytlmejcmnmdleaaa.Ai
