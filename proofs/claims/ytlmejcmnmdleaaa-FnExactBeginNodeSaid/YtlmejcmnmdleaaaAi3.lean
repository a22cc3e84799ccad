/- The abstract interpreter, part 3: operations, the machine over a function's code, calls. -/
import Derived.Test.YtlmejcmnmdleaaaAi2
namespace Go.Proofs.Ytlmejcmnmdleaaa.Ai
open Go

inductive QR where
  | val (x : TV A)
  | mt
def TV.cells : TV A → Option (List A)
  | .v (_, as) => some as
  | .tup _ => none

/-- A bound of a slice expression. -/
def bnd : Option A → Option (Option Int)
  | none => some none
  | some (.fz (.int _ n)) => some (some n)
  | some _ => none
def sliceS (M : Ops) (x : A) (lo hi mx : Option A) : Option QR :=
  match bnd lo, bnd hi, mx with
  | some lo, some hi, none => match x with
    | .fz (.str s) => match M.lh lo hi (M.sLen s) with | some (l, h) => some (.val (.v (false, [.fz (.str (M.sCut s l h))]))) | none => none
    | _ => none
  | _, _, _ => none
def sliceA (M : Ops) (F : Fr) (size : Nat) (x : A) (lo hi mx : Option A) : Option QR :=
  match bnd lo, bnd hi with
  | some lo, some hi => match mx with
    | none => match x with
      | .fz (.sl xs) => match M.lh lo hi (M.cLen xs), M.cSz size xs with
        | some (l, h), true => some (.val (.v (false, [.fz (.sl (M.cCut xs l (M.nSub h l)))])))
        | _, _ => none
      | .fz .nilsl => match M.lh lo hi 0 with | some _ => some (.val (.v (false, [.fz .nilsl]))) | none => none
      | .rf p off len => match F.at M p with
        | .osl xs => match M.lh lo hi len, M.oSz size xs && M.nLe (M.nAdd off len) (M.oLen xs) with
          | some (l, h), true => some (.val (.v (false, [.rf p (M.nAdd off l) (M.nSub h l)])))
          | _, _ => none
        | _ => none
      | _ => none
    | some (.fz (.int _ 0)) => match lo, hi with
      | none, some 0 => match x with
        | .fz (.sl _) => some .mt
        | .fz .nilsl => some .mt
        | .rf _ _ _ => some .mt
        | _ => none
      | _, _ => none
    | some _ => none
  | _, _ => none
/-- The element that a pointer leads to has this size. -/
def elemOk (M : Ops) (F : Fr) (n : Nat) : A → Bool
  | .pp p i _ => match F.at M p with
    | .osl xs => match M.oGet xs i with | some y => nq (cnt y) n | none => false
    | _ => false
  | .fz (.ptr y) => nq (cnt y) n
  | _ => false
def indexA (M : Ops) (x i : A) : Option A :=
  match i with
  | .fz (.int _ n) => match x with
    | .rf p off len => match M.ix n len with | some m => some (.pp p (M.nAdd off m) 0) | none => none
    | .fz (.sl xs) => match M.ix n (M.cLen xs) with
      | some m => match M.cGet xs m with | some y => some (.fz (.ptr y)) | none => none
      | none => none
    | _ => none
  | _ => none
def indexS (M : Ops) (x i : A) : Option A :=
  match x, i with
  | .fz (.str s), .fz (.int _ n) => match M.sAt s n with | some b => some (.fz (.int .u8 b)) | none => none
  | _, _ => none
def fieldA (off : Nat) : A → Option A
  | .pp p i j => some (.pp p i (j + off))
  | .fz (.ptr cs) => some (.fz (.ptr (dropN cs off)))
  | _ => none
def lenA (M : Ops) : A → Option Int
  | .fz (.sl xs) => some (M.nI (M.cLen xs))
  | .fz .nilsl => some 0
  | .rf _ _ len => some (M.nI len)
  | _ => none
def mxA (f : Int → Int → Int) (x y : Option C) : Option C :=
  match x, y with
  | some (.int k a), some (.int k' b) => match kindEq k k' with | true => some (.int k (f a b)) | false => none
  | _, _ => none
def C? : A → Option C
  | .fz c => some c
  | _ => none
def fold1 (f : Option C → Option C → Option C) : Option C → List (Option C) → Option C
  | x, [] => x
  | x, y :: r => fold1 f (f x y) r
def evC (F : Fr) : List Operand → List (Option C)
  | [] => []
  | x :: r => C? (ev1 F x) :: evC F r
def mxOp (F : Fr) (f : Int → Int → Int) (args : List Operand) : Option QR :=
  match evC F args with
  | x :: r => match fold1 (mxA f) x r with | some c => some (.val (.v (false, [.fz c]))) | none => none
  | [] => none
/-- cs in the place of what lies from off on. -/
def putCells : List A → Nat → List A → Option (List A)
  | as, 0, [] => some as
  | [], _, _ => none
  | a :: r, off + 1, cs => match putCells r off cs with | some l => some (a :: l) | none => none
  | _ :: r, 0, c :: cs => match putCells r 0 cs with | some l => some (c :: l) | none => none
def buildA (F : Fr) (fs : List (Nat × Nat × Bool)) : List A → List (Nat × Operand) → Option (List A)
  | as, [] => some as
  | as, (i, x) :: r => match nth fs i with
    | some (off, size, _) => match ev F x with
      | .v (_, cs) => match okL cs && nq (cnt cs) size with
        | true => (match putCells as off cs with | some as' => buildA F fs as' r | none => none)
        | false => none
      | .tup _ => none
    | none => none
def valO : Option A → Option QR
  | some a => some (.val (.v (false, [a])))
  | none => none
def ev1L (F : Fr) : List Operand → List A
  | [] => []
  | x :: r => ev1 F x :: ev1L F r
def ev1O (F : Fr) : Option Operand → Option A
  | none => none
  | some x => some (ev1 F x)

/-- Operations that read alone, and put one value. -/
def qop (M : Ops) (T : Nat → Option Ty) (F : Fr) : Op → Option QR
  | .move x => some (.val (ev F x))
  | .pick c a b => match ev1 F c with
    | .fz (.bool b') => some (.val (match b' with | true => ev F a | false => ev F b))
    | _ => none
  | .binOp op t x y _ => match T t with
    | some ty => match binA M ty.kind op (ev1 F x) (ev1 F y) with | some c => some (.val (.v (false, [.fz c]))) | none => none
    | none => none
  | .unOp op _ x => match unC M op (ev1 F x) with | some c => some (.val (.v (false, [.fz c]))) | none => none
  | .load t x => match T t with
    | some ty => match cellsAt M F ty.size (ev1 F x) with
      | some as => (match mkV ty.agg as with | some v => some (.val v) | none => none)
      | none => none
    | none => none
  | .fieldAddr t x f => match T t with
    | some ⟨.st fs, _, _, _, _⟩ => match nth fs f with
      | some (_, 0, _) => none
      | some (off, _ + 1, _) => valO (fieldA off (ev1 F x))
      | none => none
    | _ => none
  | .field t x f => match T t with
    | some ⟨.st fs, _, _, _, _⟩ => match nth fs f, ev F x with
      | some (off, size, agg), .v (true, as) => match cut as off size with
        | some l => (match mkV agg l with | some v => some (.val v) | none => none)
        | none => none
      | _, _ => none
    | _ => none
  | .indexAddr t x i => match T t with
    | some ⟨.sl e, _, _, _, _⟩ => match T e with
      | some ty => match indexA M (ev1 F x) (ev1 F i) with
        | some a => match elemOk M F ty.size a with     -- an element has the type's size
          | true => some (.val (.v (false, [a])))
          | false => none
        | none => none
      | none => none
    | _ => none
  | .index t x i => match T t with
    | some ⟨.str, _, _, _, _⟩ => valO (indexS M (ev1 F x) (ev1 F i))
    | _ => none
  | .slice t x lo hi mx => match T t with
    | some ⟨.str, _, _, _, _⟩ => sliceS M (ev1 F x) (ev1O F lo) (ev1O F hi) (ev1O F mx)
    | some ⟨.sl e, _, _, _, _⟩ => match T e with
      | some ty => sliceA M F ty.size (ev1 F x) (ev1O F lo) (ev1O F hi) (ev1O F mx)
      | none => none
    | _ => none
  | .convert s t x => match T s, T t with
    | some ⟨ks, _, _, _, _⟩, some ⟨.int k, _, _, _, _⟩ => match ev1 F x with
      | .fz (.int _ n) => match ks with
        | .int _ => some (.val (.v (false, [.fz (.int k (M.iWrap k n))])))
        | _ => none
      | _ => none
    | some ⟨.str, _, _, _, _⟩, some ⟨.str, _, _, _, _⟩ => match ev1 F x with
      | .fz (.str s) => some (.val (.v (false, [.fz (.str s)])))
      | _ => none
    | some ⟨.sl e, _, _, _, _⟩, some ⟨.str, _, _, _, _⟩ => match T e, elemsC M F (ev1 F x) with
      | some ⟨.int .u8, _, _, _, _⟩, some xs => match M.sOf xs with | some s => some (.val (.v (false, [.fz (.str s)]))) | none => none
      | _, _ => none
    | _, _ => none
  | .extract x i => match ev F x with
    | .tup xs => match nth xs i with
      | some y => some (.val (.v y))
      | none => none
    | _ => none
  | .makeFunc (.func f) ⟨[]⟩ ⟨caps⟩ => some (.val (.v (false, [.clo f (ev1L F caps)])))
  | .build t ⟨parts⟩ => match T t with
    | some ⟨.st fs, _, _, _, z⟩ => match noUnL z, buildA F fs (fzL z) parts with | true, some as => some (.val (.v (true, as))) | _, _ => none
    | _ => none
  | .call ⟨.builtin .len, ⟨[x]⟩, ⟨[t]⟩⟩ => match T t with
      | some ⟨.str, _, _, _, _⟩ => match ev1 F x with | .fz (.str s) => some (.val (.v (false, [.fz (.int .i64 (M.nI (M.sLen s)))]))) | _ => none
      | some ⟨.sl _, _, _, _, _⟩ => match lenA M (ev1 F x) with | some n => some (.val (.v (false, [.fz (.int .i64 n)]))) | none => none
      | _ => none
  | .call ⟨.builtin .cap, ⟨[x]⟩, ⟨[t]⟩⟩ => match T t, ev1 F x with
      | some ⟨.sl _, _, _, _, _⟩, .fz .nilsl => some (.val (.v (false, [.fz (.int .i64 0)])))
      | _, _ => none
  | .call ⟨.builtin .max, ⟨args⟩, _⟩ => mxOp F M.iMax args
  | .call ⟨.builtin .min, ⟨args⟩, _⟩ => mxOp F M.iMin args
  | _ => none
def Fr.putQ (M : Ops) (F : Fr) (d : Nat) : QR → Fr
  | .val x => F.put d x
  | .mt => ((F.clear M (rid d 0 0)).root (rid d 0 0) (.osl [])).put d (.v (false, [.rf (rid d 0 0, []) 0 0]))

/-! ### operations that write -/
/-- A cell on its way into memory, at the place q; where it lay till now. -/
def conv1 (M : Ops) (kn : Bool) (F : Fr) (a : A) (q : Path) : Option (O × Option Path) :=
  match a with
  | .fz .nilsl => match kn with | true => some (.fz .nilsl, none) | false => some (.osl [], none)
  | .fz .un => none
  | .fz c => some (.fz c, none)
  | .rf p off len => match F.at M p with
    | .osl xs => match M.nEq off 0 && M.nEq len (M.oLen xs) && !nq p.1 q.1 with
      | true => some (.osl xs, some p)
      | false => none
    | _ => none
  | .pp p i j => match F.at M p with
    | .obx cs => match i, j, nq p.1 q.1 with
      | 0, 0, false => some (.obx cs, some p)
      | _, _, _ => none
    | _ => none
  | _ => none
def convL (M : Ops) (kn : Bool) (q : Nat → Path) : Nat → Fr → (A → A) → List A → Option (List O × Fr)
  | _, F, _, [] => some ([], F)
  | j, F, f, a :: rest => match conv1 M kn F (f a) (q j) with
    | some (o, none) => match convL M kn q (j + 1) F f rest with
      | some (os, F2) => some (o :: os, F2)
      | none => none
    | some (o, some p) => match convL M kn q (j + 1) (F.lift M p (q j)) (fun x => (f x).tr (moveP M p (q j))) rest with
      | some (os, F2) => some (o :: os, F2)
      | none => none
    | none => none
def idA (a : A) : A := a
def qAt (r : Nat) (s : List (Nat × Nat)) (i j : Nat) : Path := (r, s ++ [(i, j)])
def rfV (r len : Nat) : TV A := .v (false, [.rf (r, []) 0 len])
def ppV (r : Nat) : TV A := .v (false, [.pp (r, []) 0 0])

def boxW (M : Ops) (kn : Bool) (F : Fr) (d : Nat) (x : Operand) : Option Fr :=
  match (ev F x).cells with
  | some as => match convL M kn (qAt (rid d 0 0) [] 0) 0 F idA as with
    | some (os, F2) => some ((F2.root (rid d 0 0) (.obx os)).put d (ppV (rid d 0 0)))
    | none => none
  | none => none
def buildW (M : Ops) (kn : Bool) (r size : Nat) : Nat → Fr → List (Nat × Operand) → Option (List (List O) × Fr)
  | _, F, [] => some ([], F)
  | i, F, (i', x) :: rest => match nq i' i, ev F x with
    | true, .v (_, as) => match nq (cnt as) size with
      | true => (match convL M kn (qAt r [] i) 0 F idA as with
        | some (os, F1) => match buildW M kn r size (i + 1) F1 rest with
          | some (ys, F2) => some (os :: ys, F2)
          | none => none
        | none => none)
      | false => none
    | _, _ => none
/-- One cell after the other: what lay there goes, what comes is laid. -/
def dropL (M : Ops) (r : Nat) (s : List (Nat × Nat)) (i : Nat) : Nat → Nat → Fr → Fr
  | _, 0, F => F
  | j, n + 1, F => dropL M r s i (j + 1) n (match (F.at M (qAt r s i j)).isFz with | true => F | false => F.drop M (qAt r s i j))
def setL (M : Ops) (r : Nat) (s : List (Nat × Nat)) (i : Nat) : Nat → Fr → List O → Fr
  | _, F, [] => F
  | j, F, o :: os => setL M r s i (j + 1) (F.setAt M (qAt r s i j) o) os
def storeW (M : Ops) (kn : Bool) (F : Fr) (size : Nat) (a x : Operand) : Option Fr :=
  match ev1 F a with
  | .pp p i j => match ev (dropL M p.1 p.2 i j size F) x with
    | .v (_, as) => match nq (cnt as) size && nlt 0 size with
      | true => (match convL M kn (qAt p.1 p.2 i) j (dropL M p.1 p.2 i j size F) idA as with
        | some (os, F2) => match cellsAt M F2 size (.pp p i j) with
          | some _ => some (setL M p.1 p.2 i j F2 os)
          | none => none
        | none => none)
      | false => none
    | .tup _ => none
  | _ => none
def baseW (M : Ops) (F : Fr) : A → Option (List (List O) × Fr)
  | .fz .nilsl => some ([], F)
  | .rf p off len => match F.at M p with
    | .osl xs => match M.nEq off 0 && M.nEq len (M.oLen xs) with | true => some (xs, F.drop M p) | false => none
    | _ => none
  | _ => none
/-- What is appended; where it lay, if it moves. -/
def moreW (M : Ops) (F : Fr) : A → Option (List (List O) × Option Path)
  | .fz .nilsl => some ([], none)
  | .fz (.sl zs) => some (M.oOf zs, none)
  | .rf p off len => match F.at M p with
    | .osl ys => match M.nLe (M.nAdd off len) (M.oLen ys) with
      | true => (match M.oFlat ys with
        | true => (match M.nEq off 0 && M.nEq len (M.oLen ys) with
          | true => some (ys, none)
          | false => some (M.oCut ys off len, none))
        | false => match M.nEq off 0 && M.nEq len (M.oLen ys), p.2 with
          | true, [] => some (ys, some p)
          | _, _ => none)
      | false => none
    | _ => none
  | _ => none
def lim : Nat := 34359738368
def goneO (M : Ops) (F : Fr) : Option Path → Fr
  | none => F
  | some p => F.drop M p
def appendW (M : Ops) (ty : Ty) (d : Nat) (x y : Operand) (F : Fr) : Option Fr :=
  match baseW M F (ev1 F x) with
  | some (xs, F1) => match moreW M F1 (ev1 F1 y) with
    | some (ys, m) =>
      match M.nLe (M.nAdd (M.oLen xs) (M.oLen ys)) lim && nle ty.bytes 4096 && nlt 0 ty.size && nq (cnt ty.zero) ty.size && M.oSz ty.size ys && M.oSz ty.size xs with
      | true => some (((goneO M F1 m).root (rid d 0 0) (.osl (M.oCat xs ys))).put d (rfV (rid d 0 0) (M.oLen (M.oCat xs ys))))
      | false => none
    | none => none
  | none => none
def assignW (M : Ops) (F : Fr) (d : Nat) (x : TV A) : Option Fr :=
  match x with
  | .v (false, [.rf (id, []) off len]) =>
    match nq id (rid d 0 0), F.at M (id, []) with
    | true, .osl xs => match M.nEq off 0 && M.nEq len (M.oLen xs) with
      | true => some (F.put d x)
      | false => none
    | false, .osl xs => match M.nEq off 0 && M.nEq len (M.oLen xs) with
      | true => some ((((F.clear M (rid d 0 0)).lift M (id, []) (rid d 0 0, [])).root (rid d 0 0) (.osl xs)).put d (rfV (rid d 0 0) len))
      | false => some (F.put d x)
    | _, _ => some (F.put d x)
  | x => some (F.put d x)
def asgA (M : Ops) (kn : Bool) (F : Fr) (d : Nat) (x : TV A) : Option Fr :=
  match x with
  | .v (false, [.fz .nilsl]) => match kn with | true => some (F.put d (.v (false, [.fz .nilsl]))) | false => some (F.putQ M d .mt)
  | y => assignW M F d y
def zeroO (kn : Bool) : List C → List O
  | [] => []
  | .nilsl :: r => (match kn with | true => .fz .nilsl | false => .osl []) :: zeroO kn r
  | c :: r => .fz c :: zeroO kn r
def putQO (M : Ops) (F : Fr) (d : Nat) : Option QR → Option Fr
  | some q => some (F.putQ M d q)
  | none => none

/-- Operations that write, or make memory. -/
def wop (M : Ops) (T : Nat → Option Ty) (kn : Bool) (F : Fr) (d : Nat) : Op → Option Fr
  | .assign x => asgA M kn F d (ev F x)
  | .box _ x => boxW M kn (F.clear M (rid d 0 0)) d x
  | .alloc e => match T e with
    | some ty => match noUnL ty.zero with
      | true => some (((F.clear M (rid d 0 0)).root (rid d 0 0) (.obx (zeroO kn ty.zero))).put d (ppV (rid d 0 0)))
      | false => none
    | none => none
  | .buildSlice t len ⟨parts⟩ => match T t with
    | some ⟨.sl e, _, _, _, _⟩ => match T e with
      | some ty => match nq (cnt parts) len && nle len 4096 && nlt 0 ty.size && nle ty.size 4096 with
        | true => (match buildW M kn (rid d 0 0) ty.size 0 (F.clear M (rid d 0 0)) parts with
          | some (ys, F2) => some ((F2.root (rid d 0 0) (.osl ys)).put d (rfV (rid d 0 0) len))
          | none => none)
        | false => none
      | none => none
    | _ => none
  | .makeSlice t l c => match T t with
    | some ⟨.sl e, _, _, _, _⟩ => match T e, ev1 F l, ev1 F c with
      | some ty, .fz (.int _ n), .fz (.int _ m) => match M.bEq n m && nle ty.bytes 4096 && nlt 0 ty.size && nq (cnt ty.zero) ty.size && noUnL ty.zero with
        | true => (match M.oRep n (zeroO kn ty.zero) with
          | some ys => some (((F.clear M (rid d 0 0)).root (rid d 0 0) (.osl ys)).put d (rfV (rid d 0 0) (M.oLen ys)))
          | none => none)
        | false => none
      | _, _, _ => none
    | _ => none
  | .call ⟨.builtin .append, ⟨[x, y]⟩, ⟨[t, t']⟩⟩ => match nq t t', T t with
    | true, some ⟨.sl e, _, _, _, _⟩ => match T e with
      | some ty => appendW M ty d x y (F.drop M (rid d 0 0, []))
      | none => none
    | _, _ => none
  | o => putQO M F d (qop M T F o)

/-! ### calls -/
def callee (M : Ops) (F : Fr) (f : Operand) : Option (FuncId × List C) :=
  match ev1 F f with
  | .fz (.fn g caps) => some (g, caps)
  | .clo g caps => match okL caps with
    | true => some (g, frzAL M F caps)
    | false => none
  | _ => none
mutual
/-- Frozen already. -/
def A.isFz : A → Bool
  | .fz _ => true
  | .clo _ caps => allFz caps
  | _ => false
def allFz : List A → Bool
  | [] => true
  | a :: r => match a.isFz with | true => allFz r | false => false
end
def TV.isFz : TV A → Bool
  | .v (_, as) => allFz as
  | .tup _ => false
def lend (F : Fr) : List Operand → Bool
  | [] => true
  | x :: r => match (ev F x).isFz with | true => lend F r | false => false
def argsC (M : Ops) (F : Fr) : List Operand → Option (List (V1 C))
  | [] => some []
  | x :: r => match frzV M F (ev F x), argsC M F r with
    | some y, some ys => some (y :: ys)
    | _, _ => none
def capsV : List C → List (V1 C)
  | [] => []
  | c :: r => (false, [c]) :: capsV r
def impL (M : Ops) (d k : Nat) : Nat → List O → List A
  | _, [] => []
  | j, o :: r => refO M (rid d k j, []) o :: impL M d k (j + 1) r
def rootsL (d k : Nat) : Nat → List O → List (Nat × O)
  | _, [] => []
  | j, o :: r => match o.isFz with
    | true => rootsL d k (j + 1) r
    | false => (rid d k j, o) :: rootsL d k (j + 1) r
def impVs (M : Ops) (d : Nat) : Nat → List (V1 O) → List (V1 A)
  | _, [] => []
  | k, x :: r => (x.1, impL M d k 0 x.2) :: impVs M d (k + 1) r
def rootsVs (d : Nat) : Nat → List (V1 O) → List (Nat × O)
  | _, [] => []
  | k, x :: r => rootsL d k 0 x.2 ++ rootsVs d (k + 1) r
def impT (M : Ops) (d : Nat) : TV O → TV A
  | .v (g, os) => .v (g, impL M d 0 0 os)
  | .tup xs => .tup (impVs M d 0 xs)
def rootsT (d : Nat) : TV O → List (Nat × O)
  | .v (_, os) => rootsL d 0 0 os
  | .tup xs => rootsVs d 0 xs
def Fr.clears (M : Ops) (F : Fr) : List (Nat × O) → Fr
  | [] => F
  | (id, _) :: r => (F.clear M id).clears M r
def Fr.adds (F : Fr) : List (Nat × O) → Fr
  | [] => F
  | (id, o) :: r => (F.root id o).adds r
def allLe : List (V1 O) → Bool
  | [] => true
  | x :: r => match nle (cnt x.2) 64 with | true => allLe r | false => false
def TV.fits : TV O → Bool      -- the roots' numbers stay apart
  | .v (_, os) => nle (cnt os) 64
  | .tup xs => nle (cnt xs) 64 && allLe xs
def cleanVs (M : Ops) : List (V1 O) → Bool
  | [] => true
  | x :: r => match O.cleanML M x.2 with | true => cleanVs M r | false => false
def TV.cleanM (M : Ops) : TV O → Bool
  | .v x => O.cleanML M x.2
  | .tup xs => cleanVs M xs
def Fr.import (M : Ops) (F : Fr) (d : Nat) (r : TV O) : Option Fr := match r.fits with
  | true => some (((F.clears M (rootsT d r)).adds (rootsT d r)).put d (impT M d r))
  | false => none

abbrev Ora := FuncId → List (V1 C) → Option (TV O)
/-- Asked of an oracle: the arguments are evaluated first. -/
def askO (ora : Ora) (g : FuncId) (as : List (V1 C)) : Option (TV O) := ora g as
def callW (M : Ops) (ora : Ora) (F : Fr) (d : Nat) (f : Operand) (args : List Operand) : Option Fr :=
  match callee M F f, argsC M F args with
  | some (g, caps), some as => match askO ora g (as ++ capsV caps) with
    | some r => match lend F (f :: args) with
      | true => F.import M d r
      | false => match r.cleanM M with
        | true => F.import M d r
        | false => none
    | none => none
  | _, _ => none

/-- What is not part of the program's text: chosen by whoever uses the interpreter; any choice is sound. -/
structure Cxs where
  T : Nat → Option Ty
  kn : FuncId → Bool
  lv : FuncId → Nat → List Nat

def opS (M : Ops) (T : Nat → Option Ty) (kn : Bool) (ora : Ora) (F : Fr) (o : Oper) : Option Fr :=
  match o.dst with
  | none => match o.op with
    | .store t a x => match T t with
      | some ty => storeW M kn F ty.size a x
      | none => none
    | _ => none
  | some d => match nlt d F.n with
    | true => (match o.op with
      | .call ⟨.value f, ⟨args⟩, _⟩ => callW M ora F d f args
      | op => wop M T kn F d op)
    | false => none

/-! ### the machine -/
inductive K where
  | c (x : Code)
  | r (all : Array Oper) (l : List Oper)
  | bl (id : Nat)
  | lp (b : Code)
inductive St where
  | fin (F : Fr)
  | nx (ks : List K) (F : Fr)
  | at (ks : List K) (F : Fr)
  | br (b : Bool) (ks1 : List K) (F1 : Unit → Option Fr) (ks2 : List K) (F2 : Fr)
  | no
def St.of (ks : List K) : Option Fr → St
  | some F => .nx ks F
  | none => .no
def fstReg : Code → Nat
  | .region id _ _ => id
  | .seq a _ => fstReg a
  | .block _ b => fstReg b
  | .loop b => fstReg b
  | .cond _ a _ => fstReg a
  | _ => 0
def popTo (id : Nat) : List K → Option (List K)
  | [] => none
  | .bl id' :: ks => match nq id' id with | true => some ks | false => popTo id ks
  | _ :: ks => popTo id ks
mutual
def A.ids : A → List Nat
  | .rf p _ _ => [p.1]
  | .pp p _ _ => [p.1]
  | .clo _ caps => A.idsL caps
  | _ => []
def A.idsL : List A → List Nat
  | [] => []
  | a :: r => a.ids ++ A.idsL r
end
def vIds : List (V1 A) → List Nat
  | [] => []
  | x :: r => A.idsL x.2 ++ vIds r
def TV.ids : TV A → List Nat
  | .v x => A.idsL x.2
  | .tup xs => vIds xs
def keepTm (F : Fr) : List Nat → List (Nat × TV A)
  | [] => []
  | t :: r => (t, look unT F.tm t) :: keepTm F r
def tmIds : List (Nat × TV A) → List Nat
  | [] => []
  | (_, x) :: r => x.ids ++ tmIds r
def keepTb (F : Fr) : List Nat → List (Nat × O) → List (Nat × O)
  | [], acc => acc
  | id :: r, acc => keepTb F r (match has acc id with | true => acc | false => acc ++ [(id, look .un F.tb id)])
/-- All is forgotten but what is listed. -/
def Fr.keep (F : Fr) (l : List Nat) : Fr := { F with tm := keepTm F l, tb := keepTb F (tmIds (keepTm F l)) [] }
def nthOp : List Oper → Nat → Option Oper
  | [], _ => none
  | o :: _, 0 => some o
  | _ :: r, n + 1 => nthOp r n
def guardV (F : Fr) (all : Array Oper) (g : Nat) : A :=
  match all with
  | ⟨l⟩ => match nthOp l g with
    | some ⟨some t, _, _, _, _, _⟩ => one (look unT F.tm t)
    | _ => .un
def skipOp (F : Fr) (o : Oper) : Fr :=
  match o.dst with
  | some d => F.put d (.v (false, [.ud]))
  | none => F

/-- One step; at a loop's head it stops. -/
def st1 (M : Ops) (T : Nat → Option Ty) (kn : Bool) (lv : Nat → List Nat) (ora : Ora) : List K → Fr → St
  | [], F => .fin F
  | .c x :: ks, F => match x with
    | .skip => .nx ks F
    | .region _ ⟨ops⟩ false => .nx (.r ⟨ops⟩ ops :: ks) F
    | .seq a b => .nx (.c a :: .c b :: ks) F
    | .cond y a b => match ev1 F y with
      | .fz (.bool t) => .br t (.c a :: ks) (fun _ => some F) (.c b :: ks) F
      | _ => .no
    | .block id b => .nx (.c b :: .bl id :: ks) F
    | .loop b => .at (.c b :: .lp b :: ks) (F.keep (lv (fstReg b)))
    | .exit id => match popTo id ks with
      | some ks' => .nx ks' F
      | none => .no
    | .ret => .fin F
    | _ => .no
  | .bl _ :: ks, F => .nx ks F
  | .lp b :: ks, F => .nx (.c (.loop b) :: ks) F
  | .r all l :: ks, F => match l with
    | [] => .nx ks F
    | o :: l => match o.guard with
      | none => .of (.r all l :: ks) (opS M T kn ora F o)
      | some (g, want) => match guardV F all g with
        | .fz (.bool b) => .br (match want with | true => b | false => notB b) (.r all l :: ks) (fun _ => opS M T kn ora F o) (.r all l :: ks) (skipOp F o)
        | .ud => .nx (.r all l :: ks) (skipOp F o)
        | _ => .no
def execN (M : Ops) (T : Nat → Option Ty) (kn : Bool) (lv : Nat → List Nat) (ora : Ora) : Nat → List K → Fr → Option Fr
  | 0, _, _ => none
  | n + 1, ks, F => match st1 M T kn lv ora ks F with
    | .fin F' => some F'
    | .nx ks' F' => execN M T kn lv ora n ks' F'
    | .at ks' F' => execN M T kn lv ora n ks' F'
    | .br b k1 F1 k2 F2 => match b with
      | true => (match F1 () with | some F1 => execN M T kn lv ora n k1 F1 | none => none)
      | false => execN M T kn lv ora n k2 F2
    | .no => none
/-- On to the next loop, or the end; a test that is not decided stands. -/
def goN (M : Ops) (T : Nat → Option Ty) (kn : Bool) (lv : Nat → List Nat) (ora : Ora) : Nat → List K → Fr → St
  | 0, ks, F => .nx ks F
  | n + 1, ks, F => match st1 M T kn lv ora ks F with
    | .fin F' => .fin F'
    | .nx ks' F' => goN M T kn lv ora n ks' F'
    | .at ks' F' => .at ks' F'
    | .br b k1 F1 k2 F2 => match b with
      | true => (match F1 () with | some F1 => goN M T kn lv ora n k1 F1 | none => .no)
      | false => goN M T kn lv ora n k2 F2
    | .no => .no

/-! ### a function's results -/
def enterTm : Nat → List (V1 C) → List (Nat × TV A)
  | _, [] => []
  | i, x :: r => (i, .v (x.1, fzL x.2)) :: enterTm (i + 1) r
def enter (n : Nat) (args : List (V1 C)) : Fr := { n := n, tm := enterTm 0 args, tb := [] }
def resRoot : Nat := 40960000
def exp1 (M : Ops) (kn : Bool) (k : Nat) (F : Fr) : TV A → Option (V1 O × Fr)
  | .v (g, as) => match nle (cnt as) 64 with
    | true => (match convL M kn (qAt resRoot [] k) 0 F idA as with
      | some (os, F') => some ((g, os), F')
      | none => none)
    | false => none
  | .tup _ => none
/-- A result: a temporary's value, or what lies in its cell. -/
def resT (M : Ops) (T : Nat → Option Ty) (F : Fr) : ResultVar → Option (TV A)
  | .tmp t => some (look unT F.tm t)
  | .cell a t => match T t with
    | some ty => match cellsAt M F ty.size (one (look unT F.tm a)) with
      | some as => mkV ty.agg as
      | none => none
    | none => none
def expRs (M : Ops) (T : Nat → Option Ty) (kn : Bool) : Nat → Fr → List ResultVar → Option (List (V1 O))
  | _, _, [] => some []
  | k, F, rv :: r => match resT M T F rv with
    | some v => match exp1 M kn k F v with
      | some (x, F') => match expRs M T kn (k + 1) F' r with
        | some xs => some (x :: xs)
        | none => none
      | none => none
    | none => none
def export_ (M : Ops) (T : Nat → Option Ty) (kn : Bool) (F : Fr) (rs : Array ResultVar) : Option (TV O) :=
  match rs with
  | ⟨rs⟩ => match nle (cnt rs) 64 with
    | true => (match expRs M T kn 0 (F.drop M (resRoot, [])) rs with
      | some [x] => some (.v x)
      | some xs => some (.tup xs)
      | none => none)
    | false => none

end Go.Proofs.Ytlmejcmnmdleaaa.Ai
