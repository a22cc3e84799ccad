/- Symbolic runs, part 4: operations that put one value. -/
import Derived.Test.YtlmejcmnmdleaaaSy3
namespace Go.Proofs.Ytlmejcmnmdleaaa.Ai
open Go
set_option linter.unusedSectionVars false
set_option linter.unusedSimpArgs false

theorem R.Sim.mk {α : Type} {ps : List Prop} {a : α} {Q : α → Prop} (h : Holds ps → Q a) : R.Sim (some (ps, a)) Q := by
  intro qs b e hp; injection e with e; injection e with e1 e2; subst e1 e2; exact h hp
def bndB : Option B → Option (Option Int)
  | none => some none
  | some (.fz (.int _ n)) => some (some n)
  | some _ => none
def lhB (M : MB) : Option Int → Option Int → Nat → R (Nat × Nat)
  | none, none, len => R.ok (0, len)
  | some l, none, len => some ([M.pGeZ l, M.pLeN (M.toN l) len], (M.toN l, len))
  | none, some h, len => some ([M.pGeZ h, M.pLeN (M.toN h) len], (0, M.toN h))
  | some l, some h, len => some ([M.pGeZ l, M.pGeZ h, M.pLeN (M.toN l) (M.toN h), M.pLeN (M.toN h) len], (M.toN l, M.toN h))
theorem Holds.four {p q r t : Prop} (h : Holds [p, q, r, t]) : p ∧ q ∧ r ∧ t := ⟨h p (by simp), h q (by simp), h r (by simp), h t (by simp)⟩
theorem lhB_sim (lo hi : Option Int) (len : Nat) : (lhB stdB lo hi len).Sim fun r => std.lh lo hi len = some r ∧ r.1 ≤ r.2 ∧ r.2 ≤ len := by
  cases lo with
  | none =>
    cases hi with
    | none => exact R.Sim.ok ⟨rfl, Nat.zero_le _, Nat.le_refl _⟩
    | some h =>
      refine R.Sim.mk fun hp => ?_
      obtain ⟨h1, h2⟩ := hp.two
      simp only [stdB] at h1 h2
      refine ⟨?_, Nat.zero_le _, h2⟩
      show bndOk none (some h) len = _
      simp only [bndOk]
      rw [if_pos ⟨h1, by omega⟩]
      rfl
  | some l =>
    cases hi with
    | none =>
      refine R.Sim.mk fun hp => ?_
      obtain ⟨h1, h2⟩ := hp.two
      simp only [stdB] at h1 h2
      refine ⟨?_, h2, Nat.le_refl _⟩
      show bndOk (some l) none len = _
      simp only [bndOk]
      rw [if_pos ⟨h1, by omega⟩]
      rfl
    | some h =>
      refine R.Sim.mk fun hp => ?_
      obtain ⟨h1, h2, h3, h4⟩ := hp.four
      simp only [stdB] at h1 h2 h3 h4
      refine ⟨?_, h3, h4⟩
      show bndOk (some l) (some h) len = _
      simp only [bndOk]
      rw [if_pos ⟨h1, by omega, by omega⟩]
      rfl
def evO (F : SF) : Option Operand → Option B
  | none => none
  | some x => some (evB1 F x)
theorem evO_er (F : SF) (x : Option Operand) : (evO F x).map B.er = ev1O F.er x := by
  cases x with
  | none => rfl
  | some y => simp only [evO, Option.map_some, evB1_er, ev1O]
theorem bndB_er {x : Option B} {r : Option Int} (h : bndB x = some r) : bnd (x.map B.er) = some r := by
  unfold bndB at h
  split at h
  · simp only [Option.some.injEq] at h; subst h; rfl
  · simp only [Option.some.injEq] at h; subst h; rfl
  · cases h
def isNoneB : Option B → Bool
  | none => true
  | some _ => false
def sliceB (M : MB) (F : SF) (str : Bool) (size : Nat) (x : B) (lo hi mx : Option B) : R (TV B) :=
  match isNoneB mx with
  | false => none
  | true => (match bndB lo, bndB hi with
    | some lo, some hi => (match str with
      | true => (match x with
        | .fz (.str s) => (lhB M lo hi (M.sLen s)).bd fun r => R.ok (.v (false, [.fz (.str (M.sCut s r.1 r.2))]))
        | _ => none)
      | false => (match x with
        | .fz (.sl x) => (match nq x.sz size with
          | true => (lhB M lo hi (x.len M)).bd fun r => (match x.cut M r.1 (M.nSub r.2 r.1) with
            | some y => R.ok (.v (false, [.fz (.sl y)]))
            | none => none)
          | false => none)
        | .rf p _ off len => (F.atR M p).bd fun o => (match o with
          | .osl x => (match nq x.sz size with
            | true => (lhB M lo hi len).bd fun r => some ([M.pLeN (M.nAdd off len) (x.len M)], .v (false, [.rf p false (M.nAdd off r.1) (M.nSub r.2 r.1)]))
            | false => none)
          | _ => none)
        | _ => none))
    | _, _ => none)
theorem all_len {α : Type} {l : List (List α)} {n : Nat} (h : ∀ y ∈ l, y.length = n) : (l.all fun y => y.length == n) = true := by
  rw [List.all_eq_true]; intro y hy; simp [h y hy]
theorem sliceB_sim (F : SF) (str : Bool) (size : Nat) (x : B) (lo hi mx : Option B) : (sliceB stdB F str size x lo hi mx).Sim fun v =>
    (match str with | true => sliceS std x.er (lo.map B.er) (hi.map B.er) (mx.map B.er) | false => sliceA std F.er size x.er (lo.map B.er) (hi.map B.er) (mx.map B.er)) = some (.val (v.er B.erL)) := by
  unfold sliceB
  split
  · exact R.Sim.none'
  · rename_i hmx
    have hm : mx.map B.er = none := by cases mx with | none => rfl | some _ => simp [isNoneB] at hmx
    rw [hm]
    split
    · rename_i lo' hi' hl hh
      have hl := bndB_er hl
      have hh := bndB_er hh
      cases str with
      | true =>
        dsimp only
        split
        · rename_i s
          refine R.Sim.bd (lhB_sim lo' hi' _) fun r hr => R.Sim.ok ?_
          simp only [B.er, D.er, sliceS, hl, hh]
          have : std.lh lo' hi' (std.sLen s) = some r := hr.1
          rw [this]
          rfl
        · exact R.Sim.none'
      | false =>
        dsimp only
        split
        · rename_i x
          split
          · rename_i hsz
            obtain hsz := Nat.eq_of_beq_eq_true hsz
            refine R.Sim.bd (lhB_sim lo' hi' _) fun r hr => ?_
            split
            · rename_i y hy
              refine R.Sim.ok ?_
              simp only [B.er, D.er, sliceA, hl, hh]
              have h1 : std.lh lo' hi' (std.cLen x.rc) = some r := by have := hr.1; show bndOk lo' hi' x.rc.length = _; rw [LL.len_rc]; exact this
              have h2 : std.cSz size x.rc = true := all_len (by rw [← hsz]; exact x.rc_sz)
              rw [h1, h2]
              show some (QR.val (.v (false, [.fz (.sl ((x.rc.drop r.1).take (r.2 - r.1)))]))) = _
              have h3 := LL.cut_rc hy
              rw [show stdB.nSub r.2 r.1 = r.2 - r.1 from rfl] at h3
              rw [← h3]
              rfl
            · exact R.Sim.none'
          · exact R.Sim.none'
        · rename_i p w off len
          refine R.Sim.bd (F.atR_sim p) fun o ho => ?_
          split
          · rename_i x
            split
            · rename_i hsz
              obtain hsz := Nat.eq_of_beq_eq_true hsz
              refine R.Sim.bd (lhB_sim lo' hi' _) fun r hr => R.Sim.mk fun hp => ?_
              simp only [B.er, sliceA, hl, hh, ho, W.er]
              have h2 : (std.oSz size x.ro && std.nLe (std.nAdd off len) (std.oLen x.ro)) = true := by
                have h3 : std.oSz size x.ro = true := all_len (by rw [← hsz]; exact x.ro_sz)
                have h4 : off + len ≤ x.len stdB := hp.one
                rw [h3]
                show decide (off + len ≤ x.ro.length) = true
                rw [LL.len_ro]
                simpa using h4
              rw [hr.1, h2]
              rfl
            · exact R.Sim.none'
          · exact R.Sim.none'
        · exact R.Sim.none'
    · exact R.Sim.none'
def fieldB (off : Nat) : B → Option B
  | .pp p i j => some (.pp p i (j + off))
  | .fz (.ptr cs) => some (.fz (.ptr (dropN cs off)))
  | _ => none
theorem fieldB_er {off : Nat} {x y : B} (h : fieldB off x = some y) : fieldA off x.er = some y.er := by
  unfold fieldB at h
  split at h
  · simp only [Option.some.injEq] at h; subst h; rfl
  · simp only [Option.some.injEq] at h; subst h; simp only [B.er, D.er, fieldA, D.erL_eq, dropN_map]
  · cases h
/-- The element of a slice, by its address. -/
def indexB (M : MB) (F : SF) (size : Nat) (x i : B) : R B :=
  match i with
  | .fz (.int _ n) => (match x with
    | .rf p w off len => (F.atR M p).bd fun o => (match o with
      | .osl y => (match nq y.sz size with
        | true => (match w with
          | true => some ([M.pIx n len, M.pEqN off 0, M.pEqN len (y.len M)], .pp p (false, M.toN n) 0)
          | false => some ([M.pIx n len, M.pLeN (M.nAdd off len) (y.len M)], .pp p (false, M.nAdd off (M.toN n)) 0))
        | false => none)
      | _ => none)
    | .fz (.sl y) => (match nq y.sz size with
      | true => some ([M.pIx n (y.len M)], .fz (.ptr (y.atD M (M.toN n))))
      | false => none)
    | _ => none)
  | _ => none
theorem atD_len (x : LL) (n : Nat) (M : MB) : (x.atD M n).length = x.sz := by cases x <;> rfl
theorem indexB_sim (F : SF) (size : Nat) (x i : B) : (indexB stdB F size x i).Sim fun y => indexA std x.er i.er = some y.er ∧ elemOk std F.er size y.er = true := by
  unfold indexB
  split
  · rename_i k n
    split
    · rename_i p w off len
      refine R.Sim.bd (F.atR_sim p) fun o ho => ?_
      split
      · rename_i y
        split
        · rename_i hsz
          obtain hsz := Nat.eq_of_beq_eq_true hsz
          have key : 0 ≤ n → n < len → off + len ≤ y.len stdB → indexA std (B.rf p w off len).er (B.fz (.int k n)).er = some (A.pp p.er (off + n.toNat) 0) ∧ elemOk std F.er size (A.pp p.er (off + n.toNat) 0) = true := by
            intro h1 h2 h3
            have hix : std.ix n len = some n.toNat := if_pos ⟨h1, h2⟩
            refine ⟨by simp only [B.er, D.er, indexA, hix]; rfl, ?_⟩
            have hlt : off + n.toNat < y.ro.length := by rw [LL.len_ro]; omega
            have hg : std.oGet y.ro (off + n.toNat) = some y.ro[off + n.toNat] := List.getElem?_eq_getElem hlt
            simp only [elemOk, ho, W.er, hg]
            have := y.ro_sz _ (List.getElem_mem hlt)
            rw [cnt_eq, this, hsz]
            simp
          split
          · refine R.Sim.mk fun hp => ?_
            obtain ⟨⟨h1, h2⟩, h3, h4⟩ := hp.three
            have h3 : off = 0 := h3
            have h4 : len = y.len stdB := h4
            have := key h1 h2 (by omega)
            subst h3
            simpa [B.er, stdB] using this
          · refine R.Sim.mk fun hp => ?_
            obtain ⟨⟨h1, h2⟩, h3⟩ := hp.two
            exact key h1 h2 h3
        · exact R.Sim.none'
      · exact R.Sim.none'
    · rename_i y
      split
      · rename_i hsz
        obtain hsz := Nat.eq_of_beq_eq_true hsz
        refine R.Sim.mk fun hp => ?_
        obtain ⟨h1, h2⟩ := hp.one
        have hlt : n.toNat < y.len stdB := by omega
        have hix : std.ix n (std.cLen y.rc) = some n.toNat := by
          show (if 0 ≤ n ∧ n < (y.rc.length : Int) then some n.toNat else none) = _
          rw [LL.len_rc, if_pos ⟨h1, h2⟩]
        have hg : std.cGet y.rc n.toNat = some ((y.atD stdB n.toNat).map D.er) := LL.rc_get y _ hlt
        refine ⟨by simp only [B.er, D.er, indexA, hix, hg, D.erL_eq]; rfl, ?_⟩
        simp only [B.er, D.er, elemOk, D.erL_eq, cnt_eq, List.length_map]
        show nq (y.atD stdB n.toNat).length size = true
        rw [atD_len, hsz]
        simp
      · exact R.Sim.none'
    · exact R.Sim.none'
  · exact R.Sim.none'
def lenB (M : MB) : B → Option Int
  | .fz (.sl x) => some (M.nI (x.len M))
  | .fz .nilsl => some 0
  | .rf _ _ _ len => some (M.nI len)
  | _ => none
theorem lenB_er {x : B} {n : Int} (h : lenB stdB x = some n) : lenA std x.er = some n := by
  unfold lenB at h
  split at h
  · rename_i x
    simp only [Option.some.injEq] at h
    subst h
    show some (std.nI (x.rc.length)) = _
    rw [LL.len_rc]
    rfl
  · simp only [Option.some.injEq] at h; subst h; rfl
  · simp only [Option.some.injEq] at h; subst h; rfl
  · cases h
def bytesB (M : MB) (F : SF) : B → R ByteArray
  | .fz .nilsl => R.ok (M.sOf [])
  | .fz (.sl (.u l)) => R.ok (M.sOf l)
  | .rf p _ off len => (F.atR M p).bd fun o => (match o with
    | .osl (.u l) => some ([M.pEqN off 0, M.pEqN len (M.len l)], M.sOf l)
    | .onil => some ([M.pEqN off 0, M.pEqN len 0], M.sOf [])
    | _ => none)
  | _ => none
theorem bytesL_u (l : List Int) : bytesL (l.map fun n => [C.int .u8 n]) = some (l.map fun n => UInt8.ofNat n.toNat) := by
  induction l with
  | nil => rfl
  | cons a r ih => simp [bytesL, ih]
theorem bytesB_sim (F : SF) (x : B) : (bytesB stdB F x).Sim fun s => ∃ xs, elemsC std F.er x.er = some xs ∧ std.sOf xs = some s := by
  have key : ∀ l : List Int, std.sOf (l.map fun n => [C.int .u8 n]) = some (stdB.sOf l) := by
    intro l; show (bytesL _).map _ = _; rw [bytesL_u]; rfl
  unfold bytesB
  split
  · exact R.Sim.ok ⟨[], rfl, key []⟩
  · exact R.Sim.ok ⟨_, rfl, key _⟩
  · rename_i p w off len
    refine R.Sim.bd (F.atR_sim p) fun o ho => ?_
    split
    · rename_i l
      refine R.Sim.mk fun hp => ?_
      obtain ⟨h1, h2⟩ := hp.two
      have h1 : off = 0 := h1
      have h2 : len = l.length := h2
      subst h1 h2
      refine ⟨l.map fun n => [C.int .u8 n], ?_, key l⟩
      simp only [B.er, elemsC, ho, W.er, LL.ro]
      show (match decide (0 + l.length ≤ (l.map fun n => [O.fz (C.int .u8 n)]).length) with | true => some (O.frzLL (((l.map fun n => [O.fz (C.int .u8 n)]).drop 0).take l.length)) | false => none) = _
      rw [List.drop_zero, List.take_of_length_le (by simp)]
      simp [O.frzLL_eq, O.frz, Function.comp_def]
    · refine R.Sim.mk fun hp => ?_
      obtain ⟨h1, h2⟩ := hp.two
      have h1 : off = 0 := h1
      have h2 : len = 0 := h2
      subst h1 h2
      refine ⟨[], ?_, key []⟩
      simp only [B.er, elemsC, ho, W.er]
      rfl
    · exact R.Sim.none'
  · exact R.Sim.none'
/-! ### structs by value -/
mutual
def B.okB : B → Bool
  | .un => false
  | .ud => false
  | .fz .un => false
  | .clo _ caps => okBL caps
  | _ => true
def okBL : List B → Bool
  | [] => true
  | a :: r => match a.okB with | true => okBL r | false => false
end
mutual
theorem okB_er : (x : B) → x.er.ok = x.okB
  | .un => rfl
  | .ud => rfl
  | .fz d => by cases d <;> rfl
  | .rf .. => rfl
  | .pp .. => rfl
  | .clo f caps => by simp only [B.er, A.ok, B.okB, okBL_er caps]
theorem okBL_er : (l : List B) → okL (B.erL l) = okBL l
  | [] => rfl
  | a :: r => by simp only [B.erL, okL, okBL, okB_er a, okBL_er r]; cases a.okB <;> rfl
end
theorem cnt_erL (l : List B) : cnt (B.erL l) = cnt l := by induction l with | nil => rfl | cons a r ih => simp [B.erL, cnt, ih]
def putB : List B → Nat → List B → Option (List B)
  | as, 0, [] => some as
  | [], _, _ => none
  | a :: r, off + 1, cs => match putB r off cs with | some l => some (a :: l) | none => none
  | _ :: r, 0, c :: cs => match putB r 0 cs with | some l => some (c :: l) | none => none
theorem putB_er : ∀ (as : List B) (off : Nat) (cs : List B) {r : List B}, putB as off cs = some r → putCells (B.erL as) off (B.erL cs) = some (B.erL r)
  | as, 0, [], r, h => by
    have : putB as 0 [] = some as := by cases as <;> rfl
    rw [this] at h
    simp only [Option.some.injEq] at h
    subst h
    cases as <;> rfl
  | [], 0, _ :: _, r, h => by simp [putB] at h
  | [], off + 1, [], r, h => by simp [putB] at h
  | [], off + 1, _ :: _, r, h => by simp [putB] at h
  | a :: as, off + 1, cs, r, h => by
    simp only [putB] at h
    split at h
    · rename_i l hl
      simp only [Option.some.injEq] at h
      subst h
      simp only [B.erL, putCells, putB_er as off cs hl]
    · cases h
  | a :: as, 0, c :: cs, r, h => by
    simp only [putB] at h
    split at h
    · rename_i l hl
      simp only [Option.some.injEq] at h
      subst h
      have := putB_er as 0 cs hl
      simp only [B.erL, putCells, this]
    · cases h
def buildB (F : SF) (fs : List (Nat × Nat × Bool)) : List B → List (Nat × Operand) → Option (List B)
  | as, [] => some as
  | as, (i, x) :: r => match nth fs i with
    | some (off, size, _) => (match evB F x with
      | .v (_, cs) => (match okBL cs with
        | true => (match nq (cnt cs) size with
          | true => (match putB as off cs with | some as' => buildB F fs as' r | none => none)
          | false => none)
        | false => none)
      | .tup _ => none)
    | none => none
theorem buildB_er (F : SF) (fs : List (Nat × Nat × Bool)) : ∀ (l : List (Nat × Operand)) (as : List B) {r : List B}, buildB F fs as l = some r → buildA F.er fs (B.erL as) l = some (B.erL r)
  | [], as, r, h => by simp only [buildB, Option.some.injEq] at h; subst h; rfl
  | (i, x) :: l, as, r, h => by
    simp only [buildB] at h
    split at h
    · rename_i off size g hi
      split at h
      · rename_i g' cs hx
        split at h
        · rename_i hok
          split at h
          · rename_i hsz
            split at h
            · rename_i as' hp
              simp only [buildA, hi, ← evB_er, hx, TV.er, v1er, okBL_er, hok, cnt_erL, hsz, Bool.and_self, putB_er as off cs hp]
              exact buildB_er F fs l as' h
            · cases h
          · cases h
        · cases h
      · cases h
    · cases h
def zD : C → Option D
  | .int k n => some (.int k n)
  | .bool b => some (.bool true b)
  | .str s => some (.str s)
  | .nilsl => some .nilsl
  | _ => none
def zDL : List C → Option (List D)
  | [] => some []
  | c :: r => match zD c, zDL r with | some d, some l => some (d :: l) | _, _ => none
theorem zDL_er : ∀ (l : List C) {r : List D}, zDL l = some r → D.erL r = l ∧ noUnL l = true
  | [], r, h => by simp only [zDL, Option.some.injEq] at h; subst h; exact ⟨rfl, rfl⟩
  | c :: l, r, h => by
    simp only [zDL] at h
    split at h
    · rename_i d l' hd hl
      simp only [Option.some.injEq] at h
      subst h
      obtain ⟨h1, h2⟩ := zDL_er l hl
      cases c <;> simp only [zD] at hd <;> first | (cases hd; done) | (injection hd with hd; subst hd; exact ⟨by simp only [D.erL, D.er, h1], by simp only [noUnL, h2]⟩)
    · cases h
def evB1L (F : SF) : List Operand → List B
  | [] => []
  | x :: r => evB1 F x :: evB1L F r
theorem evB1L_er (F : SF) (l : List Operand) : B.erL (evB1L F l) = ev1L F.er l := by induction l with | nil => rfl | cons a r ih => simp only [evB1L, B.erL, ev1L, evB1_er, ih]
def vD (x : R D) : R (TV B) := x.bd fun d => R.ok (.v (false, [.fz d]))
def vB (x : Option B) : R (TV B) := match x with | some b => R.ok (.v (false, [b])) | none => none
def qopB (M : MB) (T : Nat → Option Ty) (F : SF) : Op → R (TV B)
  | .move x => R.ok (evB F x)
  | .pick c a b => (match evB1 F c with
    | .fz (.bool true b') => R.ok (match b' with | true => evB F a | false => evB F b)
    | _ => none)
  | .binOp op t x y _ => (match T t with
    | some ty => vD (binB M ty.kind op (evB1 F x) (evB1 F y))
    | none => none)
  | .unOp op _ x => vD (unCB M op (evB1 F x))
  | .load t x => (match T t with
    | some ty => (cellsR M F ty.size (evB1 F x)).bd fun as => oR (mkVB ty.agg as)
    | none => none)
  | .fieldAddr t x f => (match T t with
    | some ⟨.st fs, _, _, _, _⟩ => (match nth fs f with
      | some (_, 0, _) => none
      | some (off, _ + 1, _) => vB (fieldB off (evB1 F x))
      | none => none)
    | _ => none)
  | .indexAddr t x i => (match T t with
    | some ⟨.sl e, _, _, _, _⟩ => (match T e with
      | some ty => (indexB M F ty.size (evB1 F x) (evB1 F i)).bd fun a => R.ok (.v (false, [a]))
      | none => none)
    | _ => none)
  | .index t x i => (match T t with
    | some ⟨.str, _, _, _, _⟩ => (match evB1 F x, evB1 F i with
      | .fz (.str s), .fz (.int _ n) => some ([M.pIx n (M.sLen s)], .v (false, [.fz (.int .u8 (M.sAt s (M.toN n)))]))
      | _, _ => none)
    | _ => none)
  | .slice t x lo hi mx => (match T t with
    | some ⟨.str, _, _, _, _⟩ => sliceB M F true 0 (evB1 F x) (evO F lo) (evO F hi) (evO F mx)
    | some ⟨.sl e, _, _, _, _⟩ => (match T e with
      | some ty => sliceB M F false ty.size (evB1 F x) (evO F lo) (evO F hi) (evO F mx)
      | none => none)
    | _ => none)
  | .convert s t x => (match T s, T t with
    | some ⟨ks, _, _, _, _⟩, some ⟨.int k, _, _, _, _⟩ => (match evB1 F x with
      | .fz (.int _ n) => (match ks with
        | .int _ => R.ok (.v (false, [.fz (.int k (M.iWrap k n))]))
        | _ => none)
      | _ => none)
    | some ⟨.str, _, _, _, _⟩, some ⟨.str, _, _, _, _⟩ => (match evB1 F x with
      | .fz (.str s) => R.ok (.v (false, [.fz (.str s)]))
      | _ => none)
    | some ⟨.sl e, _, _, _, _⟩, some ⟨.str, _, _, _, _⟩ => (match T e with
      | some ⟨.int .u8, _, _, _, _⟩ => (bytesB M F (evB1 F x)).bd fun s => R.ok (.v (false, [.fz (.str s)]))
      | _ => none)
    | _, _ => none)
  | .extract x i => (match evB F x with
    | .tup xs => (match nth xs i with
      | some y => R.ok (.v y)
      | none => none)
    | _ => none)
  | .makeFunc (.func f) ⟨[]⟩ ⟨caps⟩ => R.ok (.v (false, [.clo f (evB1L F caps)]))
  | .build t ⟨parts⟩ => (match T t with
    | some ⟨.st fs, _, _, _, z⟩ => (match zDL z with
      | some ds => (match buildB F fs (fzB ds) parts with
        | some as => R.ok (.v (true, as))
        | none => none)
      | none => none)
    | _ => none)
  | .call ⟨.builtin .len, ⟨[x]⟩, ⟨[t]⟩⟩ => (match T t with
      | some ⟨.str, _, _, _, _⟩ => (match evB1 F x with | .fz (.str s) => R.ok (.v (false, [.fz (.int .i64 (M.nI (M.sLen s)))])) | _ => none)
      | some ⟨.sl _, _, _, _, _⟩ => (match lenB M (evB1 F x) with | some n => R.ok (.v (false, [.fz (.int .i64 n)])) | none => none)
      | _ => none)
  | .call ⟨.builtin .max, ⟨[x, y]⟩, _⟩ => (match evB1 F x, evB1 F y with
      | .fz (.int k a), .fz (.int k' b) => (match kindEq k k' with | true => R.ok (.v (false, [.fz (.int k (M.iMax a b))])) | false => none)
      | _, _ => none)
  | .call ⟨.builtin .min, ⟨[x, y]⟩, _⟩ => (match evB1 F x, evB1 F y with
      | .fz (.int k a), .fz (.int k' b) => (match kindEq k k' with | true => R.ok (.v (false, [.fz (.int k (M.iMin a b))])) | false => none)
      | _, _ => none)
  | _ => none
theorem vserL_get (xs : List (V1 B)) (i : Nat) : (vserL B.erL xs)[i]? = (xs[i]?).map (v1er B.erL) := by
  induction xs generalizing i with
  | nil => simp [vserL]
  | cons x r ih => cases i <;> simp [vserL, ih]
theorem qopB_sim (T : Nat → Option Ty) (F : SF) (op : Op) : (qopB stdB T F op).Sim fun v => qop std T F.er op = some (.val (v.er B.erL)) := by
  unfold qopB
  split
  · exact R.Sim.ok (by simp only [qop, evB_er])
  · rename_i c a b
    split
    · rename_i b' hc
      refine R.Sim.ok ?_
      have : ev1 F.er c = .fz (.bool b') := by rw [← evB1_er, hc]; rfl
      simp only [qop, this]
      cases b' <;> simp only [evB_er]
    · exact R.Sim.none'
  · split
    · rename_i ty ht
      refine R.Sim.bd (binB_sim _ _ _ _) fun d hd => R.Sim.ok ?_
      simp only [qop, ht, ← evB1_er, hd]
      rfl
    · exact R.Sim.none'
  · refine R.Sim.bd (unCB_sim _ _) fun d hd => R.Sim.ok ?_
    simp only [qop, ← evB1_er, hd]
    rfl
  · split
    · rename_i ty ht
      refine R.Sim.bd (cellsR_sim F _ _) fun as has => oR_sim fun v hv => ?_
      simp only [qop, ht, ← evB1_er, has, mkVB_er hv]
    · exact R.Sim.none'
  · split
    · rename_i fs g1 g2 g3 g4 ht
      split
      · exact R.Sim.none'
      · rename_i off sz g5 hf
        unfold vB
        split
        · rename_i y hy
          refine R.Sim.ok ?_
          simp only [qop, ht, hf, ← evB1_er, fieldB_er hy]
          rfl
        · exact R.Sim.none'
      · exact R.Sim.none'
    · exact R.Sim.none'
  · split
    · rename_i e g1 g2 g3 g4 ht
      split
      · rename_i ty hte
        refine R.Sim.bd (indexB_sim F _ _ _) fun y ⟨h1, h2⟩ => R.Sim.ok ?_
        simp only [qop, ht, hte, ← evB1_er, h1, h2]
        rfl
      · exact R.Sim.none'
    · exact R.Sim.none'
  · split
    · rename_i g1 g2 g3 g4 ht
      split
      · rename_i s k n hx hi
        refine R.Sim.mk fun hp => ?_
        obtain ⟨h1, h2⟩ := hp.one
        have h2 : n < (s.size : Int) := h2
        have hlt : n.toNat < s.size := by omega
        have hs : std.sAt s n = some (stdB.sAt s (stdB.toN n)) := by
          show (if 0 ≤ n then (s[n.toNat]?).map (fun b => (b.toNat : Int)) else none) = _
          rw [if_pos h1]
          simp [stdB, hlt]
        simp only [qop, ht, ← evB1_er, hx, hi, B.er, D.er, indexS, hs, valO]
        rfl
      · exact R.Sim.none'
    · exact R.Sim.none'
  · split
    · rename_i g1 g2 g3 g4 ht
      refine (sliceB_sim F true 0 _ _ _ _).mono fun v hv => ?_
      simp only [evO_er, evB1_er] at hv
      simp only [qop, ht]
      exact hv
    · rename_i e g1 g2 g3 g4 ht
      split
      · rename_i ty hte
        refine (sliceB_sim F false _ _ _ _ _).mono fun v hv => ?_
        simp only [evO_er, evB1_er] at hv
        simp only [qop, ht, hte]
        exact hv
      · exact R.Sim.none'
    · exact R.Sim.none'
  · split
    · rename_i ks _ _ _ _ k _ _ _ _ hs ht
      split
      · rename_i k' n hx
        split
        · refine R.Sim.ok ?_
          simp only [qop, hs, ht, ← evB1_er, hx, B.er, D.er]
          rfl
        · exact R.Sim.none'
      · exact R.Sim.none'
    · rename_i hs ht
      split
      · rename_i s hx
        refine R.Sim.ok ?_
        simp only [qop, hs, ht, ← evB1_er, hx, B.er, D.er]
        rfl
      · exact R.Sim.none'
    · rename_i e _ _ _ _ _ _ _ _ hs ht
      split
      · rename_i hte
        refine R.Sim.bd (bytesB_sim F _) fun s ⟨xs, h1, h2⟩ => R.Sim.ok ?_
        simp only [qop, hs, ht, hte, ← evB1_er, h1, h2]
        rfl
      · exact R.Sim.none'
    · exact R.Sim.none'
  · split
    · rename_i xs hx
      split
      · rename_i y hy
        refine R.Sim.ok ?_
        rw [nth_eq] at hy
        simp only [qop, ← evB_er, hx, TV.er, nth_eq, vserL_get, hy, Option.map_some]
      · exact R.Sim.none'
    · exact R.Sim.none'
  · refine R.Sim.ok ?_
    simp only [qop, TV.er, v1er, B.erL, B.er, evB1L_er]
  · split
    · rename_i fs _ _ _ z ht
      split
      · rename_i ds hz
        obtain ⟨h1, h2⟩ := zDL_er z hz
        split
        · rename_i as has
          refine R.Sim.ok ?_
          have := buildB_er F fs _ _ has
          rw [fzB_er, h1] at this
          simp only [qop, ht, h2, this]
          rfl
        · exact R.Sim.none'
      · exact R.Sim.none'
    · exact R.Sim.none'
  · split
    · rename_i ht
      split
      · rename_i s hx
        refine R.Sim.ok ?_
        simp only [qop, ht, ← evB1_er, hx, B.er, D.er]
        rfl
      · exact R.Sim.none'
    · rename_i ht
      split
      · rename_i n hn
        refine R.Sim.ok ?_
        simp only [qop, ht, ← evB1_er, lenB_er hn]
        rfl
      · exact R.Sim.none'
    · exact R.Sim.none'
  · split
    · rename_i k a k' b hx hy
      split
      · rename_i hk
        refine R.Sim.ok ?_
        simp only [qop, mxOp, evC, ← evB1_er, hx, hy, B.er, D.er, C?, fold1, mxA, hk]
        rfl
      · exact R.Sim.none'
    · exact R.Sim.none'
  · split
    · rename_i k a k' b hx hy
      split
      · rename_i hk
        refine R.Sim.ok ?_
        simp only [qop, mxOp, evC, ← evB1_er, hx, hy, B.er, D.er, C?, fold1, mxA, hk]
        rfl
      · exact R.Sim.none'
    · exact R.Sim.none'
  · exact R.Sim.none'
end Go.Proofs.Ytlmejcmnmdleaaa.Ai
