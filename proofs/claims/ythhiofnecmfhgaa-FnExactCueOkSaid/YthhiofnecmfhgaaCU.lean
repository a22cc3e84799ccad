/- What the functions of the law FnExactCueOk come to. -/
import Derived.Test.YthhiofnecmfhgaaSyA
import Derived.Test.YthhiofnecmfhgaaProg
import Derived.KernelRfl
namespace Go.Proofs.Ythhiofnecmfhgaa.Ai
open Go
set_option maxRecDepth 100000
set_option linter.unusedVariables false
set_option linter.unusedSimpArgs false
theorem ty1_3 : tyOf Try.prog 3 = some ({ kind := TK.int IntKind.i64, agg := false, size := 1, bytes := 8, zero := [C.int IntKind.i64 (Int.ofNat 0)] } : Ty) := by kernel_rfl
theorem ty1_26 : tyOf Try.prog 26 = some ({ kind := TK.st [(0, 1, false), (1, 1, false), (2, 1, false), (3, 1, false), (4, 1, false), (5, 1, false), (6, 1, false), (7, 1, false), (8, 1, false), (9, 1, false), (10, 1, false)], agg := true, size := 11, bytes := 96, zero := [C.str { data := { toList := [] } }, C.int IntKind.i64 (Int.ofNat 0), C.bool false, C.int IntKind.i64 (Int.ofNat 0), C.int IntKind.i64 (Int.ofNat 0), C.int IntKind.i64 (Int.ofNat 0), C.int IntKind.i64 (Int.ofNat 0), C.bool false, C.int IntKind.i64 (Int.ofNat 0), C.int IntKind.i64 (Int.ofNat 0), C.int IntKind.i64 (Int.ofNat 0)] } : Ty) := by kernel_rfl
theorem ty1_9 : tyOf Try.prog 9 = some ({ kind := TK.str, agg := false, size := 1, bytes := 16, zero := [C.str { data := { toList := [] } }] } : Ty) := by kernel_rfl
theorem ty1_23 : tyOf Try.prog 23 = some ({ kind := TK.st [(0, 1, false), (1, 1, false), (2, 1, false), (3, 1, false), (4, 1, false), (5, 1, false), (6, 1, false), (7, 1, false), (8, 1, false), (9, 1, false), (10, 1, false)], agg := true, size := 11, bytes := 96, zero := [C.str { data := { toList := [] } }, C.int IntKind.i64 (Int.ofNat 0), C.bool false, C.int IntKind.i64 (Int.ofNat 0), C.int IntKind.i64 (Int.ofNat 0), C.int IntKind.i64 (Int.ofNat 0), C.int IntKind.i64 (Int.ofNat 0), C.bool false, C.int IntKind.i64 (Int.ofNat 0), C.int IntKind.i64 (Int.ofNat 0), C.int IntKind.i64 (Int.ofNat 0)] } : Ty) := by kernel_rfl
theorem ty1_4 : tyOf Try.prog 4 = some ({ kind := TK.bool, agg := false, size := 1, bytes := 1, zero := [C.bool false] } : Ty) := by kernel_rfl
theorem ty1_5 : tyOf Try.prog 5 = some ({ kind := TK.int IntKind.u8, agg := false, size := 1, bytes := 1, zero := [C.int IntKind.u8 (Int.ofNat 0)] } : Ty) := by kernel_rfl
def T1 : List (Nat × Option Ty) := [(3, some ({ kind := TK.int IntKind.i64, agg := false, size := 1, bytes := 8, zero := [C.int IntKind.i64 (Int.ofNat 0)] } : Ty)), (26, some ({ kind := TK.st [(0, 1, false), (1, 1, false), (2, 1, false), (3, 1, false), (4, 1, false), (5, 1, false), (6, 1, false), (7, 1, false), (8, 1, false), (9, 1, false), (10, 1, false)], agg := true, size := 11, bytes := 96, zero := [C.str { data := { toList := [] } }, C.int IntKind.i64 (Int.ofNat 0), C.bool false, C.int IntKind.i64 (Int.ofNat 0), C.int IntKind.i64 (Int.ofNat 0), C.int IntKind.i64 (Int.ofNat 0), C.int IntKind.i64 (Int.ofNat 0), C.bool false, C.int IntKind.i64 (Int.ofNat 0), C.int IntKind.i64 (Int.ofNat 0), C.int IntKind.i64 (Int.ofNat 0)] } : Ty)), (9, some ({ kind := TK.str, agg := false, size := 1, bytes := 16, zero := [C.str { data := { toList := [] } }] } : Ty)), (23, some ({ kind := TK.st [(0, 1, false), (1, 1, false), (2, 1, false), (3, 1, false), (4, 1, false), (5, 1, false), (6, 1, false), (7, 1, false), (8, 1, false), (9, 1, false), (10, 1, false)], agg := true, size := 11, bytes := 96, zero := [C.str { data := { toList := [] } }, C.int IntKind.i64 (Int.ofNat 0), C.bool false, C.int IntKind.i64 (Int.ofNat 0), C.int IntKind.i64 (Int.ofNat 0), C.int IntKind.i64 (Int.ofNat 0), C.int IntKind.i64 (Int.ofNat 0), C.bool false, C.int IntKind.i64 (Int.ofNat 0), C.int IntKind.i64 (Int.ofNat 0), C.int IntKind.i64 (Int.ofNat 0)] } : Ty)), (4, some ({ kind := TK.bool, agg := false, size := 1, bytes := 1, zero := [C.bool false] } : Ty)), (5, some ({ kind := TK.int IntKind.u8, agg := false, size := 1, bytes := 1, zero := [C.int IntKind.u8 (Int.ofNat 0)] } : Ty))]
theorem T1_ok : TyOK Try.prog (look none T1) := tyOK_list (by simp only [T1, List.mem_cons, List.not_mem_nil, or_false, forall_eq_or_imp, forall_eq, ty1_3, ty1_26, ty1_9, ty1_23, ty1_4, ty1_5]; simp)
def K1 : List (Nat × Option EK) := [(3, some .i), (26, some .cue), (9, some .s), (23, some .cue), (5, some .u)]
def XX : SX := ⟨look none T1, fun t => look none K1 t⟩
theorem XX_ok : TyOK Try.prog XX.T := T1_ok
theorem wrap_i64 {n : Int} (h1 : -9223372036854775808 ≤ n) (h2 : n ≤ 9223372036854775807) : IntKind.i64.wrap n = n := IntWalk.i64_in n ⟨h1, h2⟩
theorem wrap_succ {i : Nat} (h : i < 9223372036854775807) : IntKind.i64.wrap ((i : Int) + 1) = ((i + 1 : Nat) : Int) := by
  rw [wrap_i64 (by omega) (by omega)]; rfl
/-- A text's length is a length. -/
structure SLen (s : ByteArray) : Prop where out : s.size ≤ maxLen
/-- Held back. -/
structure Hd (p : Prop) : Prop where out : p
/-! the plain side -/
def upTo (a b : Int) : Bool := decide (0 ≤ a ∧ a ≤ b)
def inB (n lo hi : Int) : Bool := decide (lo ≤ n ∧ n ≤ hi)
def bt (s : ByteArray) (i : Nat) : Int := (s[i]?.getD 0).toNat
def nameC (s : ByteArray) (i : Nat) : Bool := decide (97 ≤ bt s i ∧ bt s i ≤ 122 ∨ i ≠ 0 ∧ 48 ≤ bt s i ∧ bt s i ≤ 57)
def nameL (s : ByteArray) (i : Nat) : Bool := (List.range' i (s.size - i)).all (nameC s) && decide (1 ≤ s.size ∧ s.size ≤ 8)
theorem nameL_lt {s : ByteArray} {i : Nat} (h : i < s.size) : nameL s i = (nameC s i && nameL s (i + 1)) := by
  unfold nameL
  rw [show s.size - i = (s.size - (i + 1)) + 1 by omega, List.range'_succ, List.all_cons, Bool.and_assoc]
theorem nameL_no {s : ByteArray} {i : Nat} (h : i < s.size) (hc : ¬ (97 ≤ bt s i ∧ bt s i ≤ 122 ∨ i ≠ 0 ∧ 48 ≤ bt s i ∧ bt s i ≤ 57)) : nameL s i = false := by
  rw [nameL_lt h, nameC, decide_eq_false hc, Bool.false_and]
theorem nameL_yes {s : ByteArray} {i : Nat} (h : i < s.size) (hc : 97 ≤ bt s i ∧ bt s i ≤ 122 ∨ i ≠ 0 ∧ 48 ≤ bt s i ∧ bt s i ≤ 57) : nameL s i = nameL s (i + 1) := by
  rw [nameL_lt h, nameC, decide_eq_true hc, Bool.true_and]
theorem nameL_ge {s : ByteArray} {i : Nat} (h : s.size ≤ i) : nameL s i = decide (1 ≤ s.size ∧ s.size ≤ 8) := by
  unfold nameL
  rw [show s.size - i = 0 by omega]
  simp
def cueB (q : Cue) (i : Int) : Bool := nameL q.name 0 && decide (q.name.size ≤ 7 ∧ -1 ≤ q.after ∧ q.after < i ∧ ¬ (q.after = -1 ∧ q.atEnd = true) ∧ 0 ≤ q.low ∧ q.low ≤ q.high ∧ q.high ≤ 20 ∧ 0 ≤ q.min ∧ q.min ≤ q.max ∧ q.max ≤ 20 ∧ (q.free = true → 1 ≤ q.min) ∧ -3 ≤ q.cond ∧ q.cond ≤ 3 ∧ 0 ≤ q.watch ∧ q.watch ≤ 3 ∧ 0 ≤ q.device ∧ q.device ≤ 3)
/-! the functions -/
theorem isUpTo_ok (n m : Int) : SCall Try.prog 11 [aI n, aI m] (rB (upTo n m)) := by
  refine SCall.of XX_ok (fn := Try.f11) (c := Try.f11.body.getD .skip) (dr := fun n => look 0 [] n) Try.func11 rfl (by kernel_rfl) (by kernel_rfl) (by kernel_rfl) ?_
  refine SEx.walk (X := XX) XX_ok (fun n => look [] [] n) oraL_nil 100 ?_
  intro M R L N hM hR hL hN
  cases M
  cbv
  cases hM
  try dsimp only
  repeat' first | apply And.intro | (intro h; try simp only [Bool.not_eq_true', Bool.not_eq_false', decide_eq_true_eq, decide_eq_false_iff_not, Int.not_le, Int.not_lt, beq_iff_eq, beq_eq_false_iff_ne, ne_eq, Int.ofNat_eq_natCast, Int.toNat_natCast] at h) | (refine hR _ ?_) | (refine hL _ _ (Hd.out ?_)) | (refine hN _ _ (Hd.out ?_))
  all_goals simp only [er_B, upTo]
  all_goals (rw [Bool.eq_iff_iff]; simp; try omega)
def wUpTo (f : Int → Int → Bool) : Wr := w2 dcI dcI (fun x y => rB (f x y)) (fun _ _ => [])
theorem wUpTo_ok : WrOK Try.prog 11 (wUpTo upTo) := w2_ok fun x y _ => isUpTo_ok x y
theorem l01In_ok (a b c : Int) : SCall Try.prog 9 [aI a, aI b, aI c] (rB (inB a b c)) := by
  refine SCall.of XX_ok (fn := Try.f9) (c := Try.f9.body.getD .skip) (dr := fun n => look 0 [] n) Try.func9 rfl (by kernel_rfl) (by kernel_rfl) (by kernel_rfl) ?_
  refine SEx.walk (X := XX) XX_ok (fun n => look [] [] n) oraL_nil 100 ?_
  intro M R L N hM hR hL hN
  cases M
  cbv
  cases hM
  try dsimp only
  repeat' first | apply And.intro | (intro h; try simp only [Bool.not_eq_true', Bool.not_eq_false', decide_eq_true_eq, decide_eq_false_iff_not, Int.not_le, Int.not_lt, beq_iff_eq, beq_eq_false_iff_ne, ne_eq, Int.ofNat_eq_natCast, Int.toNat_natCast] at h) | (refine hR _ ?_) | (refine hL _ _ (Hd.out ?_)) | (refine hN _ _ (Hd.out ?_))
  all_goals simp only [er_B, inB]
  all_goals (rw [Bool.eq_iff_iff]; simp; try omega)
def wInB (f : Int → Int → Int → Bool) : Wr := w3 dcI dcI dcI (fun x y z => rB (f x y z)) (fun _ _ _ => [])
theorem wInB_ok : WrOK Try.prog 9 (wInB inB) := w3_ok fun x y z _ => l01In_ok x y z
/-- spec.IsName: a loop -/
theorem specIsName_ok (s : ByteArray) (hs : s.size ≤ maxLen) : SCall Try.prog 8 [aS s] (rB (nameL s 0)) := by
  refine SCall.of XX_ok (fn := Try.f8) (c := Try.f8.body.getD .skip) (dr := fun n => look 0 [] n) Try.func8 rfl (by kernel_rfl) (by kernel_rfl) (by kernel_rfl) ?_
  obtain ⟨f, hf⟩ : ∃ f, f = inB := ⟨_, rfl⟩
  have hO : SOraOK Try.prog (oraL [(9, wInB f)]) := by subst hf; exact oraL_cons wInB_ok oraL_nil
  unfold maxLen at hs
  refine SEx.walk (X := XX) XX_ok (fun n => look [] [(2, [0, 3])] n) hO 100 ?_
  intro M R L N hM hR hL hN
  cases M
  cbv
  cases hM
  try dsimp only
  refine hL _ _ ?_
  clear hR hL hN R L N
  generalize hks : (List.cons _ _ : List K) = ks
  refine SEx.same (SEx.ind (fun i : Nat => ⟨42, [(0, .v (false, [.fz (.str s)])), (3, .v (false, [.fz (.int .i64 i)]))], []⟩) (fun i => rB (nameL s i)) (fun i => i ≤ s.size) (fun i => s.size - i) 0 (Nat.zero_le _) ?_) rfl rfl
  intro i hi ih
  rw [← hks]
  refine SEx.walk (X := XX) XX_ok (fun n => look [] [(2, [0, 3])] n) hO 100 ?_
  intro M R L N hM hR hL hN
  cases M
  cbv
  cases hM
  try dsimp only
  repeat' first | apply And.intro | (intro h; try simp only [Bool.not_eq_true', Bool.not_eq_false', decide_eq_true_eq, decide_eq_false_iff_not, Int.not_le, Int.not_lt, beq_iff_eq, beq_eq_false_iff_ne, ne_eq, Int.ofNat_eq_natCast, Int.toNat_natCast] at h) | (refine hR _ ?_) | (refine hL _ _ (Hd.out ?_)) | (refine hN _ _ (Hd.out ?_))
  all_goals simp only [Int.ofNat_eq_natCast, hks, er_B]
  all_goals (try simp only [wrap_succ (show i < 9223372036854775807 by omega)])
  all_goals first
    | omega
    | (rw [nameL_no] <;> (try unfold bt) <;> omega)
    | (rw [nameL_yes (by omega) (by unfold bt; omega)]; exact ⟨ih (i + 1) (by omega) (by omega)⟩)
    | (rw [hf, nameL_ge (by omega)]; unfold inB; rw [Bool.eq_iff_iff]; simp only [decide_eq_true_eq]; omega)
/-- impl.IsName -/
theorem implIsName_ok (s : ByteArray) (hs : s.size ≤ maxLen) : SCall Try.prog 10 [aS s] (rB (nameL s 0)) := by
  refine SCall.of XX_ok (fn := Try.f10) (c := Try.f10.body.getD .skip) (dr := fun n => look 0 [(4, 22)] n) Try.func10 rfl (by kernel_rfl) (by kernel_rfl) (by kernel_rfl) ?_
  unfold maxLen at hs
  refine SEx.walk (X := XX) XX_ok (fun n => look [] [(2, [0, 3])] n) oraL_nil 100 ?_
  intro M R L N hM hR hL hN
  cases M
  cbv
  cases hM
  try dsimp only
  refine hL _ _ ?_
  clear hR hL hN R L N
  generalize hks : (List.cons _ _ : List K) = ks
  refine SEx.same (SEx.ind (fun i : Nat => ⟨50, [(0, .v (false, [.fz (.str s)])), (3, .v (false, [.fz (.int .i64 i)]))], []⟩) (fun i => rB (nameL s i)) (fun i => i ≤ s.size) (fun i => s.size - i) 0 (Nat.zero_le _) ?_) rfl rfl
  intro i hi ih
  rw [← hks]
  refine SEx.walk (X := XX) XX_ok (fun n => look [] [(2, [0, 3])] n) oraL_nil 100 ?_
  intro M R L N hM hR hL hN
  cases M
  cbv
  cases hM
  try dsimp only
  repeat' first | apply And.intro | (intro h; try simp only [Bool.not_eq_true', Bool.not_eq_false', decide_eq_true_eq, decide_eq_false_iff_not, Int.not_le, Int.not_lt, beq_iff_eq, beq_eq_false_iff_ne, ne_eq, Int.ofNat_eq_natCast, Int.toNat_natCast] at h) | (refine hR _ ?_) | (refine hL _ _ (Hd.out ?_)) | (refine hN _ _ (Hd.out ?_))
  all_goals simp only [Int.ofNat_eq_natCast, hks, er_B]
  all_goals (try simp only [wrap_succ (show i < 9223372036854775807 by omega)])
  all_goals first
    | omega
    | (rw [nameL_no] <;> (try unfold bt) <;> omega)
    | (rw [nameL_yes (by omega) (by unfold bt; omega)]; exact ⟨ih (i + 1) (by omega) (by omega)⟩)
    | (rw [nameL_ge (by omega), Bool.eq_iff_iff]; simp only [decide_eq_true_eq, Bool.false_eq_true, false_iff]; omega)
def wNameS (f : ByteArray → Bool) : Wr := w1 dcS (fun x => rB (f x)) (fun x => [SLen x])
theorem wNameS_ok : WrOK Try.prog 8 (wNameS (nameL · 0)) := w1_ok fun x h => specIsName_ok x (h _ List.mem_cons_self).out
theorem wNameI_ok : WrOK Try.prog 10 (wNameS (nameL · 0)) := w1_ok fun x h => implIsName_ok x (h _ List.mem_cons_self).out
def szCueI (q : Cue) (n : Int) : Int := if n < q.name.size then -1 else n - q.name.size
theorem szCue_ok (q : Cue) (n : Int) (hs : q.name.size ≤ maxLen) (hn : 0 ≤ n ∧ n ≤ 9223372036854775807) : SCall Try.prog 4 [aCue q, aI n] (rI (szCueI q n)) := by
  refine SCall.of XX_ok (fn := Try.f4) (c := Try.f4.body.getD .skip) (dr := fun n => look 0 [] n) Try.func4 rfl (by kernel_rfl) (by kernel_rfl) (by kernel_rfl) ?_
  unfold maxLen at hs
  obtain ⟨x1, x2, x3, x4, x5, x6, x7, x8, x9, x10, x11⟩ := q
  have hs : x1.size ≤ 2 ^ 63 - 1 := hs
  refine SEx.walk (X := XX) XX_ok (fun n => look [] [] n) oraL_nil 100 ?_
  intro M R L N hM hR hL hN
  cases M
  cbv
  cases hM
  try dsimp only
  repeat' first | apply And.intro | (intro h; try simp only [Bool.not_eq_true', Bool.not_eq_false', decide_eq_true_eq, decide_eq_false_iff_not, Int.not_le, Int.not_lt, beq_iff_eq, beq_eq_false_iff_ne, ne_eq, Int.ofNat_eq_natCast, Int.toNat_natCast] at h) | (refine hR _ ?_) | (refine hL _ _ (Hd.out ?_)) | (refine hN _ _ (Hd.out ?_))
  all_goals rw [wrap_i64 (by omega) (by omega)] at *
  all_goals simp only [er_I, szCueI]
  all_goals split <;> omega
theorem toCue_ok (q : Cue) : SCall Try.prog 6 [aCue q] (rCue q) := by
  refine SCall.of XX_ok (fn := Try.f6) (c := Try.f6.body.getD .skip) (dr := fun n => look 0 [] n) Try.func6 rfl (by kernel_rfl) (by kernel_rfl) (by kernel_rfl) ?_
  obtain ⟨x1, x2, x3, x4, x5, x6, x7, x8, x9, x10, x11⟩ := q
  refine SEx.walk (X := XX) XX_ok (fun n => look [] [] n) oraL_nil 100 ?_
  intro M R L N hM hR hL hN
  cases M
  cbv
  cases hM
  try dsimp only
  repeat' first | apply And.intro | (intro h; try simp only [Bool.not_eq_true', Bool.not_eq_false', decide_eq_true_eq, decide_eq_false_iff_not, Int.not_le, Int.not_lt, beq_iff_eq, beq_eq_false_iff_ne, ne_eq, Int.ofNat_eq_natCast, Int.toNat_natCast] at h) | (refine hR _ ?_) | (refine hL _ _ (Hd.out ?_)) | (refine hN _ _ (Hd.out ?_))
  rfl
def wSzCue (f : Cue → Int → Int) : Wr := w2 dcCue dcI (fun q n => rI (f q n)) (fun q n => [SLen q.name, 0 ≤ n, n ≤ 9223372036854775807])
theorem wSzCue_ok : WrOK Try.prog 4 (wSzCue szCueI) := w2_ok fun q n h => szCue_ok q n (h _ (.head _)).out ⟨h _ (.tail _ (.head _)), h _ (.tail _ (.tail _ (.head _)))⟩
def wToCue : Wr := w1 dcCue rCue (fun _ => [])
theorem wToCue_ok : WrOK Try.prog 6 wToCue := w1_ok fun q _ => toCue_ok q
end Go.Proofs.Ythhiofnecmfhgaa.Ai
