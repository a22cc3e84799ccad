/- The law's proof, part 5 of 10: what of its author's texts it needs; no condition. -/
import Derived.Test.YtececadpjelanaaGreatProg
import Derived.KernelRfl
import Derived.Test.YtececadpjelanaaGreatZcD
set_option linter.unusedSectionVars false
set_option linter.unusedSimpArgs false
set_option linter.unusedVariables false
namespace Go.Proofs.YtececadpjelanaaGreat.Ai
open Go
set_option maxRecDepth 100000
variable [qh]
def tr3 : Ty := { kind := TK.int IntKind.i64, agg := false, size := 1, bytes := 8, zero := [C.int IntKind.i64 (Int.ofNat 0)] }
theorem ty3 : kR Tryz.prog 3 = some tr3 := by kernel_rfl
def tr4 : Ty := { kind := TK.bool, agg := false, size := 1, bytes := 1, zero := [C.bool false] }
theorem ty4 : kR Tryz.prog 4 = some tr4 := by kernel_rfl
def tr5 : Ty := { kind := TK.int IntKind.u8, agg := false, size := 1, bytes := 1, zero := [C.int IntKind.u8 (Int.ofNat 0)] }
theorem ty5 : kR Tryz.prog 5 = some tr5 := by kernel_rfl
def tr9 : Ty := { kind := TK.str, agg := false, size := 1, bytes := 16, zero := [C.str { data := { toList := [] } }] }
theorem ty9 : kR Tryz.prog 9 = some tr9 := by kernel_rfl
def tr22 : Ty := { kind := TK.sl 85, agg := false, size := 1, bytes := 24, zero := [C.nilsl] }
theorem ty22 : kR Tryz.prog 22 = some tr22 := by kernel_rfl
def tr23 : Ty := { kind := TK.sl 94, agg := false, size := 1, bytes := 24, zero := [C.nilsl] }
theorem ty23 : kR Tryz.prog 23 = some tr23 := by kernel_rfl
def tr25 : Ty := { kind := TK.st [(0, 1, false), (1, 1, false), (2, 1, false)], agg := true, size := 3, bytes := 56, zero := [C.nilsl, C.nilsl, C.int IntKind.i64 (Int.ofNat 0)] }
theorem ty25 : kR Tryz.prog 25 = some tr25 := by kernel_rfl
def tr26 : Ty := { kind := TK.sl 3, agg := false, size := 1, bytes := 24, zero := [C.nilsl] }
theorem ty26 : kR Tryz.prog 26 = some tr26 := by kernel_rfl
def tr28 : Ty := { kind := TK.st [(0, 1, false), (1, 1, false), (2, 1, false)], agg := true, size := 3, bytes := 56, zero := [C.int IntKind.i64 (Int.ofNat 0), C.nilsl, C.nilsl] }
theorem ty28 : kR Tryz.prog 28 = some tr28 := by kernel_rfl
def tr31 : Ty := { kind := TK.sl 26, agg := false, size := 1, bytes := 24, zero := [C.nilsl] }
theorem ty31 : kR Tryz.prog 31 = some tr31 := by kernel_rfl
def tr33 : Ty := { kind := TK.sl 91, agg := false, size := 1, bytes := 24, zero := [C.nilsl] }
theorem ty33 : kR Tryz.prog 33 = some tr33 := by kernel_rfl
def tr34 : Ty := { kind := TK.sl 90, agg := false, size := 1, bytes := 24, zero := [C.nilsl] }
theorem ty34 : kR Tryz.prog 34 = some tr34 := by kernel_rfl
def tr36 : Ty := { kind := TK.st [(0, 1, false), (1, 1, false), (2, 1, false)], agg := true, size := 3, bytes := 56, zero := [C.nilsl, C.nilsl, C.int IntKind.i64 (Int.ofNat 0)] }
theorem ty36 : kR Tryz.prog 36 = some tr36 := by kernel_rfl
def tr38 : Ty := { kind := TK.st [(0, 1, false), (1, 1, false), (2, 1, false)], agg := true, size := 3, bytes := 56, zero := [C.int IntKind.i64 (Int.ofNat 0), C.nilsl, C.nilsl] }
theorem ty38 : kR Tryz.prog 38 = some tr38 := by kernel_rfl
def tr64 : Ty := { kind := TK.int IntKind.u64, agg := false, size := 1, bytes := 8, zero := [C.int IntKind.u64 (Int.ofNat 0)] }
theorem ty64 : kR Tryz.prog 64 = some tr64 := by kernel_rfl
def tr85 : Ty := { kind := TK.st [(0, 1, false), (1, 1, false), (2, 1, false)], agg := true, size := 3, bytes := 48, zero := [C.str { data := { toList := [] } }, C.nilsl, C.int IntKind.i64 (Int.ofNat 0)] }
theorem ty85 : kR Tryz.prog 85 = some tr85 := by kernel_rfl
def tr90 : Ty := { kind := TK.st [(0, 1, false), (1, 1, false), (2, 1, false), (3, 1, false), (4, 1, false)], agg := true, size := 5, bytes := 40, zero := [C.int IntKind.i64 (Int.ofNat 0), C.int IntKind.i64 (Int.ofNat 0), C.int IntKind.i64 (Int.ofNat 0), C.int IntKind.i64 (Int.ofNat 0), C.bool false] }
theorem ty90 : kR Tryz.prog 90 = some tr90 := by kernel_rfl
def tr91 : Ty := { kind := TK.st [(0, 1, false), (1, 1, false), (2, 1, false)], agg := true, size := 3, bytes := 48, zero := [C.str { data := { toList := [] } }, C.nilsl, C.int IntKind.i64 (Int.ofNat 0)] }
theorem ty91 : kR Tryz.prog 91 = some tr91 := by kernel_rfl
def tr94 : Ty := { kind := TK.st [(0, 1, false), (1, 1, false), (2, 1, false), (3, 1, false), (4, 1, false)], agg := true, size := 5, bytes := 40, zero := [C.int IntKind.i64 (Int.ofNat 0), C.int IntKind.i64 (Int.ofNat 0), C.int IntKind.i64 (Int.ofNat 0), C.int IntKind.i64 (Int.ofNat 0), C.bool false] }
theorem ty94 : kR Tryz.prog 94 = some tr94 := by kernel_rfl
def tr103 : Ty := { kind := TK.mp 9 4, agg := false, size := 1, bytes := 8, zero := [C.un] }
theorem ty103 : kR Tryz.prog 103 = some tr103 := by kernel_rfl
def tr105 : Ty := { kind := TK.st [(0, 3, true), (3, 1, false)], agg := true, size := 4, bytes := 64, zero := [C.nilsl, C.nilsl, C.int IntKind.i64 (Int.ofNat 0), C.un] }
theorem ty105 : kR Tryz.prog 105 = some tr105 := by kernel_rfl
def tr118 : Ty := { kind := TK.sl 5, agg := false, size := 1, bytes := 24, zero := [C.nilsl] }
theorem ty118 : kR Tryz.prog 118 = some tr118 := by kernel_rfl
def tr122 : Ty := { kind := TK.sl 4, agg := false, size := 1, bytes := 24, zero := [C.nilsl] }
theorem ty122 : kR Tryz.prog 122 = some tr122 := by kernel_rfl
def tr136 : Ty := { kind := TK.int IntKind.i64, agg := false, size := 1, bytes := 8, zero := [C.int IntKind.i64 (Int.ofNat 0)] }
theorem ty136 : kR Tryz.prog 136 = some tr136 := by kernel_rfl
def tr144 : Ty := { kind := TK.int IntKind.u32, agg := false, size := 1, bytes := 4, zero := [C.int IntKind.u32 (Int.ofNat 0)] }
theorem ty144 : kR Tryz.prog 144 = some tr144 := by kernel_rfl
def tr146 : Ty := { kind := TK.int IntKind.u64, agg := false, size := 1, bytes := 8, zero := [C.int IntKind.u64 (Int.ofNat 0)] }
theorem ty146 : kR Tryz.prog 146 = some tr146 := by kernel_rfl
def tr155 : Ty := { kind := TK.int IntKind.u64, agg := false, size := 1, bytes := 8, zero := [C.int IntKind.u64 (Int.ofNat 0)] }
theorem ty155 : kR Tryz.prog 155 = some tr155 := by kernel_rfl
def TT : List (Nat × Option Ty) := [(3, some tr3), (26, some tr26), (36, some tr36), (38, some tr38), (91, some tr91), (33, some tr33), (90, some tr90), (4, some tr4), (34, some tr34), (31, some tr31), (9, some tr9), (64, some tr64), (25, some tr25), (28, some tr28), (85, some tr85), (5, some tr5), (94, some tr94), (22, some tr22), (23, some tr23), (105, some tr105), (144, some tr144), (146, some tr146), (103, some tr103), (118, some tr118), (122, some tr122), (155, some tr155), (136, some tr136)]
def XX : SX := { T := qa none TT, K := fun t => qa none [(3, some .i), (26, some .ii), (91, some .node), (90, some .tie), (4, some .b), (9, some .s), (85, some .node), (5, some .u), (94, some .tie), (136, some .i)] t }
theorem qc : ki Tryz.prog XX.T := qkp (by simp only [TT, List.mem_cons, List.not_mem_nil, or_false, forall_eq_or_imp, forall_eq, ty3, ty26, ty36, ty38, ty91, ty33, ty90, ty4, ty34, ty31, ty9, ty64, ty25, ty28, ty85, ty5, ty94, ty22, ty23, ty105, ty144, ty146, ty103, ty118, ty122, ty155, ty136]; simp)
def qrD : List (Nat × Option (List Nat)) := [(2, some [0]), (3, some [1]), (4, some [1, 2]), (5, some [1, 2, 3]), (6, some [1, 2, 3, 4]), (7, some [1, 2, 3, 5]), (8, some [1, 2, 3, 6]), (9, some [1, 2, 3]), (10, some [1, 2, 3, 8]), (11, some [1, 2, 3, 9]), (12, some [1, 2, 3, 10]), (13, some [1, 2, 3]), (14, some [2, 3, 12]), (15, some [2, 3, 13]), (16, some [2, 3])]
def qrm : List (Nat × Option (List Nat)) := [(2, some [0]), (3, some [1]), (4, some [1, 2]), (5, some [1, 2, 3]), (6, some [1, 2, 3, 4]), (7, some [1, 2, 3, 5]), (8, some [1, 2, 3]), (9, some [1, 2, 3, 7]), (10, some [1, 2, 3, 8]), (11, some [1, 2, 3, 9]), (12, some [1, 2, 3]), (13, some [2, 3, 11]), (14, some [2, 3, 12]), (15, some [2, 3, 13]), (16, some [2, 3])]
end Go.Proofs.YtececadpjelanaaGreat.Ai
namespace Go.Proofs.YtececadpjelanaaGreat.Ai
open Go
set_option maxRecDepth 100000
variable [qh]
def bI (n : Int) : TV B := .v (false, [.fz (.int .i64 n)])
def bS (s : ByteArray) : TV B := .v (false, [.fz (.str s)])
def bL (x : LL) : TV B := .v (false, [.fz (.sl x)])
def bR (r len : Nat) : TV B := .v (false, [.rf (r, []) true 0 len])
def bP (r : Nat) : TV B := .v (false, [.pp (r, []) (true, 0) 0])
theorem sm : type_of% (Bool.not_eq_true') ∧ type_of% (Bool.not_eq_false') ∧ type_of% (@decide_eq_true_eq) ∧ type_of% (@decide_eq_false_iff_not) ∧ type_of% (@Int.not_le) ∧ type_of% (@Int.not_lt) ∧ type_of% (@beq_iff_eq.{0}) ∧ type_of% (@beq_eq_false_iff_ne.{0}) ∧ type_of% (@ne_eq.{1}) ∧ type_of% (@Int.ofNat_eq_natCast) ∧ type_of% (@Int.toNat_natCast) ∧ type_of% (@List.length_replicate.{0}) ∧ type_of% (@qef) ∧ type_of% (@Nat.sub_zero) ∧ type_of% (@List.drop_zero.{0}) ∧ type_of% (@Cue.eta) ∧ type_of% (@Tie.eta) ∧ type_of% (@Edge.eta) ∧ type_of% (@jZ.eta) ∧ type_of% (@qi.eta) := ⟨Bool.not_eq_true', Bool.not_eq_false', @decide_eq_true_eq, @decide_eq_false_iff_not, @Int.not_le, @Int.not_lt, @beq_iff_eq.{0}, @beq_eq_false_iff_ne.{0}, @ne_eq.{1}, @Int.ofNat_eq_natCast, @Int.toNat_natCast, @List.length_replicate.{0}, @qef, @Nat.sub_zero, @List.drop_zero.{0}, @Cue.eta, @Tie.eta, @Edge.eta, @jZ.eta, @qi.eta⟩
theorem SEx.idx {P : Program} {T : Nat → Option Ty} {dr : Nat → Nat} {rs : Array ResultVar} {ks : List K} (n : Nat) (f : Nat → SF) (R : Nat → TV W)
 (step : ∀ i, i ≤ n → (i < n → SEx P T dr rs ks (f (i + 1)) (R (i + 1))) → SEx P T dr rs ks (f i) (R i)) : SEx P T dr rs ks (f 0) (R 0) :=
 SEx.ind f R (fun i => i ≤ n) (fun i => n - i) 0 (Nat.zero_le _) fun i hi ih => step i hi fun h => ih (i + 1) (by omega) (by omega)
theorem SEx.idxS {P : Program} {T : Nat → Option Ty} {dr : Nat → Nat} {rs : Array ResultVar} {ks : List K} {α : Type} (n : Nat) (f : Nat → α → SF) (R : Nat → α → TV W) (Inv : Nat → α → Prop) (s0 : α) (h0 : Inv 0 s0)
 (step : ∀ i s, i ≤ n → Inv i s → (∀ s', i < n → Inv (i + 1) s' → SEx P T dr rs ks (f (i + 1) s') (R (i + 1) s')) → SEx P T dr rs ks (f i s) (R i s)) : SEx P T dr rs ks (f 0 s0) (R 0 s0) :=
 SEx.ind (fun x : Nat × α => f x.1 x.2) (fun x => R x.1 x.2) (fun x => x.1 ≤ n ∧ Inv x.1 x.2) (fun x => n - x.1) (0, s0) ⟨Nat.zero_le _, h0⟩ fun x hx ih => step x.1 x.2 hx.1 hx.2 fun s' h hI => ih (x.1 + 1, s') ⟨by show x.1 + 1 ≤ n; omega, hI⟩ (by show n - (x.1 + 1) < n - x.1; omega)
structure Vb {α : Type} (a b : α) : Prop where out : a = b
structure LLe {α : Type} (l : List α) (n : Nat) : Prop where out : l.length ≤ n
theorem qx {n : Int} (h1 : -9223372036854775808 ≤ n) (h2 : n ≤ 9223372036854775807) : IntKind.i64.wrap n = n := IntWalk.i64_in n ⟨h1, h2⟩
theorem qg {i : Nat} (h : i < 9223372036854775807) : IntKind.i64.wrap ((i : Int) + 1) = ((i + 1 : Nat) : Int) := by
 rw [qx (by omega) (by omega)]; rfl
structure qrA (s : ByteArray) : Prop where out : s.size ≤ maxLen
structure qg1 (n : Int) : Prop where out : 0 ≤ n ∧ n ≤ 9223372036854775807
structure Hd (p : Prop) : Prop where out : p
theorem zI : (1048576 : Int) ≤ lim := by decide
theorem zB {α : Type} {l : List α} {i : Nat} {z : α} (h : i < l.length) : l.getD i z = l[i] := by rw [List.getD_eq_getElem?_getD, List.getElem?_eq_getElem h, Option.getD_some]
def eqS (a b : ByteArray) : Bool := a.toList == b.toList
def zR {α : Type} (p : α → Bool) : List α → Nat → Int
 | [], _ => -1
 | a :: r, n => if p a = true then n else zR p r (n + 1)
theorem qit {α : Type} {p : α → Bool} {l : List α} {i n : Nat} (z : α) (h : i < l.length) : zR p (l.drop i) n = if p (l.getD i z) = true then (n : Int) else zR p (l.drop (i + 1)) (n + 1) := by
 rw [List.drop_eq_getElem_cons h, List.getD_eq_getElem?_getD, List.getElem?_eq_getElem h, Option.getD_some]; rfl
theorem jP {α : Type} {p : α → Bool} {l : List α} {i n : Nat} (z : α) (h : i < l.length) (hp : p (l.getD i z) = true) : zR p (l.drop i) n = n := by rw [qit z h, if_pos hp]
theorem QW {α : Type} {p : α → Bool} {l : List α} {i n : Nat} (z : α) (h : i < l.length) (hp : p (l.getD i z) = false) : zR p (l.drop i) n = zR p (l.drop (i + 1)) (n + 1) := by rw [qit z h, hp]; rfl
theorem jT {α : Type} {p : α → Bool} {l : List α} {i n : Nat} (h : l.length ≤ i) : zR p (l.drop i) n = -1 := by rw [List.drop_eq_nil_of_le h]; rfl
def qrE (k : Nat) : Dc ByteArray := ⟨fun s => aF k [.ptr [.str s]], fun | (false, [.fn f [.ptr [.str s]]]) => (match nq f k with | true => some s | false => none) | _ => none, by
 intro x a h
 split at h
 · split at h
   · rename_i hk
     obtain rfl := QG.1 hk
     simp only [Option.some.injEq] at h; subst h; rfl
   · cases h
 · cases h⟩
structure qmH (g' g : FuncId) (r : List (V1 D)) (caps : List D) : Prop where
 fn : g' = g
 caps : r = Qf caps
structure Mem {α : Type} (x : α) (l : List α) : Prop where out : x ∈ l
theorem qo {α : Type} {l : List α} {i : Nat} {z : α} (h : i < l.length) : Mem (l.getD i z) l := ⟨by rw [List.getD_eq_getElem?_getD, List.getElem?_eq_getElem h, Option.getD_some]; exact List.getElem_mem _⟩
def qmt {α : Type} (d : Dc α) (g : FuncId) (caps : List D) (l : List α) (p : α → Bool) : jX := fun g' as' => match as' with
 | x :: r => (match d.dec x with
   | some q => some ([qmH g' g r caps, Mem q l], rB (p q))
   | none => none)
 | [] => none
theorem qbI {P : Program} {α : Type} {d : Dc α} {g : FuncId} {caps : List D} {l : List α} {p : α → Bool} (hp : ∀ q ∈ l, qe P g (d.enc q :: Qf caps) (rB (p q))) : qp P (qmt d g caps l p) := by
 intro g' as'
 unfold qmt
 split
 · split
   · rename_i hx
     refine R.Sim.mk fun hq => ?_
     obtain ⟨rfl, rfl⟩ := hq _ (.head _)
     exact (hp _ (hq _ (.tail _ (.head _))).out).er (by simp only [qw, d.ok _ _ hx]) rfl
   · exact R.Sim.none'
 · exact R.Sim.none'
theorem ve {α : Type} (p : α → Bool) : ∀ (l : List α) (n : Nat), decide (0 ≤ zR p l n) = l.any p
 | [], n => rfl
 | a :: r, n => by
   unfold zR
   rw [List.any_cons]
   cases h : p a with
   | true => rw [if_pos rfl]; simp
   | false => rw [if_neg (by simp)]; exact ve p r (n + 1)
def qz {α : Type} (p : Nat → α → Bool) : List α → Nat → Bool
 | [], _ => true
 | a :: r, n => p n a && qz p r (n + 1)
theorem VM {α : Type} {p : Nat → α → Bool} {l : List α} {i n : Nat} (z : α) (h : i < l.length) : qz p (l.drop i) n = (p n (l.getD i z) && qz p (l.drop (i + 1)) (n + 1)) := by
 rw [List.drop_eq_getElem_cons h, List.getD_eq_getElem?_getD, List.getElem?_eq_getElem h, Option.getD_some]; rfl
theorem w7 {α : Type} {p : Nat → α → Bool} {l : List α} {i n : Nat} (z : α) (h : i < l.length) (hp : p n (l.getD i z) = true) : qz p (l.drop i) n = qz p (l.drop (i + 1)) (n + 1) := by rw [VM z h, hp]; rfl
theorem wh {α : Type} {p : Nat → α → Bool} {l : List α} {i n : Nat} (z : α) (h : i < l.length) (hp : p n (l.getD i z) = false) : qz p (l.drop i) n = false := by rw [VM z h, hp]; rfl
theorem qlU {α : Type} {p : Nat → α → Bool} {l : List α} {i n : Nat} (h : l.length ≤ i) : qz p (l.drop i) n = true := by rw [List.drop_eq_nil_of_le h]; rfl
theorem J8 {α : Type} {p q : Nat → α → Bool} : ∀ (l : List α) (n : Nat), (∀ i a, l[i]? = some a → p (n + i) a = q (n + i) a) → qz p l n = qz q l n
 | [], _, _ => rfl
 | a :: r, n, h => by
   have h1 : qz p r (n + 1) = qz q r (n + 1) := J8 r (n + 1) fun i b hi => by
    have := h (i + 1) b (by simpa using hi)
    rwa [show n + (i + 1) = n + 1 + i by omega] at this
   show (p n a && qz p r (n + 1)) = (q n a && qz q r (n + 1))
   rw [h1, show p n a = q n a from h 0 a rfl]
def wCl {α : Type} (d : Dc α) (g : FuncId) (caps : List D) (f : α → TV W) (p : α → List Prop) : Wr
 | [x, (false, [.fn g' caps'])] => (match d.dec x with | some l => some (Vb g' g :: Vb caps' caps :: p l, f l) | none => none)
 | _ => none
theorem qco {P : Program} {k : FuncId} {α : Type} {d : Dc α} {g : FuncId} {caps : List D} {f : α → TV W} {p : α → List Prop} (h : ∀ l, Holds (p l) → qe P k [d.enc l, aF g caps] (f l)) : qC P k (wCl d g caps f p) := by
 intro xs
 unfold wCl
 split
 · split
   · rename_i hx
     refine R.Sim.mk fun hq => ?_
     obtain ⟨rfl⟩ := hq _ (.head _)
     obtain ⟨rfl⟩ := hq _ (.tail _ (.head _))
     exact (h _ fun r hr => hq r (.tail _ (.tail _ hr))).er (by simp only [qw, d.ok _ _ hx]; rfl) rfl
   · exact R.Sim.none'
 · exact R.Sim.none'
theorem w5 {α : Type} {p : Nat → α → Bool} {l : List α} {i : Nat} {c : Bool} (z : α) (h : i < l.length) (hp : p i (l.getD i z) = true) : (qz p (l.drop i) i && c) = (qz p (l.drop (i + 1)) (i + 1) && c) := by rw [w7 z h hp]
theorem WO {α : Type} {p : Nat → α → Bool} {l : List α} {i : Nat} {c : Bool} (z : α) (h : i < l.length) (hp : p i (l.getD i z) = false) : (qz p (l.drop i) i && c) = false := by rw [wh z h hp]; rfl
theorem qK {α : Type} {p : Nat → α → Bool} {l : List α} {i : Nat} {c : Bool} (h : l.length ≤ i) : (qz p (l.drop i) i && c) = c := by rw [qlU h]; rfl
theorem qbD {α : Type} (p : α → Bool) : ∀ (l : List α) (n : Nat), zR p l n < n + l.length ∧ (zR p l n = -1 ∨ (n : Int) ≤ zR p l n)
 | [], n => by simp [zR]; omega
 | a :: r, n => by
   have := qbD p r (n + 1)
   unfold zR
   simp only [List.length_cons]
   split <;> omega
theorem qO {a b : Bool} (h : b = a) (k : Bool) : eR (.v (false, [.fz (.bool k a)])) = eR (rB b) := by rw [jj]; exact h.symm
structure q8 (p A B : Bool) : Prop where
 yes : p = true → A = B
 no : p = false → A = false
theorem q8.of {α : Type} (p : Nat → α → Bool) (l : List α) (i : Nat) (c : Bool) (z : α) (h : i < l.length) : q8 (p i (l.getD i z)) (qz p (l.drop i) i && c) (qz p (l.drop (i + 1)) (i + 1) && c) := ⟨w5 z h, WO z h⟩
theorem q8.stop {p A B : Bool} (h : q8 p A B) (k : Bool) (hp : p = false) : eR (.v (false, [.fz (.bool k false)])) = eR (rB A) := qO (h.no hp) k
theorem q8.go {p A B : Bool} (h : q8 p A B) (hp : p = true) : eR (rB B) = eR (rB A) := by rw [h.yes hp]
theorem q8.stopN {p A B : Bool} (h : q8 p A B) (k : Bool) (hp : p = false) : eR (.v (false, [.fz (.bool k true)])) = eR (rB (!A)) := qO (by rw [h.no hp]; rfl) k
theorem q8.goN {p A B : Bool} (h : q8 p A B) (hp : p = true) : eR (rB (!B)) = eR (rB (!A)) := by rw [h.yes hp]
end Go.Proofs.YtececadpjelanaaGreat.Ai
namespace Go.Proofs.YtececadpjelanaaGreat.Ai
open Go
set_option maxRecDepth 100000
variable [qh]
theorem WF (l : List Int) (g : FuncId) (caps : List D) (p : Int → Bool) (hp : ∀ q ∈ l, qe Tryz.prog g (aI q :: Qf caps) (rB (p q))) (h1 : l.length ≤ maxLen) : qe Tryz.prog 141 [aIs l, aF g caps] (rI (zR p l 0)) := by
 refine qe.of qc (fn := Tryz.f141) (c := Tryz.f141.body.getD .skip) (dr := fun n => qa 0 [] n) Tryz.func141 rfl (by kernel_rfl) (by kernel_rfl) (by kernel_rfl) ?_
 unfold maxLen at h1
 have hO : qp Tryz.prog (qmt dcI g caps l p) := qbI hp
 refine SEx.go (X := XX) qc (fun n => qa [] [(2, [0, 1, 7, 8])] n) (fun _ => none) hO 60 ?_
 intro M R L N m0 m1 m2 m3 m4 m5
 cases M
 cbv
 repeat' first | refine m1 _ _ ?_ ?_ | refine m2 _ _ fun h => ?_ | refine m3 _ ?_ | (refine m4 _ _ (Hd.out ?_); generalize hks : (List.cons _ _ : List K) = ks) | (refine m5 _ _ ?_; cbv)
 all_goals (clear m1 m2 m3 m4 m5; cases m0; try dsimp only)
 all_goals try simp only [sm] at *
 obtain ⟨n, hn⟩ : ∃ n, n = l.length := ⟨_, rfl⟩
 refine ⟨SEx.same (SEx.idx n (fun i => ⟨19, [(0, bL (.i l)), (1, .v (false, [.fz (.fn g caps)])), (7, bI n), (8, bI i)], []⟩) (fun i => rI (zR p (l.drop i) i)) ?_) (by rw [hn]; rfl) rfl⟩
 intro i hi ih
 rw [← hks]
 refine SEx.go (X := XX) qc (fun n => qa [] [(2, [0, 1, 7, 8])] n) (fun _ => none) hO 60 ?_
 intro M R L N m0 m1 m2 m3 m4 m5
 cases M
 cbv
 repeat' first | refine m1 _ _ ?_ ?_ | refine m2 _ _ fun h => ?_ | refine m3 _ ?_ | (refine m4 _ _ (Hd.out ?_); try first | rw [hks] | rw [hk2] | rw [hk3]) | (refine m5 _ _ ?_; cbv)
 all_goals (clear m1 m2 m3 m4 m5; cases m0; (try clear hks; try clear hk2; try clear hk3); try dsimp only)
 all_goals try simp only [sm] at *
 all_goals first
  | omega
  | exact ⟨rfl, by cases caps <;> rfl⟩
  | exact ⟨rfl, rfl⟩
  | exact qo (z := (0 : Int)) (by omega)
  | (rw [jP (p := p) (l := l) (i := i) (0 : Int) (by omega) (by first | assumption | exact beq_iff_eq.2 (by assumption))]; rfl)
  | (rw [jT (by omega)]; rfl)
  | (simp only [qg (show i < 9223372036854775807 by omega)]; exact ⟨(ih (by omega)).same rfl (by rw [QW (p := p) (l := l) (i := i) (0 : Int) (by omega) (by first | assumption | exact beq_eq_false_iff_ne.2 (by assumption) | (simp_all; done))])⟩)
theorem ZK (l : List Int) (g : FuncId) (caps : List D) (p : Int → Bool) (hp : ∀ q ∈ l, qe Tryz.prog g (aI q :: Qf caps) (rB (p q))) (h1 : l.length ≤ maxLen) : qe Tryz.prog 111 [aIs l, aF g caps] (rB (l.any p)) := by
 refine qe.of qc (fn := Tryz.f111) (c := Tryz.f111.body.getD .skip) (dr := fun n => qa 0 [] n) Tryz.func111 rfl (by kernel_rfl) (by kernel_rfl) (by kernel_rfl) ?_
 obtain ⟨f, hf⟩ : ∃ f : List Int → Int, f = fun l => zR p l 0 := ⟨_, rfl⟩
 have hO : qp Tryz.prog (qN [(141, wCl kw g caps (fun l => rI (f l)) (fun m => [Vb m l]))]) := by subst hf; exact qb (qco fun m h => by obtain rfl := (h _ (.head _)).out; exact WF m g caps p hp h1) qd
 refine SEx.go (X := XX) qc (fun n => qa [] [] n) (fun _ => none) hO 60 ?_
 intro M R L N m0 m1 m2 m3 m4 m5
 cases M
 cbv
 repeat' first | refine m1 _ _ ?_ ?_ | refine m2 _ _ fun h => ?_ | refine m3 _ ?_ | (refine m4 _ _ (Hd.out ?_); try first | rw [hks] | rw [hk2] | rw [hk3]) | (refine m5 _ _ ?_; cbv)
 all_goals (clear m1 m2 m3 m4 m5; cases m0; (try clear hks; try clear hk2; try clear hk3); try dsimp only)
 all_goals try simp only [sm] at *
 all_goals first
  | exact ⟨rfl⟩
  | (rw [← ve p l 0, hf]; rfl)
theorem JG (l : List Tie) (g : FuncId) (caps : List D) (p : Tie → Bool) (hp : ∀ q ∈ l, qe Tryz.prog g (YM q :: Qf caps) (rB (p q))) (h1 : l.length ≤ maxLen) : qe Tryz.prog 162 [V6 l, aF g caps] (rI (zR p l 0)) := by
 refine qe.of qc (fn := Tryz.f162) (c := Tryz.f162.body.getD .skip) (dr := fun n => qa 0 [] n) Tryz.func162 rfl (by kernel_rfl) (by kernel_rfl) (by kernel_rfl) ?_
 unfold maxLen at h1
 have hO : qp Tryz.prog (qmt yF g caps l p) := qbI hp
 refine SEx.go (X := XX) qc (fun n => qa [] [(2, [0, 1, 7, 8])] n) (fun _ => none) hO 60 ?_
 intro M R L N m0 m1 m2 m3 m4 m5
 cases M
 cbv
 repeat' first | refine m1 _ _ ?_ ?_ | refine m2 _ _ fun h => ?_ | refine m3 _ ?_ | (refine m4 _ _ (Hd.out ?_); generalize hks : (List.cons _ _ : List K) = ks) | (refine m5 _ _ ?_; cbv)
 all_goals (clear m1 m2 m3 m4 m5; cases m0; try dsimp only)
 all_goals try simp only [sm] at *
 obtain ⟨n, hn⟩ : ∃ n, n = l.length := ⟨_, rfl⟩
 refine ⟨SEx.same (SEx.idx n (fun i => ⟨19, [(0, bL (.tie l)), (1, .v (false, [.fz (.fn g caps)])), (7, bI n), (8, bI i)], []⟩) (fun i => rI (zR p (l.drop i) i)) ?_) (by rw [hn]; rfl) rfl⟩
 intro i hi ih
 rw [← hks]
 refine SEx.go (X := XX) qc (fun n => qa [] [(2, [0, 1, 7, 8])] n) (fun _ => none) hO 60 ?_
 intro M R L N m0 m1 m2 m3 m4 m5
 cases M
 cbv
 repeat' first | refine m1 _ _ ?_ ?_ | refine m2 _ _ fun h => ?_ | refine m3 _ ?_ | (refine m4 _ _ (Hd.out ?_); try first | rw [hks] | rw [hk2] | rw [hk3]) | (refine m5 _ _ ?_; cbv)
 all_goals (clear m1 m2 m3 m4 m5; cases m0; (try clear hks; try clear hk2; try clear hk3); try dsimp only)
 all_goals try simp only [sm] at *
 all_goals first
  | omega
  | exact ⟨rfl, by cases caps <;> rfl⟩
  | exact ⟨rfl, rfl⟩
  | exact qo (z := Tie.z) (by omega)
  | (rw [jP (p := p) (l := l) (i := i) Tie.z (by omega) (by first | assumption | exact beq_iff_eq.2 (by assumption))]; rfl)
  | (rw [jT (by omega)]; rfl)
  | (simp only [qg (show i < 9223372036854775807 by omega)]; exact ⟨(ih (by omega)).same rfl (by rw [QW (p := p) (l := l) (i := i) Tie.z (by omega) (by first | assumption | exact beq_eq_false_iff_ne.2 (by assumption) | (simp_all; done))])⟩)
theorem KS (l : List Tie) (g : FuncId) (caps : List D) (p : Tie → Bool) (hp : ∀ q ∈ l, qe Tryz.prog g (YM q :: Qf caps) (rB (p q))) (h1 : l.length ≤ maxLen) : qe Tryz.prog 126 [V6 l, aF g caps] (rB (l.any p)) := by
 refine qe.of qc (fn := Tryz.f126) (c := Tryz.f126.body.getD .skip) (dr := fun n => qa 0 [] n) Tryz.func126 rfl (by kernel_rfl) (by kernel_rfl) (by kernel_rfl) ?_
 obtain ⟨f, hf⟩ : ∃ f : List Tie → Int, f = fun l => zR p l 0 := ⟨_, rfl⟩
 have hO : qp Tryz.prog (qN [(162, wCl Kr g caps (fun l => rI (f l)) (fun m => [Vb m l]))]) := by subst hf; exact qb (qco fun m h => by obtain rfl := (h _ (.head _)).out; exact JG m g caps p hp h1) qd
 refine SEx.go (X := XX) qc (fun n => qa [] [] n) (fun _ => none) hO 60 ?_
 intro M R L N m0 m1 m2 m3 m4 m5
 cases M
 cbv
 repeat' first | refine m1 _ _ ?_ ?_ | refine m2 _ _ fun h => ?_ | refine m3 _ ?_ | (refine m4 _ _ (Hd.out ?_); try first | rw [hks] | rw [hk2] | rw [hk3]) | (refine m5 _ _ ?_; cbv)
 all_goals (clear m1 m2 m3 m4 m5; cases m0; (try clear hks; try clear hk2; try clear hk3); try dsimp only)
 all_goals try simp only [sm] at *
 all_goals first
  | exact ⟨rfl⟩
  | (rw [← ve p l 0, hf]; rfl)
theorem yf (l : List qi) (g : FuncId) (caps : List D) (p : qi → Bool) (hp : ∀ q ∈ l, qe Tryz.prog g (wo q :: Qf caps) (rB (p q))) (h1 : l.length ≤ maxLen) : qe Tryz.prog 146 [Wi l, aF g caps] (rI (zR p l 0)) := by
 refine qe.of qc (fn := Tryz.f146) (c := Tryz.f146.body.getD .skip) (dr := fun n => qa 0 [] n) Tryz.func146 rfl (by kernel_rfl) (by kernel_rfl) (by kernel_rfl) ?_
 unfold maxLen at h1
 have hO : qp Tryz.prog (qmt J6 g caps l p) := qbI hp
 refine SEx.go (X := XX) qc (fun n => qa [] [(2, [0, 1, 7, 8])] n) (fun _ => none) hO 60 ?_
 intro M R L N m0 m1 m2 m3 m4 m5
 cases M
 cbv
 repeat' first | refine m1 _ _ ?_ ?_ | refine m2 _ _ fun h => ?_ | refine m3 _ ?_ | (refine m4 _ _ (Hd.out ?_); generalize hks : (List.cons _ _ : List K) = ks) | (refine m5 _ _ ?_; cbv)
 all_goals (clear m1 m2 m3 m4 m5; cases m0; try dsimp only)
 all_goals try simp only [sm] at *
 obtain ⟨n, hn⟩ : ∃ n, n = l.length := ⟨_, rfl⟩
 refine ⟨SEx.same (SEx.idx n (fun i => ⟨19, [(0, bL (.node false none l)), (1, .v (false, [.fz (.fn g caps)])), (7, bI n), (8, bI i)], []⟩) (fun i => rI (zR p (l.drop i) i)) ?_) (by rw [hn]; rfl) rfl⟩
 intro i hi ih
 rw [← hks]
 refine SEx.go (X := XX) qc (fun n => qa [] [(2, [0, 1, 7, 8])] n) (fun _ => none) hO 60 ?_
 intro M R L N m0 m1 m2 m3 m4 m5
 cases M
 cbv
 repeat' first | refine m1 _ _ ?_ ?_ | refine m2 _ _ fun h => ?_ | refine m3 _ ?_ | (refine m4 _ _ (Hd.out ?_); try first | rw [hks] | rw [hk2] | rw [hk3]) | (refine m5 _ _ ?_; cbv)
 all_goals (clear m1 m2 m3 m4 m5; cases m0; (try clear hks; try clear hk2; try clear hk3); try dsimp only)
 all_goals try simp only [sm] at *
 all_goals first
  | omega
  | exact ⟨rfl, by cases caps <;> rfl⟩
  | exact ⟨rfl, rfl⟩
  | exact qo (z := qi.z) (by omega)
  | (rw [jP (p := p) (l := l) (i := i) qi.z (by omega) (by first | assumption | exact beq_iff_eq.2 (by assumption))]; rfl)
  | (rw [jT (by omega)]; rfl)
  | (simp only [qg (show i < 9223372036854775807 by omega)]; exact ⟨(ih (by omega)).same rfl (by rw [QW (p := p) (l := l) (i := i) qi.z (by omega) (by first | assumption | exact beq_eq_false_iff_ne.2 (by assumption) | (simp_all; done))])⟩)
theorem qkt (l : List Int) (v : Int) (h1 : l.length ≤ maxLen) : qe Tryz.prog 170 [aIs l, aI v] (rI (zR (fun x => v == x) l 0)) := by
 refine qe.of qc (fn := Tryz.f170) (c := Tryz.f170.body.getD .skip) (dr := fun n => qa 0 [] n) Tryz.func170 rfl (by kernel_rfl) (by kernel_rfl) (by kernel_rfl) ?_
 unfold maxLen at h1
 refine SEx.go (X := XX) qc (fun n => qa [] [(2, [0, 1, 7, 8])] n) (fun _ => none) qd 60 ?_
 intro M R L N m0 m1 m2 m3 m4 m5
 cases M
 cbv
 repeat' first | refine m1 _ _ ?_ ?_ | refine m2 _ _ fun h => ?_ | refine m3 _ ?_ | (refine m4 _ _ (Hd.out ?_); generalize hks : (List.cons _ _ : List K) = ks) | (refine m5 _ _ ?_; cbv)
 all_goals (clear m1 m2 m3 m4 m5; cases m0; try dsimp only)
 all_goals try simp only [sm] at *
 obtain ⟨n, hn⟩ : ∃ n, n = l.length := ⟨_, rfl⟩
 refine ⟨SEx.same (SEx.idx n (fun i => ⟨19, [(0, bL (.i l)), (1, bI v), (7, bI n), (8, bI i)], []⟩) (fun i => rI (zR (fun x => v == x) (l.drop i) i)) ?_) (by rw [hn]; rfl) rfl⟩
 intro i hi ih
 rw [← hks]
 refine SEx.go (X := XX) qc (fun n => qa [] [(2, [0, 1, 7, 8])] n) (fun _ => none) qd 60 ?_
 intro M R L N m0 m1 m2 m3 m4 m5
 cases M
 cbv
 repeat' first | refine m1 _ _ ?_ ?_ | refine m2 _ _ fun h => ?_ | refine m3 _ ?_ | (refine m4 _ _ (Hd.out ?_); try first | rw [hks] | rw [hk2] | rw [hk3]) | (refine m5 _ _ ?_; cbv)
 all_goals (clear m1 m2 m3 m4 m5; cases m0; (try clear hks; try clear hk2; try clear hk3); try dsimp only)
 all_goals try simp only [sm] at *
 all_goals first
  | omega
  | exact ⟨rfl, by cases caps <;> rfl⟩
  | exact ⟨rfl, rfl⟩
  | exact qo (z := (0 : Int)) (by omega)
  | (rw [jP (p := fun x => v == x) (l := l) (i := i) (0 : Int) (by omega) (by first | assumption | exact beq_iff_eq.2 (by assumption))]; rfl)
  | (rw [jT (by omega)]; rfl)
  | (simp only [qg (show i < 9223372036854775807 by omega)]; exact ⟨(ih (by omega)).same rfl (by rw [QW (p := fun x => v == x) (l := l) (i := i) (0 : Int) (by omega) (by first | assumption | exact beq_eq_false_iff_ne.2 (by assumption) | (simp_all; done))])⟩)
def qin (f : List Int → Int → Int) : Wr := w2 kw dcI (fun l v => rI (f l v)) (fun l _ => [LLe l maxLen])
theorem qgN : qC Tryz.prog 170 (qin fun l v => zR (fun x => v == x) l 0) := qE fun l v h => qkt l v (h _ (.head _)).out
end Go.Proofs.YtececadpjelanaaGreat.Ai
namespace Go.Proofs.YtececadpjelanaaGreat.Ai
open Go
set_option maxRecDepth 100000
variable [qh]
def inB (n lo hi : Int) : Bool := decide (lo ≤ n ∧ n ≤ hi)
def bt (s : ByteArray) (i : Nat) : Int := (s[i]?.getD 0).toNat
def qiS (s : ByteArray) (i : Nat) : Bool := decide (97 ≤ bt s i ∧ bt s i ≤ 122 ∨ i ≠ 0 ∧ 48 ≤ bt s i ∧ bt s i ≤ 57)
def jW (s : ByteArray) (i : Nat) : Bool := (List.range' i (s.size - i)).all (qiS s) && decide (1 ≤ s.size ∧ s.size ≤ 8)
theorem qdl {s : ByteArray} {i : Nat} (h : i < s.size) : jW s i = (qiS s i && jW s (i + 1)) := by
 unfold jW
 rw [show s.size - i = (s.size - (i + 1)) + 1 by omega, List.range'_succ, List.all_cons, Bool.and_assoc]
theorem qfj {s : ByteArray} {i : Nat} (h : i < s.size) (hc : ¬ (97 ≤ bt s i ∧ bt s i ≤ 122 ∨ i ≠ 0 ∧ 48 ≤ bt s i ∧ bt s i ≤ 57)) : jW s i = false := by
 rw [qdl h, qiS, decide_eq_false hc, Bool.false_and]
theorem qa9 {s : ByteArray} {i : Nat} (h : i < s.size) (hc : 97 ≤ bt s i ∧ bt s i ≤ 122 ∨ i ≠ 0 ∧ 48 ≤ bt s i ∧ bt s i ≤ 57) : jW s i = jW s (i + 1) := by
 rw [qdl h, qiS, decide_eq_true hc, Bool.true_and]
theorem qdK {s : ByteArray} {i : Nat} (h : s.size ≤ i) : jW s i = decide (1 ≤ s.size ∧ s.size ≤ 8) := by
 unfold jW
 rw [show s.size - i = 0 by omega]
 simp
theorem qlN (a b c : Int) : qe Tryz.prog 70 [aI a, aI b, aI c] (rB (inB a b c)) := by
 refine qe.of qc (fn := Tryz.f70) (c := Tryz.f70.body.getD .skip) (dr := fun n => qa 0 [] n) Tryz.func70 rfl (by kernel_rfl) (by kernel_rfl) (by kernel_rfl) ?_
 refine SEx.walk (X := XX) qc (fun n => qa [] [] n) qd 100 ?_
 intro M R L N hM hR hL hN
 cases M
 cbv
 cases hM
 try dsimp only
 repeat' first | apply And.intro | (intro h; try simp only [Bool.not_eq_true', Bool.not_eq_false', decide_eq_true_eq, decide_eq_false_iff_not, Int.not_le, Int.not_lt, beq_iff_eq, beq_eq_false_iff_ne, ne_eq, Int.ofNat_eq_natCast, Int.toNat_natCast, List.length_replicate, qef, Nat.sub_zero, List.drop_zero, Cue.eta, Tie.eta, Edge.eta, jZ.eta, qi.eta] at h) | (refine hR _ ?_) | (refine hL _ _ (Hd.out ?_)) | (refine hN _ _ (Hd.out ?_))
 all_goals simp only [jj, inB]
 all_goals (rw [Bool.eq_iff_iff]; simp; try omega)
def qqQ (f : Int → Int → Int → Bool) : Wr := w3 dcI dcI dcI (fun x y z => rB (f x y z)) (fun _ _ _ => [])
theorem qnM : qC Tryz.prog 70 (qqQ inB) := QS fun x y z _ => qlN x y z
theorem qaf (s : ByteArray) (hs : s.size ≤ maxLen) : qe Tryz.prog 164 [aS s] (rB (jW s 0)) := by
 refine qe.of qc (fn := Tryz.f164) (c := Tryz.f164.body.getD .skip) (dr := fun n => qa 0 [] n) Tryz.func164 rfl (by kernel_rfl) (by kernel_rfl) (by kernel_rfl) ?_
 obtain ⟨f, hf⟩ : ∃ f, f = inB := ⟨_, rfl⟩
 have hO : qp Tryz.prog (qN [(70, qqQ f)]) := by subst hf; exact qb qnM qd
 unfold maxLen at hs
 refine SEx.walk (X := XX) qc (fun n => qa [] [(2, [0, 3])] n) hO 100 ?_
 intro M R L N hM hR hL hN
 cases M
 cbv
 cases hM
 try dsimp only
 refine hL _ _ ?_
 clear hR hL hN R L N
 generalize hks : (List.cons _ _ : List K) = ks
 refine SEx.same (SEx.ind (fun i : Nat => ⟨42, [(0, .v (false, [.fz (.str s)])), (3, .v (false, [.fz (.int .i64 i)]))], []⟩) (fun i => rB (jW s i)) (fun i => i ≤ s.size) (fun i => s.size - i) 0 (Nat.zero_le _) ?_) rfl rfl
 intro i hi ih
 rw [← hks]
 refine SEx.walk (X := XX) qc (fun n => qa [] [(2, [0, 3])] n) hO 100 ?_
 intro M R L N hM hR hL hN
 cases M
 cbv
 cases hM
 try dsimp only
 repeat' first | apply And.intro | (intro h; try simp only [Bool.not_eq_true', Bool.not_eq_false', decide_eq_true_eq, decide_eq_false_iff_not, Int.not_le, Int.not_lt, beq_iff_eq, beq_eq_false_iff_ne, ne_eq, Int.ofNat_eq_natCast, Int.toNat_natCast, List.length_replicate, qef, Nat.sub_zero, List.drop_zero, Cue.eta, Tie.eta, Edge.eta, jZ.eta, qi.eta] at h) | (refine hR _ ?_) | (refine hL _ _ (Hd.out ?_)) | (refine hN _ _ (Hd.out ?_))
 all_goals simp only [Int.ofNat_eq_natCast, hks, jj]
 all_goals (try simp only [qg (show i < 9223372036854775807 by omega)])
 all_goals first
  | omega
  | (rw [qfj] <;> (try unfold bt) <;> omega)
  | (rw [qa9 (by omega) (by unfold bt; omega)]; exact ⟨ih (i + 1) (by omega) (by omega)⟩)
  | (rw [hf, qdK (by omega)]; unfold inB; rw [Bool.eq_iff_iff]; simp only [decide_eq_true_eq]; omega)
theorem Y8 (s : ByteArray) (hs : s.size ≤ maxLen) : qe Tryz.prog 168 [aS s] (rB (jW s 0)) := by
 refine qe.of qc (fn := Tryz.f168) (c := Tryz.f168.body.getD .skip) (dr := fun n => qa 0 [(4, 22)] n) Tryz.func168 rfl (by kernel_rfl) (by kernel_rfl) (by kernel_rfl) ?_
 unfold maxLen at hs
 refine SEx.walk (X := XX) qc (fun n => qa [] [(2, [0, 3])] n) qd 100 ?_
 intro M R L N hM hR hL hN
 cases M
 cbv
 cases hM
 try dsimp only
 refine hL _ _ ?_
 clear hR hL hN R L N
 generalize hks : (List.cons _ _ : List K) = ks
 refine SEx.same (SEx.ind (fun i : Nat => ⟨50, [(0, .v (false, [.fz (.str s)])), (3, .v (false, [.fz (.int .i64 i)]))], []⟩) (fun i => rB (jW s i)) (fun i => i ≤ s.size) (fun i => s.size - i) 0 (Nat.zero_le _) ?_) rfl rfl
 intro i hi ih
 rw [← hks]
 refine SEx.walk (X := XX) qc (fun n => qa [] [(2, [0, 3])] n) qd 100 ?_
 intro M R L N hM hR hL hN
 cases M
 cbv
 cases hM
 try dsimp only
 repeat' first | apply And.intro | (intro h; try simp only [Bool.not_eq_true', Bool.not_eq_false', decide_eq_true_eq, decide_eq_false_iff_not, Int.not_le, Int.not_lt, beq_iff_eq, beq_eq_false_iff_ne, ne_eq, Int.ofNat_eq_natCast, Int.toNat_natCast, List.length_replicate, qef, Nat.sub_zero, List.drop_zero, Cue.eta, Tie.eta, Edge.eta, jZ.eta, qi.eta] at h) | (refine hR _ ?_) | (refine hL _ _ (Hd.out ?_)) | (refine hN _ _ (Hd.out ?_))
 all_goals simp only [Int.ofNat_eq_natCast, hks, jj]
 all_goals (try simp only [qg (show i < 9223372036854775807 by omega)])
 all_goals first
  | omega
  | (rw [qfj] <;> (try unfold bt) <;> omega)
  | (rw [qa9 (by omega) (by unfold bt; omega)]; exact ⟨ih (i + 1) (by omega) (by omega)⟩)
  | (rw [qdK (by omega), Bool.eq_iff_iff]; simp only [decide_eq_true_eq, Bool.false_eq_true, false_iff]; omega)
def qbE (f : ByteArray → Bool) : Wr := w1 dcS (fun x => rB (f x)) (fun x => [qrA x])
theorem qkC : qC Tryz.prog 164 (qbE (jW · 0)) := zJ fun x h => qaf x (h _ List.mem_cons_self).out
theorem qke : qC Tryz.prog 168 (qbE (jW · 0)) := zJ fun x h => Y8 x (h _ List.mem_cons_self).out
end Go.Proofs.YtececadpjelanaaGreat.Ai
namespace Go.Proofs.YtececadpjelanaaGreat.Ai
open Go
set_option maxRecDepth 100000
variable [qh]
def szL {α : Type} (l : List α) (n : Int) : Int := if n < l.length then -1 else n - l.length
theorem qjB (l : List Int) (n : Int) (hs : l.length ≤ maxLen) (hn : 0 ≤ n ∧ n ≤ 9223372036854775807) : qe Tryz.prog 39 [aIs l, aI n] (rI (szL l n)) := by
 refine qe.of qc (fn := Tryz.f39) (c := Tryz.f39.body.getD .skip) (dr := fun n => qa 0 [] n) Tryz.func39 rfl (by kernel_rfl) (by kernel_rfl) (by kernel_rfl) ?_
 unfold maxLen at hs
 refine SEx.go (X := XX) qc (fun n => qa [] [] n) (fun _ => none) qd 60 ?_
 intro M R L N m0 m1 m2 m3 m4 m5
 cases M
 cbv
 repeat' first | refine m1 _ _ ?_ ?_ | refine m2 _ _ fun h => ?_ | refine m3 _ ?_ | (refine m4 _ _ (Hd.out ?_); try first | rw [hks] | rw [hk2] | rw [hk3]) | (refine m5 _ _ ?_; cbv)
 all_goals (clear m1 m2 m3 m4 m5; cases m0; (try clear hks; try clear hk2; try clear hk3); try dsimp only)
 all_goals try simp only [sm] at *
 all_goals rw [qx (by omega) (by omega)] at *
 all_goals simp only [Kk, szL]
 all_goals split <;> omega
def ZG {α : Type} (z : α) (l : List α) (n i : Nat) : List α := l.take i ++ List.replicate (n - i) z
theorem Wd {α : Type} {z : α} {l : List α} {n i : Nat} (h : l.length = n) (hi : i ≤ n) : (ZG z l n i).length = n := by simp [ZG]; omega
theorem JO {α : Type} {z d : α} {l : List α} {n i : Nat} (h : l.length = n) (hi : i < n) : (ZG z l n i).set i (l.getD i d) = ZG z l n (i + 1) := by
 have hl : i < l.length := by omega
 unfold ZG
 rw [show n - i = (n - (i + 1)) + 1 by omega, List.replicate_succ, List.set_append_right _ _ (by simp; omega)]
 rw [show i - (l.take i).length = 0 by simp; omega, List.set_cons_zero, List.take_add_one, List.getElem?_eq_getElem hl]
 simp only [Option.toList_some, List.append_assoc, List.singleton_append, List.getD_eq_getElem?_getD, List.getElem?_eq_getElem hl, Option.getD_some]
theorem Wo {α : Type} {z : α} {l : List α} {n : Nat} (h : l.length = n) : ZG z l n n = l := by simp [ZG, ← h]
theorem qka (l : List Int) (hs : l.length ≤ 1048576) : qe Tryz.prog 23 [aIs l] (rIs l) := by
 refine qe.of qc (fn := Tryz.f23) (c := Tryz.f23.body.getD .skip) (dr := fun n => qa 0 [] n) Tryz.func23 rfl (by kernel_rfl) (by kernel_rfl) (by kernel_rfl) ?_
 refine SEx.go (X := XX) qc (fun n => qa [] [(3, [0, 3, 4])] n) (fun _ => none) qd 60 ?_
 intro M R L N m0 m1 m2 m3 m4 m5
 cases M
 cbv
 repeat' first | refine m1 _ _ ?_ ?_ | refine m2 _ _ fun h => ?_ | refine m3 _ ?_ | (refine m4 _ _ (Hd.out ?_); generalize hks : (List.cons _ _ : List K) = ks) | (refine m5 _ _ ?_; cbv)
 all_goals (clear m1 m2 m3 m4 m5; cases m0; try dsimp only)
 all_goals try simp only [sm] at *
 · have := zI; omega
 generalize hn : l.length = n at *
 refine ⟨SEx.same (SEx.ind (fun i : Nat => ⟨22, [(0, .v (false, [.fz (.sl (.i l))])), (3, .v (false, [.rf (12288, []) true 0 n])), (4, .v (false, [.fz (.int .i64 i)]))], [(12288, .osl (.i (ZG 0 l n i)))]⟩) (fun _ => rIs l) (fun i => i ≤ n) (fun i => n - i) 0 (Nat.zero_le _) ?_) rfl rfl⟩
 intro i hi ih
 rw [← hks]
 obtain ⟨fl, hfl⟩ : ∃ x, x = ZG 0 l n i := ⟨_, rfl⟩
 have hf := Wd (z := (0 : Int)) hn hi
 rw [← hfl] at hf ⊢
 refine SEx.go (X := XX) qc (fun n => qa [] [(3, [0, 3, 4])] n) (fun _ => none) qd 60 ?_
 intro M R L N m0 m1 m2 m3 m4 m5
 cases M
 cbv
 repeat' first | refine m1 _ _ ?_ ?_ | refine m2 _ _ fun h => ?_ | refine m3 _ ?_ | (refine m4 _ _ (Hd.out ?_); try first | rw [hks] | rw [hk2] | rw [hk3]) | (refine m5 _ _ ?_; cbv)
 all_goals (clear m1 m2 m3 m4 m5; cases m0; (try clear hks; try clear hk2; try clear hk3); try dsimp only)
 all_goals try simp only [sm] at *
 all_goals first
  | omega
  | (simp only [qg (show i < 9223372036854775807 by omega), hfl, JO hn (show i < n by omega)]; exact ⟨ih (i + 1) (by omega) (by omega)⟩)
  | (obtain rfl : i = n := by omega
     rw [hfl, Wo hn]; rfl)
def qbA : Wr := w1 kw rIs (fun l => [LLe l 1048576])
theorem yq : qC Tryz.prog 23 qbA := zJ fun l h => qka l (h _ (.head _)).out
def qoh : Wr := w2 kw dcI (fun l n => rI (szL l n)) (fun l n => [LLe l maxLen, qg1 n])
theorem qfJ : qC Tryz.prog 39 qoh := qE fun l n h => qjB l n (h _ (.head _)).out (h _ (.tail _ (.head _))).out
theorem qkM (l : List Int) (hs : l.length ≤ maxLen) : qe Tryz.prog 25 [aIs l, aIs l] (rB true) := by
 refine qe.of qc (fn := Tryz.f25) (c := Tryz.f25.body.getD .skip) (dr := fun n => qa 0 [(6, 8)] n) Tryz.func25 rfl (by kernel_rfl) (by kernel_rfl) (by kernel_rfl) ?_
 unfold maxLen at hs
 refine SEx.go (X := XX) qc (fun n => qa [] [(4, [0, 1, 5])] n) (fun _ => none) qd 60 ?_
 intro M R L N m0 m1 m2 m3 m4 m5
 cases M
 cbv
 repeat' first | refine m1 _ _ ?_ ?_ | refine m2 _ _ fun h => ?_ | refine m3 _ ?_ | (refine m4 _ _ (Hd.out ?_); generalize hks : (List.cons _ _ : List K) = ks) | (refine m5 _ _ ?_; cbv)
 all_goals (clear m1 m2 m3 m4 m5; cases m0; try dsimp only)
 all_goals try simp only [sm] at *
 · exact absurd trivial (by assumption)
 generalize hn : l.length = n at *
 refine ⟨SEx.same (SEx.ind (fun i : Nat => ⟨26, [(0, .v (false, [.fz (.sl (.i l))])), (1, .v (false, [.fz (.sl (.i l))])), (5, .v (false, [.fz (.int .i64 i)]))], []⟩) (fun _ => rB true) (fun i => i ≤ n) (fun i => n - i) 0 (Nat.zero_le _) ?_) rfl rfl⟩
 intro i hi ih
 rw [← hks]
 refine SEx.go (X := XX) qc (fun n => qa [] [(4, [0, 1, 5])] n) (fun _ => none) qd 60 ?_
 intro M R L N m0 m1 m2 m3 m4 m5
 cases M
 cbv
 repeat' first | refine m1 _ _ ?_ ?_ | refine m2 _ _ fun h => ?_ | refine m3 _ ?_ | (refine m4 _ _ (Hd.out ?_); try first | rw [hks] | rw [hk2] | rw [hk3]) | (refine m5 _ _ ?_; cbv)
 all_goals (clear m1 m2 m3 m4 m5; cases m0; (try clear hks; try clear hk2; try clear hk3); try dsimp only)
 all_goals try simp only [sm] at *
 all_goals first
  | omega
  | exact absurd trivial (by assumption)
  | rfl
  | (simp only [qg (show i < 9223372036854775807 by omega)]; exact ⟨ih (i + 1) (by omega) (by omega)⟩)
def qb5 : Wr := w2 kw kw (fun _ _ => rB true) (fun l m => [Vb l m, LLe l maxLen])
theorem VW : qC Tryz.prog 25 qb5 := qE fun l m h => by
 obtain rfl := (h _ (.head _)).out
 exact qkM l (h _ (.tail _ (.head _))).out
end Go.Proofs.YtececadpjelanaaGreat.Ai
namespace Go.Proofs.YtececadpjelanaaGreat.Ai
open Go
set_option maxRecDepth 100000
variable [qh]
def wR (n : Nat) : V1 B := (false, [.rf (lrt 0, []) true 0 n])
end Go.Proofs.YtececadpjelanaaGreat.Ai
namespace Go.Proofs.YtececadpjelanaaGreat.Ai
open Go
set_option maxRecDepth 100000
variable [qh]
def pI (l : List Int) (i : Nat) : Bool := decide (1 ≤ l.getD i 0 ∧ l.getD i 0 ≤ 3 ∧ (0 < i → l.getD (i - 1) 0 < l.getD i 0))
def okP (l : List Int) : Bool := (List.range l.length).all (pI l)
theorem qnd {l : List Int} {i : Nat} (hi : i < l.length) (h : pI l i = false) : okP l = false := by
 unfold okP
 rw [List.all_eq_false]
 exact ⟨i, List.mem_range.2 hi, by rw [h]; simp⟩
theorem qbj {l : List Int} (h : ∀ j, j < l.length → pI l j = true) : okP l = true := by
 unfold okP
 rw [List.all_eq_true]
 exact fun j hj => h j (List.mem_range.1 hj)
theorem qps {l : List Int} {n : Nat} (h : ∀ j, j < n → pI l j = true) : ∀ j, j < n → (j : Int) + 1 ≤ l.getD j 0
 | 0, hj => by have := of_decide_eq_true (h 0 hj); omega
 | j + 1, hj => by
   have h1 := of_decide_eq_true (h (j + 1) hj)
   have h2 := qps h j (by omega)
   have h3 := h1.2.2 (by omega)
   rw [Nat.add_sub_cancel] at h3
   omega
theorem yT {l : List Int} {n : Nat} (h : ∀ j, j < n → pI l j = true) : n ≤ 3 := by
 apply Decidable.byContradiction
 intro hn
 have h1 := qps h 3 (by omega)
 have h2 := of_decide_eq_true (h 3 (by omega))
 omega
theorem qmQ {l : List Int} {i : Nat} (h1 : 1 ≤ l.getD i 0) (h2 : l.getD i 0 ≤ 3) (h3 : 0 < i → l.getD (i - 1) 0 < l.getD i 0) : pI l i = true := decide_eq_true ⟨h1, h2, h3⟩
def kf (a b c : Int) : Bool := decide (b ≤ a) && decide (a ≤ c)
theorem qn2 (a b c : Int) : qe Tryz.prog 70 [aI a, aI b, aI c] (rB (kf a b c)) := by
 refine qe.of qc (fn := Tryz.f70) (c := Tryz.f70.body.getD .skip) (dr := fun n => qa 0 [] n) Tryz.func70 rfl (by kernel_rfl) (by kernel_rfl) (by kernel_rfl) ?_
 refine SEx.go (X := XX) qc (fun n => qa [] [] n) (fun _ => none) qd 60 ?_
 intro M R L N m0 m1 m2 m3 m4 m5
 cases M
 cbv
 repeat' first | refine m1 _ _ ?_ ?_ | refine m2 _ _ fun h => ?_ | refine m3 _ ?_ | (refine m4 _ _ (Hd.out ?_); try first | rw [hks] | rw [hk2] | rw [hk3]) | (refine m5 _ _ ?_; cbv)
 all_goals (clear m1 m2 m3 m4 m5; cases m0; (try clear hks; try clear hk2; try clear hk3); try dsimp only)
 all_goals try simp only [sm] at *
 · simp only [jj, kf]
   rw [decide_eq_true (show b ≤ a by assumption), Bool.true_and]
 · simp only [jj, kf]
   rw [decide_eq_false (show ¬ b ≤ a by omega), Bool.false_and]
theorem Zx {n : Nat} (h : n < 18446744073709551616) : IntKind.u64.wrap (n : Int) = (n : Int) := by
 simp [IntKind.wrap, IntKind.bits, IntKind.signed]; omega
theorem qdg {m : Nat} (h : m ≤ 3) : IntKind.i64.wrap (1 * 2 ^ min m IntKind.i64.bits) = ((2 ^ m : Nat) : Int) := by
 have : m = 0 ∨ m = 1 ∨ m = 2 ∨ m = 3 := by omega
 rcases this with rfl | rfl | rfl | rfl <;> decide
theorem Wa {m : Nat} (h : m ≤ 3) : 2 ^ m ≤ 8 := by
 have : m = 0 ∨ m = 1 ∨ m = 2 ∨ m = 3 := by omega
 rcases this with rfl | rfl | rfl | rfl <;> decide
def qkv (n i : Nat) : Int := IntKind.i64.wrap (1 - IntKind.i64.wrap (2 * IntKind.i64.wrap (((BitVec.ofInt IntKind.i64.bits ((n : Int).fdiv (2 ^ min i IntKind.i64.bits)) &&& BitVec.ofInt IntKind.i64.bits 1).toNat : Nat) : Int)))
def vP (n i : Nat) : List Int := (List.range i).map (qkv n)
def vj (m n : Nat) : List (List Int) := (List.range n).map fun n => vP n m
theorem qas (n i : Nat) : vP n (i + 1) = vP n i ++ [qkv n i] := by simp [vP, List.range_succ]
theorem qap (m n : Nat) : vj m (n + 1) = vj m n ++ [vP n m] := by simp [vj, List.range_succ]
theorem KC (n i : Nat) : (vP n i).length = i := by simp [vP]
theorem yr (m n : Nat) : (vj m n).length = n := by simp [vj]
def Qr (l : List Int) : List (List Int) := if okP l then vj l.length (2 ^ l.length) else []
def qai (f : Int → Int → Int → Bool) : Wr := w3 dcI dcI dcI (fun a b c => rB (f a b c)) (fun _ _ _ => [])
theorem Qq : qC Tryz.prog 70 (qai kf) := QS fun a b c _ => qn2 a b c
theorem qgc (l : List Int) (h1 : l.length ≤ 1048576) : qe Tryz.prog 135 [aIs l] (Ki (Qr l)) := by
 refine qe.of qc (fn := Tryz.f135) (c := Tryz.f135.body.getD .skip) (dr := fun n => qa 0 [] n) Tryz.func135 rfl (by kernel_rfl) (by kernel_rfl) (by kernel_rfl) ?_
 obtain ⟨m, hm⟩ : ∃ m, m = l.length := ⟨_, rfl⟩
 obtain ⟨r, hr⟩ : ∃ r, r = Qr l := ⟨_, rfl⟩
 rw [← hr]
 refine SEx.go (X := XX) qc (fun n => qa [] [(2, [0, 9, 10, 11]), (9, [0, 5, 6]), (13, [0, 5, 6, 7, 44, 45])] n) (fun _ => none) qd 60 ?_
 intro M R L N m0 m1 m2 m3 m4 m5
 cases M
 cbv
 repeat' first | refine m1 _ _ ?_ ?_ | refine m2 _ _ fun h => ?_ | refine m3 _ ?_ | (refine m4 _ _ (Hd.out ?_); generalize hks : (List.cons _ _ : List K) = ks) | (refine m5 _ _ ?_; cbv)
 all_goals (clear m1 m2 m3 m4 m5; cases m0; try dsimp only)
 all_goals try simp only [sm] at *
 refine ⟨SEx.same (SEx.ind (α := Nat) (fun i => ⟨63, [(0, bL (.i l)), (9, bL (.i l)), (10, bI m), (11, bI i)], []⟩) (fun _ => Ki r) (fun i => i ≤ m ∧ ∀ j, j < i → pI l j = true) (fun i => m - i) 0 ⟨by omega, fun j h => by omega⟩ ?_) (by rw [hm]; rfl) rfl⟩
 rintro i ⟨hi, hj⟩ ih
 rw [← hks]
 have hw : 0 < (i : Int) → IntKind.i64.wrap ((i : Int) - 1) = ((i - 1 : Nat) : Int) := fun h => by rw [qx (by omega) (by omega)]; omega
 have hbad : i < l.length → pI l i = false → r = [] := fun h h2 => by rw [hr, Qr, qnd h h2]; rfl
 have hgo : ∀ (h : i < m) (h2 : pI l i = true), i + 1 ≤ m ∧ ∀ j, j < i + 1 → pI l j = true := fun h h2 => ⟨h, fun j hj' => by
  by_cases e : j = i
  · rw [e]; exact h2
  · exact hj j (by omega)⟩
 refine SEx.go (X := XX) qc (fun n => qa [] [(2, [0, 9, 10, 11]), (9, [0, 5, 6]), (13, [0, 5, 6, 7, 44, 45])] n) (fun _ => none) qd 60 ?_
 intro M R L N m0 m1 m2 m3 m4 m5
 cases M
 cbv
 repeat' first | refine m1 _ _ ?_ ?_ | refine m2 _ _ fun h => ?_ | refine m3 _ ?_ | (refine m4 _ _ (Hd.out ?_); first | rw [hks] | generalize hk2 : (List.cons _ _ : List K) = k2) | (refine m5 _ _ ?_; cbv)
 all_goals (clear m1 m2 m3 m4 m5; cases m0; try dsimp only)
 all_goals try simp only [sm] at *
 all_goals (try rw [hw (by omega)] at *)
 all_goals (try simp only [Int.toNat_natCast] at *)
 all_goals first
  | omega
  | (have hb := hbad (by omega) (decide_eq_false (by rintro ⟨h1, h2, h3⟩; first | omega | (have := h3 (by omega); omega)))
     rw [hb]; rfl)
  | (have hp := qmQ (l := l) (i := i) (by assumption) (by assumption) (fun h => by first | assumption | (exfalso; omega))
     simp only [qg (show i < 9223372036854775807 by omega)]
     exact ⟨(ih (i + 1) (hgo (by omega) hp) (by omega)).same rfl rfl⟩)
  | skip
 clear ih hbad hgo hw
 have him : i = m := by omega
 subst him
 have hm3 : i ≤ 3 := yT hj
 have hrr : r = vj i (2 ^ i) := by rw [hr, Qr, if_pos (qbj (by rw [← hm]; exact hj)), ← hm]
 clear hr hj
 refine ⟨SEx.same (SEx.idx (2 ^ i) (fun n => ⟨63, [(0, bL (.i l)), (5, bR 20480 n), (6, bI n)], [(20480, .osl (.ii true none (vj i n)))]⟩) (fun _ => Ki r) ?_) rfl rfl⟩
 intro n hn ih
 rw [← hk2]
 obtain ⟨o, ho⟩ : ∃ o, o = vj i n := ⟨_, rfl⟩
 have hol : o.length = n := by rw [ho, yr]
 rw [← ho]
 have hs : IntKind.i64.wrap (1 * 2 ^ min l.length IntKind.i64.bits) = ((2 ^ i : Nat) : Int) := by rw [← hm]; exact qdg hm3
 have hp := Wa hm3
 obtain ⟨p, hpp⟩ : ∃ p, p = 2 ^ i := ⟨_, rfl⟩
 rw [← hpp] at hs hp hn ih hrr
 refine SEx.go (X := XX) qc (fun n => qa [] [(2, [0, 9, 10, 11]), (9, [0, 5, 6]), (13, [0, 5, 6, 7, 44, 45])] n) (fun _ => none) qd 60 ?_
 intro M R L N m0 m1 m2 m3 m4 m5
 cases M
 cbv
 repeat' first | refine m1 _ _ ?_ ?_ | refine m2 _ _ fun h => ?_ | refine m3 _ ?_ | (refine m4 _ _ (Hd.out ?_); first | rw [hks] | rw [hk2] | generalize hk3 : (List.cons _ _ : List K) = k3) | (refine m5 _ _ ?_; cbv)
 all_goals (clear m1 m2 m3 m4 m5; cases m0; try dsimp only)
 all_goals try simp only [sm] at *
 all_goals (try rw [hs] at *)
 all_goals first
  | omega
  | (have hnp : n = p := by omega
     subst hnp
     rw [ho, hrr]; rfl)
  | skip
 have hm0 := hm
 obtain ⟨m, hmm⟩ : ∃ m, m = l.length := ⟨_, rfl⟩
 rw [← hmm] at hm0 ⊢
 refine ⟨SEx.same (SEx.idx m (fun j => ⟨63, [(0, bL (.i l)), (5, bR 20480 n), (6, bI n), (7, bR 28672 j), (44, bI m), (45, bI j)], [(20480, .osl (.ii true none o)), (28672, .osl (.i (vP n j)))]⟩) (fun _ => Ki r) ?_) rfl rfl⟩
 intro j hj ihj
 rw [← hk3]
 obtain ⟨w, hw⟩ : ∃ w, w = vP n j := ⟨_, rfl⟩
 have hwl : w.length = j := by rw [hw, KC]
 rw [← hw]
 refine SEx.go (X := XX) qc (fun n => qa [] [(2, [0, 9, 10, 11]), (9, [0, 5, 6]), (13, [0, 5, 6, 7, 44, 45])] n) (fun _ => none) qd 60 ?_
 intro M R L N m0 m1 m2 m3 m4 m5
 cases M
 cbv
 repeat' first | refine m1 _ _ ?_ ?_ | refine m2 _ _ fun h => ?_ | refine m3 _ ?_ | (refine m4 _ _ (Hd.out ?_); try first | rw [hks] | rw [hk2] | rw [hk3]) | (refine m5 _ _ ?_; cbv)
 all_goals (clear m1 m2 m3 m4 m5; cases m0; (try clear hks; try clear hk2; try clear hk3); try dsimp only)
 all_goals try simp only [sm] at *
 all_goals first
  | omega
  | rfl
  | (have := zI; simp only [List.length_cons, List.length_nil]; omega)
  | (have ihj' := ihj (by omega)
     simp only [qg (show j < 9223372036854775807 by omega)]
     rw [qas, ← hw] at ihj'
     simp only [List.length_append, List.length_cons, List.length_nil, hwl]
     exact ⟨ihj'.same rfl rfl⟩)
  | (have hjm : j = m := by omega
     have ih' := ih (by omega)
     simp only [qg (show n < 9223372036854775807 by omega)]
     rw [qap, ← ho, hm0, ← hjm, ← hw] at ih'
     simp only [List.length_append, List.length_cons, List.length_nil, hol]
     exact ⟨ih'.same rfl rfl⟩)
theorem qhr (l : List Int) (h1 : l.length ≤ 1048576) : qe Tryz.prog 105 [aIs l] (Ki (Qr l)) := by
 refine qe.of qc (fn := Tryz.f105) (c := Tryz.f105.body.getD .skip) (dr := fun n => qa 0 [] n) Tryz.func105 rfl (by kernel_rfl) (by kernel_rfl) (by kernel_rfl) ?_
 obtain ⟨f0, hf0⟩ : ∃ f, f = kf := ⟨_, rfl⟩
 have hO : qp Tryz.prog (qN [(70, qai f0)]) := by subst hf0; exact qb Qq qd
 obtain ⟨m, hm⟩ : ∃ m, m = l.length := ⟨_, rfl⟩
 obtain ⟨r, hr⟩ : ∃ r, r = Qr l := ⟨_, rfl⟩
 rw [← hr]
 refine SEx.go (X := XX) qc (fun n => qa [] [(2, [0, 9, 10, 11]), (9, [0, 5, 6]), (13, [0, 5, 6, 7, 44, 45])] n) (fun _ => none) hO 60 ?_
 intro M R L N m0 m1 m2 m3 m4 m5
 cases M
 cbv
 repeat' first | refine m1 _ _ ?_ ?_ | refine m2 _ _ fun h => ?_ | refine m3 _ ?_ | (refine m4 _ _ (Hd.out ?_); generalize hks : (List.cons _ _ : List K) = ks) | (refine m5 _ _ ?_; cbv)
 all_goals (clear m1 m2 m3 m4 m5; cases m0; try dsimp only)
 all_goals try simp only [sm] at *
 refine ⟨SEx.same (SEx.ind (α := Nat) (fun i => ⟨64, [(0, bL (.i l)), (9, bL (.i l)), (10, bI m), (11, bI i)], []⟩) (fun _ => Ki r) (fun i => i ≤ m ∧ ∀ j, j < i → pI l j = true) (fun i => m - i) 0 ⟨by omega, fun j h => by omega⟩ ?_) (by rw [hm]; rfl) rfl⟩
 rintro i ⟨hi, hj⟩ ih
 rw [← hks]
 have hw : 0 < (i : Int) → IntKind.i64.wrap ((i : Int) - 1) = ((i - 1 : Nat) : Int) := fun h => by rw [qx (by omega) (by omega)]; omega
 have hbad : i < l.length → pI l i = false → r = [] := fun h h2 => by rw [hr, Qr, qnd h h2]; rfl
 have hgo : ∀ (h : i < m) (h2 : pI l i = true), i + 1 ≤ m ∧ ∀ j, j < i + 1 → pI l j = true := fun h h2 => ⟨h, fun j hj' => by
  by_cases e : j = i
  · rw [e]; exact h2
  · exact hj j (by omega)⟩
 have hft : f0 (l.getD i 0) 1 3 = true → 1 ≤ l.getD i 0 ∧ l.getD i 0 ≤ 3 := by subst hf0; intro h; simpa [kf] using h
 have hff : f0 (l.getD i 0) 1 3 = false → ¬ (1 ≤ l.getD i 0 ∧ l.getD i 0 ≤ 3) := by subst hf0; intro h h2; simp only [kf, decide_eq_true h2.1, decide_eq_true h2.2] at h; cases h
 refine SEx.go (X := XX) qc (fun n => qa [] [(2, [0, 9, 10, 11]), (9, [0, 5, 6]), (13, [0, 5, 6, 7, 44, 45])] n) (fun _ => none) hO 60 ?_
 intro M R L N m0 m1 m2 m3 m4 m5
 cases M
 cbv
 repeat' first | refine m1 _ _ ?_ ?_ | refine m2 _ _ fun h => ?_ | refine m3 _ ?_ | (refine m4 _ _ (Hd.out ?_); first | rw [hks] | generalize hk2 : (List.cons _ _ : List K) = k2) | (refine m5 _ _ ?_; cbv)
 all_goals (clear m1 m2 m3 m4 m5; cases m0; try dsimp only)
 all_goals try simp only [sm] at *
 all_goals (try (have hA := hft (by assumption); have hA1 := hA.1; have hA2 := hA.2))
 all_goals (try have hB := hff (by assumption))
 all_goals (try rw [hw (by omega)] at *)
 all_goals (try simp only [Int.toNat_natCast] at *)
 all_goals first
  | omega
  | (have hb := hbad (by omega) (decide_eq_false (by rintro ⟨h1, h2, h3⟩; first | omega | (have := h3 (by omega); omega)))
     rw [hb]; rfl)
  | (have hp := qmQ (l := l) (i := i) (by assumption) (by assumption) (fun h => by first | assumption | (exfalso; omega))
     simp only [qg (show i < 9223372036854775807 by omega)]
     exact ⟨(ih (i + 1) (hgo (by omega) hp) (by omega)).same rfl rfl⟩)
  | skip
 clear ih hbad hgo hw hft hff
 have him : i = m := by omega
 subst him
 have hm3 : i ≤ 3 := yT hj
 have hrr : r = vj i (2 ^ i) := by rw [hr, Qr, if_pos (qbj (by rw [← hm]; exact hj)), ← hm]
 clear hr hj
 refine ⟨SEx.same (SEx.idx (2 ^ i) (fun n => ⟨64, [(0, bL (.i l)), (5, bR 20480 n), (6, bI n)], [(20480, .osl (.ii true none (vj i n)))]⟩) (fun _ => Ki r) ?_) rfl rfl⟩
 intro n hn ih
 rw [← hk2]
 obtain ⟨o, ho⟩ : ∃ o, o = vj i n := ⟨_, rfl⟩
 have hol : o.length = n := by rw [ho, yr]
 rw [← ho]
 have hs : IntKind.i64.wrap (1 * 2 ^ min l.length IntKind.i64.bits) = ((2 ^ i : Nat) : Int) := by rw [← hm]; exact qdg hm3
 have hp := Wa hm3
 obtain ⟨p, hpp⟩ : ∃ p, p = 2 ^ i := ⟨_, rfl⟩
 rw [← hpp] at hs hp hn ih hrr
 have hu : IntKind.u64.wrap (l.length : Int) = (l.length : Int) := Zx (by omega)
 refine SEx.go (X := XX) qc (fun n => qa [] [(2, [0, 9, 10, 11]), (9, [0, 5, 6]), (13, [0, 5, 6, 7, 44, 45])] n) (fun _ => none) hO 60 ?_
 intro M R L N m0 m1 m2 m3 m4 m5
 cases M
 cbv
 repeat' first | refine m1 _ _ ?_ ?_ | refine m2 _ _ fun h => ?_ | refine m3 _ ?_ | (refine m4 _ _ (Hd.out ?_); first | rw [hks] | rw [hk2] | generalize hk3 : (List.cons _ _ : List K) = k3) | (refine m5 _ _ ?_; cbv)
 all_goals (clear m1 m2 m3 m4 m5; cases m0; try dsimp only)
 all_goals try simp only [sm] at *
 all_goals (try simp only [hu, Int.toNat_natCast] at *)
 all_goals (try rw [hs] at *)
 all_goals first
  | omega
  | (have hnp : n = p := by omega
     subst hnp
     rw [ho, hrr]; rfl)
  | skip
 have hm0 := hm
 obtain ⟨m, hmm⟩ : ∃ m, m = l.length := ⟨_, rfl⟩
 rw [← hmm] at hm0 ⊢
 refine ⟨SEx.same (SEx.idx m (fun j => ⟨64, [(0, bL (.i l)), (5, bR 20480 n), (6, bI n), (7, bR 28672 j), (44, bI m), (45, bI j)], [(20480, .osl (.ii true none o)), (28672, .osl (.i (vP n j)))]⟩) (fun _ => Ki r) ?_) rfl rfl⟩
 intro j hj ihj
 rw [← hk3]
 obtain ⟨w, hw⟩ : ∃ w, w = vP n j := ⟨_, rfl⟩
 have hwl : w.length = j := by rw [hw, KC]
 rw [← hw]
 have hv : j < m → IntKind.u64.wrap (j : Int) = (j : Int) := fun h => Zx (by omega)
 refine SEx.go (X := XX) qc (fun n => qa [] [(2, [0, 9, 10, 11]), (9, [0, 5, 6]), (13, [0, 5, 6, 7, 44, 45])] n) (fun _ => none) hO 60 ?_
 intro M R L N m0 m1 m2 m3 m4 m5
 cases M
 cbv
 repeat' first | refine m1 _ _ ?_ ?_ | refine m2 _ _ fun h => ?_ | refine m3 _ ?_ | (refine m4 _ _ (Hd.out ?_); try first | rw [hks] | rw [hk2] | rw [hk3]) | (refine m5 _ _ ?_; cbv)
 all_goals (clear m1 m2 m3 m4 m5; cases m0; (try clear hks; try clear hk2; try clear hk3); try dsimp only)
 all_goals try simp only [sm] at *
 all_goals (try rw [hv (by omega)] at *)
 all_goals (try simp only [Int.toNat_natCast] at *)
 all_goals first
  | omega
  | rfl
  | trivial
  | (have := zI; simp only [List.length_cons, List.length_nil]; omega)
  | (have ihj' := ihj (by omega)
     simp only [qg (show j < 9223372036854775807 by omega)]
     rw [qas, ← hw] at ihj'
     simp only [List.length_append, List.length_cons, List.length_nil, hwl]
     exact ⟨ihj'.same rfl rfl⟩)
  | (have hjm : j = m := by omega
     have ih' := ih (by omega)
     simp only [qg (show n < 9223372036854775807 by omega)]
     rw [qap, ← ho, hm0, ← hjm, ← hw] at ih'
     simp only [List.length_append, List.length_cons, List.length_nil, hol]
     exact ⟨ih'.same rfl rfl⟩)
theorem yW (l : List Int) : (Qr l).length ≤ 8 ∧ ∀ x ∈ Qr l, x.length ≤ 3 := by
 unfold Qr
 split
 · rename_i h
   have h3 : l.length ≤ 3 := by
    unfold okP at h
    rw [List.all_eq_true] at h
    exact yT (fun j hj => h j (List.mem_range.2 hj))
   refine ⟨by rw [yr]; exact Wa h3, fun x hx => ?_⟩
   simp only [vj, List.mem_map] at hx
   obtain ⟨n, _, rfl⟩ := hx
   rw [KC]; exact h3
 · exact ⟨by simp, fun x hx => by cases hx⟩
def qnZ (f : List Int → List (List Int)) : Wr := w1 kw (fun l => Ki (f l)) (fun l => [LLe l 1048576])
theorem qlZ : qC Tryz.prog 105 (qnZ Qr) := zJ fun l h => qhr l (h _ (.head _)).out
theorem qlg : qC Tryz.prog 135 (qnZ Qr) := zJ fun l h => qgc l (h _ (.head _)).out
end Go.Proofs.YtececadpjelanaaGreat.Ai
namespace Go.Proofs.YtececadpjelanaaGreat.Ai
open Go
set_option maxRecDepth 100000
variable [qh]
def rUs (l : List Int) : TV W := .v (false, [.osl (.i l)])
end Go.Proofs.YtececadpjelanaaGreat.Ai
namespace Go.Proofs.YtececadpjelanaaGreat.Ai
open Go
set_option maxRecDepth 100000
variable [qh]
structure InX {α : Type} (c : Int) (l : List α) : Prop where out : 0 ≤ c ∧ c < l.length
def w9 (n x : Int) : Bool := decide (0 ≤ x ∧ x < n)
theorem qjb (n m : Int) : qe Tryz.prog 138 [aI n, aI m] (rB (w9 n m)) := by
 refine qe.of qc (fn := Tryz.f138) (c := Tryz.f138.body.getD .skip) (dr := fun n => qa 0 [] n) Tryz.func138 rfl (by kernel_rfl) (by kernel_rfl) (by kernel_rfl) ?_
 refine SEx.go (X := XX) qc (fun n => qa [] [] n) (fun _ => none) qd 60 ?_
 intro M R L N m0 m1 m2 m3 m4 m5
 cases M
 cbv
 repeat' first | refine m1 _ _ ?_ ?_ | refine m2 _ _ fun h => ?_ | refine m3 _ ?_ | (refine m4 _ _ (Hd.out ?_); try first | rw [hks] | rw [hk2] | rw [hk3]) | (refine m5 _ _ ?_; cbv)
 all_goals (clear m1 m2 m3 m4 m5; cases m0; (try clear hks; try clear hk2; try clear hk3); try dsimp only)
 all_goals try simp only [sm] at *
 all_goals simp only [jj, w9]
 all_goals (first | (rw [decide_eq_false (by omega)]; done) | (symm; apply decide_eq_decide.2; omega) | (rw [Bool.eq_iff_iff]; simp; omega))
def qiQ (f : Int → Int → Bool) : Wr := w2 dcI dcI (fun x y => rB (f x y)) (fun _ _ => [])
theorem qfR : qC Tryz.prog 138 (qiQ w9) := qE fun x y _ => qjb x y
end Go.Proofs.YtececadpjelanaaGreat.Ai
namespace Go.Proofs.YtececadpjelanaaGreat.Ai
open Go
set_option maxRecDepth 100000
variable [qh]
theorem qkE (l : List Tie) (n : Int) (hs : l.length ≤ maxLen) (hn : 0 ≤ n ∧ n ≤ 9223372036854775807) : qe Tryz.prog 38 [V6 l, aI n] (rI (szL l n)) := by
 refine qe.of qc (fn := Tryz.f38) (c := Tryz.f38.body.getD .skip) (dr := fun n => qa 0 [] n) Tryz.func38 rfl (by kernel_rfl) (by kernel_rfl) (by kernel_rfl) ?_
 unfold maxLen at hs
 refine SEx.go (X := XX) qc (fun n => qa [] [] n) (fun _ => none) qd 60 ?_
 intro M R L N m0 m1 m2 m3 m4 m5
 cases M
 cbv
 repeat' first | refine m1 _ _ ?_ ?_ | refine m2 _ _ fun h => ?_ | refine m3 _ ?_ | (refine m4 _ _ (Hd.out ?_); try first | rw [hks] | rw [hk2] | rw [hk3]) | (refine m5 _ _ ?_; cbv)
 all_goals (clear m1 m2 m3 m4 m5; cases m0; (try clear hks; try clear hk2; try clear hk3); try dsimp only)
 all_goals try simp only [sm] at *
 all_goals rw [qx (by omega) (by omega)] at *
 all_goals simp only [Kk, szL]
 all_goals split <;> omega
def qh0 (f : List Tie → Int → Int) : Wr := w2 Kr dcI (fun l n => rI (f l n)) (fun l n => [LLe l maxLen, qg1 n])
theorem qgg : qC Tryz.prog 38 (qh0 szL) := qE fun l n h => qkE l n (h _ (.head _)).out (h _ (.tail _ (.head _))).out
theorem qns (q : Tie) : qe Tryz.prog 75 [YM q] (qqE q) := by
 refine qe.of qc (fn := Tryz.f75) (c := Tryz.f75.body.getD .skip) (dr := fun n => qa 0 [] n) Tryz.func75 rfl (by kernel_rfl) (by kernel_rfl) (by kernel_rfl) ?_
 obtain ⟨x1, x2, x3, x4, x5⟩ := q
 refine SEx.go (X := XX) qc (fun n => qa [] [] n) (fun _ => none) qd 60 ?_
 intro M R L N m0 m1 m2 m3 m4 m5
 cases M
 cbv
 repeat' first | refine m1 _ _ ?_ ?_ | refine m2 _ _ fun h => ?_ | refine m3 _ ?_ | (refine m4 _ _ (Hd.out ?_); try first | rw [hks] | rw [hk2] | rw [hk3]) | (refine m5 _ _ ?_; cbv)
 all_goals (clear m1 m2 m3 m4 m5; cases m0; (try clear hks; try clear hk2; try clear hk3); try dsimp only)
 all_goals try simp only [sm] at *
 all_goals rfl
def qmR : Wr := w1 yF qqE (fun _ => [])
theorem qi9 : qC Tryz.prog 75 qmR := zJ fun q _ => qns q
theorem qjp (l : List Tie) (hs : l.length ≤ 1048576) : qe Tryz.prog 45 [V6 l] (qm9 l) := by
 refine qe.of qc (fn := Tryz.f45) (c := Tryz.f45.body.getD .skip) (dr := fun n => qa 0 [] n) Tryz.func45 rfl (by kernel_rfl) (by kernel_rfl) (by kernel_rfl) ?_
 have hO : qp Tryz.prog (qN [(75, qmR)]) := qb qi9 qd
 refine SEx.go (X := XX) qc (fun n => qa [] [(3, [0, 3, 4])] n) (fun _ => none) hO 60 ?_
 intro M R L N m0 m1 m2 m3 m4 m5
 cases M
 cbv
 repeat' first | refine m1 _ _ ?_ ?_ | refine m2 _ _ fun h => ?_ | refine m3 _ ?_ | (refine m4 _ _ (Hd.out ?_); generalize hks : (List.cons _ _ : List K) = ks) | (refine m5 _ _ ?_; cbv)
 all_goals (clear m1 m2 m3 m4 m5; cases m0; try dsimp only)
 all_goals try simp only [sm] at *
 · have := zI; omega
 generalize hn : l.length = n at *
 refine ⟨SEx.same (SEx.idx n (fun i : Nat => ⟨23, [(0, bL (.tie l)), (3, bR 12288 n), (4, bI i)], [(12288, .osl (.tie (ZG ⟨0, 0, 0, 0, false⟩ l n i)))]⟩) (fun _ => qm9 l) ?_) rfl rfl⟩
 intro i hi ih
 rw [← hks]
 obtain ⟨fl, hfl⟩ : ∃ x, x = ZG (⟨0, 0, 0, 0, false⟩ : Tie) l n i := ⟨_, rfl⟩
 have hf := Wd (z := (⟨0, 0, 0, 0, false⟩ : Tie)) hn hi
 rw [← hfl] at hf ⊢
 refine SEx.go (X := XX) qc (fun n => qa [] [(3, [0, 3, 4])] n) (fun _ => none) hO 60 ?_
 intro M R L N m0 m1 m2 m3 m4 m5
 cases M
 cbv
 repeat' first | refine m1 _ _ ?_ ?_ | refine m2 _ _ fun h => ?_ | refine m3 _ ?_ | (refine m4 _ _ (Hd.out ?_); try first | rw [hks] | rw [hk2] | rw [hk3]) | (refine m5 _ _ ?_; cbv)
 all_goals (clear m1 m2 m3 m4 m5; cases m0; (try clear hks; try clear hk2; try clear hk3); try dsimp only)
 all_goals try simp only [sm] at *
 all_goals (try simp only [WJ] at *)
 all_goals (try omega)
 · simp only [qg (show i < 9223372036854775807 by omega), qjV, qf6, hfl]
   have e := JO (z := (⟨0, 0, 0, 0, false⟩ : Tie)) (d := Tie.z) hn (show i < n by omega)
   have ih' := ih (by omega)
   rw [← e] at ih'
   exact ⟨ih'⟩
 · obtain rfl : i = n := by omega
   rw [hfl, Wo hn]; rfl
def qhJ : Wr := w1 Kr qm9 (fun l => [LLe l 1048576])
theorem qhi : qC Tryz.prog 45 qhJ := zJ fun l h => qjp l (h _ (.head _)).out
theorem qlC (q : Tie) : qe Tryz.prog 83 [YM q, YM q] (rB true) := by
 refine qe.of qc (fn := Tryz.f83) (c := Tryz.f83.body.getD .skip) (dr := fun n => qa 0 [] n) Tryz.func83 rfl (by kernel_rfl) (by kernel_rfl) (by kernel_rfl) ?_
 obtain ⟨x1, x2, x3, x4, x5⟩ := q
 refine SEx.go (X := XX) qc (fun n => qa [] [] n) (fun _ => none) qd 60 ?_
 intro M R L N m0 m1 m2 m3 m4 m5
 cases M
 cbv
 repeat' first | refine m1 _ _ ?_ ?_ | refine m2 _ _ fun h => ?_ | refine m3 _ ?_ | (refine m4 _ _ (Hd.out ?_); try first | rw [hks] | rw [hk2] | rw [hk3]) | (refine m5 _ _ ?_; cbv)
 all_goals (clear m1 m2 m3 m4 m5; cases m0; (try clear hks; try clear hk2; try clear hk3); try dsimp only)
 all_goals try simp only [sm] at *
 all_goals first
  | exact absurd trivial (by assumption)
  | rfl
  | (exfalso; simp_all; done)
def qlH : Wr := w2 yF yF (fun _ _ => rB true) (fun q r => [Vb q r])
theorem qkU : qC Tryz.prog 83 qlH := qE fun q r h => by
 obtain rfl := (h _ (.head _)).out
 exact qlC q
theorem qkg (l : List Tie) (hs : l.length ≤ maxLen) : qe Tryz.prog 49 [V6 l, V6 l] (rB true) := by
 refine qe.of qc (fn := Tryz.f49) (c := Tryz.f49.body.getD .skip) (dr := fun n => qa 0 [(6, 8)] n) Tryz.func49 rfl (by kernel_rfl) (by kernel_rfl) (by kernel_rfl) ?_
 unfold maxLen at hs
 have hO : qp Tryz.prog (qN [(83, qlH)]) := qb qkU qd
 refine SEx.go (X := XX) qc (fun n => qa [] [(4, [0, 1, 5])] n) (fun _ => none) hO 60 ?_
 intro M R L N m0 m1 m2 m3 m4 m5
 cases M
 cbv
 repeat' first | refine m1 _ _ ?_ ?_ | refine m2 _ _ fun h => ?_ | refine m3 _ ?_ | (refine m4 _ _ (Hd.out ?_); generalize hks : (List.cons _ _ : List K) = ks) | (refine m5 _ _ ?_; cbv)
 all_goals (clear m1 m2 m3 m4 m5; cases m0; try dsimp only)
 all_goals try simp only [sm] at *
 · exact absurd trivial (by assumption)
 generalize hn : l.length = n at *
 refine ⟨SEx.same (SEx.idx n (fun i : Nat => ⟨27, [(0, bL (.tie l)), (1, bL (.tie l)), (5, bI i)], []⟩) (fun _ => rB true) ?_) rfl rfl⟩
 intro i hi ih
 rw [← hks]
 refine SEx.go (X := XX) qc (fun n => qa [] [(4, [0, 1, 5])] n) (fun _ => none) hO 60 ?_
 intro M R L N m0 m1 m2 m3 m4 m5
 cases M
 cbv
 repeat' first | refine m1 _ _ ?_ ?_ | refine m2 _ _ fun h => ?_ | refine m3 _ ?_ | (refine m4 _ _ (Hd.out ?_); try first | rw [hks] | rw [hk2] | rw [hk3]) | (refine m5 _ _ ?_; cbv)
 all_goals (clear m1 m2 m3 m4 m5; cases m0; (try clear hks; try clear hk2; try clear hk3); try dsimp only)
 all_goals try simp only [sm] at *
 all_goals first
  | omega
  | exact absurd trivial (by assumption)
  | rfl
  | exact ⟨rfl⟩
  | contradiction
  | (simp only [qg (show i < 9223372036854775807 by omega)]; exact ⟨ih (by omega)⟩)
def qh5 : Wr := w2 Kr Kr (fun _ _ => rB true) (fun l m => [Vb l m, LLe l maxLen])
theorem qgH : qC Tryz.prog 49 qh5 := qE fun l m h => by
 obtain rfl := (h _ (.head _)).out
 exact qkg l (h _ (.tail _ (.head _))).out
end Go.Proofs.YtececadpjelanaaGreat.Ai
namespace Go.Proofs.YtececadpjelanaaGreat.Ai
open Go
set_option maxRecDepth 100000
variable [qh]
def zt (q : qi) (n : Int) : Int := if n < q.name.size then -1 else szL q.label (n - q.name.size)
def Ys (g : List Int → Int → Int) : Wr := w2 kw dcI (fun l n => rI (g l n)) (fun l n => [LLe l maxLen, qg1 n])
theorem WX : qC Tryz.prog 39 (Ys szL) := qfJ
theorem qg8 {α : Type} (l : List α) {n : Int} (h : 0 ≤ n) : szL l n ≤ n := by unfold szL; split <;> omega
theorem qkI (q : qi) (n : Int) (hs : q.name.size ≤ maxLen) (hl : q.label.length ≤ maxLen) (hn : 0 ≤ n ∧ n ≤ 9223372036854775807) : qe Tryz.prog 69 [wo q, aI n] (rI (zt q n)) := by
 refine qe.of qc (fn := Tryz.f69) (c := Tryz.f69.body.getD .skip) (dr := fun n => qa 0 [] n) Tryz.func69 rfl (by kernel_rfl) (by kernel_rfl) (by kernel_rfl) ?_
 unfold maxLen at hs
 obtain ⟨g, hg⟩ : ∃ g : List Int → Int → Int, g = szL := ⟨_, rfl⟩
 have hO : qp Tryz.prog (qN [(39, Ys g)]) := by subst hg; exact qb WX qd
 obtain ⟨x1, x2, x3⟩ := q
 have hs : x1.size ≤ 2 ^ 63 - 1 := hs
 have hl : x2.length ≤ maxLen := hl
 refine SEx.go (X := XX) qc (fun n => qa [] [] n) (fun _ => none) hO 60 ?_
 intro M R L N m0 m1 m2 m3 m4 m5
 cases M
 cbv
 repeat' first | refine m1 _ _ ?_ ?_ | refine m2 _ _ fun h => ?_ | refine m3 _ ?_ | (refine m4 _ _ (Hd.out ?_); try first | rw [hks] | rw [hk2] | rw [hk3]) | (refine m5 _ _ ?_; cbv)
 all_goals (clear m1 m2 m3 m4 m5; cases m0; (try clear hks; try clear hk2; try clear hk3); try dsimp only)
 all_goals try simp only [sm] at *
 all_goals (try rw [qx (by omega) (by omega)] at *)
 all_goals first
  | exact ⟨hl⟩
  | exact ⟨⟨by omega, by omega⟩⟩
  | (simp only [Kk, zt]; rw [if_pos (by omega)]; done)
  | (subst hg; simp only [Kk, zt]; rw [if_neg (by omega)]; done)
  | (subst hg; simp only [Kk, zt]; rw [if_neg (by omega)]; unfold szL at *; split <;> omega)
theorem yu (q : qi) {n : Int} (h : 0 ≤ n) : zt q n ≤ n := by
 unfold zt
 split
 · omega
 · have := qg8 q.label (n := n - q.name.size) (by omega)
   omega
structure vS (q : qi) (n : Nat) : Prop where
 name : q.name.size ≤ n
 label : q.label.length ≤ n
theorem qhh {q : qi} {n : Int} (h : 0 ≤ zt q n) : (q.name.size : Int) ≤ n ∧ (q.label.length : Int) ≤ n := by
 unfold zt szL at h
 split at h
 · omega
 · split at h <;> omega
def qhO (f : qi → Int → Int) : Wr := w2 J6 dcI (fun q n => rI (f q n)) (fun q n => [vS q maxLen, qg1 n])
theorem qhj : qC Tryz.prog 69 (qhO zt) := qE fun q n h => qkI q n (h _ (.head _)).name (h _ (.head _)).label (h _ (.tail _ (.head _))).out
def szF {α : Type} (f : α → Int → Int) : List α → Int → Int
 | [], n => n
 | q :: r, n => if f q n < 0 then -1 else szF f r (f q n)
theorem qeu {α : Type} {f : α → Int → Int} {l : List α} {i : Nat} {m : Int} (z : α) (h : i < l.length) : szF f (l.drop i) m = if f (l.getD i z) m < 0 then -1 else szF f (l.drop (i + 1)) (f (l.getD i z) m) := by
 rw [List.drop_eq_getElem_cons h, zB h]
 rfl
def ke (l : List qi) (n : Int) : Int := if n < l.length then -1 else szF zt l (n - l.length)
theorem qfz (l : List qi) (n : Int) (hs : l.length ≤ maxLen) (hq : ∀ q ∈ l, vS q maxLen) (hn : 0 ≤ n ∧ n ≤ 9223372036854775807) : qe Tryz.prog 37 [Wi l, aI n] (rI (ke l n)) := by
 refine qe.of qc (fn := Tryz.f37) (c := Tryz.f37.body.getD .skip) (dr := fun n => qa 0 [] n) Tryz.func37 rfl (by kernel_rfl) (by kernel_rfl) (by kernel_rfl) ?_
 unfold maxLen at hs
 obtain ⟨g, hg⟩ : ∃ g, g = zt := ⟨_, rfl⟩
 have hO : qp Tryz.prog (qN [(69, qhO g)]) := by subst hg; exact qb qhj qd
 refine SEx.go (X := XX) qc (fun n => qa [] [(5, [0, 1, 5])] n) (fun _ => none) hO 60 ?_
 intro M R L N m0 m1 m2 m3 m4 m5
 cases M
 cbv
 repeat' first | refine m1 _ _ ?_ ?_ | refine m2 _ _ fun h => ?_ | refine m3 _ ?_ | (refine m4 _ _ (Hd.out ?_); generalize hks : (List.cons _ _ : List K) = ks) | (refine m5 _ _ ?_; cbv)
 all_goals (clear m1 m2 m3 m4 m5; cases m0; try dsimp only)
 all_goals try simp only [sm] at *
 · rw [qx (by omega) (by omega)] at *
   simp only [Kk, ke]
   split <;> omega
 rw [qx (by omega) (by omega)] at *
 have h0 : 0 ≤ n - l.length := by assumption
 rw [show ke l n = szF zt (l.drop 0) (n - l.length) by unfold ke; rw [if_neg (by omega)]; rfl]
 refine ⟨SEx.same (SEx.ind (fun x : Nat × Int => ⟨27, [(0, bL (.node false none l)), (1, .v (false, [.fz (.int .i64 x.2)])), (5, bI x.1)], []⟩) (fun x => rI (szF zt (l.drop x.1) x.2)) (fun x => x.1 ≤ l.length ∧ 0 ≤ x.2 ∧ x.2 ≤ n) (fun x => l.length - x.1) (0, n - l.length) ⟨by omega, h0, by omega⟩ ?_) rfl rfl⟩
 rintro ⟨i, m⟩ ⟨hi, hm1, hm2⟩ ih
 dsimp only at hi hm1 hm2 ih ⊢
 rw [← hks]
 refine SEx.go (X := XX) qc (fun n => qa [] [(5, [0, 1, 5])] n) (fun _ => none) hO 60 ?_
 intro M R L N m0 m1 m2 m3 m4 m5
 cases M
 cbv
 repeat' first | refine m1 _ _ ?_ ?_ | refine m2 _ _ fun h => ?_ | refine m3 _ ?_ | (refine m4 _ _ (Hd.out ?_); try first | rw [hks] | rw [hk2] | rw [hk3]) | (refine m5 _ _ ?_; cbv)
 all_goals (clear m1 m2 m3 m4 m5; cases m0; (try clear hks; try clear hk2; try clear hk3); try dsimp only)
 all_goals try simp only [sm] at *
 all_goals first
  | omega
  | exact hq _ (qo (z := qi.z) (by omega)).out
  | exact ⟨⟨hm1, by omega⟩⟩
  | (subst hg
     have hi' : i < l.length := by omega
     rw [qeu qi.z hi', if_pos (by assumption)]
     rfl)
  | (subst hg
     have hi' : i < l.length := by omega
     have h2 : 0 ≤ zt (l.getD i qi.z) m := by assumption
     have h3 := yu (l.getD i qi.z) hm1
     simp only [qg (show i < 9223372036854775807 by omega)]
     exact ⟨(ih (i + 1, zt (l.getD i qi.z) m) ⟨by show i + 1 ≤ l.length; omega, h2, by show zt _ m ≤ n; omega⟩ (by show l.length - (i + 1) < _; omega)).same rfl (by rw [qeu qi.z hi', if_neg (by omega)])⟩)
  | (obtain rfl : i = l.length := by omega
     rw [List.drop_length]
     rfl)
  | trace_state
theorem qku (q : qi) (hl : q.label.length ≤ 1048576) : qe Tryz.prog 74 [wo q] (qpq q) := by
 refine qe.of qc (fn := Tryz.f74) (c := Tryz.f74.body.getD .skip) (dr := fun n => qa 0 [] n) Tryz.func74 rfl (by kernel_rfl) (by kernel_rfl) (by kernel_rfl) ?_
 have hO : qp Tryz.prog (qN [(23, qbA)]) := qb yq qd
 obtain ⟨x1, x2, x3⟩ := q
 have hl : x2.length ≤ 1048576 := hl
 refine SEx.go (X := XX) qc (fun n => qa [] [] n) (fun _ => none) hO 60 ?_
 intro M R L N m0 m1 m2 m3 m4 m5
 cases M
 cbv
 repeat' first | refine m1 _ _ ?_ ?_ | refine m2 _ _ fun h => ?_ | refine m3 _ ?_ | (refine m4 _ _ (Hd.out ?_); try first | rw [hks] | rw [hk2] | rw [hk3]) | (refine m5 _ _ ?_; cbv)
 all_goals (clear m1 m2 m3 m4 m5; cases m0; (try clear hks; try clear hk2; try clear hk3); try dsimp only)
 all_goals try simp only [sm] at *
 all_goals first
  | rfl
  | exact ⟨hl⟩
theorem qjW (q : qi) (hl : q.label.length ≤ maxLen) : qe Tryz.prog 82 [wo q, wo q] (rB true) := by
 refine qe.of qc (fn := Tryz.f82) (c := Tryz.f82.body.getD .skip) (dr := fun n => qa 0 [] n) Tryz.func82 rfl (by kernel_rfl) (by kernel_rfl) (by kernel_rfl) ?_
 have hO : qp Tryz.prog (qN [(25, qb5)]) := qb VW qd
 obtain ⟨x1, x2, x3⟩ := q
 have hl : x2.length ≤ maxLen := hl
 refine SEx.go (X := XX) qc (fun n => qa [] [] n) (fun _ => none) hO 60 ?_
 intro M R L N m0 m1 m2 m3 m4 m5
 cases M
 cbv
 repeat' first | refine m1 _ _ ?_ ?_ | refine m2 _ _ fun h => ?_ | refine m3 _ ?_ | (refine m4 _ _ (Hd.out ?_); try first | rw [hks] | rw [hk2] | rw [hk3]) | (refine m5 _ _ ?_; cbv)
 all_goals (clear m1 m2 m3 m4 m5; cases m0; (try clear hks; try clear hk2; try clear hk3); try dsimp only)
 all_goals try simp only [sm] at *
 all_goals first
  | exact absurd trivial (by assumption)
  | rfl
  | exact ⟨rfl⟩
  | exact ⟨hl⟩
  | (exfalso; simp_all; done)
structure qpo (q : qi) (n : Nat) : Prop where out : q.label.length ≤ n
def qis : Wr := w1 J6 qpq (fun q => [qpo q 1048576])
theorem qgX : qC Tryz.prog 74 qis := zJ fun q h => qku q (h _ (.head _)).out
def qhP : Wr := w2 J6 J6 (fun _ _ => rB true) (fun q r => [Vb q r, qpo q maxLen])
theorem qgW : qC Tryz.prog 82 qhP := qE fun q r h => by
 obtain rfl := (h _ (.head _)).out
 exact qjW q (h _ (.tail _ (.head _))).out
theorem qjq {fl : List qi} {i : Nat} (h : i < fl.length) (s : ByteArray) (lab : List Int) (w : Int) :
 Ww qi.z ((fl.set i ⟨s, (fl.getD i qi.z).2, (fl.getD i qi.z).3⟩).set i ⟨((fl.set i ⟨s, (fl.getD i qi.z).2, (fl.getD i qi.z).3⟩).getD i qi.z).1, lab, ((fl.set i ⟨s, (fl.getD i qi.z).2, (fl.getD i qi.z).3⟩).getD i qi.z).3⟩) i (fun q => ⟨q.name, q.label, w⟩) = fl.set i ⟨s, lab, w⟩ := by
 simp [Ww, List.getD_eq_getElem?_getD, h]
theorem qhs (l : List qi) (hs : l.length ≤ 1048576) (hl : ∀ q ∈ l, q.label.length ≤ 1048576) : qe Tryz.prog 44 [Wi l] (qgz l) := by
 refine qe.of qc (fn := Tryz.f44) (c := Tryz.f44.body.getD .skip) (dr := fun n => qa 0 [] n) Tryz.func44 rfl (by kernel_rfl) (by kernel_rfl) (by kernel_rfl) ?_
 have hO : qp Tryz.prog (qN [(74, qis)]) := qb qgX qd
 refine SEx.go (X := XX) qc (fun n => qa [] [(3, [0, 3, 4])] n) (fun _ => none) hO 60 ?_
 intro M R L N m0 m1 m2 m3 m4 m5
 cases M
 cbv
 repeat' first | refine m1 _ _ ?_ ?_ | refine m2 _ _ fun h => ?_ | refine m3 _ ?_ | (refine m4 _ _ (Hd.out ?_); generalize hks : (List.cons _ _ : List K) = ks) | (refine m5 _ _ ?_; cbv)
 all_goals (clear m1 m2 m3 m4 m5; cases m0; try dsimp only)
 all_goals try simp only [sm] at *
 · have := zI; omega
 generalize hn : l.length = n at *
 refine ⟨SEx.same (SEx.idx n (fun i : Nat => ⟨23, [(0, bL (.node false none l)), (3, bR 12288 n), (4, bI i)], [(12288, .osl (.node true none (ZG ⟨⟨#[]⟩, [], 0⟩ l n i)))]⟩) (fun _ => qgz l) ?_) rfl rfl⟩
 intro i hi ih
 rw [← hks]
 obtain ⟨fl, hfl⟩ : ∃ x, x = ZG (⟨⟨#[]⟩, [], 0⟩ : qi) l n i := ⟨_, rfl⟩
 have hf := Wd (z := (⟨⟨#[]⟩, [], 0⟩ : qi)) hn hi
 rw [← hfl] at hf ⊢
 refine SEx.go (X := XX) qc (fun n => qa [] [(3, [0, 3, 4])] n) (fun _ => none) hO 60 ?_
 intro M R L N m0 m1 m2 m3 m4 m5
 cases M
 cbv
 repeat' first | refine m1 _ _ ?_ ?_ | refine m2 _ _ fun h => ?_ | refine m3 _ ?_ | (refine m4 _ _ (Hd.out ?_); try first | rw [hks] | rw [hk2] | rw [hk3]) | (refine m5 _ _ ?_; cbv)
 all_goals (clear m1 m2 m3 m4 m5; cases m0; (try clear hks; try clear hk2; try clear hk3); try dsimp only)
 all_goals try simp only [sm] at *
 all_goals (try simp only [List.length_set, WJ])
 all_goals (try omega)
 · exact ⟨hl _ (qo (z := qi.z) (by omega)).out⟩
 · simp only [qg (show i < 9223372036854775807 by omega)]
   have e := JO (z := (⟨⟨#[]⟩, [], 0⟩ : qi)) (d := qi.z) hn (show i < n by omega)
   have ih' := ih (by omega)
   rw [← e, ← hfl] at ih'
   refine ⟨ih'.same ?_ rfl⟩
   rw [qjq (by omega)]
   rfl
 · obtain rfl : i = n := by omega
   rw [hfl, Wo hn]; rfl
theorem qfx (l : List qi) (hs : l.length ≤ maxLen) (hl : ∀ q ∈ l, q.label.length ≤ maxLen) : qe Tryz.prog 48 [Wi l, Wi l] (rB true) := by
 refine qe.of qc (fn := Tryz.f48) (c := Tryz.f48.body.getD .skip) (dr := fun n => qa 0 [(6, 8)] n) Tryz.func48 rfl (by kernel_rfl) (by kernel_rfl) (by kernel_rfl) ?_
 unfold maxLen at hs
 have hO : qp Tryz.prog (qN [(82, qhP)]) := qb qgW qd
 refine SEx.go (X := XX) qc (fun n => qa [] [(4, [0, 1, 5])] n) (fun _ => none) hO 60 ?_
 intro M R L N m0 m1 m2 m3 m4 m5
 cases M
 cbv
 repeat' first | refine m1 _ _ ?_ ?_ | refine m2 _ _ fun h => ?_ | refine m3 _ ?_ | (refine m4 _ _ (Hd.out ?_); generalize hks : (List.cons _ _ : List K) = ks) | (refine m5 _ _ ?_; cbv)
 all_goals (clear m1 m2 m3 m4 m5; cases m0; try dsimp only)
 all_goals try simp only [sm] at *
 · exact absurd trivial (by assumption)
 generalize hn : l.length = n at *
 refine ⟨SEx.same (SEx.idx n (fun i : Nat => ⟨27, [(0, bL (.node false none l)), (1, bL (.node false none l)), (5, bI i)], []⟩) (fun _ => rB true) ?_) rfl rfl⟩
 intro i hi ih
 rw [← hks]
 refine SEx.go (X := XX) qc (fun n => qa [] [(4, [0, 1, 5])] n) (fun _ => none) hO 60 ?_
 intro M R L N m0 m1 m2 m3 m4 m5
 cases M
 cbv
 repeat' first | refine m1 _ _ ?_ ?_ | refine m2 _ _ fun h => ?_ | refine m3 _ ?_ | (refine m4 _ _ (Hd.out ?_); try first | rw [hks] | rw [hk2] | rw [hk3]) | (refine m5 _ _ ?_; cbv)
 all_goals (clear m1 m2 m3 m4 m5; cases m0; (try clear hks; try clear hk2; try clear hk3); try dsimp only)
 all_goals try simp only [sm] at *
 all_goals first
  | omega
  | exact absurd trivial (by assumption)
  | rfl
  | exact ⟨rfl⟩
  | contradiction
  | exact ⟨hl _ (qo (z := qi.z) (by omega)).out⟩
  | (simp only [qg (show i < 9223372036854775807 by omega)]; exact ⟨ih (by omega)⟩)
structure vA (l : List qi) (n : Nat) : Prop where out : ∀ q ∈ l, q.label.length ≤ n
structure qiE (l : List qi) (n : Nat) : Prop where out : ∀ q ∈ l, vS q n
def qda (f : List qi → Int → Int) : Wr := w2 wG dcI (fun l n => rI (f l n)) (fun l n => [LLe l maxLen, qiE l maxLen, qg1 n])
theorem qdw : qC Tryz.prog 37 (qda ke) := qE fun l n h => qfz l n (h _ (.head _)).out (h _ (.tail _ (.head _))).out (h _ (.tail _ (.tail _ (.head _)))).out
def qdo : Wr := w1 wG qgz (fun l => [LLe l 1048576, vA l 1048576])
theorem qc7 : qC Tryz.prog 44 qdo := zJ fun l h => qhs l (h _ (.head _)).out (h _ (.tail _ (.head _))).out
def qc9 : Wr := w2 wG wG (fun _ _ => rB true) (fun l m => [Vb l m, LLe l maxLen, vA l maxLen])
theorem qd8 : qC Tryz.prog 48 qc9 := qE fun l m h => by
 obtain rfl := (h _ (.head _)).out
 exact qfx l (h _ (.tail _ (.head _))).out (h _ (.tail _ (.tail _ (.head _)))).out
end Go.Proofs.YtececadpjelanaaGreat.Ai
namespace Go.Proofs.YtececadpjelanaaGreat.Ai
open Go
set_option maxRecDepth 100000
variable [qh]
def jg (t : qn) (n : Int) : Int := if ke t.nodes n < 0 then -1 else if szL t.ties (ke t.nodes n) < 0 then -1 else szL t.ties (ke t.nodes n)
def jA (t : qf) (n : Int) : Int := if szL t.times n < 0 then -1 else if szL t.vals (szL t.times n) < 0 then -1 else szL t.vals (szL t.times n)
theorem qlr : ∀ (l : List qi) (n : Int), 0 ≤ n → szF zt l n ≤ n ∧ (0 ≤ szF zt l n → ∀ q ∈ l, (q.name.size : Int) ≤ n ∧ (q.label.length : Int) ≤ n)
 | [], n, h => ⟨Int.le_refl _, fun _ q hq => by cases hq⟩
 | q :: r, n, h => by
   have h0 := yu q h
   unfold szF
   by_cases hn : zt q n < 0
   · rw [if_pos hn]; exact ⟨by omega, fun h => by omega⟩
   · rw [if_neg hn]
     have ih := qlr r (zt q n) (by omega)
     refine ⟨by omega, fun h1 x hx => ?_⟩
     rcases List.mem_cons.1 hx with rfl | hx
     · exact qhh (by omega)
     · have := ih.2 h1 x hx; omega
theorem WG {l : List qi} {n : Int} (h : 0 ≤ n) : ke l n ≤ n ∧ (0 ≤ ke l n → (l.length : Int) ≤ n ∧ ∀ q ∈ l, (q.name.size : Int) ≤ n ∧ (q.label.length : Int) ≤ n) := by
 unfold ke
 split
 · exact ⟨by omega, fun h => by omega⟩
 · have := qlr l (n - l.length) (by omega)
   refine ⟨by omega, fun h1 => ⟨by omega, fun q hq => ?_⟩⟩
   have := this.2 h1 q hq
   omega
theorem qkf (t : qn) (n : Int) (h1 : t.nodes.length ≤ maxLen) (h2 : t.ties.length ≤ maxLen) (h3 : ∀ q ∈ t.nodes, vS q maxLen) (hn : 0 ≤ n ∧ n ≤ 9223372036854775807) : qe Tryz.prog 9 [qR t, aI n] (rI (jg t n)) := by
 refine qe.of qc (fn := Tryz.f9) (c := Tryz.f9.body.getD .skip) (dr := fun n => qa 0 [] n) Tryz.func9 rfl (by kernel_rfl) (by kernel_rfl) (by kernel_rfl) ?_
 obtain ⟨f, hf⟩ : ∃ f, f = ke := ⟨_, rfl⟩
 obtain ⟨g, hg⟩ : ∃ g : List Tie → Int → Int, g = szL := ⟨_, rfl⟩
 have hO : qp Tryz.prog (qN [(37, qda f), (38, qh0 g)]) := by subst hf hg; exact qb qdw (qb qgg qd)
 obtain ⟨cs, ps, hr⟩ := t
 have h1 : cs.length ≤ maxLen := h1
 have h2 : ps.length ≤ maxLen := h2
 have h3 : ∀ q ∈ cs, vS q maxLen := h3
 have h4 : f cs n ≤ n := by rw [hf]; exact (WG hn.1).1
 refine SEx.go (X := XX) qc (fun n => qa [] [] n) (fun _ => none) hO 60 ?_
 intro M R L N m0 m1 m2 m3 m4 m5
 cases M
 cbv
 repeat' first | refine m1 _ _ ?_ ?_ | refine m2 _ _ fun h => ?_ | refine m3 _ ?_ | (refine m4 _ _ (Hd.out ?_); try first | rw [hks] | rw [hk2] | rw [hk3]) | (refine m5 _ _ ?_; cbv)
 all_goals (clear m1 m2 m3 m4 m5; cases m0; (try clear hks; try clear hk2; try clear hk3); try dsimp only)
 all_goals try simp only [sm] at *
 all_goals first
  | exact ⟨h1⟩
  | exact ⟨h2⟩
  | exact ⟨h3⟩
  | exact ⟨hn⟩
  | exact ⟨⟨by omega, by omega⟩⟩
  | (subst hf hg; simp only [Kk, jg]; rw [if_pos (by assumption)]; done)
  | (subst hf hg; simp only [Kk, jg]; rw [if_neg (by omega), if_pos (by assumption)]; done)
  | (subst hf hg; simp only [Kk, jg]; rw [if_neg (by omega), if_neg (by omega)]; done)
  | trace_state
theorem qha (t : qf) (n : Int) (h1 : t.times.length ≤ maxLen) (h2 : t.vals.length ≤ maxLen) (hn : 0 ≤ n ∧ n ≤ 9223372036854775807) : qe Tryz.prog 10 [qL t, aI n] (rI (jA t n)) := by
 refine qe.of qc (fn := Tryz.f10) (c := Tryz.f10.body.getD .skip) (dr := fun n => qa 0 [] n) Tryz.func10 rfl (by kernel_rfl) (by kernel_rfl) (by kernel_rfl) ?_
 obtain ⟨g, hg⟩ : ∃ g : List Int → Int → Int, g = szL := ⟨_, rfl⟩
 have hO : qp Tryz.prog (qN [(39, Ys g)]) := by subst hg; exact qb WX qd
 obtain ⟨nw, cs, ps⟩ := t
 have h1 : cs.length ≤ maxLen := h1
 have h2 : ps.length ≤ maxLen := h2
 have h4 : g cs n ≤ n := by rw [hg]; exact qg8 _ hn.1
 refine SEx.go (X := XX) qc (fun n => qa [] [] n) (fun _ => none) hO 60 ?_
 intro M R L N m0 m1 m2 m3 m4 m5
 cases M
 cbv
 repeat' first | refine m1 _ _ ?_ ?_ | refine m2 _ _ fun h => ?_ | refine m3 _ ?_ | (refine m4 _ _ (Hd.out ?_); try first | rw [hks] | rw [hk2] | rw [hk3]) | (refine m5 _ _ ?_; cbv)
 all_goals (clear m1 m2 m3 m4 m5; cases m0; (try clear hks; try clear hk2; try clear hk3); try dsimp only)
 all_goals try simp only [sm] at *
 all_goals first
  | exact ⟨h1⟩
  | exact ⟨h2⟩
  | exact ⟨hn⟩
  | exact ⟨⟨by omega, by omega⟩⟩
  | (subst hg; simp only [Kk, jA]; rw [if_pos (by assumption)]; done)
  | (subst hg; simp only [Kk, jA]; rw [if_neg (by omega), if_pos (by assumption)]; done)
  | (subst hg; simp only [Kk, jA]; rw [if_neg (by omega), if_neg (by omega)]; done)
  | trace_state
theorem qjv (t : qn) (h1 : t.nodes.length ≤ 1048576) (h2 : t.ties.length ≤ 1048576) (h3 : ∀ q ∈ t.nodes, q.label.length ≤ 1048576) : qe Tryz.prog 12 [qR t] (qpc t) := by
 refine qe.of qc (fn := Tryz.f12) (c := Tryz.f12.body.getD .skip) (dr := fun n => qa 0 [] n) Tryz.func12 rfl (by kernel_rfl) (by kernel_rfl) (by kernel_rfl) ?_
 have hO : qp Tryz.prog (qN [(44, qdo), (45, qhJ)]) := qb qc7 (qb qhi qd)
 obtain ⟨cs, ps, hr⟩ := t
 have h1 : cs.length ≤ 1048576 := h1
 have h2 : ps.length ≤ 1048576 := h2
 have h3 : ∀ q ∈ cs, q.label.length ≤ 1048576 := h3
 refine SEx.go (X := XX) qc (fun n => qa [] [] n) (fun n => qa none qrD n) hO 8 ?_
 intro M R L N m0 m1 m2 m3 m4 m5
 cases M
 cbv
 repeat' first | refine m1 _ _ ?_ ?_ | refine m2 _ _ fun h => ?_ | refine m3 _ ?_ | (refine m4 _ _ (Hd.out ?_); try first | rw [hks] | rw [hk2] | rw [hk3]) | (refine m5 _ _ ?_; cbv)
 all_goals (clear m1 m2 m3 m4 m5; cases m0; (try clear hks; try clear hk2; try clear hk3); try dsimp only)
 all_goals try simp only [sm] at *
 all_goals first
  | exact ⟨h1⟩
  | exact ⟨h2⟩
  | exact ⟨h3⟩
  | rfl
  | trace_state
theorem qgp (t : qf) (h1 : t.times.length ≤ 1048576) (h2 : t.vals.length ≤ 1048576) : qe Tryz.prog 13 [qL t] (kQ t) := by
 refine qe.of qc (fn := Tryz.f13) (c := Tryz.f13.body.getD .skip) (dr := fun n => qa 0 [] n) Tryz.func13 rfl (by kernel_rfl) (by kernel_rfl) (by kernel_rfl) ?_
 have hO : qp Tryz.prog (qN [(23, qbA)]) := qb yq qd
 obtain ⟨nw, cs, ps⟩ := t
 have h1 : cs.length ≤ 1048576 := h1
 have h2 : ps.length ≤ 1048576 := h2
 refine SEx.go (X := XX) qc (fun n => qa [] [] n) (fun n => qa none qrm n) hO 8 ?_
 intro M R L N m0 m1 m2 m3 m4 m5
 cases M
 cbv
 repeat' first | refine m1 _ _ ?_ ?_ | refine m2 _ _ fun h => ?_ | refine m3 _ ?_ | (refine m4 _ _ (Hd.out ?_); try first | rw [hks] | rw [hk2] | rw [hk3]) | (refine m5 _ _ ?_; cbv)
 all_goals (clear m1 m2 m3 m4 m5; cases m0; (try clear hks; try clear hk2; try clear hk3); try dsimp only)
 all_goals try simp only [sm] at *
 all_goals first
  | exact ⟨h1⟩
  | exact ⟨h2⟩
  | rfl
  | trace_state
theorem qjS (t : qn) (h1 : t.nodes.length ≤ maxLen) (h2 : t.ties.length ≤ maxLen) (h3 : ∀ q ∈ t.nodes, q.label.length ≤ maxLen) : qe Tryz.prog 16 [qR t, qR t] (rB true) := by
 refine qe.of qc (fn := Tryz.f16) (c := Tryz.f16.body.getD .skip) (dr := fun n => qa 0 [] n) Tryz.func16 rfl (by kernel_rfl) (by kernel_rfl) (by kernel_rfl) ?_
 have hO : qp Tryz.prog (qN [(48, qc9), (49, qh5)]) := qb qd8 (qb qgH qd)
 obtain ⟨cs, ps, hr⟩ := t
 have h1 : cs.length ≤ maxLen := h1
 have h2 : ps.length ≤ maxLen := h2
 have h3 : ∀ q ∈ cs, q.label.length ≤ maxLen := h3
 refine SEx.go (X := XX) qc (fun n => qa [] [] n) (fun _ => none) hO 60 ?_
 intro M R L N m0 m1 m2 m3 m4 m5
 cases M
 cbv
 repeat' first | refine m1 _ _ ?_ ?_ | refine m2 _ _ fun h => ?_ | refine m3 _ ?_ | (refine m4 _ _ (Hd.out ?_); try first | rw [hks] | rw [hk2] | rw [hk3]) | (refine m5 _ _ ?_; cbv)
 all_goals (clear m1 m2 m3 m4 m5; cases m0; (try clear hks; try clear hk2; try clear hk3); try dsimp only)
 all_goals try simp only [sm] at *
 all_goals first
  | exact ⟨h1⟩
  | exact ⟨h2⟩
  | exact ⟨h3⟩
  | exact ⟨rfl⟩
  | rfl
  | contradiction
  | exact absurd trivial (by assumption)
  | trace_state
theorem qgL (t : qf) (h1 : t.times.length ≤ maxLen) (h2 : t.vals.length ≤ maxLen) : qe Tryz.prog 17 [qL t, qL t] (rB true) := by
 refine qe.of qc (fn := Tryz.f17) (c := Tryz.f17.body.getD .skip) (dr := fun n => qa 0 [] n) Tryz.func17 rfl (by kernel_rfl) (by kernel_rfl) (by kernel_rfl) ?_
 have hO : qp Tryz.prog (qN [(25, qb5)]) := qb VW qd
 obtain ⟨nw, cs, ps⟩ := t
 have h1 : cs.length ≤ maxLen := h1
 have h2 : ps.length ≤ maxLen := h2
 refine SEx.go (X := XX) qc (fun n => qa [] [] n) (fun _ => none) hO 60 ?_
 intro M R L N m0 m1 m2 m3 m4 m5
 cases M
 cbv
 repeat' first | refine m1 _ _ ?_ ?_ | refine m2 _ _ fun h => ?_ | refine m3 _ ?_ | (refine m4 _ _ (Hd.out ?_); try first | rw [hks] | rw [hk2] | rw [hk3]) | (refine m5 _ _ ?_; cbv)
 all_goals (clear m1 m2 m3 m4 m5; cases m0; (try clear hks; try clear hk2; try clear hk3); try dsimp only)
 all_goals try simp only [sm] at *
 all_goals first
  | exact ⟨h1⟩
  | exact ⟨h2⟩
  | exact ⟨rfl⟩
  | rfl
  | contradiction
  | exact absurd trivial (by assumption)
  | trace_state
def qhI (f : qn → Int → Int) : Wr := w2 qQ dcI (fun t n => rI (f t n)) (fun t n => [LLe t.nodes maxLen, LLe t.ties maxLen, qiE t.nodes maxLen, qg1 n])
theorem qfU : qC Tryz.prog 9 (qhI jg) := qE fun t n h => qkf t n (h _ (.head _)).out (h _ (.tail _ (.head _))).out (h _ (.tail _ (.tail _ (.head _)))).out (h _ (.tail _ (.tail _ (.tail _ (.head _))))).out
def qdk (f : qf → Int → Int) : Wr := w2 qM dcI (fun t n => rI (f t n)) (fun t n => [LLe t.times maxLen, LLe t.vals maxLen, qg1 n])
theorem qdO : qC Tryz.prog 10 (qdk jA) := qE fun t n h => qha t n (h _ (.head _)).out (h _ (.tail _ (.head _))).out (h _ (.tail _ (.tail _ (.head _)))).out
def qix : Wr := w1 qQ qpc (fun t => [LLe t.nodes 1048576, LLe t.ties 1048576, vA t.nodes 1048576])
theorem qhl : qC Tryz.prog 12 qix := zJ fun t h => qjv t (h _ (.head _)).out (h _ (.tail _ (.head _))).out (h _ (.tail _ (.tail _ (.head _)))).out
def qdS : Wr := w1 qM kQ (fun t => [LLe t.times 1048576, LLe t.vals 1048576])
theorem qfs : qC Tryz.prog 13 qdS := zJ fun t h => qgp t (h _ (.head _)).out (h _ (.tail _ (.head _))).out
def qhT : Wr := w2 qQ qQ (fun _ _ => rB true) (fun t u => [Vb t u, LLe t.nodes maxLen, LLe t.ties maxLen, vA t.nodes maxLen])
theorem qga : qC Tryz.prog 16 qhT := qE fun t u h => by
 obtain rfl := (h _ (.head _)).out
 exact qjS t (h _ (.tail _ (.head _))).out (h _ (.tail _ (.tail _ (.head _)))).out (h _ (.tail _ (.tail _ (.tail _ (.head _))))).out
def qdu : Wr := w2 qM qM (fun _ _ => rB true) (fun t u => [Vb t u, LLe t.times maxLen, LLe t.vals maxLen])
theorem qc8 : qC Tryz.prog 17 qdu := qE fun t u h => by
 obtain rfl := (h _ (.head _)).out
 exact qgL t (h _ (.tail _ (.head _))).out (h _ (.tail _ (.tail _ (.head _)))).out
theorem qkx {t : qn} {n : Int} (h0 : 0 ≤ n) (h : 0 ≤ jg t n) : (t.nodes.length : Int) ≤ n ∧ (t.ties.length : Int) ≤ n ∧ (∀ q ∈ t.nodes, (q.name.size : Int) ≤ n ∧ (q.label.length : Int) ≤ n) ∧ jg t n ≤ n := by
 unfold jg at h ⊢
 have h1 := WG (l := t.nodes) h0
 split at h
 · omega
 · rename_i ha
   rw [if_neg ha]
   split at h
   · omega
   · rename_i hb
     rw [if_neg hb]
     have h2 := h1.2 (by omega)
     have h3 := qg8 t.ties (n := ke t.nodes n) (by omega)
     refine ⟨h2.1, ?_, h2.2, by omega⟩
     unfold szL at hb
     split at hb <;> omega
theorem qhk {t : qf} {n : Int} (h0 : 0 ≤ n) (h : 0 ≤ jA t n) : (t.times.length : Int) ≤ n ∧ (t.vals.length : Int) ≤ n := by
 unfold jA at h
 split at h
 · omega
 · rename_i ha
   split at h
   · omega
   · rename_i hb
     unfold szL at ha hb
     constructor
     · split at ha <;> omega
     · split at hb
       · omega
       · split at ha <;> split at hb <;> omega
end Go.Proofs.YtececadpjelanaaGreat.Ai
namespace Go.Proofs.YtececadpjelanaaGreat.Ai
open Go
set_option maxRecDepth 100000
variable [qh]
def Va (p : Nat → Bool) (n : Nat) : Bool := (List.range n).all p
theorem qib {p : Nat → Bool} {n i : Nat} (hi : i < n) (h : p i = false) : Va p n = false := by
 unfold Va
 rw [List.all_eq_false]
 exact ⟨i, List.mem_range.2 hi, by rw [h]; simp⟩
theorem ZA {p : Nat → Bool} {n : Nat} (h : ∀ j, j < n → p j = true) : Va p n = true := by
 unfold Va
 rw [List.all_eq_true]
 exact fun j hj => h j (List.mem_range.1 hj)
theorem KO {p : Nat → Bool} {n : Nat} (h : Va p n = true) : ∀ j, j < n → p j = true := by
 unfold Va at h
 rw [List.all_eq_true] at h
 exact fun j hj => h j (List.mem_range.2 hj)
structure IIn (n : Int) : Prop where out : inI n
def zE (n : Int) : Int := if n < 0 then IntKind.i64.wrap (-n) else n
theorem qni {n : Int} (h : inI n) : IntKind.i64.wrap (-n) = if n = -9223372036854775808 then n else -n := by
 rw [QX] at h
 split
 · rename_i e; subst e; decide
 · exact qx (by omega) (by omega)
theorem qen (n : Int) : qe Tryz.prog 132 [aI n] (rI (zE n)) := by
 refine qe.of qc (fn := Tryz.f132) (c := Tryz.f132.body.getD .skip) (dr := fun n => qa 0 [] n) Tryz.func132 rfl (by kernel_rfl) (by kernel_rfl) (by kernel_rfl) ?_
 refine SEx.go (X := XX) qc (fun n => qa [] [] n) (fun _ => none) qd 60 ?_
 intro M R L N m0 m1 m2 m3 m4 m5
 cases M
 cbv
 repeat' first | refine m1 _ _ ?_ ?_ | refine m2 _ _ fun h => ?_ | refine m3 _ ?_ | (refine m4 _ _ (Hd.out ?_); try first | rw [hks] | rw [hk2] | rw [hk3]) | (refine m5 _ _ ?_; cbv)
 all_goals (clear m1 m2 m3 m4 m5; cases m0; (try clear hks; try clear hk2; try clear hk3); try dsimp only)
 all_goals try simp only [sm] at *
 · simp only [Kk, zE]; rw [if_pos (by assumption), Int.zero_sub]
 · simp only [Kk, zE]; rw [if_neg (by omega)]
theorem qej (n : Int) (h : inI n) : qe Tryz.prog 142 [aI n] (rI (zE n)) := by
 refine qe.of qc (fn := Tryz.f142) (c := Tryz.f142.body.getD .skip) (dr := fun n => qa 0 [] n) Tryz.func142 rfl (by kernel_rfl) (by kernel_rfl) (by kernel_rfl) ?_
 refine SEx.go (X := XX) qc (fun n => qa [] [] n) (fun _ => none) qd 60 ?_
 intro M R L N m0 m1 m2 m3 m4 m5
 cases M
 cbv
 repeat' first | refine m1 _ _ ?_ ?_ | refine m2 _ _ fun h => ?_ | refine m3 _ ?_ | (refine m4 _ _ (Hd.out ?_); try first | rw [hks] | rw [hk2] | rw [hk3]) | (refine m5 _ _ ?_; cbv)
 all_goals (clear m1 m2 m3 m4 m5; cases m0; (try clear hks; try clear hk2; try clear hk3); try dsimp only)
 all_goals try simp only [sm] at *
 all_goals simp only [Kk, zE, Int.zero_sub]
 all_goals rw [qni h]
 all_goals rw [QX] at h
 all_goals (split <;> split <;> (try split at *) <;> omega)
def Wz (f : Int → Int) : Wr := w1 dcI (fun n => rI (f n)) (fun n => [IIn n])
theorem vV : qC Tryz.prog 132 (Wz zE) := zJ fun n _ => qen n
theorem vz : qC Tryz.prog 142 (Wz zE) := zJ fun n h => qej n (h _ (.head _)).out
def lP (l : List Int) (i : Nat) : Bool := decide (¬ l.getD i 0 = 0 ∧ -3 ≤ l.getD i 0 ∧ l.getD i 0 ≤ 3 ∧ (0 < i → zE (l.getD (i - 1) 0) < zE (l.getD i 0)))
def qX (l : List Int) : Bool := Va (lP l) l.length
theorem VU (l : List Int) (h1 : l.length ≤ maxLen) (hx : ∀ n ∈ l, inI n) : qe Tryz.prog 169 [aIs l] (rB (qX l)) := by
 refine qe.of qc (fn := Tryz.f169) (c := Tryz.f169.body.getD .skip) (dr := fun n => qa 0 [] n) Tryz.func169 rfl (by kernel_rfl) (by kernel_rfl) (by kernel_rfl) ?_
 obtain ⟨m, hm⟩ : ∃ m, m = l.length := ⟨_, rfl⟩
 obtain ⟨r, hr⟩ : ∃ r, r = qX l := ⟨_, rfl⟩
 obtain ⟨f, hf⟩ : ∃ f, f = zE := ⟨_, rfl⟩
 have hO : qp Tryz.prog (qN [(142, Wz f)]) := by subst hf; exact qb vz qd
 unfold maxLen at h1
 rw [← hr]
 refine SEx.go (X := XX) qc (fun n => qa [] [(2, [0, 5, 6, 7])] n) (fun _ => none) hO 60 ?_
 intro M R L N m0 m1 m2 m3 m4 m5
 cases M
 cbv
 repeat' first | refine m1 _ _ ?_ ?_ | refine m2 _ _ fun h => ?_ | refine m3 _ ?_ | (refine m4 _ _ (Hd.out ?_); generalize hks : (List.cons _ _ : List K) = ks) | (refine m5 _ _ ?_; cbv)
 all_goals (clear m1 m2 m3 m4 m5; cases m0; try dsimp only)
 all_goals try simp only [sm] at *
 refine ⟨SEx.same (SEx.ind (α := Nat) (fun i => ⟨38, [(0, bL (.i l)), (5, bL (.i l)), (6, bI m), (7, bI i)], []⟩) (fun _ => rB r) (fun i => i ≤ m ∧ ∀ j, j < i → lP l j = true) (fun i => m - i) 0 ⟨by omega, fun j h => by omega⟩ ?_) (by rw [hm]; rfl) rfl⟩
 rintro i ⟨hi, hj⟩ ih
 rw [← hks]
 have hw : 0 < (i : Int) → IntKind.i64.wrap ((i : Int) - 1) = ((i - 1 : Nat) : Int) := fun h => by rw [qx (by omega) (by omega)]; omega
 have hbad : i < l.length → lP l i = false → r = false := fun h h2 => by rw [hr, qX, qib h h2]
 have hgo : ∀ (h : i < m) (h2 : lP l i = true), i + 1 ≤ m ∧ ∀ j, j < i + 1 → lP l j = true := fun h h2 => ⟨h, fun j hj' => by
  by_cases e : j = i
  · rw [e]; exact h2
  · exact hj j (by omega)⟩
 refine SEx.go (X := XX) qc (fun n => qa [] [(2, [0, 5, 6, 7])] n) (fun _ => none) hO 60 ?_
 intro M R L N m0 m1 m2 m3 m4 m5
 cases M
 cbv
 repeat' first | refine m1 _ _ ?_ ?_ | refine m2 _ _ fun h => ?_ | refine m3 _ ?_ | (refine m4 _ _ (Hd.out ?_); try first | rw [hks] | rw [hk2] | rw [hk3]) | (refine m5 _ _ ?_; cbv)
 all_goals (clear m1 m2 m3 m4 m5; cases m0; (try clear hks; try clear hk2; try clear hk3); try dsimp only)
 all_goals try simp only [sm] at *
 all_goals (try rw [hw (by omega)] at *)
 all_goals (try simp only [Int.toNat_natCast] at *)
 all_goals (clear hO; subst hf)
 all_goals first
  | omega
  | exact ⟨hx _ (qo (z := (0 : Int)) (by omega)).out⟩
  | (have hb := hbad (by omega) (decide_eq_false (by rintro ⟨h1, h2, h3, h4⟩; first | contradiction | omega | (have := h4 (by omega); omega)))
     rw [hb]; rfl)
  | (have hp : lP l i = true := decide_eq_true ⟨by assumption, by assumption, by assumption, fun h => by first | assumption | (exfalso; omega)⟩
     simp only [qg (show i < 9223372036854775807 by omega)]
     exact ⟨(ih (i + 1) (hgo (by omega) hp) (by omega)).same rfl rfl⟩)
  | (have hee : i = m := by omega
     subst hee
     rw [hr, qX, ZA (by rw [← hm]; exact hj)]; rfl)
theorem VO (l : List Int) (h1 : l.length ≤ maxLen) (hx : ∀ n ∈ l, inI n) : qe Tryz.prog 165 [aIs l] (rB (qX l)) := by
 refine qe.of qc (fn := Tryz.f165) (c := Tryz.f165.body.getD .skip) (dr := fun n => qa 0 [] n) Tryz.func165 rfl (by kernel_rfl) (by kernel_rfl) (by kernel_rfl) ?_
 obtain ⟨m, hm⟩ : ∃ m, m = l.length := ⟨_, rfl⟩
 obtain ⟨r, hr⟩ : ∃ r, r = qX l := ⟨_, rfl⟩
 obtain ⟨f0, hf0⟩ : ∃ f, f = kf := ⟨_, rfl⟩
 obtain ⟨f, hf⟩ : ∃ f, f = zE := ⟨_, rfl⟩
 have hO : qp Tryz.prog (qN [(70, qai f0), (132, Wz f)]) := by subst hf hf0; exact qb Qq (qb vV qd)
 unfold maxLen at h1
 rw [← hr]
 refine SEx.go (X := XX) qc (fun n => qa [] [(2, [0, 5, 6, 7])] n) (fun _ => none) hO 60 ?_
 intro M R L N m0 m1 m2 m3 m4 m5
 cases M
 cbv
 repeat' first | refine m1 _ _ ?_ ?_ | refine m2 _ _ fun h => ?_ | refine m3 _ ?_ | (refine m4 _ _ (Hd.out ?_); generalize hks : (List.cons _ _ : List K) = ks) | (refine m5 _ _ ?_; cbv)
 all_goals (clear m1 m2 m3 m4 m5; cases m0; try dsimp only)
 all_goals try simp only [sm] at *
 refine ⟨SEx.same (SEx.ind (α := Nat) (fun i => ⟨35, [(0, bL (.i l)), (5, bL (.i l)), (6, bI m), (7, bI i)], []⟩) (fun _ => rB r) (fun i => i ≤ m ∧ ∀ j, j < i → lP l j = true) (fun i => m - i) 0 ⟨by omega, fun j h => by omega⟩ ?_) (by rw [hm]; rfl) rfl⟩
 rintro i ⟨hi, hj⟩ ih
 rw [← hks]
 have hw : 0 < (i : Int) → IntKind.i64.wrap ((i : Int) - 1) = ((i - 1 : Nat) : Int) := fun h => by rw [qx (by omega) (by omega)]; omega
 have hbad : i < l.length → lP l i = false → r = false := fun h h2 => by rw [hr, qX, qib h h2]
 have hgo : ∀ (h : i < m) (h2 : lP l i = true), i + 1 ≤ m ∧ ∀ j, j < i + 1 → lP l j = true := fun h h2 => ⟨h, fun j hj' => by
  by_cases e : j = i
  · rw [e]; exact h2
  · exact hj j (by omega)⟩
 have hft : f0 (l.getD i 0) (-3) 3 = true → -3 ≤ l.getD i 0 ∧ l.getD i 0 ≤ 3 := by subst hf0; intro h; simpa [kf] using h
 have hff : f0 (l.getD i 0) (-3) 3 = false → ¬ (-3 ≤ l.getD i 0 ∧ l.getD i 0 ≤ 3) := by subst hf0; intro h h2; simp only [kf, decide_eq_true h2.1, decide_eq_true h2.2] at h; cases h
 refine SEx.go (X := XX) qc (fun n => qa [] [(2, [0, 5, 6, 7])] n) (fun _ => none) hO 60 ?_
 intro M R L N m0 m1 m2 m3 m4 m5
 cases M
 cbv
 repeat' first | refine m1 _ _ ?_ ?_ | refine m2 _ _ fun h => ?_ | refine m3 _ ?_ | (refine m4 _ _ (Hd.out ?_); try first | rw [hks] | rw [hk2] | rw [hk3]) | (refine m5 _ _ ?_; cbv)
 all_goals (clear m1 m2 m3 m4 m5; cases m0; (try clear hks; try clear hk2; try clear hk3); try dsimp only)
 all_goals try simp only [sm] at *
 all_goals (try (have hA := hft (by assumption); have hA1 := hA.1; have hA2 := hA.2))
 all_goals (try have hB := hff (by assumption))
 all_goals (try rw [hw (by omega)] at *)
 all_goals (try simp only [Int.toNat_natCast] at *)
 all_goals (clear hO; subst hf)
 all_goals first
  | omega
  | exact ⟨hx _ (qo (z := (0 : Int)) (by omega)).out⟩
  | (have hb := hbad (by omega) (decide_eq_false (by rintro ⟨h1, h2, h3, h4⟩; first | contradiction | omega | (have := h4 (by omega); omega)))
     rw [hb]; rfl)
  | (have hp : lP l i = true := decide_eq_true ⟨by assumption, by assumption, by assumption, fun h => by first | assumption | (exfalso; omega)⟩
     simp only [qg (show i < 9223372036854775807 by omega)]
     exact ⟨(ih (i + 1) (hgo (by omega) hp) (by omega)).same rfl rfl⟩)
  | (have hee : i = m := by omega
     subst hee
     rw [hr, qX, ZA (by rw [← hm]; exact hj)]; rfl)
structure ZV (l : List Int) : Prop where
 len : l.length ≤ maxLen
 all : ∀ n ∈ l, inI n
def QD (f : List Int → Bool) : Wr := w1 kw (fun l => rB (f l)) (fun l => [ZV l])
theorem wI : qC Tryz.prog 165 (QD qX) := zJ fun l h => VO l (h _ (.head _)).len (h _ (.head _)).all
theorem ZJ : qC Tryz.prog 169 (QD qX) := zJ fun l h => VU l (h _ (.head _)).len (h _ (.head _)).all
end Go.Proofs.YtececadpjelanaaGreat.Ai
namespace Go.Proofs.YtececadpjelanaaGreat.Ai
open Go
set_option maxRecDepth 100000
variable [qh]
def Zy (l : List Int) (v : Int) : Bool := decide (0 ≤ zR (fun x => v == x) l 0)
theorem qmL (l : List Int) (v : Int) (h1 : l.length ≤ maxLen) : qe Tryz.prog 143 [aIs l, aI v] (rB (Zy l v)) := by
 refine qe.of qc (fn := Tryz.f143) (c := Tryz.f143.body.getD .skip) (dr := fun n => qa 0 [] n) Tryz.func143 rfl (by kernel_rfl) (by kernel_rfl) (by kernel_rfl) ?_
 obtain ⟨f, hf⟩ : ∃ f : List Int → Int → Int, f = fun l v => zR (fun x => v == x) l 0 := ⟨_, rfl⟩
 have hO : qp Tryz.prog (qN [(170, qin f)]) := by subst hf; exact qb qgN qd
 refine SEx.go (X := XX) qc (fun n => qa [] [] n) (fun _ => none) hO 60 ?_
 intro M R L N m0 m1 m2 m3 m4 m5
 cases M
 cbv
 repeat' first | refine m1 _ _ ?_ ?_ | refine m2 _ _ fun h => ?_ | refine m3 _ ?_ | (refine m4 _ _ (Hd.out ?_); try first | rw [hks] | rw [hk2] | rw [hk3]) | (refine m5 _ _ ?_; cbv)
 all_goals (clear m1 m2 m3 m4 m5; cases m0; (try clear hks; try clear hk2; try clear hk3); try dsimp only)
 all_goals try simp only [sm] at *
 all_goals first
  | exact ⟨h1⟩
  | (subst hf; rfl)
theorem qqw (l : List Int) (v : Int) (h1 : l.length ≤ maxLen) : qe Tryz.prog 93 [aIs l, aI v] (rB (Zy l v)) := by
 refine qe.of qc (fn := Tryz.f93) (c := Tryz.f93.body.getD .skip) (dr := fun n => qa 0 [] n) Tryz.func93 rfl (by kernel_rfl) (by kernel_rfl) (by kernel_rfl) ?_
 unfold maxLen at h1
 obtain ⟨g, hg⟩ : ∃ g : Nat → Bool, g = fun i => decide (0 ≤ zR (fun x => v == x) (l.drop i) i) := ⟨_, rfl⟩
 rw [show Zy l v = g 0 by rw [hg]; rfl]
 refine SEx.go (X := XX) qc (fun n => qa [] [(2, [1, 7, 8, 9])] n) (fun _ => none) qd 60 ?_
 intro M R L N m0 m1 m2 m3 m4 m5
 cases M
 cbv
 repeat' first | refine m1 _ _ ?_ ?_ | refine m2 _ _ fun h => ?_ | refine m3 _ ?_ | (refine m4 _ _ (Hd.out ?_); generalize hks : (List.cons _ _ : List K) = ks) | (refine m5 _ _ ?_; cbv)
 all_goals (clear m1 m2 m3 m4 m5; cases m0; try dsimp only)
 all_goals try simp only [sm] at *
 obtain ⟨m, hm⟩ : ∃ m, m = l.length := ⟨_, rfl⟩
 refine ⟨SEx.same (SEx.idx m (fun i => ⟨17, [(1, bI v), (7, bL (.i l)), (8, bI m), (9, bI i)], []⟩) (fun i => rB (g i)) ?_) (by rw [hm]; rfl) rfl⟩
 intro i hi ih
 rw [← hks]
 refine SEx.go (X := XX) qc (fun n => qa [] [(2, [1, 7, 8, 9])] n) (fun _ => none) qd 60 ?_
 intro M R L N m0 m1 m2 m3 m4 m5
 cases M
 cbv
 repeat' first | refine m1 _ _ ?_ ?_ | refine m2 _ _ fun h => ?_ | refine m3 _ ?_ | (refine m4 _ _ (Hd.out ?_); try first | rw [hks] | rw [hk2] | rw [hk3]) | (refine m5 _ _ ?_; cbv)
 all_goals (clear m1 m2 m3 m4 m5; cases m0; (try clear hks; try clear hk2; try clear hk3); try dsimp only)
 all_goals try simp only [sm] at *
 all_goals first
  | omega
  | (have hh : l.getD i 0 = v := by assumption
     rw [hg]; simp only [jj]; rw [jP (z := (0 : Int)) (by omega) (by rw [hh]; simp), decide_eq_true (by omega)])
  | (have hh : ¬ l.getD i 0 = v := by assumption
     simp only [qg (show i < 9223372036854775807 by omega)]
     have e : g i = g (i + 1) := by rw [hg]; simp only; rw [QW (z := (0 : Int)) (by omega) (beq_eq_false_iff_ne.2 (fun e => hh e.symm))]
     exact ⟨(ih (by omega)).same rfl (by rw [e])⟩)
  | (rw [hg]; simp only [jj]; rw [jT (by omega)]; rfl)
  | trace_state
def qhe (f : List Int → Int → Bool) : Wr := w2 kw dcI (fun l v => rB (f l v)) (fun l _ => [LLe l maxLen])
theorem YB : qC Tryz.prog 93 (qhe Zy) := qE fun l v h => qqw l v (h _ (.head _)).out
theorem qdt : qC Tryz.prog 143 (qhe Zy) := qE fun l v h => qmL l v (h _ (.head _)).out
def QI (q : qi) : Bool := jW q.name 0 && qX q.label && (decide (0 ≤ q.watch) && decide (q.watch ≤ 3))
theorem qam (q : qi) (hs : q.name.size ≤ maxLen) (hl : q.label.length ≤ maxLen) (hx : ∀ n ∈ q.label, inI n) : qe Tryz.prog 130 [wo q] (rB (QI q)) := by
 refine qe.of qc (fn := Tryz.f130) (c := Tryz.f130.body.getD .skip) (dr := fun n => qa 0 [] n) Tryz.func130 rfl (by kernel_rfl) (by kernel_rfl) (by kernel_rfl) ?_
 obtain ⟨f0, hf0⟩ : ∃ f, f = kf := ⟨_, rfl⟩
 obtain ⟨f1, hf1⟩ : ∃ f, f = (jW · 0) := ⟨_, rfl⟩
 obtain ⟨f2, hf2⟩ : ∃ f, f = qX := ⟨_, rfl⟩
 have hO : qp Tryz.prog (qN [(164, qbE f1), (165, QD f2), (70, qai f0)]) := by subst hf0 hf1 hf2; exact qb qkC (qb wI (qb Qq qd))
 obtain ⟨x1, x2, x3⟩ := q
 refine SEx.go (X := XX) qc (fun n => qa [] [] n) (fun _ => none) hO 60 ?_
 intro M R L N m0 m1 m2 m3 m4 m5
 cases M
 cbv
 repeat' first | refine m1 _ _ ?_ ?_ | refine m2 _ _ fun h => ?_ | refine m3 _ ?_ | (refine m4 _ _ (Hd.out ?_); try first | rw [hks] | rw [hk2] | rw [hk3]) | (refine m5 _ _ ?_; cbv)
 all_goals (clear m1 m2 m3 m4 m5; cases m0; (try clear hks; try clear hk2; try clear hk3); try dsimp only)
 all_goals try simp only [sm] at *
 all_goals first
  | exact ⟨hs⟩
  | exact ⟨hl, hx⟩
  | (subst hf0 hf1 hf2; simp only [jj, QI]; simp_all [kf]; done)
  | trace_state
theorem Y5 (q : qi) (hs : q.name.size ≤ maxLen) (hl : q.label.length ≤ maxLen) (hx : ∀ n ∈ q.label, inI n) : qe Tryz.prog 137 [wo q] (rB (QI q)) := by
 refine qe.of qc (fn := Tryz.f137) (c := Tryz.f137.body.getD .skip) (dr := fun n => qa 0 [] n) Tryz.func137 rfl (by kernel_rfl) (by kernel_rfl) (by kernel_rfl) ?_
 obtain ⟨f1, hf1⟩ : ∃ f, f = (jW · 0) := ⟨_, rfl⟩
 obtain ⟨f2, hf2⟩ : ∃ f, f = qX := ⟨_, rfl⟩
 have hO : qp Tryz.prog (qN [(168, qbE f1), (169, QD f2)]) := by subst hf1 hf2; exact qb qke (qb ZJ qd)
 obtain ⟨x1, x2, x3⟩ := q
 refine SEx.go (X := XX) qc (fun n => qa [] [] n) (fun _ => none) hO 60 ?_
 intro M R L N m0 m1 m2 m3 m4 m5
 cases M
 cbv
 repeat' first | refine m1 _ _ ?_ ?_ | refine m2 _ _ fun h => ?_ | refine m3 _ ?_ | (refine m4 _ _ (Hd.out ?_); try first | rw [hks] | rw [hk2] | rw [hk3]) | (refine m5 _ _ ?_; cbv)
 all_goals (clear m1 m2 m3 m4 m5; cases m0; (try clear hks; try clear hk2; try clear hk3); try dsimp only)
 all_goals try simp only [sm] at *
 all_goals first
  | exact ⟨hs⟩
  | exact ⟨hl, hx⟩
  | (subst hf1 hf2; simp only [jj, QI]; simp_all; done)
  | (subst hf1 hf2; simp only [jj, QI]; rw [decide_eq_false (by omega)]; simp; done)
  | trace_state
end Go.Proofs.YtececadpjelanaaGreat.Ai
namespace Go.Proofs.YtececadpjelanaaGreat.Ai
open Go
set_option maxRecDepth 100000
variable [qh]
def wy (x : Int) : Bool := decide (-1 ≤ x) && decide (x ≤ 1)
def qP (l : List Int) : Bool := qz (fun _ x => wy x) l 0 && decide (l.length = 3)
theorem Ve (l : List Int) (h1 : l.length ≤ maxLen) : qe Tryz.prog 71 [aIs l] (rB (qP l)) := by
 refine qe.of qc (fn := Tryz.f71) (c := Tryz.f71.body.getD .skip) (dr := fun n => qa 0 [] n) Tryz.func71 rfl (by kernel_rfl) (by kernel_rfl) (by kernel_rfl) ?_
 unfold maxLen at h1
 obtain ⟨f0, hf0⟩ : ∃ f, f = kf := ⟨_, rfl⟩
 have hO : qp Tryz.prog (qN [(70, qai f0)]) := by subst hf0; exact qb Qq qd
 have hv : ∀ x, f0 x (-1) 1 = wy x := by intro x; rw [hf0]; rfl
 obtain ⟨c, hc⟩ : ∃ c, c = decide (l.length = 3) := ⟨_, rfl⟩
 rw [show qP l = (qz (fun _ x => wy x) (l.drop 0) 0 && c) by rw [hc]; rfl]
 clear hf0
 refine SEx.go (X := XX) qc (fun n => qa [] [(2, [0, 5, 6, 7])] n) (fun _ => none) hO 60 ?_
 intro M R L N m0 m1 m2 m3 m4 m5
 cases M
 cbv
 repeat' first | refine m1 _ _ ?_ ?_ | refine m2 _ _ fun h => ?_ | refine m3 _ ?_ | (refine m4 _ _ (Hd.out ?_); generalize hks : (List.cons _ _ : List K) = ks) | (refine m5 _ _ ?_; cbv)
 all_goals (clear m1 m2 m3 m4 m5; cases m0; try dsimp only)
 all_goals try simp only [sm] at *
 obtain ⟨m, hm⟩ : ∃ m, m = l.length := ⟨_, rfl⟩
 refine ⟨SEx.same (SEx.idx m (fun i => ⟨18, [(0, bL (.i l)), (5, bL (.i l)), (6, bI m), (7, bI i)], []⟩) (fun i => rB (qz (fun _ x => wy x) (l.drop i) i && c)) ?_) (by rw [hm]; rfl) rfl⟩
 intro i hi ih
 rw [← hks]
 refine SEx.go (X := XX) qc (fun n => qa [] [(2, [0, 5, 6, 7])] n) (fun _ => none) hO 60 ?_
 intro M R L N m0 m1 m2 m3 m4 m5
 cases M
 cbv
 repeat' first | refine m1 _ _ ?_ ?_ | refine m2 _ _ fun h => ?_ | refine m3 _ ?_ | (refine m4 _ _ (Hd.out ?_); try first | rw [hks] | rw [hk2] | rw [hk3]) | (refine m5 _ _ ?_; cbv)
 all_goals (clear m1 m2 m3 m4 m5; cases m0; (try clear hks; try clear hk2; try clear hk3); try dsimp only)
 all_goals try simp only [sm] at *
 all_goals first
  | omega
  | exact qo (z := (0 : Int)) (by omega)
  | exact ⟨rfl⟩
  | exact ⟨by omega⟩
  | (rw [WO (p := fun _ x => wy x) (l := l) (i := i) (0 : Int) (by omega) (by rw [← hv]; assumption)]; rfl)
  | (simp only [qg (show i < 9223372036854775807 by omega)]; exact ⟨(ih (by omega)).same rfl (by rw [w5 (p := fun _ x => wy x) (l := l) (i := i) (0 : Int) (by omega) (by rw [← hv]; assumption)])⟩)
  | skip
 all_goals first
  | (rw [qK (l := l) (by omega), hc]; simp only [jj, Bool.true_and]; apply decide_eq_decide.2; omega)
theorem YH (n : Int) : qe Tryz.prog 145 [aI n] (rB (!wy n)) := by
 refine qe.of qc (fn := Tryz.f145) (c := Tryz.f145.body.getD .skip) (dr := fun n => qa 0 [] n) Tryz.func145 rfl (by kernel_rfl) (by kernel_rfl) (by kernel_rfl) ?_
 refine SEx.go (X := XX) qc (fun n => qa [] [] n) (fun _ => none) qd 60 ?_
 intro M R L N m0 m1 m2 m3 m4 m5
 cases M
 cbv
 repeat' first | refine m1 _ _ ?_ ?_ | refine m2 _ _ fun h => ?_ | refine m3 _ ?_ | (refine m4 _ _ (Hd.out ?_); try first | rw [hks] | rw [hk2] | rw [hk3]) | (refine m5 _ _ ?_; cbv)
 all_goals (clear m1 m2 m3 m4 m5; cases m0; (try clear hks; try clear hk2; try clear hk3); try dsimp only)
 all_goals try simp only [sm] at *
 all_goals simp only [jj, wy]
 all_goals first
  | (rw [decide_eq_false (show ¬ -1 ≤ n by omega)]; rfl)
  | (rw [decide_eq_true (show -1 ≤ n by omega)]; rw [Bool.eq_iff_iff]; simp; done)
theorem Vh (l : List Int) (h1 : l.length ≤ maxLen) : qe Tryz.prog 114 [aIs l] (rB (qP l)) := by
 refine qe.of qc (fn := Tryz.f114) (c := Tryz.f114.body.getD .skip) (dr := fun n => qa 0 [] n) Tryz.func114 rfl (by kernel_rfl) (by kernel_rfl) (by kernel_rfl) ?_
 obtain ⟨f, hf⟩ : ∃ f : List Int → Bool, f = fun l => l.any (fun n => !wy n) := ⟨_, rfl⟩
 have hO : qp Tryz.prog (qN [(111, wCl kw 145 [] (fun l => rB (f l)) (fun l => [LLe l maxLen]))]) := by
  subst hf
  exact qb (qco fun l h => ZK l _ _ _ (fun q _ => YH q) (h _ (.head _)).out) qd
 have ha : qz (fun _ x => wy x) l 0 = !f l := by
  rw [hf, show (!List.any l fun n => !wy n) = l.all wy by rw [List.not_any_eq_all_not]; simp]
  generalize 0 = k
  induction l generalizing k with
  | nil => rfl
  | cons x r ih => simp only [qz, List.all_cons]; rw [ih (by simp at h1; omega)]
 rw [show qP l = (!f l && decide (l.length = 3)) by unfold qP; rw [ha]]
 clear ha hf
 refine SEx.go (X := XX) qc (fun n => qa [] [] n) (fun _ => none) hO 60 ?_
 intro M R L N m0 m1 m2 m3 m4 m5
 cases M
 cbv
 repeat' first | refine m1 _ _ ?_ ?_ | refine m2 _ _ fun h => ?_ | refine m3 _ ?_ | (refine m4 _ _ (Hd.out ?_); try first | rw [hks] | rw [hk2] | rw [hk3]) | (refine m5 _ _ ?_; cbv)
 all_goals (clear m1 m2 m3 m4 m5; cases m0; (try clear hks; try clear hk2; try clear hk3); try dsimp only)
 all_goals try simp only [sm] at *
 all_goals first
  | exact ⟨rfl⟩
  | exact ⟨h1⟩
  | (simp only [jj]; rw [decide_eq_true (by omega), Bool.and_true]; done)
  | (simp only [jj]; rw [decide_eq_false (by omega), Bool.and_false]; done)
def Zo (f : List Int → Bool) : Wr := w1 kw (fun l => rB (f l)) (fun l => [LLe l maxLen])
theorem Y3 : qC Tryz.prog 71 (Zo qP) := zJ fun l h => Ve l (h _ (.head _)).out
theorem Jz : qC Tryz.prog 114 (Zo qP) := zJ fun l h => Vh l (h _ (.head _)).out
theorem qbi (t : qn) (s : ByteArray) (h1 : t.nodes.length ≤ maxLen) : qe Tryz.prog 131 [qR t, aS s] (rI (zR (fun q => eqS q.name s) t.nodes 0)) := by
 refine qe.of qc (fn := Tryz.f131) (c := Tryz.f131.body.getD .skip) (dr := fun n => qa 0 [] n) Tryz.func131 rfl (by kernel_rfl) (by kernel_rfl) (by kernel_rfl) ?_
 obtain ⟨cs, ps, hr⟩ := t
 have h1 : cs.length ≤ maxLen := h1
 unfold maxLen at h1
 show SEx _ _ _ _ _ _ (rI (zR _ cs 0))
 refine SEx.go (X := XX) qc (fun n => qa [] [(2, [1, 8, 9, 10])] n) (fun _ => none) qd 60 ?_
 intro M R L N m0 m1 m2 m3 m4 m5
 cases M
 cbv
 repeat' first | refine m1 _ _ ?_ ?_ | refine m2 _ _ fun h => ?_ | refine m3 _ ?_ | (refine m4 _ _ (Hd.out ?_); generalize hks : (List.cons _ _ : List K) = ks) | (refine m5 _ _ ?_; cbv)
 all_goals (clear m1 m2 m3 m4 m5; cases m0; try dsimp only)
 all_goals try simp only [sm] at *
 obtain ⟨n, hn⟩ : ∃ n, n = cs.length := ⟨_, rfl⟩
 refine ⟨SEx.same (SEx.idx n (fun i => ⟨21, [(1, bS s), (8, bL (.node false none cs)), (9, bI n), (10, bI i)], []⟩) (fun i => rI (zR (fun q => eqS q.name s) (cs.drop i) i)) ?_) (by rw [hn]; rfl) rfl⟩
 intro i hi ih
 rw [← hks]
 refine SEx.go (X := XX) qc (fun n => qa [] [(2, [1, 8, 9, 10])] n) (fun _ => none) qd 60 ?_
 intro M R L N m0 m1 m2 m3 m4 m5
 cases M
 cbv
 repeat' first | refine m1 _ _ ?_ ?_ | refine m2 _ _ fun h => ?_ | refine m3 _ ?_ | (refine m4 _ _ (Hd.out ?_); try first | rw [hks] | rw [hk2] | rw [hk3]) | (refine m5 _ _ ?_; cbv)
 all_goals (clear m1 m2 m3 m4 m5; cases m0; (try clear hks; try clear hk2; try clear hk3); try dsimp only)
 all_goals try simp only [sm] at *
 all_goals first
  | omega
  | exact ⟨rfl, by cases caps <;> rfl⟩
  | exact ⟨rfl, rfl⟩
  | exact qo (z := qi.z) (by omega)
  | (rw [jP (p := fun q => eqS q.name s) (l := cs) (i := i) qi.z (by omega) (by first | assumption | exact beq_iff_eq.2 (by assumption))]; rfl)
  | (rw [jT (by omega)]; rfl)
  | (simp only [qg (show i < 9223372036854775807 by omega)]; exact ⟨(ih (by omega)).same rfl (by rw [QW (p := fun q => eqS q.name s) (l := cs) (i := i) qi.z (by omega) (by first | assumption | exact beq_eq_false_iff_ne.2 (by assumption) | (simp_all; done))])⟩)
def qqx (k : Nat) : Dc (List Int) := ⟨fun s => aF k [.ptr [.sl (.i s)]], fun | (false, [.fn f [.ptr [.sl (.i s)]]]) => (match nq f k with | true => some s | false => none) | _ => none, by
 intro x a h
 split at h
 · split at h
   · rename_i hk
     obtain rfl := QG.1 hk
     simp only [Option.some.injEq] at h; subst h; rfl
   · cases h
 · cases h⟩
def JB (a b : List Int) : Bool := qX a && qX b && b.all (Zy a)
theorem Kx {α : Type} (p : α → Bool) : ∀ (l : List α) (k : Nat), qz (fun _ x => p x) l k = l.all p
 | [], _ => rfl
 | a :: r, k => by simp only [qz, List.all_cons, Kx p r]
theorem Vf (x : Int) (a : List Int) (h1 : a.length ≤ maxLen) : qe Tryz.prog 171 [aI x, (false, [.ptr [.sl (.i a)]])] (rB (!Zy a x)) := by
 refine qe.of qc (fn := Tryz.f171) (c := Tryz.f171.body.getD .skip) (dr := fun n => qa 0 [] n) Tryz.func171 rfl (by kernel_rfl) (by kernel_rfl) (by kernel_rfl) ?_
 obtain ⟨f, hf⟩ : ∃ f, f = Zy := ⟨_, rfl⟩
 have hO : qp Tryz.prog (qN [(143, qhe f)]) := by subst hf; exact qb qdt qd
 rw [← hf]
 refine SEx.go (X := XX) qc (fun n => qa [] [] n) (fun _ => none) hO 60 ?_
 intro M R L N m0 m1 m2 m3 m4 m5
 cases M
 cbv
 repeat' first | refine m1 _ _ ?_ ?_ | refine m2 _ _ fun h => ?_ | refine m3 _ ?_ | (refine m4 _ _ (Hd.out ?_); try first | rw [hks] | rw [hk2] | rw [hk3]) | (refine m5 _ _ ?_; cbv)
 all_goals (clear m1 m2 m3 m4 m5; cases m0; (try clear hks; try clear hk2; try clear hk3); try dsimp only)
 all_goals try simp only [sm] at *
 all_goals first
  | exact ⟨h1⟩
  | rfl
theorem yU (a b : List Int) (ha : ZV a) (hb : ZV b) : qe Tryz.prog 144 [aIs a, aIs b] (rB (JB a b)) := by
 refine qe.of qc (fn := Tryz.f144) (c := Tryz.f144.body.getD .skip) (dr := fun n => qa 0 [] n) Tryz.func144 rfl (by kernel_rfl) (by kernel_rfl) (by kernel_rfl) ?_
 obtain ⟨f, hf⟩ : ∃ f, f = qX := ⟨_, rfl⟩
 obtain ⟨g, hg⟩ : ∃ g : List Int → List Int → Bool, g = fun l a => l.any (fun x => !Zy a x) := ⟨_, rfl⟩
 have hO : qp Tryz.prog (qN [(169, QD f), (111, w2 kw (qqx 171) (fun l s => rB (g l s)) (fun l s => [LLe l maxLen, LLe s maxLen]))]) := by
  subst hf hg
  exact qb ZJ (qb (qE fun l s h => ZK l _ _ _ (fun q _ => Vf q s (h _ (.tail _ (.head _))).out) (h _ (.head _)).out) qd)
 rw [show JB a b = (f a && f b && !g b a) by rw [hf, hg]; unfold JB; rw [show (!List.any b fun x => !Zy a x) = b.all (Zy a) by rw [List.not_any_eq_all_not]; simp]]
 clear hf hg
 refine SEx.go (X := XX) qc (fun n => qa [] [] n) (fun _ => none) hO 60 ?_
 intro M R L N m0 m1 m2 m3 m4 m5
 cases M
 cbv
 repeat' first | refine m1 _ _ ?_ ?_ | refine m2 _ _ fun h => ?_ | refine m3 _ ?_ | (refine m4 _ _ (Hd.out ?_); try first | rw [hks] | rw [hk2] | rw [hk3]) | (refine m5 _ _ ?_; cbv)
 all_goals (clear m1 m2 m3 m4 m5; cases m0; (try clear hks; try clear hk2; try clear hk3); try dsimp only)
 all_goals try simp only [sm] at *
 all_goals first
  | exact ha
  | exact hb
  | exact ⟨rfl⟩
  | exact ⟨ha.len⟩
  | exact ⟨hb.len⟩
  | (simp only [jj]; simp_all; done)
  | trace_state
theorem YD (a b : List Int) (ha : ZV a) (hb : ZV b) : qe Tryz.prog 133 [aIs a, aIs b] (rB (JB a b)) := by
 refine qe.of qc (fn := Tryz.f133) (c := Tryz.f133.body.getD .skip) (dr := fun n => qa 0 [] n) Tryz.func133 rfl (by kernel_rfl) (by kernel_rfl) (by kernel_rfl) ?_
 obtain ⟨f, hf⟩ : ∃ f, f = qX := ⟨_, rfl⟩
 obtain ⟨g, hg⟩ : ∃ f, f = Zy := ⟨_, rfl⟩
 have hO : qp Tryz.prog (qN [(165, QD f), (93, qhe g)]) := by subst hf hg; exact qb wI (qb YB qd)
 rw [show JB a b = (f a && f b && qz (fun _ x => g a x) (b.drop 0) 0) by rw [hf, hg, List.drop_zero, Kx]; rfl]
 clear hf hg
 have hal := ha.len
 have hbl := hb.len
 unfold maxLen at hbl
 refine SEx.go (X := XX) qc (fun n => qa [] [(4, [0, 15, 16, 17])] n) (fun _ => none) hO 60 ?_
 intro M R L N m0 m1 m2 m3 m4 m5
 cases M
 cbv
 repeat' first | refine m1 _ _ ?_ ?_ | refine m2 _ _ fun h => ?_ | refine m3 _ ?_ | (refine m4 _ _ (Hd.out ?_); generalize hks : (List.cons _ _ : List K) = ks) | (refine m5 _ _ ?_; cbv)
 all_goals (clear m1 m2 m3 m4 m5; cases m0; try dsimp only)
 all_goals try simp only [sm] at *
 all_goals first
  | exact ha
  | exact hb
  | (simp only [jj]; simp_all; done)
  | skip
 rw [show f a = true by assumption, show f b = true by assumption, Bool.true_and, Bool.true_and]
 obtain ⟨m, hm⟩ : ∃ m, m = b.length := ⟨_, rfl⟩
 refine ⟨SEx.same (SEx.idx m (fun i => ⟨26, [(0, bL (.i a)), (15, bL (.i b)), (16, bI m), (17, bI i)], []⟩) (fun i => rB (qz (fun _ x => g a x) (b.drop i) i)) ?_) (by rw [hm]; rfl) rfl⟩
 intro i hi ih
 rw [← hks]
 refine SEx.go (X := XX) qc (fun n => qa [] [(4, [0, 15, 16, 17])] n) (fun _ => none) hO 60 ?_
 intro M R L N m0 m1 m2 m3 m4 m5
 cases M
 cbv
 repeat' first | refine m1 _ _ ?_ ?_ | refine m2 _ _ fun h => ?_ | refine m3 _ ?_ | (refine m4 _ _ (Hd.out ?_); try first | rw [hks] | rw [hk2] | rw [hk3]) | (refine m5 _ _ ?_; cbv)
 all_goals (clear m1 m2 m3 m4 m5; cases m0; (try clear hks; try clear hk2; try clear hk3); try dsimp only)
 all_goals try simp only [sm] at *
 all_goals first
  | omega
  | exact ⟨hal⟩
  | (rw [wh (p := fun _ x => g a x) (l := b) (i := i) (0 : Int) (by omega) (by assumption)]; rfl)
  | (simp only [qg (show i < 9223372036854775807 by omega)]; exact ⟨(ih (by omega)).same rfl (by rw [w7 (p := fun _ x => g a x) (l := b) (i := i) (0 : Int) (by omega) (by assumption)])⟩)
  | (rw [List.drop_eq_nil_of_le (by omega)]; rfl)
  | trace_state
def vh (f : List Int → List Int → Bool) : Wr := w2 kw kw (fun a b => rB (f a b)) (fun a b => [ZV a, ZV b])
theorem qci : qC Tryz.prog 133 (vh JB) := qE fun a b h => YD a b (h _ (.head _)) (h _ (.tail _ (.head _)))
theorem qcq : qC Tryz.prog 144 (vh JB) := qE fun a b h => yU a b (h _ (.head _)) (h _ (.tail _ (.head _)))
end Go.Proofs.YtececadpjelanaaGreat.Ai
namespace Go.Proofs.YtececadpjelanaaGreat.Ai
open Go
set_option maxRecDepth 100000
variable [qh]
structure qpv (p : Int) : Prop where out : 0 < p
def zC (l : List qi) (p : Int) : Int := zR (fun q => q.watch == p) l 0
theorem KJ (t : qn) (p : Int) (h1 : t.nodes.length ≤ maxLen) : qe Tryz.prog 72 [qR t, aI p] (rI (zC t.nodes p)) := by
 refine qe.of qc (fn := Tryz.f72) (c := Tryz.f72.body.getD .skip) (dr := fun n => qa 0 [] n) Tryz.func72 rfl (by kernel_rfl) (by kernel_rfl) (by kernel_rfl) ?_
 obtain ⟨cs, ps, hr⟩ := t
 have h1 : cs.length ≤ maxLen := h1
 unfold maxLen at h1
 show SEx _ _ _ _ _ _ (rI (zR _ cs 0))
 refine SEx.go (X := XX) qc (fun n => qa [] [(2, [1, 8, 9, 10])] n) (fun _ => none) qd 60 ?_
 intro M R L N m0 m1 m2 m3 m4 m5
 cases M
 cbv
 repeat' first | refine m1 _ _ ?_ ?_ | refine m2 _ _ fun h => ?_ | refine m3 _ ?_ | (refine m4 _ _ (Hd.out ?_); generalize hks : (List.cons _ _ : List K) = ks) | (refine m5 _ _ ?_; cbv)
 all_goals (clear m1 m2 m3 m4 m5; cases m0; try dsimp only)
 all_goals try simp only [sm] at *
 obtain ⟨n, hn⟩ : ∃ n, n = cs.length := ⟨_, rfl⟩
 refine ⟨SEx.same (SEx.idx n (fun i => ⟨21, [(1, bI p), (8, bL (.node false none cs)), (9, bI n), (10, bI i)], []⟩) (fun i => rI (zR (fun q => q.watch == p) (cs.drop i) i)) ?_) (by rw [hn]; rfl) rfl⟩
 intro i hi ih
 rw [← hks]
 refine SEx.go (X := XX) qc (fun n => qa [] [(2, [1, 8, 9, 10])] n) (fun _ => none) qd 60 ?_
 intro M R L N m0 m1 m2 m3 m4 m5
 cases M
 cbv
 repeat' first | refine m1 _ _ ?_ ?_ | refine m2 _ _ fun h => ?_ | refine m3 _ ?_ | (refine m4 _ _ (Hd.out ?_); try first | rw [hks] | rw [hk2] | rw [hk3]) | (refine m5 _ _ ?_; cbv)
 all_goals (clear m1 m2 m3 m4 m5; cases m0; (try clear hks; try clear hk2; try clear hk3); try dsimp only)
 all_goals try simp only [sm] at *
 all_goals first
  | omega
  | exact ⟨rfl, by cases caps <;> rfl⟩
  | exact ⟨rfl, rfl⟩
  | exact qo (z := qi.z) (by omega)
  | (rw [jP (p := fun q => q.watch == p) (l := cs) (i := i) qi.z (by omega) (by first | assumption | exact beq_iff_eq.2 (by assumption))]; rfl)
  | (rw [jT (by omega)]; rfl)
  | (simp only [qg (show i < 9223372036854775807 by omega)]; exact ⟨(ih (by omega)).same rfl (by rw [QW (p := fun q => q.watch == p) (l := cs) (i := i) qi.z (by omega) (by first | assumption | exact beq_eq_false_iff_ne.2 (by assumption) | (simp_all; done))])⟩)
 all_goals trace_state
def qrB (k : Nat) : Dc Int := ⟨fun s => aF k [.ptr [.int .i64 s]], fun | (false, [.fn f [.ptr [.int .i64 s]]]) => (match nq f k with | true => some s | false => none) | _ => none, by
 intro x a h
 split at h
 · split at h
   · rename_i hk
     obtain rfl := QG.1 hk
     simp only [Option.some.injEq] at h; subst h; rfl
   · cases h
 · cases h⟩
theorem W9 (q : qi) (p : Int) (hp : 0 < p) : qe Tryz.prog 147 [wo q, (false, [.ptr [.int .i64 p]])] (rB (q.watch == p)) := by
 refine qe.of qc (fn := Tryz.f147) (c := Tryz.f147.body.getD .skip) (dr := fun n => qa 0 [] n) Tryz.func147 rfl (by kernel_rfl) (by kernel_rfl) (by kernel_rfl) ?_
 obtain ⟨x1, x2, x3⟩ := q
 refine SEx.go (X := XX) qc (fun n => qa [] [] n) (fun _ => none) qd 60 ?_
 intro M R L N m0 m1 m2 m3 m4 m5
 cases M
 cbv
 repeat' first | refine m1 _ _ ?_ ?_ | refine m2 _ _ fun h => ?_ | refine m3 _ ?_ | (refine m4 _ _ (Hd.out ?_); try first | rw [hks] | rw [hk2] | rw [hk3]) | (refine m5 _ _ ?_; cbv)
 all_goals (clear m1 m2 m3 m4 m5; cases m0; (try clear hks; try clear hk2; try clear hk3); try dsimp only)
 all_goals try simp only [sm] at *
 all_goals first
  | rfl
  | (exfalso; omega)
  | trace_state
theorem Yu (t : qn) (p : Int) (h1 : t.nodes.length ≤ maxLen) (hp : 0 < p) : qe Tryz.prog 115 [qR t, aI p] (rI (zC t.nodes p)) := by
 refine qe.of qc (fn := Tryz.f115) (c := Tryz.f115.body.getD .skip) (dr := fun n => qa 0 [] n) Tryz.func115 rfl (by kernel_rfl) (by kernel_rfl) (by kernel_rfl) ?_
 obtain ⟨f, hf⟩ : ∃ f, f = zC := ⟨_, rfl⟩
 have hO : qp Tryz.prog (qN [(146, w2 wG (qrB 147) (fun l s => rI (f l s)) (fun l s => [LLe l maxLen, qpv s]))]) := by
  subst hf
  exact qb (qE fun l s h => yf l _ _ _ (fun q _ => W9 q s (h _ (.tail _ (.head _))).out) (h _ (.head _)).out) qd
 obtain ⟨cs, ps, hr⟩ := t
 have h1 : cs.length ≤ maxLen := h1
 refine SEx.go (X := XX) qc (fun n => qa [] [] n) (fun _ => none) hO 60 ?_
 intro M R L N m0 m1 m2 m3 m4 m5
 cases M
 cbv
 repeat' first | refine m1 _ _ ?_ ?_ | refine m2 _ _ fun h => ?_ | refine m3 _ ?_ | (refine m4 _ _ (Hd.out ?_); try first | rw [hks] | rw [hk2] | rw [hk3]) | (refine m5 _ _ ?_; cbv)
 all_goals (clear m1 m2 m3 m4 m5; cases m0; (try clear hks; try clear hk2; try clear hk3); try dsimp only)
 all_goals try simp only [sm] at *
 all_goals first
  | exact ⟨h1⟩
  | exact ⟨hp⟩
  | (subst hf; rfl)
  | trace_state
def KF (f : List qi → Int → Int) : Wr := w2 qQ dcI (fun t p => rI (f t.nodes p)) (fun t p => [LLe t.nodes maxLen, qpv p])
theorem qcg : qC Tryz.prog 72 (KF zC) := qE fun t p h => KJ t p (h _ (.head _)).out
theorem wV : qC Tryz.prog 115 (KF zC) := qE fun t p h => Yu t p (h _ (.head _)).out (h _ (.tail _ (.head _))).out
end Go.Proofs.YtececadpjelanaaGreat.Ai
namespace Go.Proofs.YtececadpjelanaaGreat.Ai
open Go
set_option maxRecDepth 100000
variable [qh]
def qdd (n : Int) : Bool := decide (-20 ≤ n) && decide (n ≤ 20)
theorem qkm (n : Int) : qe Tryz.prog 139 [aI n] (rB (qdd n)) := by
 refine qe.of qc (fn := Tryz.f139) (c := Tryz.f139.body.getD .skip) (dr := fun n => qa 0 [] n) Tryz.func139 rfl (by kernel_rfl) (by kernel_rfl) (by kernel_rfl) ?_
 refine SEx.go (X := XX) qc (fun n => qa [] [] n) (fun _ => none) qd 60 ?_
 intro M R L N m0 m1 m2 m3 m4 m5
 cases M
 cbv
 repeat' first | refine m1 _ _ ?_ ?_ | refine m2 _ _ fun h => ?_ | refine m3 _ ?_ | (refine m4 _ _ (Hd.out ?_); try first | rw [hks] | rw [hk2] | rw [hk3]) | (refine m5 _ _ ?_; cbv)
 all_goals (clear m1 m2 m3 m4 m5; cases m0; (try clear hks; try clear hk2; try clear hk3); try dsimp only)
 all_goals try simp only [sm] at *
 all_goals simp only [jj, qdd]
 all_goals first
  | (rw [decide_eq_false (show ¬ -20 ≤ n by omega)]; rfl)
  | (rw [decide_eq_true (show -20 ≤ n by omega), Bool.true_and])
def qpu (f : Int → Bool) : Wr := w1 dcI (fun n => rB (f n)) (fun _ => [])
theorem qlX : qC Tryz.prog 139 (qpu qdd) := zJ fun n _ => qkm n
def QZ (a b : List Int) : Bool := decide (a.length = b.length) && qz (fun i x => x == b.getD i 0) a 0
theorem qgv (a b : List Int) (h1 : a.length ≤ maxLen) (h2 : b.length ≤ maxLen) : qe Tryz.prog 85 [aIs a, aIs b] (rB (QZ a b)) := by
 refine qe.of qc (fn := Tryz.f85) (c := Tryz.f85.body.getD .skip) (dr := fun n => qa 0 [] n) Tryz.func85 rfl (by kernel_rfl) (by kernel_rfl) (by kernel_rfl) ?_
 unfold maxLen at h1 h2
 rw [show QZ a b = (decide (a.length = b.length) && qz (fun i x => x == b.getD i 0) (a.drop 0) 0) by rw [List.drop_zero]; rfl]
 refine SEx.go (X := XX) qc (fun n => qa [] [(4, [1, 12, 13, 14])] n) (fun _ => none) qd 60 ?_
 intro M R L N m0 m1 m2 m3 m4 m5
 cases M
 cbv
 repeat' first | refine m1 _ _ ?_ ?_ | refine m2 _ _ fun h => ?_ | refine m3 _ ?_ | (refine m4 _ _ (Hd.out ?_); generalize hks : (List.cons _ _ : List K) = ks) | (refine m5 _ _ ?_; cbv)
 all_goals (clear m1 m2 m3 m4 m5; cases m0; try dsimp only)
 all_goals try simp only [sm] at *
 · simp only [jj]; rw [decide_eq_false (by omega)]; rfl
 have hab : a.length = b.length := by omega
 rw [decide_eq_true hab, Bool.true_and]
 obtain ⟨m, hm⟩ : ∃ m, m = a.length := ⟨_, rfl⟩
 refine ⟨SEx.same (SEx.idx m (fun i => ⟨26, [(1, bL (.i b)), (12, bL (.i a)), (13, bI m), (14, bI i)], []⟩) (fun i => rB (qz (fun i x => x == b.getD i 0) (a.drop i) i)) ?_) (by rw [hm]; rfl) rfl⟩
 intro i hi ih
 rw [← hks]
 refine SEx.go (X := XX) qc (fun n => qa [] [(4, [1, 12, 13, 14])] n) (fun _ => none) qd 60 ?_
 intro M R L N m0 m1 m2 m3 m4 m5
 cases M
 cbv
 repeat' first | refine m1 _ _ ?_ ?_ | refine m2 _ _ fun h => ?_ | refine m3 _ ?_ | (refine m4 _ _ (Hd.out ?_); try first | rw [hks] | rw [hk2] | rw [hk3]) | (refine m5 _ _ ?_; cbv)
 all_goals (clear m1 m2 m3 m4 m5; cases m0; (try clear hks; try clear hk2; try clear hk3); try dsimp only)
 all_goals try simp only [sm] at *
 all_goals first
  | omega
  | (rw [wh (p := fun i x => x == b.getD i 0) (l := a) (i := i) (0 : Int) (by omega) (beq_eq_false_iff_ne.2 (by assumption))]; rfl)
  | (simp only [qg (show i < 9223372036854775807 by omega)]; exact ⟨(ih (by omega)).same rfl (by rw [w7 (p := fun i x => x == b.getD i 0) (l := a) (i := i) (0 : Int) (by omega) (beq_iff_eq.2 (by assumption))])⟩)
  | (rw [List.drop_eq_nil_of_le (by omega)]; rfl)
  | trace_state
theorem qjI (a b : List Int) (h1 : a.length ≤ maxLen) (h2 : b.length ≤ maxLen) : qe Tryz.prog 89 [aIs a, aIs b] (rB (QZ a b)) := by
 refine qe.of qc (fn := Tryz.f89) (c := Tryz.f89.body.getD .skip) (dr := fun n => qa 0 [(6, 8)] n) Tryz.func89 rfl (by kernel_rfl) (by kernel_rfl) (by kernel_rfl) ?_
 unfold maxLen at h1 h2
 rw [show QZ a b = (decide (a.length = b.length) && qz (fun i x => x == b.getD i 0) (a.drop 0) 0) by rw [List.drop_zero]; rfl]
 refine SEx.go (X := XX) qc (fun n => qa [] [(4, [0, 1, 12, 13])] n) (fun _ => none) qd 60 ?_
 intro M R L N m0 m1 m2 m3 m4 m5
 cases M
 cbv
 repeat' first | refine m1 _ _ ?_ ?_ | refine m2 _ _ fun h => ?_ | refine m3 _ ?_ | (refine m4 _ _ (Hd.out ?_); generalize hks : (List.cons _ _ : List K) = ks) | (refine m5 _ _ ?_; cbv)
 all_goals (clear m1 m2 m3 m4 m5; cases m0; try dsimp only)
 all_goals try simp only [sm] at *
 · simp only [jj]; rw [decide_eq_false (by omega)]; rfl
 have hab : a.length = b.length := by omega
 rw [decide_eq_true hab, Bool.true_and]
 obtain ⟨m, hm⟩ : ∃ m, m = a.length := ⟨_, rfl⟩
 refine ⟨SEx.same (SEx.idx m (fun i => ⟨26, [(0, bL (.i a)), (1, bL (.i b)), (12, bI m), (13, bI i)], []⟩) (fun i => rB (qz (fun i x => x == b.getD i 0) (a.drop i) i)) ?_) (by rw [hm]; rfl) rfl⟩
 intro i hi ih
 rw [← hks]
 refine SEx.go (X := XX) qc (fun n => qa [] [(4, [0, 1, 12, 13])] n) (fun _ => none) qd 60 ?_
 intro M R L N m0 m1 m2 m3 m4 m5
 cases M
 cbv
 repeat' first | refine m1 _ _ ?_ ?_ | refine m2 _ _ fun h => ?_ | refine m3 _ ?_ | (refine m4 _ _ (Hd.out ?_); try first | rw [hks] | rw [hk2] | rw [hk3]) | (refine m5 _ _ ?_; cbv)
 all_goals (clear m1 m2 m3 m4 m5; cases m0; (try clear hks; try clear hk2; try clear hk3); try dsimp only)
 all_goals try simp only [sm] at *
 all_goals first
  | omega
  | (rw [wh (p := fun i x => x == b.getD i 0) (l := a) (i := i) (0 : Int) (by omega) (beq_eq_false_iff_ne.2 (by assumption))]; rfl)
  | (simp only [qg (show i < 9223372036854775807 by omega)]; exact ⟨(ih (by omega)).same rfl (by rw [w7 (p := fun i x => x == b.getD i 0) (l := a) (i := i) (0 : Int) (by omega) (beq_iff_eq.2 (by assumption))])⟩)
  | (rw [List.drop_eq_nil_of_le (by omega)]; rfl)
  | trace_state
theorem qbb : ∀ (a c : List Int) (b : List Int) (k : Nat), c = b.drop k → a.length = c.length → (qz (fun i x => x == b.getD i 0) a k = decide (a = c))
 | [], [], _, _, _, _ => rfl
 | [], _ :: _, _, _, _, h => by simp at h
 | _ :: _, [], _, _, _, h => by simp at h
 | x :: r, y :: s, b, k, hc, hl => by
   have hk : k < b.length := by
    apply Decidable.byContradiction; intro h
    rw [List.drop_eq_nil_of_le (by omega)] at hc; cases hc
   rw [List.drop_eq_getElem_cons hk] at hc
   injection hc with h1 h2
   unfold qz
   rw [qbb r s b (k + 1) h2 (by simpa using hl), List.getD_eq_getElem?_getD, List.getElem?_eq_getElem hk, Option.getD_some, ← h1]
   rw [Bool.eq_iff_iff]; simp
theorem qe9 (a b : List Int) : QZ a b = decide (a = b) := by
 unfold QZ
 by_cases h : a.length = b.length
 · rw [decide_eq_true h, Bool.true_and, qbb a b b 0 rfl h]
 · rw [decide_eq_false h, Bool.false_and, decide_eq_false (fun e => h (by rw [e]))]
def qcI (f : List Int → List Int → Bool) : Wr := w2 kw kw (fun a b => rB (f a b)) (fun a b => [LLe a maxLen, LLe b maxLen])
theorem qk0 : qC Tryz.prog 85 (qcI QZ) := qE fun a b h => qgv a b (h _ (.head _)).out (h _ (.tail _ (.head _))).out
theorem qkn : qC Tryz.prog 89 (qcI QZ) := qE fun a b h => qjI a b (h _ (.head _)).out (h _ (.tail _ (.head _))).out
structure V5 (q : qi) : Prop where
 name : q.name.size ≤ maxLen
 len : q.label.length ≤ maxLen
 all : ∀ n ∈ q.label, inI n
def VD (f : qi → Bool) : Wr := w1 J6 (fun q => rB (f q)) (fun q => [V5 q])
theorem qet : qC Tryz.prog 130 (VD QI) := zJ fun q h => qam q (h _ (.head _)).name (h _ (.head _)).len (h _ (.head _)).all
theorem qdT : qC Tryz.prog 137 (VD QI) := zJ fun q h => Y5 q (h _ (.head _)).name (h _ (.head _)).len (h _ (.head _)).all
end Go.Proofs.YtececadpjelanaaGreat.Ai
namespace Go.Proofs.YtececadpjelanaaGreat.Ai
open Go
set_option maxRecDepth 100000
variable [qh]
def Kn (l : List Tie) (x : Int) : Int := zR (fun q => q.free && q.dst == x) l 0
theorem qe7 (t : qn) (x : Int) (h1 : t.ties.length ≤ maxLen) : qe Tryz.prog 121 [qR t, aI x] (rI (Kn t.ties x)) := by
 refine qe.of qc (fn := Tryz.f121) (c := Tryz.f121.body.getD .skip) (dr := fun n => qa 0 [] n) Tryz.func121 rfl (by kernel_rfl) (by kernel_rfl) (by kernel_rfl) ?_
 obtain ⟨ns, cs, hr⟩ := t
 have h1 : cs.length ≤ maxLen := h1
 unfold maxLen at h1
 show SEx _ _ _ _ _ _ (rI (zR _ cs 0))
 refine SEx.go (X := XX) qc (fun n => qa [] [(2, [1, 8, 9, 10])] n) (fun _ => none) qd 60 ?_
 intro M R L N m0 m1 m2 m3 m4 m5
 cases M
 cbv
 repeat' first | refine m1 _ _ ?_ ?_ | refine m2 _ _ fun h => ?_ | refine m3 _ ?_ | (refine m4 _ _ (Hd.out ?_); generalize hks : (List.cons _ _ : List K) = ks) | (refine m5 _ _ ?_; cbv)
 all_goals (clear m1 m2 m3 m4 m5; cases m0; try dsimp only)
 all_goals try simp only [sm] at *
 obtain ⟨n, hn⟩ : ∃ n, n = cs.length := ⟨_, rfl⟩
 refine ⟨SEx.same (SEx.idx n (fun i => ⟨25, [(1, bI x), (8, bL (.tie cs)), (9, bI n), (10, bI i)], []⟩) (fun i => rI (zR (fun q => q.free && q.dst == x) (cs.drop i) i)) ?_) (by rw [hn]; rfl) rfl⟩
 intro i hi ih
 rw [← hks]
 refine SEx.go (X := XX) qc (fun n => qa [] [(2, [1, 8, 9, 10])] n) (fun _ => none) qd 60 ?_
 intro M R L N m0 m1 m2 m3 m4 m5
 cases M
 cbv
 repeat' first | refine m1 _ _ ?_ ?_ | refine m2 _ _ fun h => ?_ | refine m3 _ ?_ | (refine m4 _ _ (Hd.out ?_); try first | rw [hks] | rw [hk2] | rw [hk3]) | (refine m5 _ _ ?_; cbv)
 all_goals (clear m1 m2 m3 m4 m5; cases m0; (try clear hks; try clear hk2; try clear hk3); try dsimp only)
 all_goals try simp only [sm] at *
 all_goals first
  | omega
  | (rw [jP (p := fun q => q.free && q.dst == x) (l := cs) (i := i) Tie.z (by omega) (by simp_all)]; rfl)
  | (rw [jT (by omega)]; rfl)
  | (simp only [qg (show i < 9223372036854775807 by omega)]; exact ⟨(ih (by omega)).same rfl (by rw [QW (p := fun q => q.free && q.dst == x) (l := cs) (i := i) Tie.z (by omega) (by simp_all)])⟩)
def qeF (f : List Tie → Int → Int) : Wr := w2 qQ dcI (fun t x => rI (f t.ties x)) (fun t _ => [LLe t.ties maxLen])
theorem qa0 : qC Tryz.prog 121 (qeF Kn) := qE fun t x h => qe7 t x (h _ (.head _)).out
end Go.Proofs.YtececadpjelanaaGreat.Ai
namespace Go.Proofs.YtececadpjelanaaGreat.Ai
open Go
set_option maxRecDepth 100000
variable [qh]
def nd (ns : List qi) (x : Int) : qi := ns.getD x.toNat qi.z
def wd (ns : List qi) (ts : List Tie) (i : Nat) (q : Tie) : Bool :=
 decide (0 ≤ q.src ∧ q.src ≤ ns.length - 1 ∧ 0 ≤ q.dst ∧ q.dst ≤ ns.length - 1 ∧ ¬ q.src = q.dst ∧ -20 ≤ q.low ∧ q.high ≤ 20 ∧ q.low ≤ q.high) && (!q.free || (decide (1 ≤ q.low ∧ ¬ q.dst = 0 ∧ (nd ns q.dst).watch = 0) && QZ (nd ns q.src).label (nd ns q.dst).label && decide (Kn ts q.dst = i)))
theorem qhn (t : qn) (i : Int) (hi : 0 ≤ i ∧ i < t.ties.length) (h1 : t.nodes.length ≤ maxLen) (h2 : t.ties.length ≤ maxLen) (h3 : ∀ q ∈ t.nodes, q.label.length ≤ maxLen) : qe Tryz.prog 103 [qR t, aI i] (rB (wd t.nodes t.ties i.toNat (t.ties.getD i.toNat Tie.z))) := by
 refine qe.of qc (fn := Tryz.f103) (c := Tryz.f103.body.getD .skip) (dr := fun n => qa 0 [(5, 45)] n) Tryz.func103 rfl (by kernel_rfl) (by kernel_rfl) (by kernel_rfl) ?_
 obtain ⟨f0, hf0⟩ : ∃ f, f = kf := ⟨_, rfl⟩
 obtain ⟨f1, hf1⟩ : ∃ f, f = QZ := ⟨_, rfl⟩
 obtain ⟨f2, hf2⟩ : ∃ f, f = Kn := ⟨_, rfl⟩
 have hO : qp Tryz.prog (qN [(70, qai f0), (85, qcI f1), (121, qeF f2)]) := by subst hf0 hf1 hf2; exact qb Qq (qb qk0 (qb qa0 qd))
 obtain ⟨ns, ts, hr⟩ := t
 have hi : 0 ≤ i ∧ i < ts.length := hi
 have h1 : ns.length ≤ maxLen := h1
 have h2 : ts.length ≤ maxLen := h2
 have h3 : ∀ q ∈ ns, q.label.length ≤ maxLen := h3
 show SEx _ _ _ _ _ _ (rB (wd ns ts i.toNat (ts.getD i.toNat Tie.z)))
 obtain ⟨n, rfl⟩ : ∃ n : Nat, i = n := ⟨i.toNat, by omega⟩
 refine SEx.go (X := XX) qc (fun n => qa [] [] n) (fun _ => none) hO 60 ?_
 intro M R L N m0 m1 m2 m3 m4 m5
 cases M
 cbv
 repeat' first | refine m1 _ _ ?_ ?_ | refine m2 _ _ fun h => ?_ | refine m3 _ ?_ | (refine m4 _ _ (Hd.out ?_); try first | rw [hks] | rw [hk2] | rw [hk3]) | (refine m5 _ _ ?_; cbv)
 all_goals (clear m1 m2 m3 m4 m5; cases m0; (try clear hks; try clear hk2; try clear hk3); try dsimp only)
 all_goals try simp only [sm] at *
 all_goals (have hQ := qo (z := Tie.z) (l := ts) (i := n) (by omega); generalize ts.getD n Tie.z = q at *; obtain ⟨x1, x2, x3, x4, x5⟩ := q)
 all_goals (clear hO; subst hf0 hf1 hf2; unfold maxLen at h1 h2; try dsimp only at *)
 all_goals (try simp only [qx (n := (ns.length : Int) - 1) (by omega) (by omega), kf, Bool.and_eq_true, Bool.and_eq_false_iff, decide_eq_true_eq, decide_eq_false_iff_not] at *)
 all_goals first
  | omega
  | exact ⟨h2⟩
  | exact ⟨h3 _ (qo (z := qi.z) (by omega)).out⟩
  | (simp only [jj]; symm; rw [Bool.eq_false_iff]; intro h; simp only [wd, Bool.and_eq_true, Bool.or_eq_true, Bool.not_eq_true', decide_eq_true_eq] at h; simp only [nd] at h; first | omega | (simp_all; done) | (simp_all; omega))
  | (simp only [jj]; symm; simp only [wd, Bool.and_eq_true, Bool.or_eq_true, Bool.not_eq_true', decide_eq_true_eq]; first | (refine ⟨by omega, .inl ?_⟩; assumption) | (refine ⟨by omega, .inr ⟨⟨by omega, ?_⟩, ?_⟩⟩ <;> assumption))
  | (simp only [jj]; simp only [wd, nd]; rw [Bool.eq_iff_iff]; simp only [Bool.and_eq_true, Bool.or_eq_true, Bool.not_eq_true', decide_eq_true_eq, beq_iff_eq]; constructor; (· intro h; exact ⟨by omega, .inr ⟨⟨⟨by assumption, by assumption, by assumption⟩, by assumption⟩, h⟩⟩); (· rintro ⟨-, h | h⟩; (· have := h.symm.trans (by assumption : _ = true); cases this); (· exact h.2)))
  | (simp only [jj]; rw [Bool.eq_iff_iff]; simp only [wd, Bool.and_eq_true, Bool.or_eq_true, Bool.not_eq_true', decide_eq_true_eq, beq_iff_eq]; simp only [nd]; constructor; (· intro h; exact ⟨by omega, .inr ⟨⟨⟨by assumption, by assumption, by assumption⟩, by assumption⟩, h⟩⟩); (· rintro ⟨-, h | h⟩; (· have := h.symm.trans (by assumption : _ = true); cases this); (· exact h.2)))
def qqP {α : Type} (k : Nat) (g : Bool) (d : Dc α) (hg : ∀ a, (d.enc a).1 = g) : Dc α := ⟨fun a => aF k [.ptr (d.enc a).2], fun | (false, [.fn f [.ptr x]]) => (match nq f k with | true => d.dec (g, x) | false => none) | _ => none, by
 intro x a h
 split at h
 · split at h
   · rename_i hk
     obtain rfl := QG.1 hk
     have := d.ok _ _ h
     have e := congrArg Prod.snd this
     simp only [zU] at e
     simp only [zU, D.erL, D.er, aF, e]
   · cases h
 · cases h⟩
theorem qeK (u t : Tie) : qe Tryz.prog 140 [YM u, (false, [.ptr t.d])] (rB (u.free && u.dst == t.dst)) := by
 refine qe.of qc (fn := Tryz.f140) (c := Tryz.f140.body.getD .skip) (dr := fun n => qa 0 [] n) Tryz.func140 rfl (by kernel_rfl) (by kernel_rfl) (by kernel_rfl) ?_
 obtain ⟨x1, x2, x3, x4, x5⟩ := u
 obtain ⟨y1, y2, y3, y4, y5⟩ := t
 refine SEx.go (X := XX) qc (fun n => qa [] [] n) (fun _ => none) qd 60 ?_
 intro M R L N m0 m1 m2 m3 m4 m5
 cases M
 cbv
 repeat' first | refine m1 _ _ ?_ ?_ | refine m2 _ _ fun h => ?_ | refine m3 _ ?_ | (refine m4 _ _ (Hd.out ?_); try first | rw [hks] | rw [hk2] | rw [hk3]) | (refine m5 _ _ ?_; cbv)
 all_goals (clear m1 m2 m3 m4 m5; cases m0; (try clear hks; try clear hk2; try clear hk3); try dsimp only)
 all_goals try simp only [sm] at *
 all_goals simp only [jj]
 all_goals (rw [show x5 = _ by assumption]; rfl)
def qrj (k : Nat) : Dc Tie := qqP k true yF fun _ => rfl
def qeJ (ns : List qi) (ts : List Tie) (i : Nat) (q : Tie) : Bool :=
 decide (0 ≤ q.src ∧ q.src ≤ ns.length - 1 ∧ 0 ≤ q.dst ∧ q.dst ≤ ns.length - 1 ∧ ¬ q.src = q.dst ∧ -20 ≤ q.low ∧ q.high ≤ 20 ∧ q.low ≤ q.high) && (!q.free || (decide (1 ≤ q.low ∧ ¬ q.dst = 0 ∧ (nd ns q.dst).watch = 0) && QZ (nd ns q.dst).label (nd ns q.src).label && !((ts.take i).any fun u => u.free && u.dst == q.dst)))
theorem qf8 (t : qn) (h1 : t.nodes.length ≤ maxLen) (h2 : t.ties.length ≤ maxLen) (h3 : ∀ q ∈ t.nodes, q.label.length ≤ maxLen) : qe Tryz.prog 110 [qR t] (rB (qz (qeJ t.nodes t.ties) t.ties 0 && decide (t.ties.length ≤ 14))) := by
 refine qe.of qc (fn := Tryz.f110) (c := Tryz.f110.body.getD .skip) (dr := fun n => qa 0 [(7, 33)] n) Tryz.func110 rfl (by kernel_rfl) (by kernel_rfl) (by kernel_rfl) ?_
 obtain ⟨f0, hf0⟩ : ∃ f, f = w9 := ⟨_, rfl⟩
 obtain ⟨f1, hf1⟩ : ∃ f, f = QZ := ⟨_, rfl⟩
 obtain ⟨f2, hf2⟩ : ∃ f, f = qdd := ⟨_, rfl⟩
 obtain ⟨f3, hf3⟩ : ∃ f : List Tie → Tie → Bool, f = fun l q => l.any fun u => u.free && u.dst == q.dst := ⟨_, rfl⟩
 have hO : qp Tryz.prog (qN [(138, qiQ f0), (139, qpu f2), (89, qcI f1), (126, w2 Kr (qrj 140) (fun l q => rB (f3 l q)) (fun l q => [LLe l maxLen]))]) := by
  subst hf0 hf1 hf2 hf3
  exact qb qfR (qb qlX (qb qkn (qb (qE fun l q h => KS l _ _ _ (fun u _ => qeK u q) (h _ (.head _)).out) qd)))
 obtain ⟨ns, ts, hr⟩ := t
 have h1 : ns.length ≤ maxLen := h1
 have h2 : ts.length ≤ maxLen := h2
 have h3 : ∀ q ∈ ns, q.label.length ≤ maxLen := h3
 unfold maxLen at h1 h2
 show SEx _ _ _ _ _ _ (rB (qz (qeJ ns ts) ts 0 && decide (ts.length ≤ 14)))
 obtain ⟨c, hc⟩ : ∃ c, c = decide (ts.length ≤ 14) := ⟨_, rfl⟩
 obtain ⟨p, hp⟩ : ∃ p, p = qeJ ns ts := ⟨_, rfl⟩
 rw [← hc, ← hp]
 refine SEx.go (X := XX) qc (fun n => qa [] [(2, [1, 6, 7, 8])] n) (fun _ => none) hO 60 ?_
 intro M R L N m0 m1 m2 m3 m4 m5
 cases M
 cbv
 repeat' first | refine m1 _ _ ?_ ?_ | refine m2 _ _ fun h => ?_ | refine m3 _ ?_ | (refine m4 _ _ (Hd.out ?_); generalize hks : (List.cons _ _ : List K) = ks) | (refine m5 _ _ ?_; cbv)
 all_goals (clear m1 m2 m3 m4 m5; cases m0; try dsimp only)
 all_goals try simp only [sm] at *
 obtain ⟨m, hm⟩ : ∃ m, m = ts.length := ⟨_, rfl⟩
 refine ⟨SEx.same (SEx.idx m (fun i => ⟨105, [(1, bP 4096), (6, bL (.tie ts)), (7, bI m), (8, bI i)], [(4096, .obx [.fz (.sl (.node false none ns)), .fz (.sl (.tie ts)), .fz (.int .i64 hr)])]⟩) (fun i => rB (qz p (ts.drop i) i && c)) ?_) (by rw [hm]; rfl) rfl⟩
 intro i hi ih
 rw [← hks]
 have hl : i < m → q8 _ _ _ := fun h => q8.of p ts i c Tie.z (by omega)
 have he : i = m → (qz p (ts.drop i) i && c) = c := fun h => qK (by omega)
 refine SEx.go (X := XX) qc (fun n => qa [] [(2, [1, 6, 7, 8])] n) (fun _ => none) hO 60 ?_
 intro M R L N m0 m1 m2 m3 m4 m5
 cases M
 cbv
 repeat' first | refine m1 _ _ ?_ ?_ | refine m2 _ _ fun h => ?_ | refine m3 _ ?_ | (refine m4 _ _ (Hd.out ?_); try first | rw [hks] | rw [hk2] | rw [hk3]) | (refine m5 _ _ ?_; cbv)
 all_goals (clear m1 m2 m3 m4 m5; cases m0; (try clear hks; try clear hk2; try clear hk3); try dsimp only)
 all_goals try simp only [sm] at *
 all_goals (clear hO; subst hf0 hf1 hf2 hf3)
 all_goals (try simp only [qg (show i < 9223372036854775807 by omega)])
 all_goals (try refine ⟨(ih (by omega)).same rfl ?_⟩)
 all_goals (clear ih)
 all_goals (generalize ts.getD i Tie.z = q at *; obtain ⟨x1, x2, x3, x4, x5⟩ := q; try dsimp only at *)
 all_goals (try simp only [w9, qdd, Bool.and_eq_true, Bool.and_eq_false_iff, decide_eq_true_eq, decide_eq_false_iff_not] at *)
 all_goals first
  | omega
  | exact ⟨h3 _ (qo (z := qi.z) (by omega)).out⟩
  | (refine ⟨?_⟩; simp only [List.length_take]; omega)
  | (rw [he (by omega), hc]; simp only [jj]; apply decide_eq_decide.2; omega)
  | (refine (hl (by omega)).stop _ ?_; clear hl he; rw [hp, Bool.eq_false_iff]; intro h; simp only [qeJ, Bool.and_eq_true, Bool.or_eq_true, Bool.not_eq_true', decide_eq_true_eq] at h; simp only [nd] at h; first | omega | (rcases h with ⟨-, h | h⟩; (· simp_all; done); (· refine absurd h.2 ?_; rw [Bool.not_eq_false]; assumption)) | (generalize ns.getD x2.toNat qi.z = r2 at *; generalize ns.getD x1.toNat qi.z = r1 at *; cases r1; cases r2; simp_all; done) | (simp_all; omega))
  | (refine (hl (by omega)).go ?_; clear hl he; rw [hp]; simp only [qeJ, Bool.and_eq_true, Bool.or_eq_true, Bool.not_eq_true', decide_eq_true_eq]; first | (refine ⟨by omega, .inl ?_⟩; assumption) | (refine ⟨by omega, .inr ⟨⟨⟨by omega, by omega, by assumption⟩, ?_⟩, ?_⟩⟩ <;> assumption))
  | trace_state
theorem K4 {α : Type} {p : α → Bool} : ∀ {l : List α} {i : Nat} (n : Nat) (z : α), i < l.length → p (l.getD i z) = true → (zR p l n = (n + i : Nat) ↔ (l.take i).any p = false)
 | [], i, n, z, h, _ => absurd h (Nat.not_lt_zero _)
 | a :: r, 0, n, z, _, hp => by simp only [List.getD_cons_zero] at hp; simp [zR, hp]
 | a :: r, i + 1, n, z, h, hp => by
   simp only [List.getD_cons_succ] at hp
   simp only [List.length_cons] at h
   have ih := K4 (l := r) (i := i) (n + 1) z (by omega) hp
   have hge := (qbD p r (n + 1)).2
   unfold zR
   simp only [List.take_succ_cons, List.any_cons]
   cases ha : p a with
   | true => simp; omega
   | false =>
     simp only [Bool.false_or, Bool.false_eq_true, if_false]
     rw [← ih, show n + 1 + i = n + (i + 1) by omega]
theorem qgZ (a b : List Int) : QZ a b = QZ b a := by
 rw [qe9, qe9, Bool.eq_iff_iff]
 simp only [decide_eq_true_eq]
 exact ⟨fun h => h.symm, fun h => h.symm⟩
theorem qo3 {ns : List qi} {ts : List Tie} {i : Nat} {q : Tie} (h : ts[i]? = some q) : qeJ ns ts i q = wd ns ts i q := by
 have hi : i < ts.length := by rw [List.getElem?_eq_some_iff] at h; exact h.1
 have hq : ts.getD i Tie.z = q := by rw [List.getD_eq_getElem?_getD, h]; rfl
 unfold qeJ wd
 cases hf : q.free with
 | false => rfl
 | true =>
   have e : decide (Kn ts q.dst = i) = !((ts.take i).any fun u => u.free && u.dst == q.dst) := by
    have := K4 (p := fun u : Tie => u.free && u.dst == q.dst) (l := ts) (i := i) 0 Tie.z hi (by rw [hq, hf]; simp)
    rw [Nat.zero_add] at this
    rw [Bool.eq_iff_iff]
    simp only [decide_eq_true_eq, Bool.not_eq_true']
    exact this
   rw [e, qgZ]
theorem qn1 (ns : List qi) (ts : List Tie) : qz (qeJ ns ts) ts 0 = qz (wd ns ts) ts 0 := J8 ts 0 fun i q h => by rw [Nat.zero_add]; exact qo3 h
def qqZ (f : List qi → List Tie → Nat → Tie → Bool) : Wr := w2 qQ dcI (fun t i => rB (f t.nodes t.ties i.toNat (t.ties.getD i.toNat Tie.z))) (fun t i => [InX i t.ties, LLe t.nodes maxLen, LLe t.ties maxLen, vA t.nodes maxLen])
theorem qoi : qC Tryz.prog 103 (qqZ wd) := qE fun t i h => qhn t i (h _ (.head _)).out (h _ (.tail _ (.head _))).out (h _ (.tail _ (.tail _ (.head _)))).out (h _ (.tail _ (.tail _ (.tail _ (.head _))))).out
def qev (f : List qi → List Tie → Bool) : Wr := w1 qQ (fun t => rB (f t.nodes t.ties)) (fun t => [LLe t.nodes maxLen, LLe t.ties maxLen, vA t.nodes maxLen])
def JJ (ns : List qi) (ts : List Tie) : Bool := qz (wd ns ts) ts 0 && decide (ts.length ≤ 14)
theorem qem : qC Tryz.prog 110 (qev JJ) := zJ fun t h => by unfold JJ; rw [← qn1]; exact qf8 t (h _ (.head _)).out (h _ (.tail _ (.head _))).out (h _ (.tail _ (.tail _ (.head _)))).out
end Go.Proofs.YtececadpjelanaaGreat.Ai
namespace Go.Proofs.YtececadpjelanaaGreat.Ai
open Go
set_option maxRecDepth 100000
variable [qh]
def qko (x : Int) : Int := IntKind.i64.wrap (-x)
def WW (cs : List qi) (x : Int) : List Int := (cs.getD x.toNat qi.z).label
def wdB (cs : List qi) (l : List Int) (x : Int) : Bool := decide (0 ≤ zC cs (zE x)) && (!Zy (WW cs (zC cs (zE x))) x && (!Zy (WW cs (zC cs (zE x))) (qko x) && JB l (WW cs (zC cs (zE x)))))
def We (f : List qi → Int → Int) : Wr := w2 qQ dcI (fun t p => rI (f t.nodes p)) (fun t p => [LLe t.nodes maxLen])
theorem wP : qC Tryz.prog 72 (We zC) := qE fun t p h => KJ t p (h _ (.head _)).out
def qmS (f : List qi → ByteArray → Int) : Wr := w2 qQ dcS (fun t p => rI (f t.nodes p)) (fun t p => [LLe t.nodes maxLen])
def qhK (l : List qi) (s : ByteArray) : Int := zR (fun q => eqS q.name s) l 0
theorem qkl : qC Tryz.prog 131 (qmS qhK) := qE fun t p h => qbi t p (h _ (.head _)).out
theorem Vq (l : List qi) (p : Int) : zC l p < l.length ∧ (0 ≤ zC l p ∨ zC l p = -1) := by
 unfold zC
 have := qbD (fun q : qi => q.watch == p) l 0
 omega
theorem qcu (t : qn) (l : List Int) (x : Int) (h1 : t.nodes.length ≤ maxLen) (h2 : ∀ q ∈ t.nodes, ZV q.label) (hl : ZV l) (hx : inI x) (hp : 0 < zE x) : qe Tryz.prog 113 [qR t, aIs l, aI x] (rB (wdB t.nodes l x)) := by
 refine qe.of qc (fn := Tryz.f113) (c := Tryz.f113.body.getD .skip) (dr := fun n => qa 0 [(1, 3)] n) Tryz.func113 rfl (by kernel_rfl) (by kernel_rfl) (by kernel_rfl) ?_
 obtain ⟨f0, hf0⟩ : ∃ f, f = zE := ⟨_, rfl⟩
 obtain ⟨f1, hf1⟩ : ∃ f, f = zC := ⟨_, rfl⟩
 obtain ⟨f2, hf2⟩ : ∃ f, f = Zy := ⟨_, rfl⟩
 obtain ⟨f3, hf3⟩ : ∃ f, f = JB := ⟨_, rfl⟩
 have hO : qp Tryz.prog (qN [(142, Wz f0), (115, KF f1), (143, qhe f2), (144, vh f3)]) := by
  subst hf0 hf1 hf2 hf3
  exact qb vz (qb wV (qb qdt (qb qcq qd)))
 obtain ⟨ns, ts, hr⟩ := t
 have h1 : ns.length ≤ maxLen := h1
 have h2 : ∀ q ∈ ns, ZV q.label := h2
 show SEx _ _ _ _ _ _ (rB (wdB ns l x))
 rw [← hf0] at hp
 have hlt : f1 ns (f0 x) < ns.length := by rw [hf1]; exact (Vq _ _).1
 refine SEx.go (X := XX) qc (fun n => qa [] [] n) (fun _ => none) hO 60 ?_
 intro M R L N m0 m1 m2 m3 m4 m5
 cases M
 cbv
 repeat' first | refine m1 _ _ ?_ ?_ | refine m2 _ _ fun h => ?_ | refine m3 _ ?_ | (refine m4 _ _ (Hd.out ?_); try first | rw [hks] | rw [hk2] | rw [hk3]) | (refine m5 _ _ ?_; cbv)
 all_goals (clear m1 m2 m3 m4 m5; cases m0; (try clear hks; try clear hk2; try clear hk3); try dsimp only)
 all_goals try simp only [sm] at *
 all_goals (clear hO; subst hf0 hf1 hf2 hf3)
 all_goals first
  | exact ⟨hx⟩
  | exact ⟨h1⟩
  | exact ⟨hp⟩
  | exact hl
  | omega
  | exact ⟨(h2 _ (qo (z := qi.z) (by omega)).out).len⟩
  | exact h2 _ (qo (z := qi.z) (by omega)).out
  | (simp only [jj]; unfold wdB WW qko; delta qi.label; rw [decide_eq_false (by omega)]; rfl)
  | (simp only [jj]; unfold wdB WW qko; delta qi.label; rw [decide_eq_true (by omega)]; simp_all; done)
  | skip
structure qrw (x : Int) : Prop where out : 0 < zE x
structure qqo (cs : List qi) : Prop where out : ∀ q ∈ cs, ZV q.label
theorem qfF (x : Int) (t : qn) (q : qi) (h1 : t.nodes.length ≤ maxLen) (h2 : ∀ q ∈ t.nodes, ZV q.label) (hl : ZV q.label) (hx : inI x) (hp : 0 < zE x) : qe Tryz.prog 112 [aI x, (false, [.ptr t.d]), (false, [.ptr q.d])] (rB (!wdB t.nodes q.label x)) := by
 refine qe.of qc (fn := Tryz.f112) (c := Tryz.f112.body.getD .skip) (dr := fun n => qa 0 [] n) Tryz.func112 rfl (by kernel_rfl) (by kernel_rfl) (by kernel_rfl) ?_
 obtain ⟨f, hf⟩ : ∃ f, f = wdB := ⟨_, rfl⟩
 have hO : qp Tryz.prog (qN [(113, w3 qQ kw dcI (fun t l x => rB (f t.nodes l x)) (fun t l x => [LLe t.nodes maxLen, qqo t.nodes, ZV l, IIn x, qrw x]))]) := by
  subst hf
  exact qb (QS fun t l x h => qcu t l x (h _ (.head _)).out (h _ (.tail _ (.head _))).out (h _ (.tail _ (.tail _ (.head _)))) (h _ (.tail _ (.tail _ (.tail _ (.head _))))).out (h _ (.tail _ (.tail _ (.tail _ (.tail _ (.head _)))))).out) qd
 obtain ⟨ns, ts, hr⟩ := t
 obtain ⟨x1, x2, x3⟩ := q
 have h1 : ns.length ≤ maxLen := h1
 have h2 : ∀ q ∈ ns, ZV q.label := h2
 have hl : ZV x2 := hl
 refine SEx.go (X := XX) qc (fun n => qa [] [] n) (fun _ => none) hO 60 ?_
 intro M R L N m0 m1 m2 m3 m4 m5
 cases M
 cbv
 repeat' first | refine m1 _ _ ?_ ?_ | refine m2 _ _ fun h => ?_ | refine m3 _ ?_ | (refine m4 _ _ (Hd.out ?_); try first | rw [hks] | rw [hk2] | rw [hk3]) | (refine m5 _ _ ?_; cbv)
 all_goals (clear m1 m2 m3 m4 m5; cases m0; (try clear hks; try clear hk2; try clear hk3); try dsimp only)
 all_goals try simp only [sm] at *
 all_goals first
  | exact ⟨h1⟩
  | exact ⟨h2⟩
  | exact hl
  | exact ⟨hx⟩
  | exact ⟨hp⟩
  | (subst hf; rfl)
def ndP (cs : List qi) (i : Nat) (q : qi) : Bool := QI q && (decide (qhK cs q.name = i) && (decide (q.watch = 0) || decide (zC cs q.watch = i)))
def Yr (cs : List qi) (q : qi) : Bool := qz (fun _ x => wdB cs q.label x) q.label 0
def Qk (cs : List qi) : Bool := decide (1 ≤ (cs.length : Int) ∧ (cs.length : Int) ≤ 7) && (decide (((nd cs 0).label.length : Int) ≤ 0) && decide ((nd cs 0).watch = 0))
theorem qcw (t : qn) (h1 : t.nodes.length ≤ maxLen) (h2 : ∀ q ∈ t.nodes, V5 q) : qe Tryz.prog 102 [qR t] (rB (Qk t.nodes && (qz (ndP t.nodes) t.nodes 0 && qz (fun _ q => Yr t.nodes q) t.nodes 0))) := by
 refine qe.of qc (fn := Tryz.f102) (c := Tryz.f102.body.getD .skip) (dr := fun n => qa 0 [(15, 3), (16, 32)] n) Tryz.func102 rfl (by kernel_rfl) (by kernel_rfl) (by kernel_rfl) ?_
 obtain ⟨f0, hf0⟩ : ∃ f, f = kf := ⟨_, rfl⟩
 obtain ⟨f1, hf1⟩ : ∃ f, f = QI := ⟨_, rfl⟩
 obtain ⟨f2, hf2⟩ : ∃ f, f = qhK := ⟨_, rfl⟩
 obtain ⟨f3, hf3⟩ : ∃ f, f = zC := ⟨_, rfl⟩
 obtain ⟨f4, hf4⟩ : ∃ f, f = zE := ⟨_, rfl⟩
 obtain ⟨f5, hf5⟩ : ∃ f, f = Zy := ⟨_, rfl⟩
 obtain ⟨f6, hf6⟩ : ∃ f, f = JB := ⟨_, rfl⟩
 have hO : qp Tryz.prog (qN [(70, qai f0), (130, VD f1), (131, qmS f2), (72, We f3), (132, Wz f4), (93, qhe f5), (133, vh f6)]) := by
  subst hf0 hf1 hf2 hf3 hf4 hf5 hf6
  exact qb Qq (qb qet (qb qkl (qb wP (qb vV (qb YB (qb qci qd))))))
 obtain ⟨cs, ts, hr⟩ := t
 have h1 : cs.length ≤ maxLen := h1
 have h2 : ∀ q ∈ cs, V5 q := h2
 unfold maxLen at h1
 show SEx _ _ _ _ _ _ (rB (Qk cs && (qz (ndP cs) cs 0 && qz (fun _ q => Yr cs q) cs 0)))
 obtain ⟨c, hc⟩ : ∃ c, c = qz (fun _ q => Yr cs q) cs 0 := ⟨_, rfl⟩
 obtain ⟨p, hp⟩ : ∃ p, p = ndP cs := ⟨_, rfl⟩
 rw [← hc, ← hp]
 refine SEx.go (X := XX) qc (fun n => qa [] [(4, [1, 33, 34, 35]), (10, [1, 66, 67, 68]), (13, [1, 6, 66, 67, 68, 73, 74, 75])] n) (fun _ => none) hO 60 ?_
 intro M R L N m0 m1 m2 m3 m4 m5
 cases M
 cbv
 repeat' first | refine m1 _ _ ?_ ?_ | refine m2 _ _ fun h => ?_ | refine m3 _ ?_ | (refine m4 _ _ (Hd.out ?_); generalize hks : (List.cons _ _ : List K) = ks) | (refine m5 _ _ ?_; cbv)
 all_goals (clear m1 m2 m3 m4 m5; cases m0; try dsimp only)
 all_goals try simp only [sm] at *
 all_goals (try simp only [hf0, kf, Bool.and_eq_true, Bool.and_eq_false_iff, decide_eq_true_eq, decide_eq_false_iff_not] at *)
 all_goals first
  | omega
  | (refine qO ?_ _; unfold Qk nd; delta qi.label qi.watch; rw [decide_eq_false (by omega)]; rfl)
  | (refine qO ?_ _; unfold Qk nd; delta qi.label qi.watch; rw [Bool.and_assoc, decide_eq_true (by omega), Bool.true_and, decide_eq_false (by omega)]; rfl)
  | (refine qO ?_ _; unfold Qk nd; delta qi.label qi.watch; rw [decide_eq_true (by omega), decide_eq_true (by omega), decide_eq_false (by assumption)]; rfl)
  | skip
 have hh : Qk cs = true := by
  unfold Qk nd; delta qi.label qi.watch; rw [decide_eq_true (by omega), decide_eq_true (by omega), decide_eq_true (by assumption)]; rfl
 rw [hh, Bool.true_and]
 obtain ⟨m, hm⟩ : ∃ m, m = cs.length := ⟨_, rfl⟩
 refine ⟨SEx.same (SEx.idx m (fun i => ⟨120, [(1, bP 4096), (33, bL (.node false none cs)), (34, bI m), (35, bI i)], [(4096, .obx [.fz (.sl (.node false none cs)), .fz (.sl (.tie ts)), .fz (.int .i64 hr)])]⟩) (fun i => rB (qz p (cs.drop i) i && c)) ?_) (by rw [hm]; rfl) rfl⟩
 intro i hi ih
 rw [← hks]
 have hl : i < m → q8 _ _ _ := fun h => q8.of p cs i c qi.z (by omega)
 have he : i = m → (qz p (cs.drop i) i && c) = c := fun h => qK (by omega)
 refine SEx.go (X := XX) qc (fun n => qa [] [(4, [1, 33, 34, 35]), (10, [1, 66, 67, 68]), (13, [1, 6, 66, 67, 68, 73, 74, 75])] n) (fun _ => none) hO 60 ?_
 intro M R L N m0 m1 m2 m3 m4 m5
 cases M
 cbv
 repeat' first | refine m1 _ _ ?_ ?_ | refine m2 _ _ fun h => ?_ | refine m3 _ ?_ | (refine m4 _ _ (Hd.out ?_); first | rw [hks] | generalize hk2 : (List.cons _ _ : List K) = k2) | (refine m5 _ _ ?_; cbv)
 all_goals (clear m1 m2 m3 m4 m5; cases m0; try dsimp only)
 all_goals try simp only [sm] at *
 all_goals (try simp only [qg (show i < 9223372036854775807 by omega)])
 all_goals first
  | omega
  | exact h2 _ (qo (z := qi.z) (by omega)).out
  | exact ⟨h1⟩
  | (refine (hl (by omega)).stop _ ?_; subst hf1 hf2 hf3; rw [hp]; unfold ndP; delta qi.name qi.watch; simp_all; done)
  | (refine ⟨(ih (by omega)).same rfl ((hl (by omega)).go ?_)⟩; clear ih; subst hf1 hf2 hf3; rw [hp]; unfold ndP; delta qi.name qi.watch; simp_all; done)
  | skip
 have him : i = m := by omega
 rw [he him]
 clear ih hl he
 obtain ⟨pl, hpl⟩ : ∃ pl : Nat → qi → Bool, pl = fun _ q => Yr cs q := ⟨_, rfl⟩
 rw [← hpl] at hc
 refine ⟨SEx.same (SEx.idx m (fun i => ⟨120, [(1, bP 4096), (66, bL (.node false none cs)), (67, bI m), (68, bI i)], [(4096, .obx [.fz (.sl (.node false none cs)), .fz (.sl (.tie ts)), .fz (.int .i64 hr)])]⟩) (fun i => rB (qz pl (cs.drop i) i && true)) ?_) (by rw [hm]; rfl) (by rw [hc, Bool.and_true]; rfl)⟩
 intro k hk ih
 rw [← hk2]
 have hl : k < m → q8 _ _ _ := fun h => q8.of pl cs k true qi.z (by omega)
 have he : k = m → (qz pl (cs.drop k) k && true) = true := fun h => qK (by omega)
 refine SEx.go (X := XX) qc (fun n => qa [] [(4, [1, 33, 34, 35]), (10, [1, 66, 67, 68]), (13, [1, 6, 66, 67, 68, 73, 74, 75])] n) (fun _ => none) hO 60 ?_
 intro M R L N m0 m1 m2 m3 m4 m5
 cases M
 cbv
 repeat' first | refine m1 _ _ ?_ ?_ | refine m2 _ _ fun h => ?_ | refine m3 _ ?_ | (refine m4 _ _ (Hd.out ?_); first | rw [hks] | rw [hk2] | generalize hk3 : (List.cons _ _ : List K) = k3) | (refine m5 _ _ ?_; cbv)
 all_goals (clear m1 m2 m3 m4 m5; cases m0; try dsimp only)
 all_goals try simp only [sm] at *
 all_goals first
  | omega
  | (refine qO ?_ _; rw [he (by omega)]; done)
  | skip
 have hkm : k < m := by omega
 obtain ⟨q, hq⟩ : ∃ q, q = cs.getD k qi.z := ⟨_, rfl⟩
 have hnq : V5 q := by rw [hq]; exact h2 _ (qo (z := qi.z) (by omega)).out
 obtain ⟨d, hd⟩ : ∃ d, d = (qz pl (cs.drop (k + 1)) (k + 1) && true) := ⟨_, rfl⟩
 have hs : (qz pl (cs.drop k) k && true) = (qz (fun _ x => wdB cs q.label x) (q.label.drop 0) 0 && d) := by
  rw [VM qi.z (show k < cs.length by omega), hd, ← hq, hpl, Bool.and_assoc]; rfl
 rw [hs]
 rw [← hd] at ih
 clear hl he hs hd
 obtain ⟨x1, x2, x3⟩ := q
 obtain ⟨w, hw⟩ : ∃ w, w = x2.length := ⟨_, rfl⟩
 have hlw := hnq.len
 have hall := hnq.all
 dsimp only at hlw hall
 unfold maxLen at hlw
 refine ⟨SEx.same (SEx.idx w (fun j => ⟨120, [(1, bP 4096), (6, bP 24576), (66, bL (.node false none cs)), (67, bI m), (68, bI k), (73, bL (.i x2)), (74, bI w), (75, bI j)], [(4096, .obx [.fz (.sl (.node false none cs)), .fz (.sl (.tie ts)), .fz (.int .i64 hr)]), (24576, .obx [.fz (.str x1), .fz (.sl (.i x2)), .fz (.int .i64 x3)])]⟩) (fun j => rB (qz (fun _ x => wdB cs x2 x) (x2.drop j) j && d)) ?_) (by rw [hw, ← hq]; rfl) rfl⟩
 intro j hj ihj
 rw [← hk3]
 have hl : j < w → q8 _ _ _ := fun h => q8.of (fun _ x => wdB cs x2 x) x2 j d (0 : Int) (by omega)
 have he : j = w → (qz (fun _ x => wdB cs x2 x) (x2.drop j) j && d) = d := fun h => qK (by omega)
 have hlt : ∀ x, f3 cs x < cs.length := fun x => by rw [hf3]; exact (Vq _ _).1
 refine SEx.go (X := XX) qc (fun n => qa [] [(4, [1, 33, 34, 35]), (10, [1, 66, 67, 68]), (13, [1, 6, 66, 67, 68, 73, 74, 75])] n) (fun _ => none) hO 60 ?_
 intro M R L N m0 m1 m2 m3 m4 m5
 cases M
 cbv
 repeat' first | refine m1 _ _ ?_ ?_ | refine m2 _ _ fun h => ?_ | refine m3 _ ?_ | (refine m4 _ _ (Hd.out ?_); try first | rw [hks] | rw [hk2] | rw [hk3]) | (refine m5 _ _ ?_; cbv)
 all_goals (clear m1 m2 m3 m4 m5; cases m0; (try clear hks; try clear hk2; try clear hk3); try dsimp only)
 all_goals try simp only [sm] at *
 all_goals (try simp only [qg (show j < 9223372036854775807 by omega)])
 all_goals (try have h5 := hlt (f4 (x2.getD j 0)))
 all_goals first
  | omega
  | exact ⟨h1⟩
  | exact ⟨hall _ (qo (z := (0 : Int)) (by omega)).out⟩
  | exact ⟨(h2 _ (qo (z := qi.z) (by omega)).out).len⟩
  | exact ⟨hlw, hall⟩
  | exact ⟨(h2 _ (qo (z := qi.z) (by omega)).out).len, (h2 _ (qo (z := qi.z) (by omega)).out).all⟩
  | (have hjw : j = w := by omega
     rw [he hjw]
     simp only [qg (show k < 9223372036854775807 by omega)]
     exact ⟨(ih hkm).same rfl rfl⟩)
  | (refine (hl (by omega)).stop _ ?_; subst hf3 hf4 hf5 hf6; unfold wdB WW qko; delta qi.label; rw [decide_eq_false (by omega)]; rfl)
  | (refine (hl (by omega)).stop _ ?_; subst hf3 hf4 hf5 hf6; unfold wdB WW qko; delta qi.label; rw [decide_eq_true (by omega)]; simp_all; done)
  | (refine ⟨(ihj (by omega)).same rfl ((hl (by omega)).go ?_)⟩; clear ih ihj; subst hf3 hf4 hf5 hf6; unfold wdB WW qko; delta qi.label; rw [decide_eq_true (by omega)]; simp_all; done)
  | skip
def KA (q m : qi) : Bool := eqS m.name q.name || (decide (¬ q.watch = 0) && m.watch == q.watch)
def ndI (cs : List qi) (i : Nat) (q : qi) : Bool := QI q && qz (fun _ m => !KA q m) (cs.take i) 0
theorem qdB (t : qn) (h1 : t.nodes.length ≤ maxLen) (h2 : ∀ q ∈ t.nodes, V5 q) : qe Tryz.prog 109 [qR t] (rB (Qk t.nodes && qz (ndI t.nodes) t.nodes 0)) := by
 refine qe.of qc (fn := Tryz.f109) (c := Tryz.f109.body.getD .skip) (dr := fun n => qa 0 [] n) Tryz.func109 rfl (by kernel_rfl) (by kernel_rfl) (by kernel_rfl) ?_
 obtain ⟨f1, hf1⟩ : ∃ f, f = QI := ⟨_, rfl⟩
 have hO : qp Tryz.prog (qN [(137, VD f1)]) := by
  subst hf1
  exact qb qdT qd
 obtain ⟨cs, ts, hr⟩ := t
 have h1 : cs.length ≤ maxLen := h1
 have h2 : ∀ q ∈ cs, V5 q := h2
 unfold maxLen at h1
 show SEx _ _ _ _ _ _ (rB (Qk cs && qz (ndI cs) cs 0))
 obtain ⟨p, hp⟩ : ∃ p, p = ndI cs := ⟨_, rfl⟩
 rw [← hp]
 refine SEx.go (X := XX) qc (fun n => qa [] [(4, [1, 35, 36, 37]), (9, [1, 4, 35, 36, 37, 48, 49, 50])] n) (fun _ => none) hO 60 ?_
 intro M R L N m0 m1 m2 m3 m4 m5
 cases M
 cbv
 repeat' first | refine m1 _ _ ?_ ?_ | refine m2 _ _ fun h => ?_ | refine m3 _ ?_ | (refine m4 _ _ (Hd.out ?_); generalize hks : (List.cons _ _ : List K) = ks) | (refine m5 _ _ ?_; cbv)
 all_goals (clear m1 m2 m3 m4 m5; cases m0; try dsimp only)
 all_goals try simp only [sm] at *
 all_goals first
  | omega
  | (refine qO ?_ _; unfold Qk nd; delta qi.label qi.watch; rw [decide_eq_false (by omega)]; rfl)
  | (refine qO ?_ _; unfold Qk nd; delta qi.label qi.watch; rw [Bool.and_assoc, decide_eq_true (by omega), Bool.true_and, decide_eq_false (by omega)]; rfl)
  | (refine qO ?_ _; unfold Qk nd; delta qi.label qi.watch; rw [decide_eq_true (by omega), decide_eq_true (by omega), decide_eq_false (by assumption)]; rfl)
  | skip
 have hh : Qk cs = true := by
  unfold Qk nd; delta qi.label qi.watch; rw [decide_eq_true (by omega), decide_eq_true (by omega), decide_eq_true (by assumption)]; rfl
 rw [hh, Bool.true_and]
 obtain ⟨m, hm⟩ : ∃ m, m = cs.length := ⟨_, rfl⟩
 refine ⟨SEx.same (SEx.idx m (fun i => ⟨73, [(1, bP 4096), (35, bL (.node false none cs)), (36, bI m), (37, bI i)], [(4096, .obx [.fz (.sl (.node false none cs)), .fz (.sl (.tie ts)), .fz (.int .i64 hr)])]⟩) (fun i => rB (qz p (cs.drop i) i && true)) ?_) (by rw [hm]; rfl) (by rw [Bool.and_true]; rfl)⟩
 intro i hi ih
 rw [← hks]
 have hl : i < m → q8 _ _ _ := fun h => q8.of p cs i true qi.z (by omega)
 have he : i = m → (qz p (cs.drop i) i && true) = true := fun h => qK (by omega)
 refine SEx.go (X := XX) qc (fun n => qa [] [(4, [1, 35, 36, 37]), (9, [1, 4, 35, 36, 37, 48, 49, 50])] n) (fun _ => none) hO 60 ?_
 intro M R L N m0 m1 m2 m3 m4 m5
 cases M
 cbv
 repeat' first | refine m1 _ _ ?_ ?_ | refine m2 _ _ fun h => ?_ | refine m3 _ ?_ | (refine m4 _ _ (Hd.out ?_); first | rw [hks] | generalize hk2 : (List.cons _ _ : List K) = k2) | (refine m5 _ _ ?_; cbv)
 all_goals (clear m1 m2 m3 m4 m5; cases m0; try dsimp only)
 all_goals try simp only [sm] at *
 all_goals (try simp only [qg (show i < 9223372036854775807 by omega)])
 all_goals first
  | omega
  | exact h2 _ (qo (z := qi.z) (by omega)).out
  | (refine qO ?_ _; rw [he (by omega)]; done)
  | (refine (hl (by omega)).stop _ ?_; subst hf1; rw [hp]; unfold ndI; simp_all; done)
  | skip
 have him : i < m := by omega
 have hq1 : f1 (cs.getD i qi.z) = true := by assumption
 obtain ⟨q, hq⟩ : ∃ q, q = cs.getD i qi.z := ⟨_, rfl⟩
 rw [← hq] at hq1
 obtain ⟨l, hll⟩ : ∃ l, l = cs.take i := ⟨_, rfl⟩
 obtain ⟨d, hd⟩ : ∃ d, d = (qz p (cs.drop (i + 1)) (i + 1) && true) := ⟨_, rfl⟩
 have hs : (qz p (cs.drop i) i && true) = (qz (fun _ m => !KA q m) (l.drop 0) 0 && d) := by
  rw [VM qi.z (show i < cs.length by omega), hd, ← hq, hp, Bool.and_assoc, ndI, ← hf1, hq1, ← hll, Bool.true_and]; rfl
 rw [hs]
 rw [← hd] at ih
 clear hl he hs hd
 obtain ⟨x1, x2, x3⟩ := q
 obtain ⟨w, hw⟩ : ∃ w, w = l.length := ⟨_, rfl⟩
 have hwl : w ≤ cs.length := by rw [hw, hll, List.length_take]; omega
 refine ⟨SEx.same (SEx.idx w (fun j => ⟨73, [(1, bP 4096), (4, bP 16384), (35, bL (.node false none cs)), (36, bI m), (37, bI i), (48, bL (.node false none l)), (49, bI w), (50, bI j)], [(4096, .obx [.fz (.sl (.node false none cs)), .fz (.sl (.tie ts)), .fz (.int .i64 hr)]), (16384, .obx [.fz (.str x1), .fz (.sl (.i x2)), .fz (.int .i64 x3)])]⟩) (fun j => rB (qz (fun _ m => !KA ⟨x1, x2, x3⟩ m) (l.drop j) j && d)) ?_) (by rw [hw, ← hq, hll]; rfl) rfl⟩
 intro j hj ihj
 rw [← hk2]
 have hl : j < w → q8 _ _ _ := fun h => q8.of (fun _ m => !KA ⟨x1, x2, x3⟩ m) l j d qi.z (by omega)
 have he : j = w → (qz (fun _ m => !KA ⟨x1, x2, x3⟩ m) (l.drop j) j && d) = d := fun h => qK (by omega)
 refine SEx.go (X := XX) qc (fun n => qa [] [(4, [1, 35, 36, 37]), (9, [1, 4, 35, 36, 37, 48, 49, 50])] n) (fun _ => none) hO 60 ?_
 intro M R L N m0 m1 m2 m3 m4 m5
 cases M
 cbv
 repeat' first | refine m1 _ _ ?_ ?_ | refine m2 _ _ fun h => ?_ | refine m3 _ ?_ | (refine m4 _ _ (Hd.out ?_); try first | rw [hks] | rw [hk2] | rw [hk3]) | (refine m5 _ _ ?_; cbv)
 all_goals (clear m1 m2 m3 m4 m5; cases m0; (try clear hks; try clear hk2; try clear hk3); try dsimp only)
 all_goals try simp only [sm] at *
 all_goals (try simp only [qg (show j < 9223372036854775807 by omega)])
 all_goals first
  | omega
  | (refine (hl (by omega)).stop _ ?_; unfold KA eqS; delta qi.name qi.watch; simp_all; done)
  | (refine ⟨(ihj (by omega)).same rfl ((hl (by omega)).go ?_)⟩; clear ih ihj; unfold KA eqS; delta qi.name qi.watch; simp_all; done)
  | (rw [he (by omega)]; simp only [qg (show i < 9223372036854775807 by omega)]; exact ⟨(ih (by omega)).same rfl rfl⟩)
  | skip
theorem ql5 {α : Type} (p q : α → Bool) : ∀ l : List α, (l.any fun x => p x || q x) = (l.any p || l.any q)
 | [] => rfl
 | a :: r => by simp only [List.any_cons, ql5 p q r]; cases p a <;> cases q a <;> cases r.any p <;> cases r.any q <;> rfl
theorem qh7 {α : Type} (c : Bool) (q : α → Bool) : ∀ l : List α, (l.any fun x => c && q x) = (c && l.any q)
 | [] => by simp
 | a :: r => by simp only [List.any_cons, qh7 c q r]; cases c <;> rfl
theorem qlA (s : ByteArray) : eqS s s = true := by unfold eqS; simp
theorem qqg {cs : List qi} {i : Nat} {q : qi} (h : cs[i]? = some q) : ndI cs i q = ndP cs i q := by
 have hi : i < cs.length := by rw [List.getElem?_eq_some_iff] at h; exact h.1
 have hq : cs.getD i qi.z = q := by rw [List.getD_eq_getElem?_getD, h]; rfl
 have e1 : decide (qhK cs q.name = i) = !((cs.take i).any fun r => eqS r.name q.name) := by
  have := K4 (p := fun r : qi => eqS r.name q.name) (l := cs) (i := i) 0 qi.z hi (by rw [hq]; exact qlA _)
  rw [Nat.zero_add] at this
  rw [Bool.eq_iff_iff]
  simp only [decide_eq_true_eq, Bool.not_eq_true']
  exact this
 have e2 : decide (zC cs q.watch = i) = !((cs.take i).any fun r => r.watch == q.watch) := by
  have := K4 (p := fun r : qi => r.watch == q.watch) (l := cs) (i := i) 0 qi.z hi (by rw [hq]; exact beq_self_eq_true _)
  rw [Nat.zero_add] at this
  rw [Bool.eq_iff_iff]
  simp only [decide_eq_true_eq, Bool.not_eq_true']
  exact this
 have e3 : qz (fun _ m => !KA q m) (cs.take i) 0 = !(((cs.take i).any fun r => eqS r.name q.name) || (decide (¬ q.watch = 0) && (cs.take i).any fun r => r.watch == q.watch)) := by
  rw [Kx, ← qh7, ← ql5, List.not_any_eq_all_not]; rfl
 unfold ndI ndP
 rw [e1, e2, e3, Bool.not_or, Bool.not_and, decide_not, Bool.not_not]
theorem qls (cs : List qi) : qz (ndI cs) cs 0 = qz (ndP cs) cs 0 := J8 cs 0 fun i q h => by rw [Nat.zero_add]; exact qqg h
structure qpt (cs : List qi) : Prop where out : ∀ q ∈ cs, V5 q
def Qe (cs : List qi) : Bool := Qk cs && qz (ndP cs) cs 0
def qiF (cs : List qi) : Bool := qz (fun _ q => Yr cs q) cs 0
def Jc (f : List qi → Bool) : Wr := w1 qQ (fun t => rB (f t.nodes)) (fun t => [LLe t.nodes maxLen, qpt t.nodes])
def nlB (cs : List qi) : Bool := Qe cs && qiF cs
theorem qae : qC Tryz.prog 102 (Jc nlB) := zJ fun t h => by
 unfold nlB Qe qiF
 rw [Bool.and_assoc]
 exact qcw t (h _ (.head _)).out (h _ (.tail _ (.head _))).out
theorem qbx : qC Tryz.prog 109 (Jc Qe) := zJ fun t h => by
 unfold Qe
 rw [← qls]
 exact qdB t (h _ (.head _)).out (h _ (.tail _ (.head _))).out
def qfk (n : Int) : Bool := decide (1 ≤ n) && decide (n ≤ 10)
def zb (t : qn) : Bool := Qe t.nodes && (qiF t.nodes && (JJ t.nodes t.ties && qfk t.hor))
structure jl (t : qn) : Prop where
 len : t.nodes.length ≤ maxLen
 tlen : t.ties.length ≤ maxLen
 nodes : ∀ q ∈ t.nodes, V5 q
theorem qal (t : qn) (ht : jl t) : qe Tryz.prog 63 [qR t] (rB (zb t)) := by
 refine qe.of qc (fn := Tryz.f63) (c := Tryz.f63.body.getD .skip) (dr := fun n => qa 0 [] n) Tryz.func63 rfl (by kernel_rfl) (by kernel_rfl) (by kernel_rfl) ?_
 have h1 := ht.len
 have h2 := ht.tlen
 have h3 := ht.nodes
 clear ht
 obtain ⟨f1, hf1⟩ : ∃ f, f = nlB := ⟨_, rfl⟩
 obtain ⟨f3, hf3⟩ : ∃ f, f = kf := ⟨_, rfl⟩
 obtain ⟨f4, hf4⟩ : ∃ f, f = wd := ⟨_, rfl⟩
 have hO : qp Tryz.prog (qN [(102, Jc f1), (70, qai f3), (103, qqZ f4)]) := by
  subst hf1 hf3 hf4
  exact qb qae (qb Qq (qb qoi qd))
 obtain ⟨ns, ts, hr⟩ := t
 have h1 : ns.length ≤ maxLen := h1
 have h2 : ts.length ≤ maxLen := h2
 have h3 : ∀ q ∈ ns, V5 q := h3
 unfold maxLen at h2
 obtain ⟨a, ha⟩ : ∃ a, a = decide (ts.length ≤ 14) := ⟨_, rfl⟩
 obtain ⟨d, hd⟩ : ∃ a, a = qfk hr := ⟨_, rfl⟩
 obtain ⟨p, hp⟩ : ∃ p : Nat → Tie → Bool, p = f4 ns ts := ⟨_, rfl⟩
 have hs : zb ⟨ns, ts, hr⟩ = (f1 ns && (qz p ts 0 && (a && d))) := by
  rw [hf1, hp, hf4, ha, hd]; unfold zb JJ nlB; rw [Bool.and_assoc, Bool.and_assoc]
 rw [hs]
 have hdd : f3 hr 1 10 = d := by rw [hf3, hd]; rfl
 clear hd hs
 refine SEx.go (X := XX) qc (fun n => qa [] [(4, [1, 21, 22])] n) (fun _ => none) hO 60 ?_
 intro M R L N m0 m1 m2 m3 m4 m5
 cases M
 cbv
 repeat' first | refine m1 _ _ ?_ ?_ | refine m2 _ _ fun h => ?_ | refine m3 _ ?_ | (refine m4 _ _ (Hd.out ?_); generalize hks : (List.cons _ _ : List K) = ks) | (refine m5 _ _ ?_; cbv)
 all_goals (clear m1 m2 m3 m4 m5; cases m0; try dsimp only)
 all_goals try simp only [sm] at *
 all_goals (try rw [hdd] at *)
 all_goals first
  | exact ⟨h1⟩
  | exact ⟨h3⟩
  | (refine qO ?_ _; simp_all; done)
  | (refine qO ?_ _; rw [ha, decide_eq_false (by omega)]; simp; done)
  | skip
 rw [show f1 ns = true by assumption, Bool.true_and, show a = true by rw [ha]; exact decide_eq_true (by omega), show d = true by assumption, Bool.true_and]
 obtain ⟨m, hm⟩ : ∃ m, m = ts.length := ⟨_, rfl⟩
 refine ⟨SEx.same (SEx.idx m (fun i => ⟨30, [(1, bP 4096), (21, bI m), (22, bI i)], [(4096, .obx [.fz (.sl (.node false none ns)), .fz (.sl (.tie ts)), .fz (.int .i64 hr)])]⟩) (fun i => rB (qz p (ts.drop i) i && true)) ?_) (by rw [hm]; rfl) rfl⟩
 intro i hi ih
 rw [← hks]
 have hl : i < m → q8 _ _ _ := fun h => q8.of p ts i true Tie.z (by omega)
 have he : i = m → (qz p (ts.drop i) i && true) = true := fun h => qK (by omega)
 refine SEx.go (X := XX) qc (fun n => qa [] [(4, [1, 21, 22])] n) (fun _ => none) hO 60 ?_
 intro M R L N m0 m1 m2 m3 m4 m5
 cases M
 cbv
 repeat' first | refine m1 _ _ ?_ ?_ | refine m2 _ _ fun h => ?_ | refine m3 _ ?_ | (refine m4 _ _ (Hd.out ?_); try first | rw [hks] | rw [hk2] | rw [hk3]) | (refine m5 _ _ ?_; cbv)
 all_goals (clear m1 m2 m3 m4 m5; cases m0; (try clear hks; try clear hk2; try clear hk3); try dsimp only)
 all_goals try simp only [sm] at *
 all_goals (try simp only [qg (show i < 9223372036854775807 by omega)])
 all_goals first
  | omega
  | exact ⟨h1⟩
  | exact ⟨h2⟩
  | exact ⟨fun q hq => (h3 q hq).len⟩
  | exact ⟨⟨by omega, by omega⟩⟩
  | (refine qO ?_ _; rw [he (by omega)]; done)
  | (refine (hl (by omega)).stop _ ?_; rw [hp]; assumption)
  | (refine ⟨(ih (by omega)).same rfl ((hl (by omega)).go ?_)⟩; rw [hp]; assumption)
  | skip
end Go.Proofs.YtececadpjelanaaGreat.Ai
namespace Go.Proofs.YtececadpjelanaaGreat.Ai
open Go
set_option maxRecDepth 100000
variable [qh]
def qq3 {α β : Type} (k : Nat) (g h : Bool) (d : Dc α) (e : Dc β) : Dc (α × β) := ⟨fun a => aF k [.ptr (d.enc a.1).2, .ptr (e.enc a.2).2], fun | (false, [.fn f [.ptr x, .ptr y]]) => (match nq f k with | true => (match d.dec (g, x), e.dec (h, y) with | some a, some b => some (a, b) | _, _ => none) | false => none) | _ => none, by
 intro x a hh
 split at hh
 · split at hh
   · rename_i hk
     obtain rfl := QG.1 hk
     split at hh
     · rename_i a' b' ha hb
       simp only [Option.some.injEq] at hh
       subst hh
       have e1 := congrArg Prod.snd (d.ok _ _ ha)
       have e2 := congrArg Prod.snd (e.ok _ _ hb)
       simp only [zU] at e1 e2
       simp only [zU, D.erL, D.er, aF, e1, e2]
     · cases hh
   · cases hh
 · cases hh⟩
structure qqG (l : List Int) : Prop where out : ∀ x ∈ l, inI x ∧ 0 < zE x
theorem vN {x : Int} (h0 : ¬ x = 0) (h1 : -3 ≤ x) (h2 : x ≤ 3) : 0 < zE x := by
 unfold zE
 split
 · rw [qx (by omega) (by omega)]; omega
 · omega
theorem Yv {x : Int} (h1 : -3 ≤ x) (h2 : x ≤ 3) : zE x ≤ 3 := by
 unfold zE
 split
 · rw [qx (by omega) (by omega)]; omega
 · omega
theorem ZL {l : List Int} (h : qX l = true) {x : Int} (hx : x ∈ l) : ¬ x = 0 ∧ -3 ≤ x ∧ x ≤ 3 := by
 obtain ⟨i, hi, rfl⟩ := List.mem_iff_getElem.1 hx
 have := of_decide_eq_true (KO h i hi)
 rw [zB hi] at this
 exact ⟨this.1, this.2.1, this.2.2.1⟩
theorem Wq {l : List Int} (h : qX l = true) : ∀ x ∈ l, inI x ∧ 0 < zE x := fun x hx => by
 have ⟨h1, h2, h3⟩ := ZL h hx
 exact ⟨by rw [QX]; omega, vN h1 h2 h3⟩
theorem QC {α : Type} {p : Nat → α → Bool} : ∀ {l : List α} {n : Nat} {q : α}, qz p l n = true → q ∈ l → ∃ i, p i q = true
 | a :: r, n, q, h, hq => by
   unfold qz at h
   rw [Bool.and_eq_true] at h
   rcases List.mem_cons.1 hq with rfl | hq
   · exact ⟨n, h.1⟩
   · exact QC h.2 hq
theorem WE {cs : List qi} (h : Qe cs = true) {q : qi} (hq : q ∈ cs) : QI q = true := by
 unfold Qe at h
 rw [Bool.and_eq_true] at h
 obtain ⟨i, hi⟩ := QC h.2 hq
 unfold ndP at hi
 rw [Bool.and_eq_true] at hi
 exact hi.1
theorem WM {q : qi} (h : QI q = true) : qX q.label = true := by
 unfold QI at h
 simp only [Bool.and_eq_true] at h
 exact h.1.2
def qrC (l : List Int) (t : qn) (q : qi) : Bool := l.any fun x => !wdB t.nodes q.label x
theorem Y6 (t : qn) (ht : jl t) : qe Tryz.prog 76 [qR t] (rB (zb t)) := by
 refine qe.of qc (fn := Tryz.f76) (c := Tryz.f76.body.getD .skip) (dr := fun n => qa 0 [] n) Tryz.func76 rfl (by kernel_rfl) (by kernel_rfl) (by kernel_rfl) ?_
 have h1 := ht.len
 have h2 := ht.tlen
 have h3 := ht.nodes
 clear ht
 obtain ⟨f1, hf1⟩ : ∃ f, f = Qe := ⟨_, rfl⟩
 obtain ⟨f2, hf2⟩ : ∃ f, f = JJ := ⟨_, rfl⟩
 obtain ⟨f3, hf3⟩ : ∃ f, f = qrC := ⟨_, rfl⟩
 have hO : qp Tryz.prog (qN [(109, Jc f1), (110, qev f2), (111, w2 kw (qq3 112 true true qQ J6) (fun l x => rB (f3 l x.1 x.2)) (fun l x => [LLe l maxLen, qqG l, LLe x.1.nodes maxLen, qpt x.1.nodes, V5 x.2]))]) := by
  subst hf1 hf2 hf3
  exact qb qbx (qb qem (qb (qE fun l x h => by
   have g1 := (h _ (.head _)).out
   have g2 := (h _ (.tail _ (.head _))).out
   have g3 := (h _ (.tail _ (.tail _ (.head _)))).out
   have g4 := (h _ (.tail _ (.tail _ (.tail _ (.head _))))).out
   have g5 := h _ (.tail _ (.tail _ (.tail _ (.tail _ (.head _)))))
   exact ZK l _ _ _ (fun y hy => qfF y x.1 x.2 g3 (fun q hq => ⟨(g4 q hq).len, (g4 q hq).all⟩) ⟨g5.len, g5.all⟩ (g2 y hy).1 (g2 y hy).2) g1) qd))
 obtain ⟨ns, ts, hr⟩ := t
 have h1 : ns.length ≤ maxLen := h1
 have h2 : ts.length ≤ maxLen := h2
 have h3 : ∀ q ∈ ns, V5 q := h3
 have h1' := h1
 unfold maxLen at h1'
 obtain ⟨d, hd⟩ : ∃ a, a = qfk hr := ⟨_, rfl⟩
 obtain ⟨p, hp⟩ : ∃ p : Nat → qi → Bool, p = fun _ q => Yr ns q := ⟨_, rfl⟩
 have hs : zb ⟨ns, ts, hr⟩ = (f1 ns && (f2 ns ts && (d && qz p ns 0))) := by
  rw [hf1, hp, hf2, hd]; unfold zb qiF; dsimp only
  generalize qz (fun _ q => Yr ns q) ns 0 = a
  generalize JJ ns ts = b
  generalize qfk hr = c
  generalize Qe ns = e
  revert a b c e; decide
 rw [hs]
 clear hs
 refine SEx.go (X := XX) qc (fun n => qa [] [(4, [1, 24, 25, 26])] n) (fun _ => none) hO 60 ?_
 intro M R L N m0 m1 m2 m3 m4 m5
 cases M
 cbv
 repeat' first | refine m1 _ _ ?_ ?_ | refine m2 _ _ fun h => ?_ | refine m3 _ ?_ | (refine m4 _ _ (Hd.out ?_); generalize hks : (List.cons _ _ : List K) = ks) | (refine m5 _ _ ?_; cbv)
 all_goals (clear m1 m2 m3 m4 m5; cases m0; try dsimp only)
 all_goals try simp only [sm] at *
 all_goals first
  | exact ⟨h1⟩
  | exact ⟨h2⟩
  | exact ⟨h3⟩
  | exact ⟨fun q hq => (h3 q hq).len⟩
  | (refine qO ?_ _; rw [show f1 ns = false by assumption]; rfl)
  | (refine qO ?_ _; rw [show f2 ns ts = false by assumption]; simp; done)
  | (refine qO ?_ _; rw [hd, qfk, decide_eq_false (by omega)]; simp; done)
  | (refine qO ?_ _; rw [hd, qfk, decide_eq_false (show ¬ hr ≤ 10 by omega)]; simp; done)
  | skip
 have hn1 : Qe ns = true := by rw [← hf1]; assumption
 rw [show f1 ns = true by assumption, show f2 ns ts = true by assumption, show d = true by rw [hd, qfk, decide_eq_true (by omega), decide_eq_true (by omega)]; rfl, Bool.true_and, Bool.true_and, Bool.true_and]
 obtain ⟨m, hm⟩ : ∃ m, m = ns.length := ⟨_, rfl⟩
 refine ⟨SEx.same (SEx.idx m (fun i => ⟨35, [(1, bP 4096), (24, bL (.node false none ns)), (25, bI m), (26, bI i)], [(4096, .obx [.fz (.sl (.node false none ns)), .fz (.sl (.tie ts)), .fz (.int .i64 hr)])]⟩) (fun i => rB (qz p (ns.drop i) i && true)) ?_) (by rw [hm]; rfl) (by rw [Bool.and_true]; rfl)⟩
 intro i hi ih
 rw [← hks]
 have hl : i < m → q8 _ _ _ := fun h => q8.of p ns i true qi.z (by omega)
 have he : i = m → (qz p (ns.drop i) i && true) = true := fun h => qK (by omega)
 have hmem : i < m → Mem (ns.getD i qi.z) ns := fun h => qo (by omega)
 have hps : ∀ q : qi, f3 q.label ⟨ns, ts, hr⟩ q = !p i q := fun q => by
  rw [hf3, hp]; show (q.label.any fun x => !wdB ns q.label x) = !qz (fun _ x => wdB ns q.label x) q.label 0; rw [Kx, List.not_all_eq_any_not]
 refine SEx.go (X := XX) qc (fun n => qa [] [(4, [1, 24, 25, 26])] n) (fun _ => none) hO 60 ?_
 intro M R L N m0 m1 m2 m3 m4 m5
 cases M
 cbv
 repeat' first | refine m1 _ _ ?_ ?_ | refine m2 _ _ fun h => ?_ | refine m3 _ ?_ | (refine m4 _ _ (Hd.out ?_); try first | rw [hks] | rw [hk2] | rw [hk3]) | (refine m5 _ _ ?_; cbv)
 all_goals (clear m1 m2 m3 m4 m5; cases m0; (try clear hks; try clear hk2; try clear hk3); try dsimp only)
 all_goals try simp only [sm] at *
 all_goals (try simp only [qg (show i < 9223372036854775807 by omega)])
 all_goals first
  | omega
  | exact ⟨h1⟩
  | exact ⟨h3⟩
  | exact ⟨(h3 _ (hmem (by omega)).out).len⟩
  | exact ⟨Wq (WM (WE hn1 (hmem (by omega)).out))⟩
  | exact h3 _ (hmem (by omega)).out
  | (refine qO ?_ _; rw [he (by omega)]; done)
  | (refine (hl (by omega)).stop _ ?_; have hx := hps (ns.getD i qi.z); simp_all; done)
  | (refine ⟨(ih (by omega)).same rfl ((hl (by omega)).go ?_)⟩; clear ih; have hx := hps (ns.getD i qi.z); simp_all; done)
  | skip
def Vv (f : qn → Bool) : Wr := w1 qQ (fun t => rB (f t)) (fun t => [jl t])
theorem qe2 : qC Tryz.prog 63 (Vv zb) := zJ fun t h => qal t (h _ (.head _))
theorem qer : qC Tryz.prog 76 (Vv zb) := zJ fun t h => Y6 t (h _ (.head _))
theorem zM {t : qn} (h : zb t = true) : 1 ≤ t.hor ∧ t.hor ≤ 10 := by
 unfold zb qfk at h
 simp only [Bool.and_eq_true, decide_eq_true_eq] at h
 exact h.2.2.2
theorem qI {t : qn} (h : zb t = true) : 1 ≤ t.nodes.length ∧ t.nodes.length ≤ 7 := by
 unfold zb Qe Qk at h
 simp only [Bool.and_eq_true, decide_eq_true_eq] at h
 omega
theorem zP {t : qn} (h : zb t = true) : t.ties.length ≤ 14 := by
 unfold zb JJ at h
 simp only [Bool.and_eq_true, decide_eq_true_eq] at h
 exact h.2.2.1.2
theorem kG {t : qn} (h : zb t = true) {q : qi} (hq : q ∈ t.nodes) : qX q.label = true := by
 unfold zb at h
 rw [Bool.and_eq_true] at h
 exact WM (WE h.1 hq)
end Go.Proofs.YtececadpjelanaaGreat.Ai
namespace Go.Proofs.YtececadpjelanaaGreat.Ai
open Go
set_option maxRecDepth 100000
variable [qh]
def jm (times : List Int) (w : Int) : Bool := decide (0 ≤ w) && decide (¬ times.getD w.toNat 0 = -1)
def QN (now : Int) (i : Nat) (n : Int) : Bool := decide ((i = 0 → n = 0) ∧ (0 < i → -1 ≤ n ∧ n ≤ now - 1))
def qeV (cs : List qi) (times : List Int) (i : Nat) (v : Int) : Bool := decide (¬ v = 0) == jm times (zC cs ((i : Int) + 1))
def jI (t : qn) (x : qf) : Bool := decide (0 ≤ x.now ∧ x.now ≤ t.hor + 1 ∧ x.times.length = t.nodes.length) && (qP x.vals && (qz (QN x.now) x.times 0 && qz (qeV t.nodes x.times) x.vals 0))
structure Q8 (x : qf) : Prop where
 now : inI x.now
 tlen : x.times.length ≤ maxLen
 vlen : x.vals.length ≤ maxLen
theorem qV {l : List Int} (h : qP l = true) : l.length = 3 := by
 unfold qP at h
 simp only [Bool.and_eq_true, decide_eq_true_eq] at h
 exact h.2
theorem Kq (a b : Int) : decide (¬ a = b) = !(a == b) := by by_cases h : a = b <;> simp [h]
theorem qfN (t : qn) (x : qf) (ht : zb t = true) (hx : Q8 x) : qe Tryz.prog 77 [qR t, qL x] (rB (jI t x)) := by
 refine qe.of qc (fn := Tryz.f77) (c := Tryz.f77.body.getD .skip) (dr := fun n => qa 0 [] n) Tryz.func77 rfl (by kernel_rfl) (by kernel_rfl) (by kernel_rfl) ?_
 have hh := zM ht
 have hn := qI ht
 have h2 := hx.tlen
 have h3 := hx.vlen
 have h4 := hx.now
 clear ht hx
 rw [QX] at h4
 obtain ⟨f1, hf1⟩ : ∃ f, f = qP := ⟨_, rfl⟩
 obtain ⟨f2, hf2⟩ : ∃ f, f = zC := ⟨_, rfl⟩
 have hO : qp Tryz.prog (qN [(114, Zo f1), (115, KF f2)]) := by
  subst hf1 hf2
  exact qb Jz (qb wV qd)
 obtain ⟨ns, ts, hr⟩ := t
 obtain ⟨now, times, vals⟩ := x
 dsimp only at hh hn h2 h3 h4
 unfold maxLen at h2 h3
 obtain ⟨p, hp⟩ : ∃ p, p = QN now := ⟨_, rfl⟩
 obtain ⟨q, hq⟩ : ∃ q, q = qeV ns times := ⟨_, rfl⟩
 obtain ⟨d, hd⟩ : ∃ d, d = qz q vals 0 := ⟨_, rfl⟩
 have hs : jI ⟨ns, ts, hr⟩ ⟨now, times, vals⟩ = (decide (0 ≤ now ∧ now ≤ hr + 1 ∧ times.length = ns.length) && (f1 vals && (qz p times 0 && d))) := by
  rw [hf1, hp, hd, hq]; rfl
 rw [hs]
 clear hs
 obtain ⟨r, hrr⟩ : ∃ r, r = (decide (0 ≤ now ∧ now ≤ hr + 1 ∧ times.length = ns.length) && (f1 vals && (qz p times 0 && d))) := ⟨_, rfl⟩
 rw [← hrr]
 have h1r : IntKind.i64.wrap (hr + 1) = hr + 1 := qx (by omega) (by omega)
 refine SEx.go (X := XX) qc (fun n => qa [] [(4, [2, 3, 37, 38, 39]), (10, [2, 3, 67, 68, 69])] n) (fun _ => none) hO 60 ?_
 intro M R L N m0 m1 m2 m3 m4 m5
 cases M
 cbv
 repeat' first | refine m1 _ _ ?_ ?_ | refine m2 _ _ fun h => ?_ | refine m3 _ ?_ | (refine m4 _ _ (Hd.out ?_); generalize hks : (List.cons _ _ : List K) = ks) | (refine m5 _ _ ?_; cbv)
 all_goals (clear m1 m2 m3 m4 m5; cases m0; try dsimp only)
 all_goals try simp only [sm] at *
 all_goals (try rw [h1r] at *)
 all_goals first
  | omega
  | exact ⟨h3⟩
  | (refine qO ?_ _; rw [hrr, decide_eq_false (by omega)]; rfl)
  | (refine qO ?_ _; rw [hrr, show f1 vals = false by assumption]; simp; done)
  | skip
 rw [show f1 vals = true by assumption, decide_eq_true (by omega), Bool.true_and, Bool.true_and] at hrr
 rw [hrr]
 clear hrr
 have hv3 : vals.length = 3 := by apply qV; rw [← hf1]; assumption
 obtain ⟨m, hm⟩ : ∃ m, m = times.length := ⟨_, rfl⟩
 refine ⟨SEx.same (SEx.idx m (fun i => ⟨92, [(2, bP 8192), (3, bP 12288), (37, bL (.i times)), (38, bI m), (39, bI i)], [(8192, .obx [.fz (.sl (.node false none ns)), .fz (.sl (.tie ts)), .fz (.int .i64 hr)]), (12288, .obx [.fz (.int .i64 now), .fz (.sl (.i times)), .fz (.sl (.i vals))])]⟩) (fun i => rB (qz p (times.drop i) i && d)) ?_) (by rw [hm]; rfl) rfl⟩
 intro i hi ih
 rw [← hks]
 have hl : i < m → q8 _ _ _ := fun h => q8.of p times i d (0 : Int) (by omega)
 have he : i = m → (qz p (times.drop i) i && d) = d := fun h => qK (by omega)
 have h1n : IntKind.i64.wrap (now - 1) = now - 1 := qx (by omega) (by omega)
 refine SEx.go (X := XX) qc (fun n => qa [] [(4, [2, 3, 37, 38, 39]), (10, [2, 3, 67, 68, 69])] n) (fun _ => none) hO 60 ?_
 intro M R L N m0 m1 m2 m3 m4 m5
 cases M
 cbv
 repeat' first | refine m1 _ _ ?_ ?_ | refine m2 _ _ fun h => ?_ | refine m3 _ ?_ | (refine m4 _ _ (Hd.out ?_); first | rw [hks] | generalize hk2 : (List.cons _ _ : List K) = k2) | (refine m5 _ _ ?_; cbv)
 all_goals (clear m1 m2 m3 m4 m5; cases m0; try dsimp only)
 all_goals try simp only [sm] at *
 all_goals (try simp only [qg (show i < 9223372036854775807 by omega), h1n] at *)
 all_goals first
  | omega
  | (refine (hl (by omega)).stop _ ?_; rw [hp, QN]; apply decide_eq_false; omega)
  | (refine ⟨(ih (by omega)).same rfl ((hl (by omega)).go ?_)⟩; rw [hp, QN]; apply decide_eq_true; omega)
  | skip
 have him : i = m := by omega
 rw [he him]
 clear ih hl he
 rw [hd]
 clear hd
 refine ⟨SEx.same (SEx.idx 3 (fun i => ⟨92, [(2, bP 8192), (3, bP 12288), (67, bL (.i vals)), (68, bI 3), (69, bI i)], [(8192, .obx [.fz (.sl (.node false none ns)), .fz (.sl (.tie ts)), .fz (.int .i64 hr)]), (12288, .obx [.fz (.int .i64 now), .fz (.sl (.i times)), .fz (.sl (.i vals))])]⟩) (fun i => rB (qz q (vals.drop i) i && true)) ?_) (by rw [hv3]; rfl) (by rw [Bool.and_true]; rfl)⟩
 intro k hk ih
 rw [← hk2]
 have hl : k < 3 → q8 _ _ _ := fun h => q8.of q vals k true (0 : Int) (by omega)
 have he : k = 3 → (qz q (vals.drop k) k && true) = true := fun h => qK (by omega)
 have hlt : ∀ x, f2 ns x < ns.length := fun x => by rw [hf2]; exact (Vq _ _).1
 have hqk : q k (vals.getD k 0) = (decide (¬ vals.getD k 0 = 0) == jm times (f2 ns ((k + 1 : Nat) : Int))) := by
  rw [hq, hf2]; rfl
 have h5 := hlt ((k + 1 : Nat) : Int)
 refine SEx.go (X := XX) qc (fun n => qa [] [(4, [2, 3, 37, 38, 39]), (10, [2, 3, 67, 68, 69])] n) (fun _ => none) hO 60 ?_
 intro M R L N m0 m1 m2 m3 m4 m5
 cases M
 cbv
 repeat' first | refine m1 _ _ ?_ ?_ | refine m2 _ _ fun h => ?_ | refine m3 _ ?_ | (refine m4 _ _ (Hd.out ?_); try first | rw [hks] | rw [hk2] | rw [hk3]) | (refine m5 _ _ ?_; cbv)
 all_goals (clear m1 m2 m3 m4 m5; cases m0; (try clear hks; try clear hk2; try clear hk3); try dsimp only)
 all_goals try simp only [sm] at *
 all_goals (try simp only [qg (show k < 9223372036854775807 by omega)] at *)
 all_goals first
  | omega
  | exact ⟨by omega⟩
  | (refine qO ?_ _; rw [he (by omega)]; done)
  | (refine (hl (by omega)).stop _ ?_; rw [hqk]; unfold jm; clear hqk hl he ih; generalize f2 ns ((k + 1 : Nat) : Int) = w at *; rw [decide_eq_true (show 0 ≤ w by assumption)]; generalize times.getD w.toNat 0 = b at *; generalize vals.getD k 0 = a at *; rw [Kq, Kq]; generalize (a == 0) = u at *; generalize (b == -1) = v at *; cases u <;> cases v <;> simp_all; done)
  | (refine (hl (by omega)).stop _ ?_; rw [hqk]; unfold jm; clear hqk hl he ih; generalize f2 ns ((k + 1 : Nat) : Int) = w at *; rw [decide_eq_false (show ¬ 0 ≤ w by omega)]; generalize vals.getD k 0 = a at *; by_cases ha : a = 0 <;> simp_all; done)
  | (refine ⟨(ih (by omega)).same rfl ((hl (by omega)).go ?_)⟩; rw [hqk]; unfold jm; clear hqk hl he ih; generalize f2 ns ((k + 1 : Nat) : Int) = w at *; rw [decide_eq_true (show 0 ≤ w by assumption)]; generalize times.getD w.toNat 0 = b at *; generalize vals.getD k 0 = a at *; rw [Kq, Kq]; generalize (a == 0) = u at *; generalize (b == -1) = v at *; cases u <;> cases v <;> simp_all; done)
  | (refine ⟨(ih (by omega)).same rfl ((hl (by omega)).go ?_)⟩; rw [hqk]; unfold jm; clear hqk hl he ih; generalize f2 ns ((k + 1 : Nat) : Int) = w at *; rw [decide_eq_false (show ¬ 0 ≤ w by omega)]; generalize vals.getD k 0 = a at *; by_cases ha : a = 0 <;> simp_all; done)
  | skip
def KK (t : qn) (x : qf) : Bool := zb t && jI t x
theorem yL (t : qn) (x : qf) (ht : jl t) (hx : Q8 x) : qe Tryz.prog 40 [qR t, qL x] (rB (KK t x)) := by
 refine qe.of qc (fn := Tryz.f40) (c := Tryz.f40.body.getD .skip) (dr := fun n => qa 0 [(13, 17)] n) Tryz.func40 rfl (by kernel_rfl) (by kernel_rfl) (by kernel_rfl) ?_
 have h2 := hx.tlen
 have h3 := hx.vlen
 have h4 := hx.now
 clear hx
 rw [QX] at h4
 obtain ⟨f0, hf0⟩ : ∃ f, f = kf := ⟨_, rfl⟩
 obtain ⟨f1, hf1⟩ : ∃ f, f = qP := ⟨_, rfl⟩
 obtain ⟨f2, hf2⟩ : ∃ f, f = zC := ⟨_, rfl⟩
 obtain ⟨f3, hf3⟩ : ∃ f, f = zb := ⟨_, rfl⟩
 have hO : qp Tryz.prog (qN [(63, Vv f3), (70, qai f0), (71, Zo f1), (72, We f2)]) := by
  subst hf0 hf1 hf2 hf3
  exact qb qe2 (qb Qq (qb Y3 (qb wP qd)))
 have hsh : f3 t = true → (1 ≤ t.hor ∧ t.hor ≤ 10) ∧ 1 ≤ t.nodes.length ∧ t.nodes.length ≤ 7 := fun h => by rw [hf3] at h; exact ⟨zM h, qI h⟩
 obtain ⟨ns, ts, hr⟩ := t
 obtain ⟨now, times, vals⟩ := x
 dsimp only at hsh h2 h3 h4
 unfold maxLen at h2 h3
 have h1 : ns.length ≤ maxLen := ht.len
 obtain ⟨p, hp⟩ : ∃ p, p = QN now := ⟨_, rfl⟩
 obtain ⟨q, hq⟩ : ∃ q, q = qeV ns times := ⟨_, rfl⟩
 obtain ⟨d, hd⟩ : ∃ d, d = qz q vals 0 := ⟨_, rfl⟩
 obtain ⟨r, hrr⟩ : ∃ r, r = (f3 ⟨ns, ts, hr⟩ && (decide (0 ≤ now ∧ now ≤ hr + 1 ∧ times.length = ns.length) && (f1 vals && (qz p times 0 && d)))) := ⟨_, rfl⟩
 have hs : KK ⟨ns, ts, hr⟩ ⟨now, times, vals⟩ = r := by
  rw [hrr, hf1, hp, hd, hq, hf3]; rfl
 rw [hs]
 clear hs
 have h1r : f3 ⟨ns, ts, hr⟩ = true → f0 now 0 (IntKind.i64.wrap (hr + 1)) = (decide (0 ≤ now) && decide (now ≤ hr + 1)) := fun h => by have := hsh h; rw [qx (by omega) (by omega), hf0]; rfl
 have hz : ¬ times.getD (Int.toNat 0) 0 = 0 → 0 < times.length → qz p times 0 = false := fun h h5 => by
  rw [show times = times.drop 0 by rfl]
  refine wh (0 : Int) h5 ?_
  rw [hp, QN]
  apply decide_eq_false
  intro h6
  exact h (h6.1 rfl)
 refine SEx.go (X := XX) qc (fun n => qa [] [(4, [2, 3, 44, 45, 46]), (10, [2, 3, 7])] n) (fun _ => none) hO 60 ?_
 intro M R L N m0 m1 m2 m3 m4 m5
 cases M
 cbv
 repeat' first | refine m1 _ _ ?_ ?_ | refine m2 _ _ fun h => ?_ | refine m3 _ ?_ | (refine m4 _ _ (Hd.out ?_); generalize hks : (List.cons _ _ : List K) = ks) | (refine m5 _ _ ?_; cbv)
 all_goals (clear m1 m2 m3 m4 m5; cases m0; try dsimp only)
 all_goals try simp only [sm] at *
 all_goals (try (have h7 := hsh (by assumption)))
 all_goals (try (rw [h1r (by assumption)] at *))
 all_goals (try simp only [Bool.and_eq_true, Bool.and_eq_false_iff, decide_eq_true_eq, decide_eq_false_iff_not] at *)
 all_goals first
  | omega
  | exact ht
  | exact ⟨by omega⟩
  | (refine qO ?_ _; rw [hrr, show f3 ⟨ns, ts, hr⟩ = false by assumption]; rfl)
  | (refine qO ?_ _; rw [hrr, decide_eq_false (by omega)]; simp; done)
  | (refine qO ?_ _; rw [hrr, hz (by assumption) (by omega)]; simp; done)
  | (refine qO ?_ _; rw [hrr, show f1 vals = false by assumption]; simp; done)
  | skip
 have h7 := hsh (by assumption)
 rw [show f3 ⟨ns, ts, hr⟩ = true by assumption, show f1 vals = true by assumption, decide_eq_true (by omega), Bool.true_and, Bool.true_and, Bool.true_and] at hrr
 rw [hrr]
 clear hrr hz h1r
 have hv3 : vals.length = 3 := by apply qV; rw [← hf1]; assumption
 obtain ⟨m, hm⟩ : ∃ m, m = times.length := ⟨_, rfl⟩
 refine ⟨SEx.same (SEx.idx m (fun i => ⟨87, [(2, bP 8192), (3, bP 12288), (44, bL (.i times)), (45, bI m), (46, bI i)], [(8192, .obx [.fz (.sl (.node false none ns)), .fz (.sl (.tie ts)), .fz (.int .i64 hr)]), (12288, .obx [.fz (.int .i64 now), .fz (.sl (.i times)), .fz (.sl (.i vals))])]⟩) (fun i => rB (qz p (times.drop i) i && d)) ?_) (by rw [hm]; rfl) rfl⟩
 intro i hi ih
 rw [← hks]
 have hl : i < m → q8 _ _ _ := fun h => q8.of p times i d (0 : Int) (by omega)
 have he : i = m → (qz p (times.drop i) i && d) = d := fun h => qK (by omega)
 have h1n : IntKind.i64.wrap (now - 1) = now - 1 := qx (by omega) (by omega)
 have h0t : i = 0 → times.getD i 0 = 0 := fun h => by subst h; assumption
 have hin : f0 (times.getD i 0) (-1) (IntKind.i64.wrap (now - 1)) = (decide (-1 ≤ times.getD i 0) && decide (times.getD i 0 ≤ now - 1)) := by rw [h1n, hf0]; rfl
 refine SEx.go (X := XX) qc (fun n => qa [] [(4, [2, 3, 44, 45, 46]), (10, [2, 3, 7])] n) (fun _ => none) hO 60 ?_
 intro M R L N m0 m1 m2 m3 m4 m5
 cases M
 cbv
 repeat' first | refine m1 _ _ ?_ ?_ | refine m2 _ _ fun h => ?_ | refine m3 _ ?_ | (refine m4 _ _ (Hd.out ?_); first | rw [hks] | generalize hk2 : (List.cons _ _ : List K) = k2) | (refine m5 _ _ ?_; cbv)
 all_goals (clear m1 m2 m3 m4 m5; cases m0; try dsimp only)
 all_goals try simp only [sm] at *
 all_goals (try simp only [qg (show i < 9223372036854775807 by omega)] at *)
 all_goals (try rw [hin] at *)
 all_goals (try simp only [Bool.and_eq_true, Bool.and_eq_false_iff, decide_eq_true_eq, decide_eq_false_iff_not] at *)
 all_goals first
  | omega
  | (refine (hl (by omega)).stop _ ?_; rw [hp, QN]; apply decide_eq_false; omega)
  | (refine ⟨(ih (by omega)).same rfl ((hl (by omega)).go ?_)⟩; rw [hp, QN]; apply decide_eq_true; omega)
  | skip
 have him : i = m := by omega
 rw [he him]
 clear ih hl he hin h0t h1n
 rw [hd]
 clear hd
 refine ⟨SEx.same (SEx.idx 3 (fun i => ⟨87, [(2, bP 8192), (3, bP 12288), (7, bI (i + 1 : Nat))], [(8192, .obx [.fz (.sl (.node false none ns)), .fz (.sl (.tie ts)), .fz (.int .i64 hr)]), (12288, .obx [.fz (.int .i64 now), .fz (.sl (.i times)), .fz (.sl (.i vals))])]⟩) (fun i => rB (qz q (vals.drop i) i && true)) ?_) rfl (by rw [Bool.and_true]; rfl)⟩
 intro k hk ih
 rw [← hk2]
 have hl : k < 3 → q8 _ _ _ := fun h => q8.of q vals k true (0 : Int) (by omega)
 have he : k = 3 → (qz q (vals.drop k) k && true) = true := fun h => qK (by omega)
 have hlt : ∀ x, f2 ns x < ns.length := fun x => by rw [hf2]; exact (Vq _ _).1
 have h5 := hlt ((k + 1 : Nat) : Int)
 have hwk : IntKind.i64.wrap (((k + 1 : Nat) : Int) - 1) = k := by rw [qx (by omega) (by omega)]; omega
 obtain ⟨kk, hkk⟩ : ∃ kk : Nat, kk = k + 1 := ⟨_, rfl⟩
 rw [← hkk] at hwk h5 ⊢
 have hqk : q k (vals.getD k 0) = (decide (¬ vals.getD k 0 = 0) == jm times (f2 ns kk)) := by
  rw [hq, hf2, hkk]; rfl
 refine SEx.go (X := XX) qc (fun n => qa [] [(4, [2, 3, 44, 45, 46]), (10, [2, 3, 7])] n) (fun _ => none) hO 60 ?_
 intro M R L N m0 m1 m2 m3 m4 m5
 cases M
 cbv
 repeat' first | refine m1 _ _ ?_ ?_ | refine m2 _ _ fun h => ?_ | refine m3 _ ?_ | (refine m4 _ _ (Hd.out ?_); try first | rw [hks] | rw [hk2] | rw [hk3]) | (refine m5 _ _ ?_; cbv)
 all_goals (clear m1 m2 m3 m4 m5; cases m0; (try clear hks; try clear hk2; try clear hk3); try dsimp only)
 all_goals try simp only [sm] at *
 all_goals (try simp only [hwk, Int.toNat_natCast, qg (show kk < 9223372036854775807 by omega)] at *)
 all_goals first
  | omega
  | exact ⟨h1⟩
  | (refine qO ?_ _; rw [he (by omega)]; done)
  | (refine (hl (by omega)).stop _ ?_; rw [hqk]; unfold jm; clear hqk hl he ih; generalize f2 ns (kk : Int) = w at *; rw [decide_eq_true (show 0 ≤ w by assumption)]; generalize times.getD w.toNat 0 = b at *; generalize vals.getD k 0 = a at *; rw [Kq, Kq]; generalize (a == 0) = u at *; generalize (b == -1) = v at *; cases u <;> cases v <;> simp_all; done)
  | (refine (hl (by omega)).stop _ ?_; rw [hqk]; unfold jm; clear hqk hl he ih; generalize f2 ns (kk : Int) = w at *; rw [decide_eq_false (show ¬ 0 ≤ w by omega)]; generalize vals.getD k 0 = a at *; by_cases ha : a = 0 <;> simp_all; done)
  | (subst hkk; refine ⟨(ih (by omega)).same rfl ((hl (by omega)).go ?_)⟩; rw [hqk]; unfold jm; clear hqk hl he ih; generalize f2 ns ((k + 1 : Nat) : Int) = w at *; rw [decide_eq_true (show 0 ≤ w by assumption)]; generalize times.getD w.toNat 0 = b at *; generalize vals.getD k 0 = a at *; rw [Kq, Kq]; generalize (a == 0) = u at *; generalize (b == -1) = v at *; cases u <;> cases v <;> simp_all; done)
  | (subst hkk; refine ⟨(ih (by omega)).same rfl ((hl (by omega)).go ?_)⟩; rw [hqk]; unfold jm; clear hqk hl he ih; generalize f2 ns ((k + 1 : Nat) : Int) = w at *; rw [decide_eq_false (show ¬ 0 ≤ w by omega)]; generalize vals.getD k 0 = a at *; by_cases ha : a = 0 <;> simp_all; done)
  | skip
structure qqK (t : qn) : Prop where out : zb t = true
def qeL (f : qn → qf → Bool) : Wr := w2 qQ qM (fun t x => rB (f t x)) (fun t x => [qqK t, Q8 x])
theorem qeA : qC Tryz.prog 77 (qeL jI) := qE fun t x h => qfN t x (h _ (.head _)).out (h _ (.tail _ (.head _)))
def wm (f : qn → qf → Bool) : Wr := w2 qQ qM (fun t x => rB (f t x)) (fun t x => [jl t, Q8 x])
theorem qcT : qC Tryz.prog 40 (wm KK) := qE fun t x h => yL t x (h _ (.head _)) (h _ (.tail _ (.head _)))
theorem VR (t : qn) (x : qf) (ht : jl t) (hx : Q8 x) : qe Tryz.prog 46 [qR t, qL x] (rB (KK t x)) := by
 refine qe.of qc (fn := Tryz.f46) (c := Tryz.f46.body.getD .skip) (dr := fun n => qa 0 [] n) Tryz.func46 rfl (by kernel_rfl) (by kernel_rfl) (by kernel_rfl) ?_
 obtain ⟨f1, hf1⟩ : ∃ f, f = zb := ⟨_, rfl⟩
 obtain ⟨f2, hf2⟩ : ∃ f, f = jI := ⟨_, rfl⟩
 have hO : qp Tryz.prog (qN [(76, Vv f1), (77, qeL f2)]) := by
  subst hf1 hf2
  exact qb qer (qb qeA qd)
 rw [show KK t x = (f1 t && f2 t x) by rw [hf1, hf2]; rfl]
 have hsh : f1 t = true → zb t = true := fun h => by rw [hf1] at h; exact h
 obtain ⟨ns, ts, hr⟩ := t
 obtain ⟨now, times, vals⟩ := x
 refine SEx.go (X := XX) qc (fun n => qa [] [] n) (fun _ => none) hO 60 ?_
 intro M R L N m0 m1 m2 m3 m4 m5
 cases M
 cbv
 repeat' first | refine m1 _ _ ?_ ?_ | refine m2 _ _ fun h => ?_ | refine m3 _ ?_ | (refine m4 _ _ (Hd.out ?_); try first | rw [hks] | rw [hk2] | rw [hk3]) | (refine m5 _ _ ?_; cbv)
 all_goals (clear m1 m2 m3 m4 m5; cases m0; (try clear hks; try clear hk2; try clear hk3); try dsimp only)
 all_goals try simp only [sm] at *
 all_goals first
  | exact ht
  | exact hx
  | exact ⟨hsh (by assumption)⟩
  | (refine qO ?_ _; simp_all; done)
  | skip
theorem qb0 : qC Tryz.prog 46 (wm KK) := qE fun t x h => VR t x (h _ (.head _)) (h _ (.tail _ (.head _)))
end Go.Proofs.YtececadpjelanaaGreat.Ai
namespace Go.Proofs.YtececadpjelanaaGreat.Ai
open Go
set_option maxRecDepth 100000
variable [qh]
def KR (v : List Int) (x : Int) : Int := if x < 0 then -(v.getD (zE x - 1).toNat 0) else v.getD (zE x - 1).toNat 0
def Zt (v : List Int) : List Int → Int → Int
 | [], s => s
 | x :: r, s => Zt v r (min s (KR v x))
theorem vH {v l : List Int} {i : Nat} {s : Int} (h : i < l.length) : Zt v (l.drop i) s = Zt v (l.drop (i + 1)) (min s (KR v (l.getD i 0))) := by
 rw [List.drop_eq_getElem_cons h, zB h]
 rfl
theorem QH {v : List Int} (h : qP v = true) (i : Nat) : -1 ≤ v.getD i 0 ∧ v.getD i 0 ≤ 1 := by
 unfold qP at h
 rw [Bool.and_eq_true] at h
 by_cases hi : i < v.length
 · obtain ⟨j, hj⟩ := QC h.1 (qo (z := (0 : Int)) hi).out
   simpa [wy] using hj
 · rw [List.getD_eq_getElem?_getD, List.getElem?_eq_none (by omega)]
   exact ⟨by decide, by decide⟩
theorem qhY {v : List Int} (h : qP v = true) (x : Int) : -1 ≤ KR v x ∧ KR v x ≤ 1 := by
 unfold KR
 have := QH h (zE x - 1).toNat
 split <;> omega
theorem qhW {v : List Int} (h : qP v = true) : ∀ (l : List Int) (s : Int), -1 ≤ s → s ≤ 1 → -1 ≤ Zt v l s ∧ Zt v l s ≤ 1
 | [], s, h1, h2 => ⟨h1, h2⟩
 | x :: r, s, h1, h2 => qhW h r _ (by have := qhY h x; omega) (by omega)
structure qrv (l : List Int) : Prop where out : qX l = true
structure qq2 (l : List Int) : Prop where out : qP l = true
theorem qd4 {l : List Int} (h : qX l = true) : l.length ≤ 3 := by
 have key : ∀ n, n ≤ l.length → ∀ j, j < n → (j : Int) + 1 ≤ zE (l.getD j 0) := by
  intro n hn j hj
  induction j with
  | zero =>
    have := (Wq h _ (qo (z := (0 : Int)) (show 0 < l.length by omega)).out).2
    omega
  | succ j ih =>
    have h1 := ih (by omega)
    have h2 := (of_decide_eq_true (KO h (j + 1) (by omega))).2.2.2 (by omega)
    rw [Nat.add_sub_cancel] at h2
    omega
 apply Decidable.byContradiction
 intro hn
 have h1 := key l.length (Nat.le_refl _) 3 (by omega)
 have h2 := ZL h (qo (z := (0 : Int)) (show 3 < l.length by omega)).out
 have h3 := Yv h2.2.1 h2.2.2
 omega
theorem qm4 (a s : Int) : (if a < s then a else s) = min s a := by rw [Int.min_def]; split <;> split <;> omega
theorem Vg (l v : List Int) (hl : qX l = true) (hv : qP v = true) : qe Tryz.prog 122 [aIs l, aIs v] (rI (Zt v l 1)) := by
 refine qe.of qc (fn := Tryz.f122) (c := Tryz.f122.body.getD .skip) (dr := fun n => qa 0 [] n) Tryz.func122 rfl (by kernel_rfl) (by kernel_rfl) (by kernel_rfl) ?_
 obtain ⟨f, hf⟩ : ∃ f, f = zE := ⟨_, rfl⟩
 have hO : qp Tryz.prog (qN [(132, Wz f)]) := by subst hf; exact qb vV qd
 have h3 := qd4 hl
 have hv3 := qV hv
 rw [show Zt v l 1 = Zt v (l.drop 0) 1 by rw [List.drop_zero]]
 refine SEx.go (X := XX) qc (fun n => qa [] [(3, [1, 5, 9, 10, 11])] n) (fun _ => none) hO 60 ?_
 intro M R L N m0 m1 m2 m3 m4 m5
 cases M
 cbv
 repeat' first | refine m1 _ _ ?_ ?_ | refine m2 _ _ fun h => ?_ | refine m3 _ ?_ | (refine m4 _ _ (Hd.out ?_); generalize hks : (List.cons _ _ : List K) = ks) | (refine m5 _ _ ?_; cbv)
 all_goals (clear m1 m2 m3 m4 m5; cases m0; try dsimp only)
 all_goals try simp only [sm] at *
 obtain ⟨m, hm⟩ : ∃ m, m = l.length := ⟨_, rfl⟩
 refine ⟨SEx.same (SEx.idxS m (fun i (s : Int) => ⟨30, [(1, bL (.i v)), (5, bI s), (9, bL (.i l)), (10, bI m), (11, bI i)], []⟩) (fun i s => rI (Zt v (l.drop i) s)) (fun _ _ => True) 1 trivial ?_) (by rw [hm]; rfl) rfl⟩
 intro i s hi _ ih
 rw [← hks]
 have hp : i < m → 0 < f (l.getD i 0) ∧ f (l.getD i 0) ≤ 3 := fun h => by
  have h2 := ZL hl (qo (z := (0 : Int)) (show i < l.length by omega)).out
  rw [hf]
  exact ⟨vN h2.1 h2.2.1 h2.2.2, Yv h2.2.1 h2.2.2⟩
 have hw : i < m → IntKind.i64.wrap (f (l.getD i 0) - 1) = f (l.getD i 0) - 1 := fun h => by have := hp h; exact qx (by omega) (by omega)
 refine SEx.go (X := XX) qc (fun n => qa [] [(3, [1, 5, 9, 10, 11])] n) (fun _ => none) hO 60 ?_
 intro M R L N m0 m1 m2 m3 m4 m5
 cases M
 cbv
 repeat' first | refine m1 _ _ ?_ ?_ | refine m2 _ _ fun h => ?_ | refine m3 _ ?_ | (refine m4 _ _ (Hd.out ?_); try first | rw [hks] | rw [hk2] | rw [hk3]) | (refine m5 _ _ ?_; cbv)
 all_goals (clear m1 m2 m3 m4 m5; cases m0; (try clear hks; try clear hk2; try clear hk3); try dsimp only)
 all_goals try simp only [sm] at *
 all_goals (try (have h7 := hp (by omega)))
 all_goals (try rw [hw (by omega)] at *)
 all_goals (have hvr := QH hv (f (l.getD i 0) - 1).toNat; try rw [qx (n := 0 - v.getD (f (l.getD i 0) - 1).toNat 0) (by omega) (by omega)])
 all_goals (try simp only [qg (show i < 9223372036854775807 by omega), qm4])
 all_goals first
  | omega
  | exact ⟨(Wq hl _ (qo (z := (0 : Int)) (by omega)).out).1⟩
  | (refine ⟨(ih _ (by omega) trivial).same rfl ?_⟩; rw [vH (show i < l.length by omega), KR, if_pos (by assumption), hf, Int.zero_sub]; done)
  | (refine ⟨(ih _ (by omega) trivial).same rfl ?_⟩; rw [vH (show i < l.length by omega), KR, if_neg (by omega), hf]; done)
  | (rw [List.drop_eq_nil_of_le (by omega)]; rfl)
  | skip
theorem qbO (x : Int) (v : List Int) (hx : ¬ x = 0 ∧ -3 ≤ x ∧ x ≤ 3) (hv : qP v = true) : qe Tryz.prog 179 [aI x, aIs v] (rI (KR v x)) := by
 refine qe.of qc (fn := Tryz.f179) (c := Tryz.f179.body.getD .skip) (dr := fun n => qa 0 [] n) Tryz.func179 rfl (by kernel_rfl) (by kernel_rfl) (by kernel_rfl) ?_
 obtain ⟨f, hf⟩ : ∃ f, f = zE := ⟨_, rfl⟩
 have hO : qp Tryz.prog (qN [(142, Wz f)]) := by subst hf; exact qb vz qd
 have hv3 := qV hv
 have hp : 0 < f x ∧ f x ≤ 3 := by rw [hf]; exact ⟨vN hx.1 hx.2.1 hx.2.2, Yv hx.2.1 hx.2.2⟩
 have hw : IntKind.i64.wrap (f x - 1) = f x - 1 := qx (by omega) (by omega)
 refine SEx.go (X := XX) qc (fun n => qa [] [] n) (fun _ => none) hO 60 ?_
 intro M R L N m0 m1 m2 m3 m4 m5
 cases M
 cbv
 repeat' first | refine m1 _ _ ?_ ?_ | refine m2 _ _ fun h => ?_ | refine m3 _ ?_ | (refine m4 _ _ (Hd.out ?_); try first | rw [hks] | rw [hk2] | rw [hk3]) | (refine m5 _ _ ?_; cbv)
 all_goals (clear m1 m2 m3 m4 m5; cases m0; (try clear hks; try clear hk2; try clear hk3); try dsimp only)
 all_goals try simp only [sm] at *
 all_goals (try rw [hw] at *)
 all_goals (have hvr := QH hv (f x - 1).toNat; try rw [qx (n := 0 - v.getD (f x - 1).toNat 0) (by omega) (by omega)])
 all_goals first
  | omega
  | (refine ⟨?_⟩; rw [QX]; omega)
  | (simp only [Kk]; rw [KR, if_pos (by assumption), hf, Int.zero_sub]; done)
  | (simp only [Kk]; rw [KR, if_neg (by omega), hf]; done)
  | skip
structure qrt (x : Int) : Prop where out : ¬ x = 0 ∧ -3 ≤ x ∧ x ≤ 3
def qmu (f : List Int → Int → Int) : Wr := w2 dcI kw (fun x v => rI (f v x)) (fun x v => [qrt x, qq2 v])
theorem qk4 : qC Tryz.prog 179 (qmu KR) := qE fun x v h => qbO x v (h _ (.head _)).out (h _ (.tail _ (.head _))).out
theorem Z9 (l v : List Int) (hl : ZV l) (hv : v.length ≤ maxLen) : qe Tryz.prog 163 [aIs l, aIs v] (rI (if qX l = true ∧ qP v = true then Zt v l 1 else -1)) := by
 refine qe.of qc (fn := Tryz.f163) (c := Tryz.f163.body.getD .skip) (dr := fun n => qa 0 [] n) Tryz.func163 rfl (by kernel_rfl) (by kernel_rfl) (by kernel_rfl) ?_
 obtain ⟨f, hf⟩ : ∃ f, f = KR := ⟨_, rfl⟩
 obtain ⟨f1, hf1⟩ : ∃ f, f = qX := ⟨_, rfl⟩
 obtain ⟨f2, hf2⟩ : ∃ f, f = qP := ⟨_, rfl⟩
 have hO : qp Tryz.prog (qN [(169, QD f1), (114, Zo f2), (179, qmu f)]) := by subst hf hf1 hf2; exact qb ZJ (qb Jz (qb qk4 qd))
 rw [← hf1, ← hf2]
 refine SEx.go (X := XX) qc (fun n => qa [] [(5, [1, 5, 16, 17, 18])] n) (fun _ => none) hO 60 ?_
 intro M R L N m0 m1 m2 m3 m4 m5
 cases M
 cbv
 repeat' first | refine m1 _ _ ?_ ?_ | refine m2 _ _ fun h => ?_ | refine m3 _ ?_ | (refine m4 _ _ (Hd.out ?_); generalize hks : (List.cons _ _ : List K) = ks) | (refine m5 _ _ ?_; cbv)
 all_goals (clear m1 m2 m3 m4 m5; cases m0; try dsimp only)
 all_goals try simp only [sm] at *
 all_goals first
  | exact hl
  | exact ⟨hv⟩
  | (simp only [Kk]; rw [if_neg]; rintro ⟨h1, h2⟩; simp_all; done)
  | skip
 rw [if_pos ⟨by assumption, by assumption⟩]
 have hlb : qX l = true := by rw [← hf1]; assumption
 have hvb : qP v = true := by rw [← hf2]; assumption
 have h3 := qd4 hlb
 obtain ⟨m, hm⟩ : ∃ m, m = l.length := ⟨_, rfl⟩
 refine ⟨SEx.same (SEx.idxS m (fun i (s : Int) => ⟨29, [(1, bL (.i v)), (5, bI s), (16, bL (.i l)), (17, bI m), (18, bI i)], []⟩) (fun i s => rI (Zt v (l.drop i) s)) (fun _ _ => True) 1 trivial ?_) (by rw [hm]; rfl) rfl⟩
 intro i s hi _ ih
 rw [← hks]
 refine SEx.go (X := XX) qc (fun n => qa [] [(5, [1, 5, 16, 17, 18])] n) (fun _ => none) hO 60 ?_
 intro M R L N m0 m1 m2 m3 m4 m5
 cases M
 cbv
 repeat' first | refine m1 _ _ ?_ ?_ | refine m2 _ _ fun h => ?_ | refine m3 _ ?_ | (refine m4 _ _ (Hd.out ?_); try first | rw [hks] | rw [hk2] | rw [hk3]) | (refine m5 _ _ ?_; cbv)
 all_goals (clear m1 m2 m3 m4 m5; cases m0; (try clear hks; try clear hk2; try clear hk3); try dsimp only)
 all_goals try simp only [sm] at *
 all_goals (try simp only [qg (show i < 9223372036854775807 by omega), qm4])
 all_goals first
  | omega
  | exact ⟨ZL hlb (qo (z := (0 : Int)) (by omega)).out⟩
  | exact ⟨hvb⟩
  | (refine ⟨(ih _ (by omega) trivial).same rfl ?_⟩; rw [vH (show i < l.length by omega), hf]; done)
  | (rw [List.drop_eq_nil_of_le (by omega)]; rfl)
  | skip
def nsI (t : qn) (x : qf) (i : Int) : Int := Zt x.vals (nd t.nodes i).label 1
structure StT (t : qn) (x : qf) : Prop where
 sh : zb t = true
 st : jI t x = true
theorem StT.vals {t : qn} {x : qf} (h : StT t x) : qP x.vals = true := by
 have := h.st
 unfold jI at this
 rw [Bool.and_eq_true, Bool.and_eq_true] at this
 exact this.2.1
theorem StT.now {t : qn} {x : qf} (h : StT t x) : 0 ≤ x.now ∧ x.now ≤ t.hor + 1 ∧ x.times.length = t.nodes.length := by
 have := h.st
 unfold jI at this
 rw [Bool.and_eq_true, decide_eq_true_eq] at this
 exact this.1
theorem vT {α : Type} {p : Nat → α → Bool} : ∀ {l : List α} {n i : Nat} (z : α), qz p l n = true → i < l.length → p (n + i) (l.getD i z) = true
 | a :: r, n, 0, z, h, _ => by
   unfold qz at h
   rw [Bool.and_eq_true] at h
   simpa using h.1
 | a :: r, n, i + 1, z, h, hi => by
   unfold qz at h
   rw [Bool.and_eq_true] at h
   have := vT z h.2 (show i < r.length by simpa using hi)
   rw [List.getD_cons_succ, show n + (i + 1) = n + 1 + i by omega]
   exact this
theorem StT.time {t : qn} {x : qf} (h : StT t x) (i : Nat) : -1 ≤ x.times.getD i 0 ∧ x.times.getD i 0 ≤ 10 := by
 have hn := h.now
 have hh := zM h.sh
 have := h.st
 unfold jI at this
 rw [Bool.and_eq_true, Bool.and_eq_true, Bool.and_eq_true] at this
 by_cases hi : i < x.times.length
 · have h1 := vT (0 : Int) this.2.2.1 hi
   rw [Nat.zero_add, QN, decide_eq_true_eq] at h1
   by_cases h0 : i = 0
   · have := h1.1 h0; omega
   · have := h1.2 (by omega); omega
 · rw [List.getD_eq_getElem?_getD, List.getElem?_eq_none (by omega)]
   exact ⟨by decide, by decide⟩
structure kP (t : qn) (x : qf) : Prop where
 sh : jl t
 st : Q8 x
theorem qbz (t : qn) (x : qf) (i : Int) (hs : kP t x) (h : StT t x) (hi : 0 ≤ i ∧ i < t.nodes.length) : qe Tryz.prog 129 [qR t, qL x, aI i] (rI (nsI t x i)) := by
 refine qe.of qc (fn := Tryz.f129) (c := Tryz.f129.body.getD .skip) (dr := fun n => qa 0 [(1, 8)] n) Tryz.func129 rfl (by kernel_rfl) (by kernel_rfl) (by kernel_rfl) ?_
 have h1 := kG h.sh (qo (z := qi.z) (show i.toNat < t.nodes.length by omega)).out
 have h2 := h.vals
 have h3 := hs.sh.nodes _ (qo (z := qi.z) (show i.toNat < t.nodes.length by omega)).out
 have h4 := hs.st.vlen
 unfold nsI nd
 obtain ⟨f, hf⟩ : ∃ f : List Int → List Int → Int, f = fun l v => if qX l = true ∧ qP v = true then Zt v l 1 else -1 := ⟨_, rfl⟩
 have hO : qp Tryz.prog (qN [(163, w2 kw kw (fun l v => rI (f l v)) (fun l v => [ZV l, LLe v maxLen]))]) := by
  subst hf
  exact qb (qE fun l v h => Z9 l v (h _ (.head _)) (h _ (.tail _ (.head _))).out) qd
 have he : f (t.nodes.getD i.toNat qi.z).label x.vals = Zt x.vals (t.nodes.getD i.toNat qi.z).label 1 := by rw [hf]; exact if_pos ⟨h1, h2⟩
 rw [← he]
 clear hs h hf he
 obtain ⟨ns, ts, hr⟩ := t
 obtain ⟨now, times, vals⟩ := x
 dsimp only at hi h1 h2 h3 h4
 refine SEx.go (X := XX) qc (fun n => qa [] [] n) (fun _ => none) hO 60 ?_
 intro M R L N m0 m1 m2 m3 m4 m5
 cases M
 cbv
 repeat' first | refine m1 _ _ ?_ ?_ | refine m2 _ _ fun h => ?_ | refine m3 _ ?_ | (refine m4 _ _ (Hd.out ?_); try first | rw [hks] | rw [hk2] | rw [hk3]) | (refine m5 _ _ ?_; cbv)
 all_goals (clear m1 m2 m3 m4 m5; cases m0; (try clear hks; try clear hk2; try clear hk3); try dsimp only)
 all_goals try simp only [sm] at *
 all_goals first
  | omega
  | exact ⟨h3.len, h3.all⟩
  | exact ⟨h4⟩
  | rfl
  | skip
end Go.Proofs.YtececadpjelanaaGreat.Ai
namespace Go.Proofs.YtececadpjelanaaGreat.Ai
open Go
set_option maxRecDepth 100000
variable [qh]
def qjr (l v : List Int) : Int := Zt v l 1
def Qw (f : List Int → List Int → Int) : Wr := w2 kw kw (fun l v => rI (f l v)) (fun l v => [qrv l, qq2 v])
theorem jw : qC Tryz.prog 122 (Qw qjr) := qE fun l v h => Vg l v (h _ (.head _)).out (h _ (.tail _ (.head _))).out
def JT (f : qn → qf → Int → Int) : Wr := w3 qQ qM dcI (fun t x i => rI (f t x i)) (fun t x i => [kP t x, StT t x, InX i t.nodes])
theorem JH : qC Tryz.prog 129 (JT nsI) := QS fun t x i h => qbz t x i (h _ (.head _)) (h _ (.tail _ (.head _))) (h _ (.tail _ (.tail _ (.head _)))).out
structure QU (t : qn) (q : Tie) : Prop where
 src : 0 ≤ q.src ∧ q.src < t.nodes.length
 dst : 0 ≤ q.dst ∧ q.dst < t.nodes.length
theorem kz {t : qn} (h : zb t = true) {q : Tie} (hq : q ∈ t.ties) : QU t q := by
 have hn := qI h
 unfold zb JJ at h
 simp only [Bool.and_eq_true] at h
 obtain ⟨i, hi⟩ := QC h.2.2.1.1 hq
 unfold wd at hi
 rw [Bool.and_eq_true, decide_eq_true_eq] at hi
 exact ⟨by omega, by omega⟩
def Ks (t : qn) (x : qf) (q : Tie) : Bool :=
 if ¬ x.times.getD q.src.toNat 0 = -1 ∧ ¬ x.times.getD q.dst.toNat 0 = -1 then !(decide (q.low ≤ x.times.getD q.dst.toNat 0 - x.times.getD q.src.toNat 0) && decide (x.times.getD q.dst.toNat 0 - x.times.getD q.src.toNat 0 ≤ q.high))
 else if q.free = true then false
 else if ¬ x.times.getD q.src.toNat 0 = -1 then decide (nsI t x q.dst = 1) && decide (q.high < x.now - x.times.getD q.src.toNat 0)
 else if ¬ x.times.getD q.dst.toNat 0 = -1 then decide (nsI t x q.src = 1) && decide (x.times.getD q.dst.toNat 0 - x.now < q.low)
 else false
theorem qdx (t : qn) (x : qf) (q : Tie) (h : StT t x) (hq : QU t q) : qe Tryz.prog 124 [qR t, qL x, YM q] (rB (Ks t x q)) := by
 refine qe.of qc (fn := Tryz.f124) (c := Tryz.f124.body.getD .skip) (dr := fun n => qa 0 [(8, 18), (10, 18)] n) Tryz.func124 rfl (by kernel_rfl) (by kernel_rfl) (by kernel_rfl) ?_
 obtain ⟨f0, hf0⟩ : ∃ f, f = kf := ⟨_, rfl⟩
 obtain ⟨f1, hf1⟩ : ∃ f, f = qjr := ⟨_, rfl⟩
 have hO : qp Tryz.prog (qN [(70, qai f0), (122, Qw f1)]) := by
  subst hf0 hf1
  exact qb Qq (qb jw qd)
 have hv := h.vals
 have hn := h.now
 have hh := zM h.sh
 have ht := h.time
 have hl : ∀ n ∈ t.nodes, qX n.label = true := fun n hn => kG h.sh hn
 have h5 := hq.src
 have h6 := hq.dst
 have hr : Ks t x q = if ¬ x.times.getD q.src.toNat 0 = -1 ∧ ¬ x.times.getD q.dst.toNat 0 = -1 then !(f0 (x.times.getD q.dst.toNat 0 - x.times.getD q.src.toNat 0) q.low q.high)
  else if q.free = true then false
  else if ¬ x.times.getD q.src.toNat 0 = -1 then decide (f1 (t.nodes.getD q.dst.toNat qi.z).label x.vals = 1) && decide (q.high < x.now - x.times.getD q.src.toNat 0)
  else if ¬ x.times.getD q.dst.toNat 0 = -1 then decide (f1 (t.nodes.getD q.src.toNat qi.z).label x.vals = 1) && decide (x.times.getD q.dst.toNat 0 - x.now < q.low)
  else false := by rw [hf0, hf1]; rfl
 rw [hr]
 clear h hq hr
 obtain ⟨ns, ts, hr⟩ := t
 obtain ⟨now, times, vals⟩ := x
 obtain ⟨x1, x2, x3, x4, x5⟩ := q
 dsimp only at hv hn hh ht h5 h6 hl ⊢
 have hta := ht x1.toNat
 have htb := ht x2.toNat
 have hw1 : IntKind.i64.wrap (times.getD x2.toNat 0 - times.getD x1.toNat 0) = times.getD x2.toNat 0 - times.getD x1.toNat 0 := qx (by omega) (by omega)
 have hw2 : IntKind.i64.wrap (now - times.getD x1.toNat 0) = now - times.getD x1.toNat 0 := qx (by omega) (by omega)
 have hw3 : IntKind.i64.wrap (times.getD x2.toNat 0 - now) = times.getD x2.toNat 0 - now := qx (by omega) (by omega)
 refine SEx.go (X := XX) qc (fun n => qa [] [] n) (fun _ => none) hO 60 ?_
 intro M R L N m0 m1 m2 m3 m4 m5
 cases M
 cbv
 repeat' first | refine m1 _ _ ?_ ?_ | refine m2 _ _ fun h => ?_ | refine m3 _ ?_ | (refine m4 _ _ (Hd.out ?_); try first | rw [hks] | rw [hk2] | rw [hk3]) | (refine m5 _ _ ?_; cbv)
 all_goals (clear m1 m2 m3 m4 m5; cases m0; (try clear hks; try clear hk2; try clear hk3); try dsimp only)
 all_goals try simp only [sm] at *
 all_goals (clear hO ht)
 all_goals (try simp only [hw1, hw2, hw3] at *)
 all_goals first
  | omega
  | contradiction
  | exact ⟨hv⟩
  | exact ⟨hl _ (qo (z := qi.z) (by omega)).out⟩
  | (refine qO ?_ _; delta qi.label at *; clear hl; simp_all; done)
  | skip
theorem qif {α : Type} {p : Nat → α → Bool} (z : α) : ∀ (l : List α) (n : Nat), qz p l n = Va (fun i => p (n + i) (l.getD i z)) l.length
 | [], n => rfl
 | a :: r, n => by
   unfold qz Va
   rw [List.length_cons, List.range_succ_eq_map, List.all_cons, List.all_map, qif z r (n + 1)]
   show (p n a && _) = (p n a && _)
   congr 1
   unfold Va
   congr 1
   funext i
   show p (n + 1 + i) _ = p (n + (i + 1)) _
   rw [show n + 1 + i = n + (i + 1) by omega]
   rfl
theorem vE {α : Type} {p : Nat → α → Bool} (z : α) (l : List α) : qz p l 0 = Va (fun i => p i (l.getD i z)) l.length := by
 rw [qif z l 0]; simp only [Nat.zero_add]
def qlt (t : qn) (x : qf) (i : Nat) : Bool := !(decide (x.times.getD i 0 = -1) && decide (0 ≤ nsI t x i))
def jo (t : qn) (x : qf) : Bool := Va (qlt t x) t.nodes.length
def zV (t : qn) (x : qf) : Bool := !(qz (fun _ q => !Ks t x q) t.ties 0 && (decide (x.now ≤ t.hor) || jo t x))
theorem qee (t : qn) (x : qf) (hs : jl t) (h : StT t x) : qe Tryz.prog 96 [qR t, qL x] (rB (jo t x)) := by
 refine qe.of qc (fn := Tryz.f96) (c := Tryz.f96.body.getD .skip) (dr := fun n => qa 0 [] n) Tryz.func96 rfl (by kernel_rfl) (by kernel_rfl) (by kernel_rfl) ?_
 obtain ⟨f1, hf1⟩ : ∃ f, f = qjr := ⟨_, rfl⟩
 have hO : qp Tryz.prog (qN [(122, Qw f1)]) := by
  subst hf1
  exact qb jw qd
 have hv := h.vals
 have hn := h.now
 have h1 := qI h.sh
 have hl : ∀ n ∈ t.nodes, qX n.label = true := fun n hn => kG h.sh hn
 obtain ⟨p, hp⟩ : ∃ p : Nat → qi → Bool, p = fun i q => !(decide (x.times.getD i 0 = -1) && decide (0 ≤ f1 q.label x.vals)) := ⟨_, rfl⟩
 have hr : jo t x = (qz p t.nodes 0 && true) := by
  rw [Bool.and_true, vE qi.z, hp, hf1]; rfl
 rw [hr]
 clear h hs hr
 obtain ⟨ns, ts, hr⟩ := t
 obtain ⟨now, times, vals⟩ := x
 dsimp only at hv hn h1 hl hp ⊢
 refine SEx.go (X := XX) qc (fun n => qa [] [(2, [3, 8, 9, 10])] n) (fun _ => none) hO 60 ?_
 intro M R L N m0 m1 m2 m3 m4 m5
 cases M
 cbv
 repeat' first | refine m1 _ _ ?_ ?_ | refine m2 _ _ fun h => ?_ | refine m3 _ ?_ | (refine m4 _ _ (Hd.out ?_); generalize hks : (List.cons _ _ : List K) = ks) | (refine m5 _ _ ?_; cbv)
 all_goals (clear m1 m2 m3 m4 m5; cases m0; try dsimp only)
 all_goals try simp only [sm] at *
 obtain ⟨m, hm⟩ : ∃ m, m = ns.length := ⟨_, rfl⟩
 refine ⟨SEx.same (SEx.idx m (fun i => ⟨30, [(3, bP 12288), (8, bL (.node false none ns)), (9, bI m), (10, bI i)], [(12288, .obx [.fz (.int .i64 now), .fz (.sl (.i times)), .fz (.sl (.i vals))])]⟩) (fun i => rB (qz p (ns.drop i) i && true)) ?_) (by rw [hm]; rfl) rfl⟩
 intro i hi ih
 rw [← hks]
 have hl2 : i < m → q8 _ _ _ := fun h => q8.of p ns i true qi.z (by omega)
 have he : i = m → (qz p (ns.drop i) i && true) = true := fun h => qK (by omega)
 refine SEx.go (X := XX) qc (fun n => qa [] [(2, [3, 8, 9, 10])] n) (fun _ => none) hO 60 ?_
 intro M R L N m0 m1 m2 m3 m4 m5
 cases M
 cbv
 repeat' first | refine m1 _ _ ?_ ?_ | refine m2 _ _ fun h => ?_ | refine m3 _ ?_ | (refine m4 _ _ (Hd.out ?_); try first | rw [hks] | rw [hk2] | rw [hk3]) | (refine m5 _ _ ?_; cbv)
 all_goals (clear m1 m2 m3 m4 m5; cases m0; (try clear hks; try clear hk2; try clear hk3); try dsimp only)
 all_goals try simp only [sm] at *
 all_goals (try simp only [qg (show i < 9223372036854775807 by omega)] at *)
 all_goals first
  | omega
  | exact ⟨hv⟩
  | exact ⟨hl _ (qo (z := qi.z) (by omega)).out⟩
  | (refine qO ?_ _; rw [he (by omega)]; done)
  | (refine (hl2 (by omega)).stop _ ?_; rw [hp]; delta qi.label at *; clear hl2 he ih hl; simp_all; done)
  | (refine ⟨(ih (by omega)).same rfl ((hl2 (by omega)).go ?_)⟩; rw [hp]; delta qi.label at *; clear hl2 he ih hl; simp_all; done)
  | skip
theorem qaj (t : qn) (x : qf) (hs : jl t) (h : StT t x) : qe Tryz.prog 95 [qR t, qL x] (rB (zV t x)) := by
 refine qe.of qc (fn := Tryz.f95) (c := Tryz.f95.body.getD .skip) (dr := fun n => qa 0 [] n) Tryz.func95 rfl (by kernel_rfl) (by kernel_rfl) (by kernel_rfl) ?_
 obtain ⟨f1, hf1⟩ : ∃ f, f = qjr := ⟨_, rfl⟩
 obtain ⟨f2, hf2⟩ : ∃ f, f = Ks := ⟨_, rfl⟩
 have hO : qp Tryz.prog (qN [(122, Qw f1), (124, w3 qQ qM yF (fun t x q => rB (f2 t x q)) (fun t x q => [StT t x, QU t q]))]) := by
  subst hf1 hf2
  exact qb jw (qb (QS fun t x q h => qdx t x q (h _ (.head _)) (h _ (.tail _ (.head _)))) qd)
 have hv := h.vals
 have hn := h.now
 have h1 := qI h.sh
 have h2 := zP h.sh
 have hl : ∀ n ∈ t.nodes, qX n.label = true := fun n hn => kG h.sh hn
 have ht : ∀ q ∈ t.ties, QU t q := fun q hq => kz h.sh hq
 obtain ⟨p, hp⟩ : ∃ p : Nat → qi → Bool, p = fun i q => !(decide (t.hor < x.now) && (decide (x.times.getD i 0 = -1) && decide (0 ≤ f1 q.label x.vals))) := ⟨_, rfl⟩
 obtain ⟨pt, hpt⟩ : ∃ p : Nat → Tie → Bool, p = fun _ q => !f2 t x q := ⟨_, rfl⟩
 have e : qz p t.nodes 0 = (decide (x.now ≤ t.hor) || jo t x) := by
  rw [vE qi.z, hp, hf1]
  by_cases hc : t.hor < x.now
  · rw [decide_eq_true hc, decide_eq_false (show ¬ x.now ≤ t.hor by omega), Bool.false_or]; rfl
  · rw [decide_eq_false hc, decide_eq_true (show x.now ≤ t.hor by omega), Bool.true_or]
    exact ZA fun j hj => rfl
 obtain ⟨d, hd⟩ : ∃ d, d = qz p t.nodes 0 := ⟨_, rfl⟩
 have hr : zV t x = !(qz pt t.ties 0 && d) := by
  rw [hd, e, hpt, hf2]; rfl
 rw [hr]
 clear hs hr e
 obtain ⟨ns, ts, hr⟩ := t
 obtain ⟨now, times, vals⟩ := x
 dsimp only at hv hn h1 h2 hl hp hd ht ⊢
 refine SEx.go (X := XX) qc (fun n => qa [] [(2, [2, 3, 10, 11, 12]), (8, [2, 3, 22, 23, 24])] n) (fun _ => none) hO 60 ?_
 intro M R L N m0 m1 m2 m3 m4 m5
 cases M
 cbv
 repeat' first | refine m1 _ _ ?_ ?_ | refine m2 _ _ fun h => ?_ | refine m3 _ ?_ | (refine m4 _ _ (Hd.out ?_); generalize hks : (List.cons _ _ : List K) = ks) | (refine m5 _ _ ?_; cbv)
 all_goals (clear m1 m2 m3 m4 m5; cases m0; try dsimp only)
 all_goals try simp only [sm] at *
 obtain ⟨m, hm⟩ : ∃ m, m = ts.length := ⟨_, rfl⟩
 refine ⟨SEx.same (SEx.idx m (fun i => ⟨51, [(2, bP 8192), (3, bP 12288), (10, bL (.tie ts)), (11, bI m), (12, bI i)], [(8192, .obx [.fz (.sl (.node false none ns)), .fz (.sl (.tie ts)), .fz (.int .i64 hr)]), (12288, .obx [.fz (.int .i64 now), .fz (.sl (.i times)), .fz (.sl (.i vals))])]⟩) (fun i => rB (!(qz pt (ts.drop i) i && d))) ?_) (by rw [hm]; rfl) rfl⟩
 intro i hi ih
 rw [← hks]
 have hl2 : i < m → q8 _ _ _ := fun h => q8.of pt ts i d Tie.z (by omega)
 have he : i = m → (qz pt (ts.drop i) i && d) = d := fun h => qK (by omega)
 refine SEx.go (X := XX) qc (fun n => qa [] [(2, [2, 3, 10, 11, 12]), (8, [2, 3, 22, 23, 24])] n) (fun _ => none) hO 60 ?_
 intro M R L N m0 m1 m2 m3 m4 m5
 cases M
 cbv
 repeat' first | refine m1 _ _ ?_ ?_ | refine m2 _ _ fun h => ?_ | refine m3 _ ?_ | (refine m4 _ _ (Hd.out ?_); first | rw [hks] | generalize hk2 : (List.cons _ _ : List K) = k2) | (refine m5 _ _ ?_; cbv)
 all_goals (clear m1 m2 m3 m4 m5; cases m0; try dsimp only)
 all_goals try simp only [sm] at *
 all_goals (try simp only [qg (show i < 9223372036854775807 by omega)] at *)
 all_goals first
  | omega
  | exact h
  | exact ht _ (qo (z := Tie.z) (by omega)).out
  | (refine (hl2 (by omega)).stopN _ ?_; rw [hpt]; clear hl2 he ih hl ht; simp_all; done)
  | (refine ⟨(ih (by omega)).same rfl ((hl2 (by omega)).goN ?_)⟩; rw [hpt]; clear hl2 he ih hl ht; simp_all; done)
  | skip
 have him : i = m := by omega
 rw [he him, hd]
 clear ih hl2 he hd
 obtain ⟨w, hw⟩ : ∃ w, w = ns.length := ⟨_, rfl⟩
 refine ⟨SEx.same (SEx.idx w (fun i => ⟨51, [(2, bP 8192), (3, bP 12288), (22, bL (.node false none ns)), (23, bI w), (24, bI i)], [(8192, .obx [.fz (.sl (.node false none ns)), .fz (.sl (.tie ts)), .fz (.int .i64 hr)]), (12288, .obx [.fz (.int .i64 now), .fz (.sl (.i times)), .fz (.sl (.i vals))])]⟩) (fun i => rB (!(qz p (ns.drop i) i && true))) ?_) (by rw [hw]; rfl) (by rw [Bool.and_true]; rfl)⟩
 intro k hk ih
 rw [← hk2]
 have hl2 : k < w → q8 _ _ _ := fun h => q8.of p ns k true qi.z (by omega)
 have he : k = w → (qz p (ns.drop k) k && true) = true := fun h => qK (by omega)
 refine SEx.go (X := XX) qc (fun n => qa [] [(2, [2, 3, 10, 11, 12]), (8, [2, 3, 22, 23, 24])] n) (fun _ => none) hO 60 ?_
 intro M R L N m0 m1 m2 m3 m4 m5
 cases M
 cbv
 repeat' first | refine m1 _ _ ?_ ?_ | refine m2 _ _ fun h => ?_ | refine m3 _ ?_ | (refine m4 _ _ (Hd.out ?_); try first | rw [hks] | rw [hk2] | rw [hk3]) | (refine m5 _ _ ?_; cbv)
 all_goals (clear m1 m2 m3 m4 m5; cases m0; (try clear hks; try clear hk2; try clear hk3); try dsimp only)
 all_goals try simp only [sm] at *
 all_goals (try simp only [qg (show k < 9223372036854775807 by omega)] at *)
 all_goals first
  | omega
  | exact ⟨hv⟩
  | exact ⟨hl _ (qo (z := qi.z) (by omega)).out⟩
  | (refine qO ?_ _; rw [he (by omega)]; rfl)
  | (refine (hl2 (by omega)).stopN _ ?_; rw [hp]; delta qi.label at *; clear hl2 he ih hl ht; simp_all; done)
  | (refine ⟨(ih (by omega)).same rfl ((hl2 (by omega)).goN ?_)⟩; rw [hp]; delta qi.label at *; clear hl2 he ih hl ht; simp_all; done)
  | (refine ⟨(ih (by omega)).same rfl ((hl2 (by omega)).goN ?_)⟩; rw [hp]; dsimp only; rw [decide_eq_false (show ¬ hr < now by omega)]; rfl)
  | skip
end Go.Proofs.YtececadpjelanaaGreat.Ai
namespace Go.Proofs.YtececadpjelanaaGreat.Ai
open Go
set_option maxRecDepth 100000
variable [qh]
theorem Yk (t : qn) (x : qf) (q : Tie) (hs : kP t x) (hst : StT t x) (hq : QU t q) : qe Tryz.prog 128 [qR t, qL x, YM q] (rB (Ks t x q)) := by
 refine qe.of qc (fn := Tryz.f128) (c := Tryz.f128.body.getD .skip) (dr := fun n => qa 0 [(1, 14)] n) Tryz.func128 rfl (by kernel_rfl) (by kernel_rfl) (by kernel_rfl) ?_
 obtain ⟨f1, hf1⟩ : ∃ f, f = nsI := ⟨_, rfl⟩
 have hO : qp Tryz.prog (qN [(129, JT f1)]) := by
  subst hf1
  exact qb JH qd
 have hn := hst.now
 have hh := zM hst.sh
 have ht := hst.time
 have h5 := hq.src
 have h6 := hq.dst
 have hr : Ks t x q = if ¬ x.times.getD q.src.toNat 0 = -1 ∧ ¬ x.times.getD q.dst.toNat 0 = -1 then !(decide (q.low ≤ x.times.getD q.dst.toNat 0 - x.times.getD q.src.toNat 0) && decide (x.times.getD q.dst.toNat 0 - x.times.getD q.src.toNat 0 ≤ q.high))
  else if q.free = true then false
  else if ¬ x.times.getD q.src.toNat 0 = -1 then decide (f1 t x q.dst = 1) && decide (q.high < x.now - x.times.getD q.src.toNat 0)
  else if ¬ x.times.getD q.dst.toNat 0 = -1 then decide (f1 t x q.src = 1) && decide (x.times.getD q.dst.toNat 0 - x.now < q.low)
  else false := by rw [hf1]; rfl
 rw [hr]
 clear hq hr
 obtain ⟨ns, ts, hr⟩ := t
 obtain ⟨now, times, vals⟩ := x
 obtain ⟨x1, x2, x3, x4, x5⟩ := q
 dsimp only at hn hh ht h5 h6 ⊢
 have hta := ht x1.toNat
 have htb := ht x2.toNat
 have hw1 : IntKind.i64.wrap (times.getD x2.toNat 0 - times.getD x1.toNat 0) = times.getD x2.toNat 0 - times.getD x1.toNat 0 := qx (by omega) (by omega)
 have hw2 : IntKind.i64.wrap (now - times.getD x1.toNat 0) = now - times.getD x1.toNat 0 := qx (by omega) (by omega)
 have hw3 : IntKind.i64.wrap (times.getD x2.toNat 0 - now) = times.getD x2.toNat 0 - now := qx (by omega) (by omega)
 refine SEx.go (X := XX) qc (fun n => qa [] [] n) (fun _ => none) hO 60 ?_
 intro M R L N m0 m1 m2 m3 m4 m5
 cases M
 cbv
 repeat' first | refine m1 _ _ ?_ ?_ | refine m2 _ _ fun h => ?_ | refine m3 _ ?_ | (refine m4 _ _ (Hd.out ?_); try first | rw [hks] | rw [hk2] | rw [hk3]) | (refine m5 _ _ ?_; cbv)
 all_goals (clear m1 m2 m3 m4 m5; cases m0; (try clear hks; try clear hk2; try clear hk3); try dsimp only)
 all_goals try simp only [sm] at *
 all_goals (clear hO ht)
 all_goals (try simp only [hw1, hw2, hw3] at *)
 all_goals first
  | omega
  | contradiction
  | exact hs
  | exact hst
  | exact ⟨h5⟩
  | exact ⟨h6⟩
  | (refine qO ?_ _; clear hs hst hw1 hw2 hw3; simp_all; done)
  | (refine qO ?_ _; clear hs hst hw1 hw2 hw3; rw [if_pos ⟨by assumption, by assumption⟩]; first | (rw [decide_eq_false (show ¬ _ by omega)]; rfl) | (rw [decide_eq_true (show x3 ≤ _ by omega), Bool.true_and, Bool.eq_iff_iff]; simp; done))
  | skip
def qlu (f : qn → qf → Tie → Bool) : Wr := w3 qQ qM yF (fun t x q => rB (f t x q)) (fun t x q => [kP t x, StT t x, QU t q])
theorem qk3 : qC Tryz.prog 128 (qlu Ks) := QS fun t x q h => Yk t x q (h _ (.head _)) (h _ (.tail _ (.head _))) (h _ (.tail _ (.tail _ (.head _))))
theorem qbl (q : Tie) (t : qn) (x : qf) (hs : kP t x) (hst : StT t x) (hq : QU t q) : qe Tryz.prog 127 [YM q, (false, [.ptr t.d]), (false, [.ptr x.d])] (rB (Ks t x q)) := by
 refine qe.of qc (fn := Tryz.f127) (c := Tryz.f127.body.getD .skip) (dr := fun n => qa 0 [] n) Tryz.func127 rfl (by kernel_rfl) (by kernel_rfl) (by kernel_rfl) ?_
 obtain ⟨f, hf⟩ : ∃ f, f = Ks := ⟨_, rfl⟩
 have hO : qp Tryz.prog (qN [(128, qlu f)]) := by subst hf; exact qb qk3 qd
 rw [← hf]
 obtain ⟨ns, ts, hr⟩ := t
 obtain ⟨now, times, vals⟩ := x
 obtain ⟨x1, x2, x3, x4, x5⟩ := q
 refine SEx.go (X := XX) qc (fun n => qa [] [] n) (fun _ => none) hO 60 ?_
 intro M R L N m0 m1 m2 m3 m4 m5
 cases M
 cbv
 repeat' first | refine m1 _ _ ?_ ?_ | refine m2 _ _ fun h => ?_ | refine m3 _ ?_ | (refine m4 _ _ (Hd.out ?_); try first | rw [hks] | rw [hk2] | rw [hk3]) | (refine m5 _ _ ?_; cbv)
 all_goals (clear m1 m2 m3 m4 m5; cases m0; (try clear hks; try clear hk2; try clear hk3); try dsimp only)
 all_goals try simp only [sm] at *
 all_goals first
  | exact hs
  | exact hst
  | exact hq
  | rfl
  | skip
theorem qfv (t : qn) (x : qf) (hs : kP t x) (hst : StT t x) : qe Tryz.prog 100 [qR t, qL x] (rB (jo t x)) := by
 refine qe.of qc (fn := Tryz.f100) (c := Tryz.f100.body.getD .skip) (dr := fun n => qa 0 [] n) Tryz.func100 rfl (by kernel_rfl) (by kernel_rfl) (by kernel_rfl) ?_
 obtain ⟨f, hf⟩ : ∃ f, f = nsI := ⟨_, rfl⟩
 have hO : qp Tryz.prog (qN [(129, JT f)]) := by subst hf; exact qb JH qd
 have hn := hst.now
 have h1 := qI hst.sh
 have hge : ∀ i, -1 ≤ f t x i := fun i => by rw [hf]; unfold nsI; exact (qhW hst.vals _ 1 (by decide) (by decide)).1
 obtain ⟨p, hp⟩ : ∃ p : Nat → Int → Bool, p = fun (i : Nat) (n : Int) => !(decide (n = -1) && !decide (f t x (i : Int) = -1)) := ⟨_, rfl⟩
 have hr : jo t x = (qz p x.times 0 && true) := by
  rw [Bool.and_true, vE (0 : Int), hn.2.2, hp]
  unfold jo
  congr 1
  funext i
  unfold qlt
  have := hge i
  rw [hf] at this
  rw [hf, show decide (0 ≤ nsI t x i) = !decide (nsI t x i = -1) by rw [← decide_not]; exact decide_eq_decide.2 (by omega)]
 rw [hr]
 clear hr hf
 obtain ⟨ns, ts, hr⟩ := t
 obtain ⟨now, times, vals⟩ := x
 dsimp only at hn h1 hp ⊢
 refine SEx.go (X := XX) qc (fun n => qa [] [(2, [2, 3, 8, 9, 10])] n) (fun _ => none) hO 60 ?_
 intro M R L N m0 m1 m2 m3 m4 m5
 cases M
 cbv
 repeat' first | refine m1 _ _ ?_ ?_ | refine m2 _ _ fun h => ?_ | refine m3 _ ?_ | (refine m4 _ _ (Hd.out ?_); generalize hks : (List.cons _ _ : List K) = ks) | (refine m5 _ _ ?_; cbv)
 all_goals (clear m1 m2 m3 m4 m5; cases m0; try dsimp only)
 all_goals try simp only [sm] at *
 obtain ⟨m, hm⟩ : ∃ m, m = times.length := ⟨_, rfl⟩
 refine ⟨SEx.same (SEx.idx m (fun i => ⟨25, [(2, bP 8192), (3, bP 12288), (8, bL (.i times)), (9, bI m), (10, bI i)], [(8192, .obx [.fz (.sl (.node false none ns)), .fz (.sl (.tie ts)), .fz (.int .i64 hr)]), (12288, .obx [.fz (.int .i64 now), .fz (.sl (.i times)), .fz (.sl (.i vals))])]⟩) (fun i => rB (qz p (times.drop i) i && true)) ?_) (by rw [hm]; rfl) rfl⟩
 intro i hi ih
 rw [← hks]
 have hl2 : i < m → q8 _ _ _ := fun h => q8.of p times i true (0 : Int) (by omega)
 have he : i = m → (qz p (times.drop i) i && true) = true := fun h => qK (by omega)
 refine SEx.go (X := XX) qc (fun n => qa [] [(2, [2, 3, 8, 9, 10])] n) (fun _ => none) hO 60 ?_
 intro M R L N m0 m1 m2 m3 m4 m5
 cases M
 cbv
 repeat' first | refine m1 _ _ ?_ ?_ | refine m2 _ _ fun h => ?_ | refine m3 _ ?_ | (refine m4 _ _ (Hd.out ?_); try first | rw [hks] | rw [hk2] | rw [hk3]) | (refine m5 _ _ ?_; cbv)
 all_goals (clear m1 m2 m3 m4 m5; cases m0; (try clear hks; try clear hk2; try clear hk3); try dsimp only)
 all_goals try simp only [sm] at *
 all_goals (try simp only [qg (show i < 9223372036854775807 by omega)] at *)
 all_goals first
  | omega
  | exact hs
  | exact hst
  | exact ⟨⟨by omega, by omega⟩⟩
  | (refine qO ?_ _; rw [he (by omega)]; done)
  | (refine (hl2 (by omega)).stop _ ?_; rw [hp]; dsimp only; rw [decide_eq_true (by assumption), decide_eq_false (by assumption)]; rfl)
  | (refine ⟨(ih (by omega)).same rfl ((hl2 (by omega)).go ?_)⟩; rw [hp]; dsimp only; rw [decide_eq_false (by assumption)]; rfl)
  | (refine ⟨(ih (by omega)).same rfl ((hl2 (by omega)).go ?_)⟩; rw [hp]; dsimp only; rw [decide_eq_true (by assumption), decide_eq_true (by assumption)]; rfl)
  | skip
def jy (f : qn → qf → Bool) : Wr := w2 qQ qM (fun t x => rB (f t x)) (fun t x => [kP t x, StT t x])
theorem WA : qC Tryz.prog 100 (jy jo) := qE fun t x h => qfv t x (h _ (.head _)) (h _ (.tail _ (.head _)))
theorem qmI : qC Tryz.prog 96 (jy jo) := qE fun t x h => qee t x (h _ (.head _)).sh (h _ (.tail _ (.head _)))
theorem qeZ : qC Tryz.prog 95 (jy zV) := qE fun t x h => qaj t x (h _ (.head _)).sh (h _ (.tail _ (.head _)))
structure qqV (t : qn) (l : List Tie) : Prop where out : ∀ q ∈ l, QU t q
def qhU (l : List Tie) (t : qn) (x : qf) : Bool := l.any fun q => Ks t x q
theorem qdG (t : qn) (x : qf) (hs : kP t x) (hst : StT t x) : qe Tryz.prog 99 [qR t, qL x] (rB (zV t x)) := by
 refine qe.of qc (fn := Tryz.f99) (c := Tryz.f99.body.getD .skip) (dr := fun n => qa 0 [] n) Tryz.func99 rfl (by kernel_rfl) (by kernel_rfl) (by kernel_rfl) ?_
 obtain ⟨f, hf⟩ : ∃ f, f = qhU := ⟨_, rfl⟩
 obtain ⟨g, hg⟩ : ∃ f, f = jo := ⟨_, rfl⟩
 have hO : qp Tryz.prog (qN [(100, jy g), (126, w2 Kr (qq3 127 true true qQ qM) (fun l x => rB (f l x.1 x.2)) (fun l x => [LLe l maxLen, qqV x.1 l, kP x.1 x.2, StT x.1 x.2]))]) := by
  subst hf hg
  exact qb WA (qb (qE fun l x h => by
   have g1 := (h _ (.head _)).out
   have g2 := (h _ (.tail _ (.head _))).out
   have g3 := h _ (.tail _ (.tail _ (.head _)))
   have g4 := h _ (.tail _ (.tail _ (.tail _ (.head _))))
   exact KS l _ _ _ (fun y hy => qbl y x.1 x.2 g3 g4 (g2 y hy)) g1) qd)
 have hr : zV t x = (f t.ties t x || (decide (t.hor < x.now) && !g t x)) := by
  rw [hf, hg]
  unfold zV qhU
  rw [Kx, Bool.not_and, List.not_all_eq_any_not, Bool.not_or]
  simp only [Bool.not_not]
  congr 2
  rw [← decide_not]
  exact decide_eq_decide.2 (by omega)
 have h1 := hs.sh.tlen
 have h2 : ∀ q ∈ t.ties, QU t q := fun q hq => kz hst.sh hq
 rw [hr]
 clear hr hf hg
 obtain ⟨ns, ts, hr⟩ := t
 obtain ⟨now, times, vals⟩ := x
 dsimp only at h1 h2 ⊢
 refine SEx.go (X := XX) qc (fun n => qa [] [] n) (fun _ => none) hO 60 ?_
 intro M R L N m0 m1 m2 m3 m4 m5
 cases M
 cbv
 repeat' first | refine m1 _ _ ?_ ?_ | refine m2 _ _ fun h => ?_ | refine m3 _ ?_ | (refine m4 _ _ (Hd.out ?_); try first | rw [hks] | rw [hk2] | rw [hk3]) | (refine m5 _ _ ?_; cbv)
 all_goals (clear m1 m2 m3 m4 m5; cases m0; (try clear hks; try clear hk2; try clear hk3); try dsimp only)
 all_goals try simp only [sm] at *
 all_goals first
  | exact ⟨h1⟩
  | exact ⟨h2⟩
  | exact hs
  | exact hst
  | (refine qO ?_ _; clear hs hst; simp_all; done)
  | (refine qO ?_ _; rw [decide_eq_false (show ¬ hr < now by omega)]; simp_all; done)
  | skip
theorem qc6 : qC Tryz.prog 99 (jy zV) := qE fun t x h => qdG t x (h _ (.head _)) (h _ (.tail _ (.head _)))
end Go.Proofs.YtececadpjelanaaGreat.Ai
namespace Go.Proofs.YtececadpjelanaaGreat.Ai
open Go
set_option maxRecDepth 100000
variable [qh]
theorem qbV.le {t : qn} (h : qbV t) : jl t := ⟨h.len, h.tlen, fun q hq => ⟨(h.nodes q hq).name, (h.nodes q hq).len, (h.nodes q hq).label⟩⟩
theorem Vs.le {x : qf} (h : Vs x) : Q8 x := ⟨h.now, h.len, h.vlen⟩
structure qnh (t : qn) (n : Int) : Prop where
 len : t.nodes.length ≤ 1048576
 tlen : t.ties.length ≤ 1048576
 labs : ∀ q ∈ t.nodes, q.label.length ≤ 1048576
 le : n ≤ 1048576
theorem qqe {t : qn} (h : 0 ≤ jg t 1048576) : qnh t (jg t 1048576) := by
 have := qkx (n := 1048576) (by decide) h
 exact ⟨by omega, by omega, fun q hq => by have := (this.2.2.1 q hq).2; omega, this.2.2.2⟩
structure qhQ (x : qf) : Prop where
 tlen : x.times.length ≤ 1048576
 vlen : x.vals.length ≤ 1048576
theorem qoW {x : qf} {n : Int} (h0 : 0 ≤ n) (h1 : n ≤ 1048576) (h : 0 ≤ jA x n) : qhQ x := by
 have := qhk h0 h
 exact ⟨by omega, by omega⟩
end Go.Proofs.YtececadpjelanaaGreat.Ai
namespace Go.Proofs.YtececadpjelanaaGreat.Ai
open Go
set_option maxRecDepth 100000
variable [qh]
theorem qd1 (x : qf) (h1 : x.times.length ≤ 1048576) (h2 : x.vals.length ≤ 1048576) : qe Tryz.prog 86 [qL x] (kQ x) := by
 refine qe.of qc (fn := Tryz.f86) (c := Tryz.f86.body.getD .skip) (dr := fun n => qa 0 [(1, 10)] n) Tryz.func86 rfl (by kernel_rfl) (by kernel_rfl) (by kernel_rfl) ?_
 obtain ⟨now, times, vals⟩ := x
 dsimp only at h1 h2
 refine SEx.go (X := XX) qc (fun n => qa [] [] n) (fun _ => none) qd 60 ?_
 intro M R L N m0 m1 m2 m3 m4 m5
 cases M
 cbv
 repeat' first | refine m1 _ _ ?_ ?_ | refine m2 _ _ fun h => ?_ | refine m3 _ ?_ | (refine m4 _ _ (Hd.out ?_); try first | rw [hks] | rw [hk2] | rw [hk3]) | (refine m5 _ _ ?_; cbv)
 all_goals (clear m1 m2 m3 m4 m5; cases m0; (try clear hks; try clear hk2; try clear hk3); try dsimp only)
 all_goals try simp only [sm] at *
 all_goals first
  | (have := zI; omega)
  | rfl
structure yg (x : qf) : Prop where
 tlen : x.times.length ≤ 1048576
 vlen : x.vals.length ≤ 1048576
def Je : Wr := w1 qM kQ (fun x => [yg x])
theorem Z1 : qC Tryz.prog 86 Je := zJ fun x h => qd1 x (h _ (.head _)).tlen (h _ (.head _)).vlen
def qlk (t : qn) (x : qf) : Bool := zb t && (decide (0 ≤ x.now) && (decide (x.now ≤ t.hor) && jI t ⟨x.now + 1, x.times, x.vals⟩))
end Go.Proofs.YtececadpjelanaaGreat.Ai
namespace Go.Proofs.YtececadpjelanaaGreat.Ai
open Go
set_option maxRecDepth 100000
variable [qh]
def Ju (v ps vs : List Int) : Nat → List Int
 | 0 => v
 | i + 1 => (Ju v ps vs i).set (ps.getD i 0 - 1).toNat (vs.getD i 0)
theorem Zu (v ps vs : List Int) : ∀ i, (Ju v ps vs i).length = v.length
 | 0 => rfl
 | i + 1 => by simp only [Ju, List.length_set, Zu v ps vs i]
structure PrT (ps : List Int) : Prop where out : ∀ p ∈ ps, 1 ≤ p ∧ p ≤ 3
def qfI (x : qf) (ps vs : List Int) : qf := ⟨IntKind.i64.wrap (x.now + 1), x.times, Ju x.vals ps vs ps.length⟩
theorem YX (x : qf) (ps vs : List Int) (hz : yg x) (h3 : x.vals.length = 3) (hl : vs.length = ps.length) (h1 : ps.length ≤ 1048576) (hp : ∀ p ∈ ps, 1 ≤ p ∧ p ≤ 3) : qe Tryz.prog 106 [qL x, aIs ps, aIs vs] (kQ (qfI x ps vs)) := by
 refine qe.of qc (fn := Tryz.f106) (c := Tryz.f106.body.getD .skip) (dr := fun n => qa 0 [(5, 8)] n) Tryz.func106 rfl (by kernel_rfl) (by kernel_rfl) (by kernel_rfl) ?_
 have hO : qp Tryz.prog (qN [(86, Je)]) := qb Z1 qd
 obtain ⟨now, times, vals⟩ := x
 dsimp only at h3
 refine SEx.go (X := XX) qc (fun n => qa [] [(3, [2, 6, 7, 12, 13, 14])] n) (fun _ => none) hO 60 ?_
 intro M R L N m0 m1 m2 m3 m4 m5
 cases M
 cbv
 repeat' first | refine m1 _ _ ?_ ?_ | refine m2 _ _ fun h => ?_ | refine m3 _ ?_ | (refine m4 _ _ (Hd.out ?_); generalize hks : (List.cons _ _ : List K) = ks) | (refine m5 _ _ ?_; cbv)
 all_goals (clear m1 m2 m3 m4 m5; cases m0; try dsimp only)
 all_goals try simp only [sm] at *
 all_goals first
  | exact hz
  | skip
 obtain ⟨m, hm⟩ : ∃ m, m = ps.length := ⟨_, rfl⟩
 refine ⟨SEx.same (SEx.idx m (fun i => ⟨34, [(2, bL (.i vs)), (6, bP 24576), (7, bP 28672), (12, bL (.i ps)), (13, bI m), (14, bI i)], [(24576, .obx [.fz (.int .i64 0), .onil, .onil]), (28672, .obx [.fz (.int .i64 now), .osl (.i times), .osl (.i (Ju vals ps vs i))])]⟩) (fun _ => kQ (qfI ⟨now, times, vals⟩ ps vs)) ?_) (by rw [hm]; rfl) rfl⟩
 intro i hi ih
 rw [← hks]
 obtain ⟨c, hc⟩ : ∃ c, c = Ju vals ps vs i := ⟨_, rfl⟩
 have hcl : c.length = 3 := by rw [hc, Zu, h3]
 have hpi : i < m → 1 ≤ ps.getD i 0 ∧ ps.getD i 0 ≤ 3 := fun h => hp _ (qo (z := (0 : Int)) (by omega)).out
 have hw : i < m → IntKind.i64.wrap (ps.getD i 0 - 1) = ps.getD i 0 - 1 := fun h => by have := hpi h; exact qx (by omega) (by omega)
 rw [← hc]
 refine SEx.go (X := XX) qc (fun n => qa [] [(3, [2, 6, 7, 12, 13, 14])] n) (fun _ => none) hO 60 ?_
 intro M R L N m0 m1 m2 m3 m4 m5
 cases M
 cbv
 repeat' first | refine m1 _ _ ?_ ?_ | refine m2 _ _ fun h => ?_ | refine m3 _ ?_ | (refine m4 _ _ (Hd.out ?_); try first | rw [hks] | rw [hk2] | rw [hk3]) | (refine m5 _ _ ?_; cbv)
 all_goals (clear m1 m2 m3 m4 m5; cases m0; (try clear hks; try clear hk2; try clear hk3); try dsimp only)
 all_goals try simp only [sm] at *
 all_goals (try (have h8 := hpi (by omega)))
 all_goals (try rw [hw (by omega)] at *)
 all_goals (try simp only [qg (show i < 9223372036854775807 by omega)])
 all_goals first
  | omega
  | (refine ⟨(ih (by omega)).same ?_ rfl⟩; show _ = _; rw [show Ju vals ps vs (i + 1) = c.set (ps.getD i 0 - 1).toNat (vs.getD i 0) by rw [hc]; rfl]; rfl)
  | (obtain rfl : i = m := by omega
     unfold qfI
     rw [← hm, hc]; rfl)
  | skip
theorem qkX (l : List Int) (h1 : l.length ≤ 1048576) : qe Tryz.prog 120 [aIs l] (rIs l) := by
 refine qe.of qc (fn := Tryz.f120) (c := Tryz.f120.body.getD .skip) (dr := fun n => qa 0 [] n) Tryz.func120 rfl (by kernel_rfl) (by kernel_rfl) (by kernel_rfl) ?_
 refine SEx.go (X := XX) qc (fun n => qa [] [] n) (fun _ => none) qd 60 ?_
 intro M R L N m0 m1 m2 m3 m4 m5
 cases M
 cbv
 repeat' first | refine m1 _ _ ?_ ?_ | refine m2 _ _ fun h => ?_ | refine m3 _ ?_ | (refine m4 _ _ (Hd.out ?_); try first | rw [hks] | rw [hk2] | rw [hk3]) | (refine m5 _ _ ?_; cbv)
 all_goals (clear m1 m2 m3 m4 m5; cases m0; (try clear hks; try clear hk2; try clear hk3); try dsimp only)
 all_goals try simp only [sm] at *
 all_goals first
  | (have := zI; omega)
  | (have hl : l = [] := List.eq_nil_of_length_eq_zero (by omega)
     subst hl; rfl)
  | rfl
end Go.Proofs.YtececadpjelanaaGreat.Ai
namespace Go.Proofs.YtececadpjelanaaGreat.Ai
open Go
set_option maxRecDepth 100000
variable [qh]
def qh1 : Wr := w1 kw rIs (fun l => [LLe l 1048576])
theorem qhf : qC Tryz.prog 120 qh1 := zJ fun l h => qkX l (h _ (.head _)).out
theorem qbM (x : qf) (hz : yg x) : qe Tryz.prog 90 [qL x] (kQ x) := by
 refine qe.of qc (fn := Tryz.f90) (c := Tryz.f90.body.getD .skip) (dr := fun n => qa 0 [(1, 8)] n) Tryz.func90 rfl (by kernel_rfl) (by kernel_rfl) (by kernel_rfl) ?_
 have hO : qp Tryz.prog (qN [(120, qh1)]) := qb qhf qd
 have h1 := hz.tlen
 have h2 := hz.vlen
 clear hz
 obtain ⟨now, times, vals⟩ := x
 dsimp only at h1 h2
 refine SEx.go (X := XX) qc (fun n => qa [] [] n) (fun _ => none) hO 60 ?_
 intro M R L N m0 m1 m2 m3 m4 m5
 cases M
 cbv
 repeat' first | refine m1 _ _ ?_ ?_ | refine m2 _ _ fun h => ?_ | refine m3 _ ?_ | (refine m4 _ _ (Hd.out ?_); try first | rw [hks] | rw [hk2] | rw [hk3]) | (refine m5 _ _ ?_; cbv)
 all_goals (clear m1 m2 m3 m4 m5; cases m0; (try clear hks; try clear hk2; try clear hk3); try dsimp only)
 all_goals try simp only [sm] at *
 all_goals first
  | exact ⟨h1⟩
  | exact ⟨h2⟩
  | rfl
def Vn : Wr := w1 qM kQ (fun x => [yg x])
theorem J0 : qC Tryz.prog 90 Vn := zJ fun x h => qbM x (h _ (.head _))
theorem W7 (x : qf) (ps vs : List Int) (hz : yg x) (h3 : x.vals.length = 3) (hl : vs.length = ps.length) (h1 : ps.length ≤ 1048576) (hp : ∀ p ∈ ps, 1 ≤ p ∧ p ≤ 3) : qe Tryz.prog 136 [qL x, aIs ps, aIs vs] (kQ (qfI x ps vs)) := by
 refine qe.of qc (fn := Tryz.f136) (c := Tryz.f136.body.getD .skip) (dr := fun n => qa 0 [(5, 8)] n) Tryz.func136 rfl (by kernel_rfl) (by kernel_rfl) (by kernel_rfl) ?_
 have hO : qp Tryz.prog (qN [(90, Vn)]) := qb J0 qd
 obtain ⟨now, times, vals⟩ := x
 dsimp only at h3
 refine SEx.go (X := XX) qc (fun n => qa [] [(3, [2, 6, 7, 12, 13, 14])] n) (fun _ => none) hO 60 ?_
 intro M R L N m0 m1 m2 m3 m4 m5
 cases M
 cbv
 repeat' first | refine m1 _ _ ?_ ?_ | refine m2 _ _ fun h => ?_ | refine m3 _ ?_ | (refine m4 _ _ (Hd.out ?_); generalize hks : (List.cons _ _ : List K) = ks) | (refine m5 _ _ ?_; cbv)
 all_goals (clear m1 m2 m3 m4 m5; cases m0; try dsimp only)
 all_goals try simp only [sm] at *
 all_goals first
  | exact hz
  | skip
 obtain ⟨m, hm⟩ : ∃ m, m = ps.length := ⟨_, rfl⟩
 refine ⟨SEx.same (SEx.idx m (fun i => ⟨34, [(2, bL (.i vs)), (6, bP 24576), (7, bP 28672), (12, bL (.i ps)), (13, bI m), (14, bI i)], [(24576, .obx [.fz (.int .i64 0), .onil, .onil]), (28672, .obx [.fz (.int .i64 now), .osl (.i times), .osl (.i (Ju vals ps vs i))])]⟩) (fun _ => kQ (qfI ⟨now, times, vals⟩ ps vs)) ?_) (by rw [hm]; rfl) rfl⟩
 intro i hi ih
 rw [← hks]
 obtain ⟨c, hc⟩ : ∃ c, c = Ju vals ps vs i := ⟨_, rfl⟩
 have hcl : c.length = 3 := by rw [hc, Zu, h3]
 have hpi : i < m → 1 ≤ ps.getD i 0 ∧ ps.getD i 0 ≤ 3 := fun h => hp _ (qo (z := (0 : Int)) (by omega)).out
 have hw : i < m → IntKind.i64.wrap (ps.getD i 0 - 1) = ps.getD i 0 - 1 := fun h => by have := hpi h; exact qx (by omega) (by omega)
 rw [← hc]
 refine SEx.go (X := XX) qc (fun n => qa [] [(3, [2, 6, 7, 12, 13, 14])] n) (fun _ => none) hO 60 ?_
 intro M R L N m0 m1 m2 m3 m4 m5
 cases M
 cbv
 repeat' first | refine m1 _ _ ?_ ?_ | refine m2 _ _ fun h => ?_ | refine m3 _ ?_ | (refine m4 _ _ (Hd.out ?_); try first | rw [hks] | rw [hk2] | rw [hk3]) | (refine m5 _ _ ?_; cbv)
 all_goals (clear m1 m2 m3 m4 m5; cases m0; (try clear hks; try clear hk2; try clear hk3); try dsimp only)
 all_goals try simp only [sm] at *
 all_goals (try (have h8 := hpi (by omega)))
 all_goals (try rw [hw (by omega)] at *)
 all_goals (try simp only [qg (show i < 9223372036854775807 by omega)])
 all_goals first
  | omega
  | (refine ⟨(ih (by omega)).same ?_ rfl⟩; show _ = _; rw [show Ju vals ps vs (i + 1) = c.set (ps.getD i 0 - 1).toNat (vs.getD i 0) by rw [hc]; rfl]; rfl)
  | (obtain rfl : i = m := by omega
     unfold qfI
     rw [← hm, hc]; rfl)
  | skip
def obF (v ps vs : List Int) : List Int := Ju v ps vs ps.length
structure V3 (v : List Int) : Prop where out : v.length = 3
structure SLn (a b : List Int) : Prop where out : a.length = b.length
def nxI (n : Int) : Int := IntKind.i64.wrap (n + 1)
def qnR (g : Int → Int) (f : List Int → List Int → List Int → List Int) : Wr := w3 qM kw kw (fun x ps vs => kQ ⟨g x.now, x.times, f x.vals ps vs⟩) (fun x ps vs => [yg x, V3 x.vals, SLn vs ps, LLe ps 1048576, PrT ps])
theorem qnA : qC Tryz.prog 106 (qnR nxI obF) := QS fun x ps vs h => YX x ps vs (h _ (.head _)) (h _ (.tail _ (.head _))).out (h _ (.tail _ (.tail _ (.head _)))).out (h _ (.tail _ (.tail _ (.tail _ (.head _))))).out (h _ (.tail _ (.tail _ (.tail _ (.tail _ (.head _)))))).out
theorem qlv : qC Tryz.prog 136 (qnR nxI obF) := QS fun x ps vs h => W7 x ps vs (h _ (.head _)) (h _ (.tail _ (.head _))).out (h _ (.tail _ (.tail _ (.head _)))).out (h _ (.tail _ (.tail _ (.tail _ (.head _))))).out (h _ (.tail _ (.tail _ (.tail _ (.tail _ (.head _)))))).out
end Go.Proofs.YtececadpjelanaaGreat.Ai
namespace Go.Proofs.YtececadpjelanaaGreat.Ai
open Go
set_option maxRecDepth 100000
variable [qh]
def zX (p : Int → Bool) (l : List Int) : List Int := l.filter fun x => !p x
def Ya (p : Int → Bool) (l : List Int) : List Int := zX p l ++ List.replicate (l.length - (zX p l).length) 0
def qlf (g : FuncId) (caps : List D) (l : List Int) (p : Int → Bool) (L : List (Nat × Wr)) : jX := fun g' as' => match as' with
 | (false, [.int .i64 q]) :: r => some ([qmH g' g r caps, Mem q l], rB (p q))
 | xs => qN L g' xs
theorem qmh {P : Program} {g : FuncId} {caps : List D} {l : List Int} {p : Int → Bool} {L : List (Nat × Wr)} (hp : ∀ q ∈ l, qe P g (aI q :: Qf caps) (rB (p q))) (hL : qp P (qN L)) : qp P (qlf g caps l p L) := by
 intro g' as'
 unfold qlf
 split
 · refine R.Sim.mk fun hq => ?_
   obtain ⟨rfl, rfl⟩ := hq _ (.head _)
   exact hp _ (hq _ (.tail _ (.head _))).out
 · exact hL _ _
theorem JV {α : Type} (p : α → Bool) (z : α) : ∀ (l : List α) (n : Nat), (zR p l n = -1 ∧ ∀ q ∈ l, p q = false) ∨ ∃ i, i < l.length ∧ zR p l n = ((n + i : Nat) : Int) ∧ p (l.getD i z) = true ∧ ∀ q ∈ l.take i, p q = false
 | [], n => .inl ⟨rfl, fun q h => by cases h⟩
 | a :: r, n => by
   unfold zR
   cases h : p a with
   | true => exact .inr ⟨0, by simp, by simp, by simpa using h, fun q h => by simp at h⟩
   | false =>
     rw [if_neg (by simp)]
     rcases JV p z r (n + 1) with ⟨h1, h2⟩ | ⟨i, h1, h2, h3, h4⟩
     · exact .inl ⟨h1, fun q hq => (List.mem_cons.1 hq).elim (fun e => e ▸ h) (h2 q)⟩
     · refine .inr ⟨i + 1, by simpa using h1, by rw [h2]; congr 1; omega, by simpa using h3, fun q hq => ?_⟩
       rw [List.take_succ_cons] at hq
       exact (List.mem_cons.1 hq).elim (fun e => e ▸ h) (h4 q)
theorem qa3 {p : Int → Bool} {l : List Int} (h : ∀ q ∈ l, p q = false) : zX p l = l := by
 unfold zX
 rw [List.filter_eq_self]
 intro q hq
 rw [h q hq]; rfl
theorem qf7 {p : Int → Bool} {l : List Int} {j : Nat} (h : j < l.length) : zX p (l.take (j + 1)) = zX p (l.take j) ++ (if p (l.getD j 0) = true then [] else [l.getD j 0]) := by
 unfold zX
 rw [List.take_add_one, List.filter_append, zB h, List.getElem?_eq_getElem h, Option.toList_some, List.filter_cons, List.filter_nil]
 cases p l[j] <;> rfl
theorem qjJ {c : List Int} {i n : Nat} (hn : c.length = n) (hi : i ≤ n) : kS c i (n - i) 0 = c.take i ++ List.replicate (n - i) 0 := by
 apply List.ext_getElem?
 intro j
 rw [jV, List.getElem?_append, List.length_take, hn, Nat.min_eq_left hi, List.getElem?_take, List.getElem?_replicate]
 by_cases h1 : j < i
 · rw [if_neg (by omega), if_pos h1, if_pos h1]
 · rw [if_neg h1]
   by_cases h2 : j < n
   · rw [if_pos (by omega), if_pos (by omega)]
   · rw [if_neg (by omega), if_neg (by omega), List.getElem?_eq_none (by omega)]
theorem qlB {c : List Int} {i : Nat} (v : Int) (h : i < c.length) : (c.set i v).take (i + 1) = c.take i ++ [v] := by
 rw [List.take_add_one, List.take_set_of_le (Nat.le_refl i), List.getElem?_set_self h]; rfl
theorem qdF {c l : List Int} {j : Nat} (h : c.drop j = l.drop j) : c.drop (j + 1) = l.drop (j + 1) := by
 have := congrArg (List.drop 1) h
 rwa [List.drop_drop, List.drop_drop] at this
end Go.Proofs.YtececadpjelanaaGreat.Ai
