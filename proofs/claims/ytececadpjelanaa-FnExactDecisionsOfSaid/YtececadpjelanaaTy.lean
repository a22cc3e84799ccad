/- The types that the functions use. -/
import Derived.Test.YtececadpjelanaaBD
import Derived.Test.YtececadpjelanaaProg
import Derived.KernelRfl
namespace Go.Proofs.Ytececadpjelanaa.Ai
open Go
set_option maxRecDepth 100000
set_option linter.unusedSimpArgs false
def tr3 : Ty := { kind := TK.int IntKind.i64, agg := false, size := 1, bytes := 8, zero := [C.int IntKind.i64 (Int.ofNat 0)] }
theorem ty3 : tyOf Try.prog 3 = some tr3 := by kernel_rfl
def tr4 : Ty := { kind := TK.bool, agg := false, size := 1, bytes := 1, zero := [C.bool false] }
theorem ty4 : tyOf Try.prog 4 = some tr4 := by kernel_rfl
def tr5 : Ty := { kind := TK.int IntKind.u8, agg := false, size := 1, bytes := 1, zero := [C.int IntKind.u8 (Int.ofNat 0)] }
theorem ty5 : tyOf Try.prog 5 = some tr5 := by kernel_rfl
def tr9 : Ty := { kind := TK.str, agg := false, size := 1, bytes := 16, zero := [C.str { data := { toList := [] } }] }
theorem ty9 : tyOf Try.prog 9 = some tr9 := by kernel_rfl
def tr22 : Ty := { kind := TK.sl 64, agg := false, size := 1, bytes := 24, zero := [C.nilsl] }
theorem ty22 : tyOf Try.prog 22 = some tr22 := by kernel_rfl
def tr23 : Ty := { kind := TK.sl 74, agg := false, size := 1, bytes := 24, zero := [C.nilsl] }
theorem ty23 : tyOf Try.prog 23 = some tr23 := by kernel_rfl
def tr25 : Ty := { kind := TK.st [(0, 1, false), (1, 1, false), (2, 1, false)], agg := true, size := 3, bytes := 56, zero := [C.nilsl, C.nilsl, C.int IntKind.i64 (Int.ofNat 0)] }
theorem ty25 : tyOf Try.prog 25 = some tr25 := by kernel_rfl
def tr26 : Ty := { kind := TK.sl 3, agg := false, size := 1, bytes := 24, zero := [C.nilsl] }
theorem ty26 : tyOf Try.prog 26 = some tr26 := by kernel_rfl
def tr28 : Ty := { kind := TK.st [(0, 1, false), (1, 1, false), (2, 1, false)], agg := true, size := 3, bytes := 56, zero := [C.int IntKind.i64 (Int.ofNat 0), C.nilsl, C.nilsl] }
theorem ty28 : tyOf Try.prog 28 = some tr28 := by kernel_rfl
def tr32 : Ty := { kind := TK.sl 68, agg := false, size := 1, bytes := 24, zero := [C.nilsl] }
theorem ty32 : tyOf Try.prog 32 = some tr32 := by kernel_rfl
def tr33 : Ty := { kind := TK.sl 72, agg := false, size := 1, bytes := 24, zero := [C.nilsl] }
theorem ty33 : tyOf Try.prog 33 = some tr33 := by kernel_rfl
def tr35 : Ty := { kind := TK.st [(0, 1, false), (1, 1, false), (2, 1, false)], agg := true, size := 3, bytes := 56, zero := [C.nilsl, C.nilsl, C.int IntKind.i64 (Int.ofNat 0)] }
theorem ty35 : tyOf Try.prog 35 = some tr35 := by kernel_rfl
def tr37 : Ty := { kind := TK.st [(0, 1, false), (1, 1, false), (2, 1, false)], agg := true, size := 3, bytes := 56, zero := [C.int IntKind.i64 (Int.ofNat 0), C.nilsl, C.nilsl] }
theorem ty37 : tyOf Try.prog 37 = some tr37 := by kernel_rfl
def tr46 : Ty := { kind := TK.sl 26, agg := false, size := 1, bytes := 24, zero := [C.nilsl] }
theorem ty46 : tyOf Try.prog 46 = some tr46 := by kernel_rfl
def tr60 : Ty := { kind := TK.int IntKind.u64, agg := false, size := 1, bytes := 8, zero := [C.int IntKind.u64 (Int.ofNat 0)] }
theorem ty60 : tyOf Try.prog 60 = some tr60 := by kernel_rfl
def tr64 : Ty := { kind := TK.st [(0, 1, false), (1, 1, false), (2, 1, false)], agg := true, size := 3, bytes := 48, zero := [C.str { data := { toList := [] } }, C.nilsl, C.int IntKind.i64 (Int.ofNat 0)] }
theorem ty64 : tyOf Try.prog 64 = some tr64 := by kernel_rfl
def tr68 : Ty := { kind := TK.st [(0, 1, false), (1, 1, false), (2, 1, false)], agg := true, size := 3, bytes := 48, zero := [C.str { data := { toList := [] } }, C.nilsl, C.int IntKind.i64 (Int.ofNat 0)] }
theorem ty68 : tyOf Try.prog 68 = some tr68 := by kernel_rfl
def tr72 : Ty := { kind := TK.st [(0, 1, false), (1, 1, false), (2, 1, false), (3, 1, false), (4, 1, false)], agg := true, size := 5, bytes := 40, zero := [C.int IntKind.i64 (Int.ofNat 0), C.int IntKind.i64 (Int.ofNat 0), C.int IntKind.i64 (Int.ofNat 0), C.int IntKind.i64 (Int.ofNat 0), C.bool false] }
theorem ty72 : tyOf Try.prog 72 = some tr72 := by kernel_rfl
def tr74 : Ty := { kind := TK.st [(0, 1, false), (1, 1, false), (2, 1, false), (3, 1, false), (4, 1, false)], agg := true, size := 5, bytes := 40, zero := [C.int IntKind.i64 (Int.ofNat 0), C.int IntKind.i64 (Int.ofNat 0), C.int IntKind.i64 (Int.ofNat 0), C.int IntKind.i64 (Int.ofNat 0), C.bool false] }
theorem ty74 : tyOf Try.prog 74 = some tr74 := by kernel_rfl
def tr88 : Ty := { kind := TK.sl 5, agg := false, size := 1, bytes := 24, zero := [C.nilsl] }
theorem ty88 : tyOf Try.prog 88 = some tr88 := by kernel_rfl
def T4 : List (Nat × Option Ty) := [(3, some tr3), (25, some tr25), (28, some tr28), (35, some tr35), (37, some tr37)]
def X4 : SX := { T := look none T4, K := fun t => look none [(3, some .i)] t }
theorem X4_ok : TyOK Try.prog X4.T := tyOK_list (by simp only [T4, List.mem_cons, List.not_mem_nil, or_false, forall_eq_or_imp, forall_eq, ty3, ty25, ty28, ty35, ty37]; simp)
def T5 : List (Nat × Option Ty) := [(25, some tr25), (3, some tr3), (22, some tr22), (23, some tr23), (64, some tr64), (74, some tr74)]
def X5 : SX := { T := look none T5, K := fun t => look none [(3, some .i), (64, some .node), (74, some .tie)] t }
theorem X5_ok : TyOK Try.prog X5.T := tyOK_list (by simp only [T5, List.mem_cons, List.not_mem_nil, or_false, forall_eq_or_imp, forall_eq, ty25, ty3, ty22, ty23, ty64, ty74]; simp)
def T6 : List (Nat × Option Ty) := [(28, some tr28), (26, some tr26), (3, some tr3)]
def X6 : SX := { T := look none T6, K := fun t => look none [(26, some .ii), (3, some .i)] t }
theorem X6_ok : TyOK Try.prog X6.T := tyOK_list (by simp only [T6, List.mem_cons, List.not_mem_nil, or_false, forall_eq_or_imp, forall_eq, ty28, ty26, ty3]; simp)
def T8 : List (Nat × Option Ty) := [(35, some tr35), (25, some tr25), (3, some tr3), (22, some tr22), (32, some tr32), (23, some tr23), (33, some tr33), (64, some tr64), (68, some tr68), (74, some tr74), (72, some tr72)]
def X8 : SX := { T := look none T8, K := fun t => look none [(3, some .i), (64, some .node), (68, some .node), (74, some .tie), (72, some .tie)] t }
theorem X8_ok : TyOK Try.prog X8.T := tyOK_list (by simp only [T8, List.mem_cons, List.not_mem_nil, or_false, forall_eq_or_imp, forall_eq, ty35, ty25, ty3, ty22, ty32, ty23, ty33, ty64, ty68, ty74, ty72]; simp)
def T9 : List (Nat × Option Ty) := [(37, some tr37), (26, some tr26), (28, some tr28), (3, some tr3)]
def X9 : SX := { T := look none T9, K := fun t => look none [(26, some .ii), (3, some .i)] t }
theorem X9_ok : TyOK Try.prog X9.T := tyOK_list (by simp only [T9, List.mem_cons, List.not_mem_nil, or_false, forall_eq_or_imp, forall_eq, ty37, ty26, ty28, ty3]; simp)
def T11 : List (Nat × Option Ty) := [(3, some tr3), (26, some tr26)]
def X11 : SX := { T := look none T11, K := fun t => look none [(3, some .i), (26, some .ii)] t }
theorem X11_ok : TyOK Try.prog X11.T := tyOK_list (by simp only [T11, List.mem_cons, List.not_mem_nil, or_false, forall_eq_or_imp, forall_eq, ty3, ty26]; simp)
def T12 : List (Nat × Option Ty) := [(35, some tr35), (3, some tr3), (32, some tr32), (33, some tr33), (68, some tr68), (72, some tr72)]
def X12 : SX := { T := look none T12, K := fun t => look none [(3, some .i), (68, some .node), (72, some .tie)] t }
theorem X12_ok : TyOK Try.prog X12.T := tyOK_list (by simp only [T12, List.mem_cons, List.not_mem_nil, or_false, forall_eq_or_imp, forall_eq, ty35, ty3, ty32, ty33, ty68, ty72]; simp)
def T13 : List (Nat × Option Ty) := [(37, some tr37), (26, some tr26), (3, some tr3)]
def X13 : SX := { T := look none T13, K := fun t => look none [(26, some .ii), (3, some .i)] t }
theorem X13_ok : TyOK Try.prog X13.T := tyOK_list (by simp only [T13, List.mem_cons, List.not_mem_nil, or_false, forall_eq_or_imp, forall_eq, ty37, ty26, ty3]; simp)
def T14 : List (Nat × Option Ty) := [(35, some tr35), (32, some tr32), (33, some tr33), (68, some tr68), (72, some tr72)]
def X14 : SX := { T := look none T14, K := fun t => look none [(68, some .node), (72, some .tie)] t }
theorem X14_ok : TyOK Try.prog X14.T := tyOK_list (by simp only [T14, List.mem_cons, List.not_mem_nil, or_false, forall_eq_or_imp, forall_eq, ty35, ty32, ty33, ty68, ty72]; simp)
def T15 : List (Nat × Option Ty) := [(37, some tr37), (26, some tr26), (3, some tr3)]
def X15 : SX := { T := look none T15, K := fun t => look none [(26, some .ii), (3, some .i)] t }
theorem X15_ok : TyOK Try.prog X15.T := tyOK_list (by simp only [T15, List.mem_cons, List.not_mem_nil, or_false, forall_eq_or_imp, forall_eq, ty37, ty26, ty3]; simp)
def T16 : List (Nat × Option Ty) := [(3, some tr3), (26, some tr26)]
def X16 : SX := { T := look none T16, K := fun t => look none [(3, some .i), (26, some .ii)] t }
theorem X16_ok : TyOK Try.prog X16.T := tyOK_list (by simp only [T16, List.mem_cons, List.not_mem_nil, or_false, forall_eq_or_imp, forall_eq, ty3, ty26]; simp)
def T17 : List (Nat × Option Ty) := [(3, some tr3), (26, some tr26)]
def X17 : SX := { T := look none T17, K := fun t => look none [(3, some .i), (26, some .ii)] t }
theorem X17_ok : TyOK Try.prog X17.T := tyOK_list (by simp only [T17, List.mem_cons, List.not_mem_nil, or_false, forall_eq_or_imp, forall_eq, ty3, ty26]; simp)
def T18 : List (Nat × Option Ty) := [(3, some tr3), (46, some tr46), (35, some tr35), (37, some tr37), (26, some tr26), (60, some tr60)]
def X18 : SX := { T := look none T18, K := fun t => look none [(3, some .i), (26, some .ii)] t }
theorem X18_ok : TyOK Try.prog X18.T := tyOK_list (by simp only [T18, List.mem_cons, List.not_mem_nil, or_false, forall_eq_or_imp, forall_eq, ty3, ty46, ty35, ty37, ty26, ty60]; simp)
def T19 : List (Nat × Option Ty) := [(35, some tr35), (37, some tr37)]
def X19 : SX := { T := look none T19, K := fun t => look none [] t }
theorem X19_ok : TyOK Try.prog X19.T := tyOK_list (by simp only [T19, List.mem_cons, List.not_mem_nil, or_false, forall_eq_or_imp, forall_eq, ty35, ty37]; simp)
def T20 : List (Nat × Option Ty) := [(46, some tr46), (3, some tr3), (26, some tr26)]
def X20 : SX := { T := look none T20, K := fun t => look none [(3, some .i), (26, some .ii)] t }
theorem X20_ok : TyOK Try.prog X20.T := tyOK_list (by simp only [T20, List.mem_cons, List.not_mem_nil, or_false, forall_eq_or_imp, forall_eq, ty46, ty3, ty26]; simp)
def T21 : List (Nat × Option Ty) := [(46, some tr46), (3, some tr3), (26, some tr26)]
def X21 : SX := { T := look none T21, K := fun t => look none [(3, some .i), (26, some .ii)] t }
theorem X21_ok : TyOK Try.prog X21.T := tyOK_list (by simp only [T21, List.mem_cons, List.not_mem_nil, or_false, forall_eq_or_imp, forall_eq, ty46, ty3, ty26]; simp)
def T22 : List (Nat × Option Ty) := [(3, some tr3), (46, some tr46), (26, some tr26)]
def X22 : SX := { T := look none T22, K := fun t => look none [(3, some .i), (26, some .ii)] t }
theorem X22_ok : TyOK Try.prog X22.T := tyOK_list (by simp only [T22, List.mem_cons, List.not_mem_nil, or_false, forall_eq_or_imp, forall_eq, ty3, ty46, ty26]; simp)
def T23 : List (Nat × Option Ty) := [(3, some tr3), (22, some tr22), (64, some tr64)]
def X23 : SX := { T := look none T23, K := fun t => look none [(3, some .i), (64, some .node)] t }
theorem X23_ok : TyOK Try.prog X23.T := tyOK_list (by simp only [T23, List.mem_cons, List.not_mem_nil, or_false, forall_eq_or_imp, forall_eq, ty3, ty22, ty64]; simp)
def T24 : List (Nat × Option Ty) := [(3, some tr3), (23, some tr23), (74, some tr74)]
def X24 : SX := { T := look none T24, K := fun t => look none [(3, some .i), (74, some .tie)] t }
theorem X24_ok : TyOK Try.prog X24.T := tyOK_list (by simp only [T24, List.mem_cons, List.not_mem_nil, or_false, forall_eq_or_imp, forall_eq, ty3, ty23, ty74]; simp)
def T25 : List (Nat × Option Ty) := [(3, some tr3), (26, some tr26)]
def X25 : SX := { T := look none T25, K := fun t => look none [(3, some .i), (26, some .ii)] t }
theorem X25_ok : TyOK Try.prog X25.T := tyOK_list (by simp only [T25, List.mem_cons, List.not_mem_nil, or_false, forall_eq_or_imp, forall_eq, ty3, ty26]; simp)
def T26 : List (Nat × Option Ty) := [(3, some tr3), (26, some tr26), (37, some tr37), (35, some tr35), (32, some tr32), (4, some tr4), (68, some tr68)]
def X26 : SX := { T := look none T26, K := fun t => look none [(3, some .i), (26, some .ii), (4, some .b), (68, some .node)] t }
theorem X26_ok : TyOK Try.prog X26.T := tyOK_list (by simp only [T26, List.mem_cons, List.not_mem_nil, or_false, forall_eq_or_imp, forall_eq, ty3, ty26, ty37, ty35, ty32, ty4, ty68]; simp)
def T27 : List (Nat × Option Ty) := [(26, some tr26), (3, some tr3), (68, some tr68), (32, some tr32), (35, some tr35), (37, some tr37)]
def X27 : SX := { T := look none T27, K := fun t => look none [(26, some .ii), (3, some .i), (68, some .node)] t }
theorem X27_ok : TyOK Try.prog X27.T := tyOK_list (by simp only [T27, List.mem_cons, List.not_mem_nil, or_false, forall_eq_or_imp, forall_eq, ty26, ty3, ty68, ty32, ty35, ty37]; simp)
def T28 : List (Nat × Option Ty) := [(22, some tr22), (32, some tr32), (3, some tr3), (64, some tr64), (68, some tr68)]
def X28 : SX := { T := look none T28, K := fun t => look none [(3, some .i), (64, some .node), (68, some .node)] t }
theorem X28_ok : TyOK Try.prog X28.T := tyOK_list (by simp only [T28, List.mem_cons, List.not_mem_nil, or_false, forall_eq_or_imp, forall_eq, ty22, ty32, ty3, ty64, ty68]; simp)
def T29 : List (Nat × Option Ty) := [(23, some tr23), (33, some tr33), (3, some tr3), (74, some tr74), (72, some tr72)]
def X29 : SX := { T := look none T29, K := fun t => look none [(3, some .i), (74, some .tie), (72, some .tie)] t }
theorem X29_ok : TyOK Try.prog X29.T := tyOK_list (by simp only [T29, List.mem_cons, List.not_mem_nil, or_false, forall_eq_or_imp, forall_eq, ty23, ty33, ty3, ty74, ty72]; simp)
def T30 : List (Nat × Option Ty) := [(26, some tr26), (3, some tr3)]
def X30 : SX := { T := look none T30, K := fun t => look none [(26, some .ii), (3, some .i)] t }
theorem X30_ok : TyOK Try.prog X30.T := tyOK_list (by simp only [T30, List.mem_cons, List.not_mem_nil, or_false, forall_eq_or_imp, forall_eq, ty26, ty3]; simp)
def T32 : List (Nat × Option Ty) := [(35, some tr35)]
def X32 : SX := { T := look none T32, K := fun t => look none [] t }
theorem X32_ok : TyOK Try.prog X32.T := tyOK_list (by simp only [T32, List.mem_cons, List.not_mem_nil, or_false, forall_eq_or_imp, forall_eq, ty35]; simp)
def T33 : List (Nat × Option Ty) := [(32, some tr32), (3, some tr3), (68, some tr68)]
def X33 : SX := { T := look none T33, K := fun t => look none [(3, some .i), (68, some .node)] t }
theorem X33_ok : TyOK Try.prog X33.T := tyOK_list (by simp only [T33, List.mem_cons, List.not_mem_nil, or_false, forall_eq_or_imp, forall_eq, ty32, ty3, ty68]; simp)
def T34 : List (Nat × Option Ty) := [(33, some tr33), (3, some tr3), (72, some tr72)]
def X34 : SX := { T := look none T34, K := fun t => look none [(3, some .i), (72, some .tie)] t }
theorem X34_ok : TyOK Try.prog X34.T := tyOK_list (by simp only [T34, List.mem_cons, List.not_mem_nil, or_false, forall_eq_or_imp, forall_eq, ty33, ty3, ty72]; simp)
def T35 : List (Nat × Option Ty) := [(3, some tr3), (32, some tr32), (68, some tr68), (9, some tr9), (26, some tr26)]
def X35 : SX := { T := look none T35, K := fun t => look none [(3, some .i), (68, some .node), (9, some .s), (26, some .ii)] t }
theorem X35_ok : TyOK Try.prog X35.T := tyOK_list (by simp only [T35, List.mem_cons, List.not_mem_nil, or_false, forall_eq_or_imp, forall_eq, ty3, ty32, ty68, ty9, ty26]; simp)
def T36 : List (Nat × Option Ty) := [(3, some tr3), (33, some tr33), (72, some tr72), (4, some tr4)]
def X36 : SX := { T := look none T36, K := fun t => look none [(3, some .i), (72, some .tie), (4, some .b)] t }
theorem X36_ok : TyOK Try.prog X36.T := tyOK_list (by simp only [T36, List.mem_cons, List.not_mem_nil, or_false, forall_eq_or_imp, forall_eq, ty3, ty33, ty72, ty4]; simp)
def T37 : List (Nat × Option Ty) := [(37, some tr37), (3, some tr3), (35, some tr35)]
def X37 : SX := { T := look none T37, K := fun t => look none [(3, some .i)] t }
theorem X37_ok : TyOK Try.prog X37.T := tyOK_list (by simp only [T37, List.mem_cons, List.not_mem_nil, or_false, forall_eq_or_imp, forall_eq, ty37, ty3, ty35]; simp)
def T38 : List (Nat × Option Ty) := [(3, some tr3), (26, some tr26), (60, some tr60)]
def X38 : SX := { T := look none T38, K := fun t => look none [(3, some .i), (26, some .ii)] t }
theorem X38_ok : TyOK Try.prog X38.T := tyOK_list (by simp only [T38, List.mem_cons, List.not_mem_nil, or_false, forall_eq_or_imp, forall_eq, ty3, ty26, ty60]; simp)
def T39 : List (Nat × Option Ty) := [(37, some tr37), (3, some tr3), (35, some tr35)]
def X39 : SX := { T := look none T39, K := fun t => look none [(3, some .i)] t }
theorem X39_ok : TyOK Try.prog X39.T := tyOK_list (by simp only [T39, List.mem_cons, List.not_mem_nil, or_false, forall_eq_or_imp, forall_eq, ty37, ty3, ty35]; simp)
def T40 : List (Nat × Option Ty) := [(3, some tr3), (46, some tr46), (35, some tr35), (37, some tr37), (26, some tr26)]
def X40 : SX := { T := look none T40, K := fun t => look none [(3, some .i), (26, some .ii)] t }
theorem X40_ok : TyOK Try.prog X40.T := tyOK_list (by simp only [T40, List.mem_cons, List.not_mem_nil, or_false, forall_eq_or_imp, forall_eq, ty3, ty46, ty35, ty37, ty26]; simp)
def T41 : List (Nat × Option Ty) := [(3, some tr3), (64, some tr64), (9, some tr9), (26, some tr26)]
def X41 : SX := { T := look none T41, K := fun t => look none [(3, some .i), (64, some .node), (9, some .s), (26, some .ii)] t }
theorem X41_ok : TyOK Try.prog X41.T := tyOK_list (by simp only [T41, List.mem_cons, List.not_mem_nil, or_false, forall_eq_or_imp, forall_eq, ty3, ty64, ty9, ty26]; simp)
def T42 : List (Nat × Option Ty) := [(35, some tr35), (33, some tr33), (3, some tr3), (72, some tr72)]
def X42 : SX := { T := look none T42, K := fun t => look none [(3, some .i), (72, some .tie)] t }
theorem X42_ok : TyOK Try.prog X42.T := tyOK_list (by simp only [T42, List.mem_cons, List.not_mem_nil, or_false, forall_eq_or_imp, forall_eq, ty35, ty33, ty3, ty72]; simp)
def T43 : List (Nat × Option Ty) := [(3, some tr3)]
def X43 : SX := { T := look none T43, K := fun t => look none [(3, some .i)] t }
theorem X43_ok : TyOK Try.prog X43.T := tyOK_list (by simp only [T43, List.mem_cons, List.not_mem_nil, or_false, forall_eq_or_imp, forall_eq, ty3]; simp)
def T44 : List (Nat × Option Ty) := [(3, some tr3), (26, some tr26)]
def X44 : SX := { T := look none T44, K := fun t => look none [(3, some .i), (26, some .ii)] t }
theorem X44_ok : TyOK Try.prog X44.T := tyOK_list (by simp only [T44, List.mem_cons, List.not_mem_nil, or_false, forall_eq_or_imp, forall_eq, ty3, ty26]; simp)
def T45 : List (Nat × Option Ty) := [(3, some tr3), (68, some tr68), (32, some tr32), (35, some tr35)]
def X45 : SX := { T := look none T45, K := fun t => look none [(3, some .i), (68, some .node)] t }
theorem X45_ok : TyOK Try.prog X45.T := tyOK_list (by simp only [T45, List.mem_cons, List.not_mem_nil, or_false, forall_eq_or_imp, forall_eq, ty3, ty68, ty32, ty35]; simp)
def T46 : List (Nat × Option Ty) := [(72, some tr72), (3, some tr3), (33, some tr33), (35, some tr35), (4, some tr4)]
def X46 : SX := { T := look none T46, K := fun t => look none [(72, some .tie), (3, some .i), (4, some .b)] t }
theorem X46_ok : TyOK Try.prog X46.T := tyOK_list (by simp only [T46, List.mem_cons, List.not_mem_nil, or_false, forall_eq_or_imp, forall_eq, ty72, ty3, ty33, ty35, ty4]; simp)
def T47 : List (Nat × Option Ty) := [(3, some tr3), (26, some tr26)]
def X47 : SX := { T := look none T47, K := fun t => look none [(3, some .i), (26, some .ii)] t }
theorem X47_ok : TyOK Try.prog X47.T := tyOK_list (by simp only [T47, List.mem_cons, List.not_mem_nil, or_false, forall_eq_or_imp, forall_eq, ty3, ty26]; simp)
def T48 : List (Nat × Option Ty) := [(68, some tr68), (64, some tr64), (9, some tr9), (26, some tr26), (3, some tr3)]
def X48 : SX := { T := look none T48, K := fun t => look none [(68, some .node), (64, some .node), (9, some .s), (26, some .ii), (3, some .i)] t }
theorem X48_ok : TyOK Try.prog X48.T := tyOK_list (by simp only [T48, List.mem_cons, List.not_mem_nil, or_false, forall_eq_or_imp, forall_eq, ty68, ty64, ty9, ty26, ty3]; simp)
def T49 : List (Nat × Option Ty) := [(72, some tr72), (3, some tr3), (74, some tr74), (4, some tr4)]
def X49 : SX := { T := look none T49, K := fun t => look none [(72, some .tie), (3, some .i), (74, some .tie), (4, some .b)] t }
theorem X49_ok : TyOK Try.prog X49.T := tyOK_list (by simp only [T49, List.mem_cons, List.not_mem_nil, or_false, forall_eq_or_imp, forall_eq, ty72, ty3, ty74, ty4]; simp)
def T50 : List (Nat × Option Ty) := [(3, some tr3), (35, some tr35), (68, some tr68), (32, some tr32), (26, some tr26)]
def X50 : SX := { T := look none T50, K := fun t => look none [(3, some .i), (68, some .node), (26, some .ii)] t }
theorem X50_ok : TyOK Try.prog X50.T := tyOK_list (by simp only [T50, List.mem_cons, List.not_mem_nil, or_false, forall_eq_or_imp, forall_eq, ty3, ty35, ty68, ty32, ty26]; simp)
def T51 : List (Nat × Option Ty) := [(3, some tr3), (26, some tr26), (37, some tr37), (35, some tr35), (32, some tr32), (4, some tr4), (68, some tr68)]
def X51 : SX := { T := look none T51, K := fun t => look none [(3, some .i), (26, some .ii), (4, some .b), (68, some .node)] t }
theorem X51_ok : TyOK Try.prog X51.T := tyOK_list (by simp only [T51, List.mem_cons, List.not_mem_nil, or_false, forall_eq_or_imp, forall_eq, ty3, ty26, ty37, ty35, ty32, ty4, ty68]; simp)
def T52 : List (Nat × Option Ty) := [(3, some tr3), (26, some tr26)]
def X52 : SX := { T := look none T52, K := fun t => look none [(3, some .i), (26, some .ii)] t }
theorem X52_ok : TyOK Try.prog X52.T := tyOK_list (by simp only [T52, List.mem_cons, List.not_mem_nil, or_false, forall_eq_or_imp, forall_eq, ty3, ty26]; simp)
def T53 : List (Nat × Option Ty) := [(3, some tr3), (35, some tr35), (32, some tr32), (26, some tr26), (68, some tr68)]
def X53 : SX := { T := look none T53, K := fun t => look none [(3, some .i), (26, some .ii), (68, some .node)] t }
theorem X53_ok : TyOK Try.prog X53.T := tyOK_list (by simp only [T53, List.mem_cons, List.not_mem_nil, or_false, forall_eq_or_imp, forall_eq, ty3, ty35, ty32, ty26, ty68]; simp)
def T54 : List (Nat × Option Ty) := [(3, some tr3), (37, some tr37), (26, some tr26), (35, some tr35)]
def X54 : SX := { T := look none T54, K := fun t => look none [(3, some .i), (26, some .ii)] t }
theorem X54_ok : TyOK Try.prog X54.T := tyOK_list (by simp only [T54, List.mem_cons, List.not_mem_nil, or_false, forall_eq_or_imp, forall_eq, ty3, ty37, ty26, ty35]; simp)
def T55 : List (Nat × Option Ty) := [(32, some tr32), (26, some tr26), (35, some tr35), (68, some tr68), (37, some tr37), (3, some tr3)]
def X55 : SX := { T := look none T55, K := fun t => look none [(26, some .ii), (68, some .node), (3, some .i)] t }
theorem X55_ok : TyOK Try.prog X55.T := tyOK_list (by simp only [T55, List.mem_cons, List.not_mem_nil, or_false, forall_eq_or_imp, forall_eq, ty32, ty26, ty35, ty68, ty37, ty3]; simp)
def T56 : List (Nat × Option Ty) := [(68, some tr68), (9, some tr9), (3, some tr3), (26, some tr26)]
def X56 : SX := { T := look none T56, K := fun t => look none [(68, some .node), (9, some .s), (3, some .i), (26, some .ii)] t }
theorem X56_ok : TyOK Try.prog X56.T := tyOK_list (by simp only [T56, List.mem_cons, List.not_mem_nil, or_false, forall_eq_or_imp, forall_eq, ty68, ty9, ty3, ty26]; simp)
def T57 : List (Nat × Option Ty) := [(3, some tr3), (72, some tr72), (4, some tr4)]
def X57 : SX := { T := look none T57, K := fun t => look none [(3, some .i), (72, some .tie), (4, some .b)] t }
theorem X57_ok : TyOK Try.prog X57.T := tyOK_list (by simp only [T57, List.mem_cons, List.not_mem_nil, or_false, forall_eq_or_imp, forall_eq, ty3, ty72, ty4]; simp)
def T58 : List (Nat × Option Ty) := [(3, some tr3), (9, some tr9), (88, some tr88), (5, some tr5)]
def X58 : SX := { T := look none T58, K := fun t => look none [(3, some .i), (9, some .s), (5, some .u)] t }
theorem X58_ok : TyOK Try.prog X58.T := tyOK_list (by simp only [T58, List.mem_cons, List.not_mem_nil, or_false, forall_eq_or_imp, forall_eq, ty3, ty9, ty88, ty5]; simp)
def T59 : List (Nat × Option Ty) := [(37, some tr37), (26, some tr26), (3, some tr3)]
def X59 : SX := { T := look none T59, K := fun t => look none [(26, some .ii), (3, some .i)] t }
theorem X59_ok : TyOK Try.prog X59.T := tyOK_list (by simp only [T59, List.mem_cons, List.not_mem_nil, or_false, forall_eq_or_imp, forall_eq, ty37, ty26, ty3]; simp)
def T60 : List (Nat × Option Ty) := [(3, some tr3)]
def X60 : SX := { T := look none T60, K := fun t => look none [(3, some .i)] t }
theorem X60_ok : TyOK Try.prog X60.T := tyOK_list (by simp only [T60, List.mem_cons, List.not_mem_nil, or_false, forall_eq_or_imp, forall_eq, ty3]; simp)
def T61 : List (Nat × Option Ty) := [(3, some tr3), (26, some tr26)]
def X61 : SX := { T := look none T61, K := fun t => look none [(3, some .i), (26, some .ii)] t }
theorem X61_ok : TyOK Try.prog X61.T := tyOK_list (by simp only [T61, List.mem_cons, List.not_mem_nil, or_false, forall_eq_or_imp, forall_eq, ty3, ty26]; simp)
def T62 : List (Nat × Option Ty) := [(32, some tr32), (68, some tr68), (3, some tr3), (35, some tr35), (26, some tr26), (9, some tr9)]
def X62 : SX := { T := look none T62, K := fun t => look none [(68, some .node), (3, some .i), (26, some .ii), (9, some .s)] t }
theorem X62_ok : TyOK Try.prog X62.T := tyOK_list (by simp only [T62, List.mem_cons, List.not_mem_nil, or_false, forall_eq_or_imp, forall_eq, ty32, ty68, ty3, ty35, ty26, ty9]; simp)
def T63 : List (Nat × Option Ty) := [(3, some tr3), (72, some tr72), (32, some tr32), (35, some tr35), (68, some tr68), (33, some tr33), (26, some tr26), (4, some tr4)]
def X63 : SX := { T := look none T63, K := fun t => look none [(3, some .i), (72, some .tie), (68, some .node), (26, some .ii), (4, some .b)] t }
theorem X63_ok : TyOK Try.prog X63.T := tyOK_list (by simp only [T63, List.mem_cons, List.not_mem_nil, or_false, forall_eq_or_imp, forall_eq, ty3, ty72, ty32, ty35, ty68, ty33, ty26, ty4]; simp)
def T64 : List (Nat × Option Ty) := [(3, some tr3)]
def X64 : SX := { T := look none T64, K := fun t => look none [(3, some .i)] t }
theorem X64_ok : TyOK Try.prog X64.T := tyOK_list (by simp only [T64, List.mem_cons, List.not_mem_nil, or_false, forall_eq_or_imp, forall_eq, ty3]; simp)
def T65 : List (Nat × Option Ty) := [(32, some tr32), (3, some tr3), (68, some tr68), (35, some tr35), (9, some tr9), (26, some tr26)]
def X65 : SX := { T := look none T65, K := fun t => look none [(3, some .i), (68, some .node), (9, some .s), (26, some .ii)] t }
theorem X65_ok : TyOK Try.prog X65.T := tyOK_list (by simp only [T65, List.mem_cons, List.not_mem_nil, or_false, forall_eq_or_imp, forall_eq, ty32, ty3, ty68, ty35, ty9, ty26]; simp)
def T66 : List (Nat × Option Ty) := [(3, some tr3), (72, some tr72), (32, some tr32), (35, some tr35), (33, some tr33), (68, some tr68), (26, some tr26), (4, some tr4)]
def X66 : SX := { T := look none T66, K := fun t => look none [(3, some .i), (72, some .tie), (68, some .node), (26, some .ii), (4, some .b)] t }
theorem X66_ok : TyOK Try.prog X66.T := tyOK_list (by simp only [T66, List.mem_cons, List.not_mem_nil, or_false, forall_eq_or_imp, forall_eq, ty3, ty72, ty32, ty35, ty33, ty68, ty26, ty4]; simp)
def T67 : List (Nat × Option Ty) := [(3, some tr3)]
def X67 : SX := { T := look none T67, K := fun t => look none [(3, some .i)] t }
theorem X67_ok : TyOK Try.prog X67.T := tyOK_list (by simp only [T67, List.mem_cons, List.not_mem_nil, or_false, forall_eq_or_imp, forall_eq, ty3]; simp)
def T68 : List (Nat × Option Ty) := [(35, some tr35), (68, some tr68), (26, some tr26), (3, some tr3)]
def X68 : SX := { T := look none T68, K := fun t => look none [(68, some .node), (26, some .ii), (3, some .i)] t }
theorem X68_ok : TyOK Try.prog X68.T := tyOK_list (by simp only [T68, List.mem_cons, List.not_mem_nil, or_false, forall_eq_or_imp, forall_eq, ty35, ty68, ty26, ty3]; simp)
def T69 : List (Nat × Option Ty) := [(35, some tr35), (32, some tr32), (3, some tr3), (68, some tr68), (26, some tr26)]
def X69 : SX := { T := look none T69, K := fun t => look none [(3, some .i), (68, some .node), (26, some .ii)] t }
theorem X69_ok : TyOK Try.prog X69.T := tyOK_list (by simp only [T69, List.mem_cons, List.not_mem_nil, or_false, forall_eq_or_imp, forall_eq, ty35, ty32, ty3, ty68, ty26]; simp)
def T70 : List (Nat × Option Ty) := [(26, some tr26), (3, some tr3)]
def X70 : SX := { T := look none T70, K := fun t => look none [(26, some .ii), (3, some .i)] t }
theorem X70_ok : TyOK Try.prog X70.T := tyOK_list (by simp only [T70, List.mem_cons, List.not_mem_nil, or_false, forall_eq_or_imp, forall_eq, ty26, ty3]; simp)
def T71 : List (Nat × Option Ty) := [(35, some tr35), (32, some tr32), (68, some tr68)]
def X71 : SX := { T := look none T71, K := fun t => look none [(68, some .node)] t }
theorem X71_ok : TyOK Try.prog X71.T := tyOK_list (by simp only [T71, List.mem_cons, List.not_mem_nil, or_false, forall_eq_or_imp, forall_eq, ty35, ty32, ty68]; simp)
def T72 : List (Nat × Option Ty) := [(3, some tr3), (26, some tr26)]
def X72 : SX := { T := look none T72, K := fun t => look none [(3, some .i), (26, some .ii)] t }
theorem X72_ok : TyOK Try.prog X72.T := tyOK_list (by simp only [T72, List.mem_cons, List.not_mem_nil, or_false, forall_eq_or_imp, forall_eq, ty3, ty26]; simp)
def T73 : List (Nat × Option Ty) := [(35, some tr35), (33, some tr33), (72, some tr72)]
def X73 : SX := { T := look none T73, K := fun t => look none [(72, some .tie)] t }
theorem X73_ok : TyOK Try.prog X73.T := tyOK_list (by simp only [T73, List.mem_cons, List.not_mem_nil, or_false, forall_eq_or_imp, forall_eq, ty35, ty33, ty72]; simp)
def T74 : List (Nat × Option Ty) := [(3, some tr3), (26, some tr26)]
def X74 : SX := { T := look none T74, K := fun t => look none [(3, some .i), (26, some .ii)] t }
theorem X74_ok : TyOK Try.prog X74.T := tyOK_list (by simp only [T74, List.mem_cons, List.not_mem_nil, or_false, forall_eq_or_imp, forall_eq, ty3, ty26]; simp)
def T75 : List (Nat × Option Ty) := [(68, some tr68), (9, some tr9), (26, some tr26), (3, some tr3)]
def X75 : SX := { T := look none T75, K := fun t => look none [(68, some .node), (9, some .s), (26, some .ii), (3, some .i)] t }
theorem X75_ok : TyOK Try.prog X75.T := tyOK_list (by simp only [T75, List.mem_cons, List.not_mem_nil, or_false, forall_eq_or_imp, forall_eq, ty68, ty9, ty26, ty3]; simp)
def T76 : List (Nat × Option Ty) := [(68, some tr68), (32, some tr32), (3, some tr3), (9, some tr9), (35, some tr35)]
def X76 : SX := { T := look none T76, K := fun t => look none [(68, some .node), (3, some .i), (9, some .s)] t }
theorem X76_ok : TyOK Try.prog X76.T := tyOK_list (by simp only [T76, List.mem_cons, List.not_mem_nil, or_false, forall_eq_or_imp, forall_eq, ty68, ty32, ty3, ty9, ty35]; simp)
def T77 : List (Nat × Option Ty) := [(3, some tr3), (26, some tr26)]
def X77 : SX := { T := look none T77, K := fun t => look none [(3, some .i), (26, some .ii)] t }
theorem X77_ok : TyOK Try.prog X77.T := tyOK_list (by simp only [T77, List.mem_cons, List.not_mem_nil, or_false, forall_eq_or_imp, forall_eq, ty3, ty26]; simp)
def T78 : List (Nat × Option Ty) := [(3, some tr3), (26, some tr26)]
def X78 : SX := { T := look none T78, K := fun t => look none [(3, some .i), (26, some .ii)] t }
theorem X78_ok : TyOK Try.prog X78.T := tyOK_list (by simp only [T78, List.mem_cons, List.not_mem_nil, or_false, forall_eq_or_imp, forall_eq, ty3, ty26]; simp)
def T79 : List (Nat × Option Ty) := [(3, some tr3), (26, some tr26)]
def X79 : SX := { T := look none T79, K := fun t => look none [(3, some .i), (26, some .ii)] t }
theorem X79_ok : TyOK Try.prog X79.T := tyOK_list (by simp only [T79, List.mem_cons, List.not_mem_nil, or_false, forall_eq_or_imp, forall_eq, ty3, ty26]; simp)
def T80 : List (Nat × Option Ty) := [(68, some tr68), (3, some tr3), (9, some tr9), (26, some tr26)]
def X80 : SX := { T := look none T80, K := fun t => look none [(68, some .node), (3, some .i), (9, some .s), (26, some .ii)] t }
theorem X80_ok : TyOK Try.prog X80.T := tyOK_list (by simp only [T80, List.mem_cons, List.not_mem_nil, or_false, forall_eq_or_imp, forall_eq, ty68, ty3, ty9, ty26]; simp)
def T81 : List (Nat × Option Ty) := [(3, some tr3)]
def X81 : SX := { T := look none T81, K := fun t => look none [(3, some .i)] t }
theorem X81_ok : TyOK Try.prog X81.T := tyOK_list (by simp only [T81, List.mem_cons, List.not_mem_nil, or_false, forall_eq_or_imp, forall_eq, ty3]; simp)
def T82 : List (Nat × Option Ty) := [(3, some tr3)]
def X82 : SX := { T := look none T82, K := fun t => look none [(3, some .i)] t }
theorem X82_ok : TyOK Try.prog X82.T := tyOK_list (by simp only [T82, List.mem_cons, List.not_mem_nil, or_false, forall_eq_or_imp, forall_eq, ty3]; simp)
def T83 : List (Nat × Option Ty) := [(3, some tr3), (26, some tr26)]
def X83 : SX := { T := look none T83, K := fun t => look none [(3, some .i), (26, some .ii)] t }
theorem X83_ok : TyOK Try.prog X83.T := tyOK_list (by simp only [T83, List.mem_cons, List.not_mem_nil, or_false, forall_eq_or_imp, forall_eq, ty3, ty26]; simp)
def T84 : List (Nat × Option Ty) := [(3, some tr3)]
def X84 : SX := { T := look none T84, K := fun t => look none [(3, some .i)] t }
theorem X84_ok : TyOK Try.prog X84.T := tyOK_list (by simp only [T84, List.mem_cons, List.not_mem_nil, or_false, forall_eq_or_imp, forall_eq, ty3]; simp)
def T85 : List (Nat × Option Ty) := [(72, some tr72), (3, some tr3), (4, some tr4)]
def X85 : SX := { T := look none T85, K := fun t => look none [(72, some .tie), (3, some .i), (4, some .b)] t }
theorem X85_ok : TyOK Try.prog X85.T := tyOK_list (by simp only [T85, List.mem_cons, List.not_mem_nil, or_false, forall_eq_or_imp, forall_eq, ty72, ty3, ty4]; simp)
def T86 : List (Nat × Option Ty) := [(3, some tr3)]
def X86 : SX := { T := look none T86, K := fun t => look none [(3, some .i)] t }
theorem X86_ok : TyOK Try.prog X86.T := tyOK_list (by simp only [T86, List.mem_cons, List.not_mem_nil, or_false, forall_eq_or_imp, forall_eq, ty3]; simp)
def T87 : List (Nat × Option Ty) := [(3, some tr3)]
def X87 : SX := { T := look none T87, K := fun t => look none [(3, some .i)] t }
theorem X87_ok : TyOK Try.prog X87.T := tyOK_list (by simp only [T87, List.mem_cons, List.not_mem_nil, or_false, forall_eq_or_imp, forall_eq, ty3]; simp)
def T88 : List (Nat × Option Ty) := [(26, some tr26), (3, some tr3)]
def X88 : SX := { T := look none T88, K := fun t => look none [(26, some .ii), (3, some .i)] t }
theorem X88_ok : TyOK Try.prog X88.T := tyOK_list (by simp only [T88, List.mem_cons, List.not_mem_nil, or_false, forall_eq_or_imp, forall_eq, ty26, ty3]; simp)
def T89 : List (Nat × Option Ty) := [(3, some tr3)]
def X89 : SX := { T := look none T89, K := fun t => look none [(3, some .i)] t }
theorem X89_ok : TyOK Try.prog X89.T := tyOK_list (by simp only [T89, List.mem_cons, List.not_mem_nil, or_false, forall_eq_or_imp, forall_eq, ty3]; simp)
def T90 : List (Nat × Option Ty) := [(32, some tr32), (3, some tr3), (68, some tr68)]
def X90 : SX := { T := look none T90, K := fun t => look none [(3, some .i), (68, some .node)] t }
theorem X90_ok : TyOK Try.prog X90.T := tyOK_list (by simp only [T90, List.mem_cons, List.not_mem_nil, or_false, forall_eq_or_imp, forall_eq, ty32, ty3, ty68]; simp)
def T91 : List (Nat × Option Ty) := [(3, some tr3), (68, some tr68)]
def X91 : SX := { T := look none T91, K := fun t => look none [(3, some .i), (68, some .node)] t }
theorem X91_ok : TyOK Try.prog X91.T := tyOK_list (by simp only [T91, List.mem_cons, List.not_mem_nil, or_false, forall_eq_or_imp, forall_eq, ty3, ty68]; simp)
def T92 : List (Nat × Option Ty) := [(33, some tr33), (3, some tr3), (72, some tr72)]
def X92 : SX := { T := look none T92, K := fun t => look none [(3, some .i), (72, some .tie)] t }
theorem X92_ok : TyOK Try.prog X92.T := tyOK_list (by simp only [T92, List.mem_cons, List.not_mem_nil, or_false, forall_eq_or_imp, forall_eq, ty33, ty3, ty72]; simp)
def T93 : List (Nat × Option Ty) := [(3, some tr3), (72, some tr72), (4, some tr4)]
def X93 : SX := { T := look none T93, K := fun t => look none [(3, some .i), (72, some .tie), (4, some .b)] t }
theorem X93_ok : TyOK Try.prog X93.T := tyOK_list (by simp only [T93, List.mem_cons, List.not_mem_nil, or_false, forall_eq_or_imp, forall_eq, ty3, ty72, ty4]; simp)
def T94 : List (Nat × Option Ty) := [(3, some tr3), (26, some tr26)]
def X94 : SX := { T := look none T94, K := fun t => look none [(3, some .i), (26, some .ii)] t }
theorem X94_ok : TyOK Try.prog X94.T := tyOK_list (by simp only [T94, List.mem_cons, List.not_mem_nil, or_false, forall_eq_or_imp, forall_eq, ty3, ty26]; simp)
def T95 : List (Nat × Option Ty) := [(3, some tr3), (26, some tr26)]
def X95 : SX := { T := look none T95, K := fun t => look none [(3, some .i), (26, some .ii)] t }
theorem X95_ok : TyOK Try.prog X95.T := tyOK_list (by simp only [T95, List.mem_cons, List.not_mem_nil, or_false, forall_eq_or_imp, forall_eq, ty3, ty26]; simp)
def T96 : List (Nat × Option Ty) := [(9, some tr9), (5, some tr5), (3, some tr3)]
def X96 : SX := { T := look none T96, K := fun t => look none [(9, some .s), (5, some .u), (3, some .i)] t }
theorem X96_ok : TyOK Try.prog X96.T := tyOK_list (by simp only [T96, List.mem_cons, List.not_mem_nil, or_false, forall_eq_or_imp, forall_eq, ty9, ty5, ty3]; simp)
def T97 : List (Nat × Option Ty) := [(3, some tr3), (26, some tr26)]
def X97 : SX := { T := look none T97, K := fun t => look none [(3, some .i), (26, some .ii)] t }
theorem X97_ok : TyOK Try.prog X97.T := tyOK_list (by simp only [T97, List.mem_cons, List.not_mem_nil, or_false, forall_eq_or_imp, forall_eq, ty3, ty26]; simp)
def T98 : List (Nat × Option Ty) := [(9, some tr9), (3, some tr3), (5, some tr5)]
def X98 : SX := { T := look none T98, K := fun t => look none [(9, some .s), (3, some .i), (5, some .u)] t }
theorem X98_ok : TyOK Try.prog X98.T := tyOK_list (by simp only [T98, List.mem_cons, List.not_mem_nil, or_false, forall_eq_or_imp, forall_eq, ty9, ty3, ty5]; simp)
def T99 : List (Nat × Option Ty) := [(3, some tr3), (26, some tr26)]
def X99 : SX := { T := look none T99, K := fun t => look none [(3, some .i), (26, some .ii)] t }
theorem X99_ok : TyOK Try.prog X99.T := tyOK_list (by simp only [T99, List.mem_cons, List.not_mem_nil, or_false, forall_eq_or_imp, forall_eq, ty3, ty26]; simp)
def T100 : List (Nat × Option Ty) := [(26, some tr26), (3, some tr3)]
def X100 : SX := { T := look none T100, K := fun t => look none [(26, some .ii), (3, some .i)] t }
theorem X100_ok : TyOK Try.prog X100.T := tyOK_list (by simp only [T100, List.mem_cons, List.not_mem_nil, or_false, forall_eq_or_imp, forall_eq, ty26, ty3]; simp)
def lv8 : List (Nat × Option (List Nat)) := [(2, some [0]), (3, some [1]), (4, some [1, 2]), (5, some [1, 2, 3]), (6, some [1, 2, 3, 4]), (7, some [1, 2, 3, 5]), (8, some [1, 2, 3, 6]), (9, some [1, 2, 3]), (10, some [1, 2, 3, 8]), (11, some [1, 2, 3, 9]), (12, some [1, 2, 3, 10]), (13, some [1, 2, 3]), (14, some [2, 3, 12]), (15, some [2, 3, 13]), (16, some [2, 3])]
def lv9 : List (Nat × Option (List Nat)) := [(2, some [0]), (3, some [1]), (4, some [1, 2]), (5, some [1, 2, 3]), (6, some [1, 2, 3, 4]), (7, some [1, 2, 3, 5]), (8, some [1, 2, 3]), (9, some [1, 2, 3, 7]), (10, some [1, 2, 3, 8]), (11, some [1, 2, 3, 9]), (12, some [1, 2, 3]), (13, some [2, 3, 11]), (14, some [2, 3, 12]), (15, some [2, 3, 13]), (16, some [2, 3])]
end Go.Proofs.Ytececadpjelanaa.Ai
