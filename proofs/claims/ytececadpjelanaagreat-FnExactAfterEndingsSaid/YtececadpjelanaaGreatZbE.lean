/- The law's proof, part 5 of 10: what of its author's texts it needs; no condition. -/
import Derived.Test.YtececadpjelanaaGreatProg
import Derived.KernelRfl
import Derived.Test.YtececadpjelanaaGreatZbD
namespace Go.Proofs.YtececadpjelanaaGreat.Ai
open Go
set_option maxRecDepth 100000
set_option linter.unusedSimpArgs false
set_option linter.unusedSectionVars false
variable [MemoCtx]
def tr3 : Ty := { kind := TK.int IntKind.i64, agg := false, size := 1, bytes := 8, zero := [C.int IntKind.i64 (Int.ofNat 0)] }
theorem ty3 : tyOf Tryz.prog 3 = some tr3 := by kernel_rfl
def tr4 : Ty := { kind := TK.bool, agg := false, size := 1, bytes := 1, zero := [C.bool false] }
theorem ty4 : tyOf Tryz.prog 4 = some tr4 := by kernel_rfl
def tr5 : Ty := { kind := TK.int IntKind.u8, agg := false, size := 1, bytes := 1, zero := [C.int IntKind.u8 (Int.ofNat 0)] }
theorem ty5 : tyOf Tryz.prog 5 = some tr5 := by kernel_rfl
def tr9 : Ty := { kind := TK.str, agg := false, size := 1, bytes := 16, zero := [C.str { data := { toList := [] } }] }
theorem ty9 : tyOf Tryz.prog 9 = some tr9 := by kernel_rfl
def tr22 : Ty := { kind := TK.sl 85, agg := false, size := 1, bytes := 24, zero := [C.nilsl] }
theorem ty22 : tyOf Tryz.prog 22 = some tr22 := by kernel_rfl
def tr23 : Ty := { kind := TK.sl 94, agg := false, size := 1, bytes := 24, zero := [C.nilsl] }
theorem ty23 : tyOf Tryz.prog 23 = some tr23 := by kernel_rfl
def tr25 : Ty := { kind := TK.st [(0, 1, false), (1, 1, false), (2, 1, false)], agg := true, size := 3, bytes := 56, zero := [C.nilsl, C.nilsl, C.int IntKind.i64 (Int.ofNat 0)] }
theorem ty25 : tyOf Tryz.prog 25 = some tr25 := by kernel_rfl
def tr26 : Ty := { kind := TK.sl 3, agg := false, size := 1, bytes := 24, zero := [C.nilsl] }
theorem ty26 : tyOf Tryz.prog 26 = some tr26 := by kernel_rfl
def tr28 : Ty := { kind := TK.st [(0, 1, false), (1, 1, false), (2, 1, false)], agg := true, size := 3, bytes := 56, zero := [C.int IntKind.i64 (Int.ofNat 0), C.nilsl, C.nilsl] }
theorem ty28 : tyOf Tryz.prog 28 = some tr28 := by kernel_rfl
def tr31 : Ty := { kind := TK.sl 26, agg := false, size := 1, bytes := 24, zero := [C.nilsl] }
theorem ty31 : tyOf Tryz.prog 31 = some tr31 := by kernel_rfl
def tr33 : Ty := { kind := TK.sl 91, agg := false, size := 1, bytes := 24, zero := [C.nilsl] }
theorem ty33 : tyOf Tryz.prog 33 = some tr33 := by kernel_rfl
def tr34 : Ty := { kind := TK.sl 90, agg := false, size := 1, bytes := 24, zero := [C.nilsl] }
theorem ty34 : tyOf Tryz.prog 34 = some tr34 := by kernel_rfl
def tr36 : Ty := { kind := TK.st [(0, 1, false), (1, 1, false), (2, 1, false)], agg := true, size := 3, bytes := 56, zero := [C.nilsl, C.nilsl, C.int IntKind.i64 (Int.ofNat 0)] }
theorem ty36 : tyOf Tryz.prog 36 = some tr36 := by kernel_rfl
def tr38 : Ty := { kind := TK.st [(0, 1, false), (1, 1, false), (2, 1, false)], agg := true, size := 3, bytes := 56, zero := [C.int IntKind.i64 (Int.ofNat 0), C.nilsl, C.nilsl] }
theorem ty38 : tyOf Tryz.prog 38 = some tr38 := by kernel_rfl
def tr64 : Ty := { kind := TK.int IntKind.u64, agg := false, size := 1, bytes := 8, zero := [C.int IntKind.u64 (Int.ofNat 0)] }
theorem ty64 : tyOf Tryz.prog 64 = some tr64 := by kernel_rfl
def tr85 : Ty := { kind := TK.st [(0, 1, false), (1, 1, false), (2, 1, false)], agg := true, size := 3, bytes := 48, zero := [C.str { data := { toList := [] } }, C.nilsl, C.int IntKind.i64 (Int.ofNat 0)] }
theorem ty85 : tyOf Tryz.prog 85 = some tr85 := by kernel_rfl
def tr90 : Ty := { kind := TK.st [(0, 1, false), (1, 1, false), (2, 1, false), (3, 1, false), (4, 1, false)], agg := true, size := 5, bytes := 40, zero := [C.int IntKind.i64 (Int.ofNat 0), C.int IntKind.i64 (Int.ofNat 0), C.int IntKind.i64 (Int.ofNat 0), C.int IntKind.i64 (Int.ofNat 0), C.bool false] }
theorem ty90 : tyOf Tryz.prog 90 = some tr90 := by kernel_rfl
def tr91 : Ty := { kind := TK.st [(0, 1, false), (1, 1, false), (2, 1, false)], agg := true, size := 3, bytes := 48, zero := [C.str { data := { toList := [] } }, C.nilsl, C.int IntKind.i64 (Int.ofNat 0)] }
theorem ty91 : tyOf Tryz.prog 91 = some tr91 := by kernel_rfl
def tr94 : Ty := { kind := TK.st [(0, 1, false), (1, 1, false), (2, 1, false), (3, 1, false), (4, 1, false)], agg := true, size := 5, bytes := 40, zero := [C.int IntKind.i64 (Int.ofNat 0), C.int IntKind.i64 (Int.ofNat 0), C.int IntKind.i64 (Int.ofNat 0), C.int IntKind.i64 (Int.ofNat 0), C.bool false] }
theorem ty94 : tyOf Tryz.prog 94 = some tr94 := by kernel_rfl
def tr118 : Ty := { kind := TK.sl 5, agg := false, size := 1, bytes := 24, zero := [C.nilsl] }
theorem ty118 : tyOf Tryz.prog 118 = some tr118 := by kernel_rfl
def T4 : List (Nat × Option Ty) := [(38, some tr38), (3, some tr3), (25, some tr25), (28, some tr28), (36, some tr36), (4, some tr4), (26, some tr26)]
def X4 : SX := { T := look none T4, K := fun t => look none [(3, some .i), (4, some .b), (26, some .ii)] t }
theorem X4_ok : TyOK Tryz.prog X4.T := tyOK_list (by simp only [T4, List.mem_cons, List.not_mem_nil, or_false, forall_eq_or_imp, forall_eq, ty38, ty3, ty25, ty28, ty36, ty4, ty26]; simp)
def T9 : List (Nat × Option Ty) := [(25, some tr25), (3, some tr3), (22, some tr22), (23, some tr23), (85, some tr85), (94, some tr94)]
def X9 : SX := { T := look none T9, K := fun t => look none [(3, some .i), (85, some .node), (94, some .tie)] t }
theorem X9_ok : TyOK Tryz.prog X9.T := tyOK_list (by simp only [T9, List.mem_cons, List.not_mem_nil, or_false, forall_eq_or_imp, forall_eq, ty25, ty3, ty22, ty23, ty85, ty94]; simp)
def T10 : List (Nat × Option Ty) := [(28, some tr28), (26, some tr26), (3, some tr3)]
def X10 : SX := { T := look none T10, K := fun t => look none [(26, some .ii), (3, some .i)] t }
theorem X10_ok : TyOK Tryz.prog X10.T := tyOK_list (by simp only [T10, List.mem_cons, List.not_mem_nil, or_false, forall_eq_or_imp, forall_eq, ty28, ty26, ty3]; simp)
def T11 : List (Nat × Option Ty) := [(3, some tr3), (36, some tr36), (38, some tr38), (31, some tr31), (26, some tr26), (64, some tr64)]
def X11 : SX := { T := look none T11, K := fun t => look none [(3, some .i), (26, some .ii)] t }
theorem X11_ok : TyOK Tryz.prog X11.T := tyOK_list (by simp only [T11, List.mem_cons, List.not_mem_nil, or_false, forall_eq_or_imp, forall_eq, ty3, ty36, ty38, ty31, ty26, ty64]; simp)
def T12 : List (Nat × Option Ty) := [(36, some tr36), (25, some tr25), (3, some tr3), (22, some tr22), (33, some tr33), (23, some tr23), (34, some tr34), (85, some tr85), (91, some tr91), (94, some tr94), (90, some tr90)]
def X12 : SX := { T := look none T12, K := fun t => look none [(3, some .i), (85, some .node), (91, some .node), (94, some .tie), (90, some .tie)] t }
theorem X12_ok : TyOK Tryz.prog X12.T := tyOK_list (by simp only [T12, List.mem_cons, List.not_mem_nil, or_false, forall_eq_or_imp, forall_eq, ty36, ty25, ty3, ty22, ty33, ty23, ty34, ty85, ty91, ty94, ty90]; simp)
def T13 : List (Nat × Option Ty) := [(38, some tr38), (26, some tr26), (28, some tr28), (3, some tr3)]
def X13 : SX := { T := look none T13, K := fun t => look none [(26, some .ii), (3, some .i)] t }
theorem X13_ok : TyOK Tryz.prog X13.T := tyOK_list (by simp only [T13, List.mem_cons, List.not_mem_nil, or_false, forall_eq_or_imp, forall_eq, ty38, ty26, ty28, ty3]; simp)
def T14 : List (Nat × Option Ty) := [(36, some tr36), (38, some tr38)]
def X14 : SX := { T := look none T14, K := fun t => look none [] t }
theorem X14_ok : TyOK Tryz.prog X14.T := tyOK_list (by simp only [T14, List.mem_cons, List.not_mem_nil, or_false, forall_eq_or_imp, forall_eq, ty36, ty38]; simp)
def T16 : List (Nat × Option Ty) := [(36, some tr36), (3, some tr3), (33, some tr33), (34, some tr34), (91, some tr91), (90, some tr90)]
def X16 : SX := { T := look none T16, K := fun t => look none [(3, some .i), (91, some .node), (90, some .tie)] t }
theorem X16_ok : TyOK Tryz.prog X16.T := tyOK_list (by simp only [T16, List.mem_cons, List.not_mem_nil, or_false, forall_eq_or_imp, forall_eq, ty36, ty3, ty33, ty34, ty91, ty90]; simp)
def T17 : List (Nat × Option Ty) := [(38, some tr38), (26, some tr26), (3, some tr3)]
def X17 : SX := { T := look none T17, K := fun t => look none [(26, some .ii), (3, some .i)] t }
theorem X17_ok : TyOK Tryz.prog X17.T := tyOK_list (by simp only [T17, List.mem_cons, List.not_mem_nil, or_false, forall_eq_or_imp, forall_eq, ty38, ty26, ty3]; simp)
def T18 : List (Nat × Option Ty) := [(36, some tr36), (33, some tr33), (34, some tr34), (91, some tr91), (90, some tr90)]
def X18 : SX := { T := look none T18, K := fun t => look none [(91, some .node), (90, some .tie)] t }
theorem X18_ok : TyOK Tryz.prog X18.T := tyOK_list (by simp only [T18, List.mem_cons, List.not_mem_nil, or_false, forall_eq_or_imp, forall_eq, ty36, ty33, ty34, ty91, ty90]; simp)
def T19 : List (Nat × Option Ty) := [(38, some tr38), (26, some tr26), (3, some tr3)]
def X19 : SX := { T := look none T19, K := fun t => look none [(26, some .ii), (3, some .i)] t }
theorem X19_ok : TyOK Tryz.prog X19.T := tyOK_list (by simp only [T19, List.mem_cons, List.not_mem_nil, or_false, forall_eq_or_imp, forall_eq, ty38, ty26, ty3]; simp)
def T22 : List (Nat × Option Ty) := [(38, some tr38), (36, some tr36)]
def X22 : SX := { T := look none T22, K := fun t => look none [] t }
theorem X22_ok : TyOK Tryz.prog X22.T := tyOK_list (by simp only [T22, List.mem_cons, List.not_mem_nil, or_false, forall_eq_or_imp, forall_eq, ty38, ty36]; simp)
def T23 : List (Nat × Option Ty) := [(26, some tr26), (3, some tr3)]
def X23 : SX := { T := look none T23, K := fun t => look none [(26, some .ii), (3, some .i)] t }
theorem X23_ok : TyOK Tryz.prog X23.T := tyOK_list (by simp only [T23, List.mem_cons, List.not_mem_nil, or_false, forall_eq_or_imp, forall_eq, ty26, ty3]; simp)
def T24 : List (Nat × Option Ty) := [(38, some tr38), (36, some tr36)]
def X24 : SX := { T := look none T24, K := fun t => look none [] t }
theorem X24_ok : TyOK Tryz.prog X24.T := tyOK_list (by simp only [T24, List.mem_cons, List.not_mem_nil, or_false, forall_eq_or_imp, forall_eq, ty38, ty36]; simp)
def T25 : List (Nat × Option Ty) := [(3, some tr3), (26, some tr26)]
def X25 : SX := { T := look none T25, K := fun t => look none [(3, some .i), (26, some .ii)] t }
theorem X25_ok : TyOK Tryz.prog X25.T := tyOK_list (by simp only [T25, List.mem_cons, List.not_mem_nil, or_false, forall_eq_or_imp, forall_eq, ty3, ty26]; simp)
def T26 : List (Nat × Option Ty) := [(3, some tr3), (26, some tr26)]
def X26 : SX := { T := look none T26, K := fun t => look none [(3, some .i), (26, some .ii)] t }
theorem X26_ok : TyOK Tryz.prog X26.T := tyOK_list (by simp only [T26, List.mem_cons, List.not_mem_nil, or_false, forall_eq_or_imp, forall_eq, ty3, ty26]; simp)
def T27 : List (Nat × Option Ty) := [(38, some tr38), (26, some tr26), (3, some tr3)]
def X27 : SX := { T := look none T27, K := fun t => look none [(26, some .ii), (3, some .i)] t }
theorem X27_ok : TyOK Tryz.prog X27.T := tyOK_list (by simp only [T27, List.mem_cons, List.not_mem_nil, or_false, forall_eq_or_imp, forall_eq, ty38, ty26, ty3]; simp)
def T30 : List (Nat × Option Ty) := [(3, some tr3), (26, some tr26)]
def X30 : SX := { T := look none T30, K := fun t => look none [(3, some .i), (26, some .ii)] t }
theorem X30_ok : TyOK Tryz.prog X30.T := tyOK_list (by simp only [T30, List.mem_cons, List.not_mem_nil, or_false, forall_eq_or_imp, forall_eq, ty3, ty26]; simp)
def T37 : List (Nat × Option Ty) := [(3, some tr3), (22, some tr22), (85, some tr85)]
def X37 : SX := { T := look none T37, K := fun t => look none [(3, some .i), (85, some .node)] t }
theorem X37_ok : TyOK Tryz.prog X37.T := tyOK_list (by simp only [T37, List.mem_cons, List.not_mem_nil, or_false, forall_eq_or_imp, forall_eq, ty3, ty22, ty85]; simp)
def T38 : List (Nat × Option Ty) := [(3, some tr3), (23, some tr23), (94, some tr94)]
def X38 : SX := { T := look none T38, K := fun t => look none [(3, some .i), (94, some .tie)] t }
theorem X38_ok : TyOK Tryz.prog X38.T := tyOK_list (by simp only [T38, List.mem_cons, List.not_mem_nil, or_false, forall_eq_or_imp, forall_eq, ty3, ty23, ty94]; simp)
def T39 : List (Nat × Option Ty) := [(3, some tr3), (26, some tr26)]
def X39 : SX := { T := look none T39, K := fun t => look none [(3, some .i), (26, some .ii)] t }
theorem X39_ok : TyOK Tryz.prog X39.T := tyOK_list (by simp only [T39, List.mem_cons, List.not_mem_nil, or_false, forall_eq_or_imp, forall_eq, ty3, ty26]; simp)
def T40 : List (Nat × Option Ty) := [(3, some tr3), (26, some tr26), (38, some tr38), (36, some tr36), (33, some tr33), (4, some tr4), (91, some tr91)]
def X40 : SX := { T := look none T40, K := fun t => look none [(3, some .i), (26, some .ii), (4, some .b), (91, some .node)] t }
theorem X40_ok : TyOK Tryz.prog X40.T := tyOK_list (by simp only [T40, List.mem_cons, List.not_mem_nil, or_false, forall_eq_or_imp, forall_eq, ty3, ty26, ty38, ty36, ty33, ty4, ty91]; simp)
def T41 : List (Nat × Option Ty) := [(3, some tr3), (26, some tr26), (34, some tr34), (36, some tr36), (38, some tr38), (90, some tr90)]
def X41 : SX := { T := look none T41, K := fun t => look none [(3, some .i), (26, some .ii), (90, some .tie)] t }
theorem X41_ok : TyOK Tryz.prog X41.T := tyOK_list (by simp only [T41, List.mem_cons, List.not_mem_nil, or_false, forall_eq_or_imp, forall_eq, ty3, ty26, ty34, ty36, ty38, ty90]; simp)
def T42 : List (Nat × Option Ty) := [(26, some tr26), (3, some tr3)]
def X42 : SX := { T := look none T42, K := fun t => look none [(26, some .ii), (3, some .i)] t }
theorem X42_ok : TyOK Tryz.prog X42.T := tyOK_list (by simp only [T42, List.mem_cons, List.not_mem_nil, or_false, forall_eq_or_imp, forall_eq, ty26, ty3]; simp)
def T43 : List (Nat × Option Ty) := [(3, some tr3), (26, some tr26), (64, some tr64)]
def X43 : SX := { T := look none T43, K := fun t => look none [(3, some .i), (26, some .ii)] t }
theorem X43_ok : TyOK Tryz.prog X43.T := tyOK_list (by simp only [T43, List.mem_cons, List.not_mem_nil, or_false, forall_eq_or_imp, forall_eq, ty3, ty26, ty64]; simp)
def T44 : List (Nat × Option Ty) := [(22, some tr22), (33, some tr33), (3, some tr3), (85, some tr85), (91, some tr91)]
def X44 : SX := { T := look none T44, K := fun t => look none [(3, some .i), (85, some .node), (91, some .node)] t }
theorem X44_ok : TyOK Tryz.prog X44.T := tyOK_list (by simp only [T44, List.mem_cons, List.not_mem_nil, or_false, forall_eq_or_imp, forall_eq, ty22, ty33, ty3, ty85, ty91]; simp)
def T45 : List (Nat × Option Ty) := [(23, some tr23), (34, some tr34), (3, some tr3), (94, some tr94), (90, some tr90)]
def X45 : SX := { T := look none T45, K := fun t => look none [(3, some .i), (94, some .tie), (90, some .tie)] t }
theorem X45_ok : TyOK Tryz.prog X45.T := tyOK_list (by simp only [T45, List.mem_cons, List.not_mem_nil, or_false, forall_eq_or_imp, forall_eq, ty23, ty34, ty3, ty94, ty90]; simp)
def T46 : List (Nat × Option Ty) := [(36, some tr36), (38, some tr38)]
def X46 : SX := { T := look none T46, K := fun t => look none [] t }
theorem X46_ok : TyOK Tryz.prog X46.T := tyOK_list (by simp only [T46, List.mem_cons, List.not_mem_nil, or_false, forall_eq_or_imp, forall_eq, ty36, ty38]; simp)
def T47 : List (Nat × Option Ty) := [(3, some tr3), (26, some tr26), (34, some tr34), (36, some tr36), (38, some tr38), (90, some tr90), (31, some tr31)]
def X47 : SX := { T := look none T47, K := fun t => look none [(3, some .i), (26, some .ii), (90, some .tie)] t }
theorem X47_ok : TyOK Tryz.prog X47.T := tyOK_list (by simp only [T47, List.mem_cons, List.not_mem_nil, or_false, forall_eq_or_imp, forall_eq, ty3, ty26, ty34, ty36, ty38, ty90, ty31]; simp)
def T48 : List (Nat × Option Ty) := [(33, some tr33), (3, some tr3), (91, some tr91)]
def X48 : SX := { T := look none T48, K := fun t => look none [(3, some .i), (91, some .node)] t }
theorem X48_ok : TyOK Tryz.prog X48.T := tyOK_list (by simp only [T48, List.mem_cons, List.not_mem_nil, or_false, forall_eq_or_imp, forall_eq, ty33, ty3, ty91]; simp)
def T49 : List (Nat × Option Ty) := [(34, some tr34), (3, some tr3), (90, some tr90)]
def X49 : SX := { T := look none T49, K := fun t => look none [(3, some .i), (90, some .tie)] t }
theorem X49_ok : TyOK Tryz.prog X49.T := tyOK_list (by simp only [T49, List.mem_cons, List.not_mem_nil, or_false, forall_eq_or_imp, forall_eq, ty34, ty3, ty90]; simp)
def T50 : List (Nat × Option Ty) := [(3, some tr3), (33, some tr33), (91, some tr91), (9, some tr9), (26, some tr26)]
def X50 : SX := { T := look none T50, K := fun t => look none [(3, some .i), (91, some .node), (9, some .s), (26, some .ii)] t }
theorem X50_ok : TyOK Tryz.prog X50.T := tyOK_list (by simp only [T50, List.mem_cons, List.not_mem_nil, or_false, forall_eq_or_imp, forall_eq, ty3, ty33, ty91, ty9, ty26]; simp)
def T51 : List (Nat × Option Ty) := [(3, some tr3), (34, some tr34), (90, some tr90), (4, some tr4)]
def X51 : SX := { T := look none T51, K := fun t => look none [(3, some .i), (90, some .tie), (4, some .b)] t }
theorem X51_ok : TyOK Tryz.prog X51.T := tyOK_list (by simp only [T51, List.mem_cons, List.not_mem_nil, or_false, forall_eq_or_imp, forall_eq, ty3, ty34, ty90, ty4]; simp)
def T52 : List (Nat × Option Ty) := [(31, some tr31), (3, some tr3), (26, some tr26)]
def X52 : SX := { T := look none T52, K := fun t => look none [(3, some .i), (26, some .ii)] t }
theorem X52_ok : TyOK Tryz.prog X52.T := tyOK_list (by simp only [T52, List.mem_cons, List.not_mem_nil, or_false, forall_eq_or_imp, forall_eq, ty31, ty3, ty26]; simp)
def T53 : List (Nat × Option Ty) := [(38, some tr38), (3, some tr3), (26, some tr26), (34, some tr34), (36, some tr36), (90, some tr90)]
def X53 : SX := { T := look none T53, K := fun t => look none [(3, some .i), (26, some .ii), (90, some .tie)] t }
theorem X53_ok : TyOK Tryz.prog X53.T := tyOK_list (by simp only [T53, List.mem_cons, List.not_mem_nil, or_false, forall_eq_or_imp, forall_eq, ty38, ty3, ty26, ty34, ty36, ty90]; simp)
def T54 : List (Nat × Option Ty) := []
def X54 : SX := { T := look none T54, K := fun t => look none [] t }
theorem X54_ok : TyOK Tryz.prog X54.T := tyOK_list (by intro p hp; cases hp)
def T55 : List (Nat × Option Ty) := [(38, some tr38), (3, some tr3), (26, some tr26), (34, some tr34), (36, some tr36), (90, some tr90)]
def X55 : SX := { T := look none T55, K := fun t => look none [(3, some .i), (26, some .ii), (90, some .tie)] t }
theorem X55_ok : TyOK Tryz.prog X55.T := tyOK_list (by simp only [T55, List.mem_cons, List.not_mem_nil, or_false, forall_eq_or_imp, forall_eq, ty38, ty3, ty26, ty34, ty36, ty90]; simp)
def T63 : List (Nat × Option Ty) := [(36, some tr36), (34, some tr34), (3, some tr3), (90, some tr90)]
def X63 : SX := { T := look none T63, K := fun t => look none [(3, some .i), (90, some .tie)] t }
theorem X63_ok : TyOK Tryz.prog X63.T := tyOK_list (by simp only [T63, List.mem_cons, List.not_mem_nil, or_false, forall_eq_or_imp, forall_eq, ty36, ty34, ty3, ty90]; simp)
def T69 : List (Nat × Option Ty) := [(3, some tr3), (85, some tr85), (9, some tr9), (26, some tr26)]
def X69 : SX := { T := look none T69, K := fun t => look none [(3, some .i), (85, some .node), (9, some .s), (26, some .ii)] t }
theorem X69_ok : TyOK Tryz.prog X69.T := tyOK_list (by simp only [T69, List.mem_cons, List.not_mem_nil, or_false, forall_eq_or_imp, forall_eq, ty3, ty85, ty9, ty26]; simp)
def T70 : List (Nat × Option Ty) := [(3, some tr3)]
def X70 : SX := { T := look none T70, K := fun t => look none [(3, some .i)] t }
theorem X70_ok : TyOK Tryz.prog X70.T := tyOK_list (by simp only [T70, List.mem_cons, List.not_mem_nil, or_false, forall_eq_or_imp, forall_eq, ty3]; simp)
def T71 : List (Nat × Option Ty) := [(3, some tr3), (26, some tr26)]
def X71 : SX := { T := look none T71, K := fun t => look none [(3, some .i), (26, some .ii)] t }
theorem X71_ok : TyOK Tryz.prog X71.T := tyOK_list (by simp only [T71, List.mem_cons, List.not_mem_nil, or_false, forall_eq_or_imp, forall_eq, ty3, ty26]; simp)
def T72 : List (Nat × Option Ty) := [(3, some tr3), (91, some tr91), (33, some tr33), (36, some tr36)]
def X72 : SX := { T := look none T72, K := fun t => look none [(3, some .i), (91, some .node)] t }
theorem X72_ok : TyOK Tryz.prog X72.T := tyOK_list (by simp only [T72, List.mem_cons, List.not_mem_nil, or_false, forall_eq_or_imp, forall_eq, ty3, ty91, ty33, ty36]; simp)
def T73 : List (Nat × Option Ty) := [(3, some tr3), (26, some tr26), (90, some tr90), (34, some tr34), (38, some tr38), (36, some tr36), (4, some tr4)]
def X73 : SX := { T := look none T73, K := fun t => look none [(3, some .i), (26, some .ii), (90, some .tie), (4, some .b)] t }
theorem X73_ok : TyOK Tryz.prog X73.T := tyOK_list (by simp only [T73, List.mem_cons, List.not_mem_nil, or_false, forall_eq_or_imp, forall_eq, ty3, ty26, ty90, ty34, ty38, ty36, ty4]; simp)
def T74 : List (Nat × Option Ty) := [(91, some tr91), (85, some tr85), (9, some tr9), (26, some tr26), (3, some tr3)]
def X74 : SX := { T := look none T74, K := fun t => look none [(91, some .node), (85, some .node), (9, some .s), (26, some .ii), (3, some .i)] t }
theorem X74_ok : TyOK Tryz.prog X74.T := tyOK_list (by simp only [T74, List.mem_cons, List.not_mem_nil, or_false, forall_eq_or_imp, forall_eq, ty91, ty85, ty9, ty26, ty3]; simp)
def T75 : List (Nat × Option Ty) := [(90, some tr90), (3, some tr3), (94, some tr94), (4, some tr4)]
def X75 : SX := { T := look none T75, K := fun t => look none [(90, some .tie), (3, some .i), (94, some .tie), (4, some .b)] t }
theorem X75_ok : TyOK Tryz.prog X75.T := tyOK_list (by simp only [T75, List.mem_cons, List.not_mem_nil, or_false, forall_eq_or_imp, forall_eq, ty90, ty3, ty94, ty4]; simp)
def T76 : List (Nat × Option Ty) := [(3, some tr3), (36, some tr36), (91, some tr91), (33, some tr33), (26, some tr26)]
def X76 : SX := { T := look none T76, K := fun t => look none [(3, some .i), (91, some .node), (26, some .ii)] t }
theorem X76_ok : TyOK Tryz.prog X76.T := tyOK_list (by simp only [T76, List.mem_cons, List.not_mem_nil, or_false, forall_eq_or_imp, forall_eq, ty3, ty36, ty91, ty33, ty26]; simp)
def T77 : List (Nat × Option Ty) := [(3, some tr3), (26, some tr26), (38, some tr38), (36, some tr36), (33, some tr33), (4, some tr4), (91, some tr91)]
def X77 : SX := { T := look none T77, K := fun t => look none [(3, some .i), (26, some .ii), (4, some .b), (91, some .node)] t }
theorem X77_ok : TyOK Tryz.prog X77.T := tyOK_list (by simp only [T77, List.mem_cons, List.not_mem_nil, or_false, forall_eq_or_imp, forall_eq, ty3, ty26, ty38, ty36, ty33, ty4, ty91]; simp)
def T78 : List (Nat × Option Ty) := [(3, some tr3), (90, some tr90), (26, some tr26), (34, some tr34), (38, some tr38), (36, some tr36), (4, some tr4)]
def X78 : SX := { T := look none T78, K := fun t => look none [(3, some .i), (90, some .tie), (26, some .ii), (4, some .b)] t }
theorem X78_ok : TyOK Tryz.prog X78.T := tyOK_list (by simp only [T78, List.mem_cons, List.not_mem_nil, or_false, forall_eq_or_imp, forall_eq, ty3, ty90, ty26, ty34, ty38, ty36, ty4]; simp)
def T80 : List (Nat × Option Ty) := [(3, some tr3), (26, some tr26)]
def X80 : SX := { T := look none T80, K := fun t => look none [(3, some .i), (26, some .ii)] t }
theorem X80_ok : TyOK Tryz.prog X80.T := tyOK_list (by simp only [T80, List.mem_cons, List.not_mem_nil, or_false, forall_eq_or_imp, forall_eq, ty3, ty26]; simp)
def T82 : List (Nat × Option Ty) := [(91, some tr91), (9, some tr9), (3, some tr3), (26, some tr26)]
def X82 : SX := { T := look none T82, K := fun t => look none [(91, some .node), (9, some .s), (3, some .i), (26, some .ii)] t }
theorem X82_ok : TyOK Tryz.prog X82.T := tyOK_list (by simp only [T82, List.mem_cons, List.not_mem_nil, or_false, forall_eq_or_imp, forall_eq, ty91, ty9, ty3, ty26]; simp)
def T83 : List (Nat × Option Ty) := [(3, some tr3), (90, some tr90), (4, some tr4)]
def X83 : SX := { T := look none T83, K := fun t => look none [(3, some .i), (90, some .tie), (4, some .b)] t }
theorem X83_ok : TyOK Tryz.prog X83.T := tyOK_list (by simp only [T83, List.mem_cons, List.not_mem_nil, or_false, forall_eq_or_imp, forall_eq, ty3, ty90, ty4]; simp)
def T84 : List (Nat × Option Ty) := [(3, some tr3), (9, some tr9), (118, some tr118), (5, some tr5)]
def X84 : SX := { T := look none T84, K := fun t => look none [(3, some .i), (9, some .s), (5, some .u)] t }
theorem X84_ok : TyOK Tryz.prog X84.T := tyOK_list (by simp only [T84, List.mem_cons, List.not_mem_nil, or_false, forall_eq_or_imp, forall_eq, ty3, ty9, ty118, ty5]; simp)
def T85 : List (Nat × Option Ty) := [(3, some tr3), (26, some tr26)]
def X85 : SX := { T := look none T85, K := fun t => look none [(3, some .i), (26, some .ii)] t }
theorem X85_ok : TyOK Tryz.prog X85.T := tyOK_list (by simp only [T85, List.mem_cons, List.not_mem_nil, or_false, forall_eq_or_imp, forall_eq, ty3, ty26]; simp)
def T86 : List (Nat × Option Ty) := [(38, some tr38), (26, some tr26), (3, some tr3)]
def X86 : SX := { T := look none T86, K := fun t => look none [(26, some .ii), (3, some .i)] t }
theorem X86_ok : TyOK Tryz.prog X86.T := tyOK_list (by simp only [T86, List.mem_cons, List.not_mem_nil, or_false, forall_eq_or_imp, forall_eq, ty38, ty26, ty3]; simp)
def T87 : List (Nat × Option Ty) := [(3, some tr3)]
def X87 : SX := { T := look none T87, K := fun t => look none [(3, some .i)] t }
theorem X87_ok : TyOK Tryz.prog X87.T := tyOK_list (by simp only [T87, List.mem_cons, List.not_mem_nil, or_false, forall_eq_or_imp, forall_eq, ty3]; simp)
def T88 : List (Nat × Option Ty) := [(26, some tr26), (3, some tr3)]
def X88 : SX := { T := look none T88, K := fun t => look none [(26, some .ii), (3, some .i)] t }
theorem X88_ok : TyOK Tryz.prog X88.T := tyOK_list (by simp only [T88, List.mem_cons, List.not_mem_nil, or_false, forall_eq_or_imp, forall_eq, ty26, ty3]; simp)
def T89 : List (Nat × Option Ty) := [(3, some tr3), (26, some tr26)]
def X89 : SX := { T := look none T89, K := fun t => look none [(3, some .i), (26, some .ii)] t }
theorem X89_ok : TyOK Tryz.prog X89.T := tyOK_list (by simp only [T89, List.mem_cons, List.not_mem_nil, or_false, forall_eq_or_imp, forall_eq, ty3, ty26]; simp)
def T90 : List (Nat × Option Ty) := [(38, some tr38), (26, some tr26), (3, some tr3)]
def X90 : SX := { T := look none T90, K := fun t => look none [(26, some .ii), (3, some .i)] t }
theorem X90_ok : TyOK Tryz.prog X90.T := tyOK_list (by simp only [T90, List.mem_cons, List.not_mem_nil, or_false, forall_eq_or_imp, forall_eq, ty38, ty26, ty3]; simp)
def T93 : List (Nat × Option Ty) := [(3, some tr3), (26, some tr26)]
def X93 : SX := { T := look none T93, K := fun t => look none [(3, some .i), (26, some .ii)] t }
theorem X93_ok : TyOK Tryz.prog X93.T := tyOK_list (by simp only [T93, List.mem_cons, List.not_mem_nil, or_false, forall_eq_or_imp, forall_eq, ty3, ty26]; simp)
def T102 : List (Nat × Option Ty) := [(33, some tr33), (91, some tr91), (3, some tr3), (36, some tr36), (26, some tr26), (9, some tr9)]
def X102 : SX := { T := look none T102, K := fun t => look none [(91, some .node), (3, some .i), (26, some .ii), (9, some .s)] t }
theorem X102_ok : TyOK Tryz.prog X102.T := tyOK_list (by simp only [T102, List.mem_cons, List.not_mem_nil, or_false, forall_eq_or_imp, forall_eq, ty33, ty91, ty3, ty36, ty26, ty9]; simp)
def T103 : List (Nat × Option Ty) := [(3, some tr3), (90, some tr90), (33, some tr33), (36, some tr36), (91, some tr91), (34, some tr34), (26, some tr26), (4, some tr4)]
def X103 : SX := { T := look none T103, K := fun t => look none [(3, some .i), (90, some .tie), (91, some .node), (26, some .ii), (4, some .b)] t }
theorem X103_ok : TyOK Tryz.prog X103.T := tyOK_list (by simp only [T103, List.mem_cons, List.not_mem_nil, or_false, forall_eq_or_imp, forall_eq, ty3, ty90, ty33, ty36, ty91, ty34, ty26, ty4]; simp)
def T109 : List (Nat × Option Ty) := [(33, some tr33), (3, some tr3), (91, some tr91), (36, some tr36), (9, some tr9), (26, some tr26)]
def X109 : SX := { T := look none T109, K := fun t => look none [(3, some .i), (91, some .node), (9, some .s), (26, some .ii)] t }
theorem X109_ok : TyOK Tryz.prog X109.T := tyOK_list (by simp only [T109, List.mem_cons, List.not_mem_nil, or_false, forall_eq_or_imp, forall_eq, ty33, ty3, ty91, ty36, ty9, ty26]; simp)
def T110 : List (Nat × Option Ty) := [(3, some tr3), (90, some tr90), (33, some tr33), (36, some tr36), (34, some tr34), (91, some tr91), (26, some tr26), (4, some tr4)]
def X110 : SX := { T := look none T110, K := fun t => look none [(3, some .i), (90, some .tie), (91, some .node), (26, some .ii), (4, some .b)] t }
theorem X110_ok : TyOK Tryz.prog X110.T := tyOK_list (by simp only [T110, List.mem_cons, List.not_mem_nil, or_false, forall_eq_or_imp, forall_eq, ty3, ty90, ty33, ty36, ty34, ty91, ty26, ty4]; simp)
def T111 : List (Nat × Option Ty) := [(3, some tr3)]
def X111 : SX := { T := look none T111, K := fun t => look none [(3, some .i)] t }
theorem X111_ok : TyOK Tryz.prog X111.T := tyOK_list (by simp only [T111, List.mem_cons, List.not_mem_nil, or_false, forall_eq_or_imp, forall_eq, ty3]; simp)
def T112 : List (Nat × Option Ty) := [(36, some tr36), (91, some tr91), (26, some tr26), (3, some tr3)]
def X112 : SX := { T := look none T112, K := fun t => look none [(91, some .node), (26, some .ii), (3, some .i)] t }
theorem X112_ok : TyOK Tryz.prog X112.T := tyOK_list (by simp only [T112, List.mem_cons, List.not_mem_nil, or_false, forall_eq_or_imp, forall_eq, ty36, ty91, ty26, ty3]; simp)
def T113 : List (Nat × Option Ty) := [(36, some tr36), (33, some tr33), (3, some tr3), (91, some tr91), (26, some tr26)]
def X113 : SX := { T := look none T113, K := fun t => look none [(3, some .i), (91, some .node), (26, some .ii)] t }
theorem X113_ok : TyOK Tryz.prog X113.T := tyOK_list (by simp only [T113, List.mem_cons, List.not_mem_nil, or_false, forall_eq_or_imp, forall_eq, ty36, ty33, ty3, ty91, ty26]; simp)
def T114 : List (Nat × Option Ty) := [(26, some tr26), (3, some tr3)]
def X114 : SX := { T := look none T114, K := fun t => look none [(26, some .ii), (3, some .i)] t }
theorem X114_ok : TyOK Tryz.prog X114.T := tyOK_list (by simp only [T114, List.mem_cons, List.not_mem_nil, or_false, forall_eq_or_imp, forall_eq, ty26, ty3]; simp)
def T115 : List (Nat × Option Ty) := [(36, some tr36), (33, some tr33), (91, some tr91)]
def X115 : SX := { T := look none T115, K := fun t => look none [(91, some .node)] t }
theorem X115_ok : TyOK Tryz.prog X115.T := tyOK_list (by simp only [T115, List.mem_cons, List.not_mem_nil, or_false, forall_eq_or_imp, forall_eq, ty36, ty33, ty91]; simp)
def T119 : List (Nat × Option Ty) := [(31, some tr31), (3, some tr3), (26, some tr26)]
def X119 : SX := { T := look none T119, K := fun t => look none [(3, some .i), (26, some .ii)] t }
theorem X119_ok : TyOK Tryz.prog X119.T := tyOK_list (by simp only [T119, List.mem_cons, List.not_mem_nil, or_false, forall_eq_or_imp, forall_eq, ty31, ty3, ty26]; simp)
def T120 : List (Nat × Option Ty) := [(26, some tr26), (3, some tr3)]
def X120 : SX := { T := look none T120, K := fun t => look none [(26, some .ii), (3, some .i)] t }
theorem X120_ok : TyOK Tryz.prog X120.T := tyOK_list (by simp only [T120, List.mem_cons, List.not_mem_nil, or_false, forall_eq_or_imp, forall_eq, ty26, ty3]; simp)
def T121 : List (Nat × Option Ty) := [(90, some tr90), (3, some tr3), (34, some tr34), (36, some tr36), (4, some tr4)]
def X121 : SX := { T := look none T121, K := fun t => look none [(90, some .tie), (3, some .i), (4, some .b)] t }
theorem X121_ok : TyOK Tryz.prog X121.T := tyOK_list (by simp only [T121, List.mem_cons, List.not_mem_nil, or_false, forall_eq_or_imp, forall_eq, ty90, ty3, ty34, ty36, ty4]; simp)
def T126 : List (Nat × Option Ty) := [(3, some tr3)]
def X126 : SX := { T := look none T126, K := fun t => look none [(3, some .i)] t }
theorem X126_ok : TyOK Tryz.prog X126.T := tyOK_list (by simp only [T126, List.mem_cons, List.not_mem_nil, or_false, forall_eq_or_imp, forall_eq, ty3]; simp)
def T130 : List (Nat × Option Ty) := [(91, some tr91), (9, some tr9), (26, some tr26), (3, some tr3)]
def X130 : SX := { T := look none T130, K := fun t => look none [(91, some .node), (9, some .s), (26, some .ii), (3, some .i)] t }
theorem X130_ok : TyOK Tryz.prog X130.T := tyOK_list (by simp only [T130, List.mem_cons, List.not_mem_nil, or_false, forall_eq_or_imp, forall_eq, ty91, ty9, ty26, ty3]; simp)
def T131 : List (Nat × Option Ty) := [(91, some tr91), (33, some tr33), (3, some tr3), (9, some tr9), (36, some tr36)]
def X131 : SX := { T := look none T131, K := fun t => look none [(91, some .node), (3, some .i), (9, some .s)] t }
theorem X131_ok : TyOK Tryz.prog X131.T := tyOK_list (by simp only [T131, List.mem_cons, List.not_mem_nil, or_false, forall_eq_or_imp, forall_eq, ty91, ty33, ty3, ty9, ty36]; simp)
def T132 : List (Nat × Option Ty) := [(3, some tr3)]
def X132 : SX := { T := look none T132, K := fun t => look none [(3, some .i)] t }
theorem X132_ok : TyOK Tryz.prog X132.T := tyOK_list (by simp only [T132, List.mem_cons, List.not_mem_nil, or_false, forall_eq_or_imp, forall_eq, ty3]; simp)
def T133 : List (Nat × Option Ty) := [(3, some tr3), (26, some tr26)]
def X133 : SX := { T := look none T133, K := fun t => look none [(3, some .i), (26, some .ii)] t }
theorem X133_ok : TyOK Tryz.prog X133.T := tyOK_list (by simp only [T133, List.mem_cons, List.not_mem_nil, or_false, forall_eq_or_imp, forall_eq, ty3, ty26]; simp)
def T137 : List (Nat × Option Ty) := [(91, some tr91), (3, some tr3), (9, some tr9), (26, some tr26)]
def X137 : SX := { T := look none T137, K := fun t => look none [(91, some .node), (3, some .i), (9, some .s), (26, some .ii)] t }
theorem X137_ok : TyOK Tryz.prog X137.T := tyOK_list (by simp only [T137, List.mem_cons, List.not_mem_nil, or_false, forall_eq_or_imp, forall_eq, ty91, ty3, ty9, ty26]; simp)
def T138 : List (Nat × Option Ty) := [(3, some tr3)]
def X138 : SX := { T := look none T138, K := fun t => look none [(3, some .i)] t }
theorem X138_ok : TyOK Tryz.prog X138.T := tyOK_list (by simp only [T138, List.mem_cons, List.not_mem_nil, or_false, forall_eq_or_imp, forall_eq, ty3]; simp)
def T139 : List (Nat × Option Ty) := [(3, some tr3)]
def X139 : SX := { T := look none T139, K := fun t => look none [(3, some .i)] t }
theorem X139_ok : TyOK Tryz.prog X139.T := tyOK_list (by simp only [T139, List.mem_cons, List.not_mem_nil, or_false, forall_eq_or_imp, forall_eq, ty3]; simp)
def T140 : List (Nat × Option Ty) := [(90, some tr90), (3, some tr3), (4, some tr4)]
def X140 : SX := { T := look none T140, K := fun t => look none [(90, some .tie), (3, some .i), (4, some .b)] t }
theorem X140_ok : TyOK Tryz.prog X140.T := tyOK_list (by simp only [T140, List.mem_cons, List.not_mem_nil, or_false, forall_eq_or_imp, forall_eq, ty90, ty3, ty4]; simp)
def T141 : List (Nat × Option Ty) := [(3, some tr3), (26, some tr26)]
def X141 : SX := { T := look none T141, K := fun t => look none [(3, some .i), (26, some .ii)] t }
theorem X141_ok : TyOK Tryz.prog X141.T := tyOK_list (by simp only [T141, List.mem_cons, List.not_mem_nil, or_false, forall_eq_or_imp, forall_eq, ty3, ty26]; simp)
def T142 : List (Nat × Option Ty) := [(3, some tr3)]
def X142 : SX := { T := look none T142, K := fun t => look none [(3, some .i)] t }
theorem X142_ok : TyOK Tryz.prog X142.T := tyOK_list (by simp only [T142, List.mem_cons, List.not_mem_nil, or_false, forall_eq_or_imp, forall_eq, ty3]; simp)
def T143 : List (Nat × Option Ty) := [(3, some tr3)]
def X143 : SX := { T := look none T143, K := fun t => look none [(3, some .i)] t }
theorem X143_ok : TyOK Tryz.prog X143.T := tyOK_list (by simp only [T143, List.mem_cons, List.not_mem_nil, or_false, forall_eq_or_imp, forall_eq, ty3]; simp)
def T144 : List (Nat × Option Ty) := [(26, some tr26), (3, some tr3)]
def X144 : SX := { T := look none T144, K := fun t => look none [(26, some .ii), (3, some .i)] t }
theorem X144_ok : TyOK Tryz.prog X144.T := tyOK_list (by simp only [T144, List.mem_cons, List.not_mem_nil, or_false, forall_eq_or_imp, forall_eq, ty26, ty3]; simp)
def T145 : List (Nat × Option Ty) := [(3, some tr3)]
def X145 : SX := { T := look none T145, K := fun t => look none [(3, some .i)] t }
theorem X145_ok : TyOK Tryz.prog X145.T := tyOK_list (by simp only [T145, List.mem_cons, List.not_mem_nil, or_false, forall_eq_or_imp, forall_eq, ty3]; simp)
def T146 : List (Nat × Option Ty) := [(33, some tr33), (3, some tr3), (91, some tr91)]
def X146 : SX := { T := look none T146, K := fun t => look none [(3, some .i), (91, some .node)] t }
theorem X146_ok : TyOK Tryz.prog X146.T := tyOK_list (by simp only [T146, List.mem_cons, List.not_mem_nil, or_false, forall_eq_or_imp, forall_eq, ty33, ty3, ty91]; simp)
def T147 : List (Nat × Option Ty) := [(3, some tr3), (91, some tr91)]
def X147 : SX := { T := look none T147, K := fun t => look none [(3, some .i), (91, some .node)] t }
theorem X147_ok : TyOK Tryz.prog X147.T := tyOK_list (by simp only [T147, List.mem_cons, List.not_mem_nil, or_false, forall_eq_or_imp, forall_eq, ty3, ty91]; simp)
def T162 : List (Nat × Option Ty) := [(34, some tr34), (3, some tr3), (90, some tr90)]
def X162 : SX := { T := look none T162, K := fun t => look none [(3, some .i), (90, some .tie)] t }
theorem X162_ok : TyOK Tryz.prog X162.T := tyOK_list (by simp only [T162, List.mem_cons, List.not_mem_nil, or_false, forall_eq_or_imp, forall_eq, ty34, ty3, ty90]; simp)
def T164 : List (Nat × Option Ty) := [(9, some tr9), (5, some tr5), (3, some tr3)]
def X164 : SX := { T := look none T164, K := fun t => look none [(9, some .s), (5, some .u), (3, some .i)] t }
theorem X164_ok : TyOK Tryz.prog X164.T := tyOK_list (by simp only [T164, List.mem_cons, List.not_mem_nil, or_false, forall_eq_or_imp, forall_eq, ty9, ty5, ty3]; simp)
def T165 : List (Nat × Option Ty) := [(3, some tr3), (26, some tr26)]
def X165 : SX := { T := look none T165, K := fun t => look none [(3, some .i), (26, some .ii)] t }
theorem X165_ok : TyOK Tryz.prog X165.T := tyOK_list (by simp only [T165, List.mem_cons, List.not_mem_nil, or_false, forall_eq_or_imp, forall_eq, ty3, ty26]; simp)
def T168 : List (Nat × Option Ty) := [(9, some tr9), (3, some tr3), (5, some tr5)]
def X168 : SX := { T := look none T168, K := fun t => look none [(9, some .s), (3, some .i), (5, some .u)] t }
theorem X168_ok : TyOK Tryz.prog X168.T := tyOK_list (by simp only [T168, List.mem_cons, List.not_mem_nil, or_false, forall_eq_or_imp, forall_eq, ty9, ty3, ty5]; simp)
def T169 : List (Nat × Option Ty) := [(3, some tr3), (26, some tr26)]
def X169 : SX := { T := look none T169, K := fun t => look none [(3, some .i), (26, some .ii)] t }
theorem X169_ok : TyOK Tryz.prog X169.T := tyOK_list (by simp only [T169, List.mem_cons, List.not_mem_nil, or_false, forall_eq_or_imp, forall_eq, ty3, ty26]; simp)
def T170 : List (Nat × Option Ty) := [(3, some tr3), (26, some tr26)]
def X170 : SX := { T := look none T170, K := fun t => look none [(3, some .i), (26, some .ii)] t }
theorem X170_ok : TyOK Tryz.prog X170.T := tyOK_list (by simp only [T170, List.mem_cons, List.not_mem_nil, or_false, forall_eq_or_imp, forall_eq, ty3, ty26]; simp)
def T171 : List (Nat × Option Ty) := [(26, some tr26), (3, some tr3)]
def X171 : SX := { T := look none T171, K := fun t => look none [(26, some .ii), (3, some .i)] t }
theorem X171_ok : TyOK Tryz.prog X171.T := tyOK_list (by simp only [T171, List.mem_cons, List.not_mem_nil, or_false, forall_eq_or_imp, forall_eq, ty26, ty3]; simp)
def lv12 : List (Nat × Option (List Nat)) := [(2, some [0]), (3, some [1]), (4, some [1, 2]), (5, some [1, 2, 3]), (6, some [1, 2, 3, 4]), (7, some [1, 2, 3, 5]), (8, some [1, 2, 3, 6]), (9, some [1, 2, 3]), (10, some [1, 2, 3, 8]), (11, some [1, 2, 3, 9]), (12, some [1, 2, 3, 10]), (13, some [1, 2, 3]), (14, some [2, 3, 12]), (15, some [2, 3, 13]), (16, some [2, 3])]
def lv13 : List (Nat × Option (List Nat)) := [(2, some [0]), (3, some [1]), (4, some [1, 2]), (5, some [1, 2, 3]), (6, some [1, 2, 3, 4]), (7, some [1, 2, 3, 5]), (8, some [1, 2, 3]), (9, some [1, 2, 3, 7]), (10, some [1, 2, 3, 8]), (11, some [1, 2, 3, 9]), (12, some [1, 2, 3]), (13, some [2, 3, 11]), (14, some [2, 3, 12]), (15, some [2, 3, 13]), (16, some [2, 3])]
end Go.Proofs.YtececadpjelanaaGreat.Ai
namespace Go.Proofs.YtececadpjelanaaGreat.Ai
open Go
set_option maxRecDepth 100000
set_option linter.unusedVariables false
set_option linter.unusedSimpArgs false
set_option linter.unusedSectionVars false
variable [MemoCtx]
def bI (n : Int) : TV B := .v (false, [.fz (.int .i64 n)])
def bS (s : ByteArray) : TV B := .v (false, [.fz (.str s)])
def bL (x : LL) : TV B := .v (false, [.fz (.sl x)])
def bR (r len : Nat) : TV B := .v (false, [.rf (r, []) true 0 len])
def bP (r : Nat) : TV B := .v (false, [.pp (r, []) (true, 0) 0])
theorem SEx.idx {P : Program} {T : Nat → Option Ty} {dr : Nat → Nat} {rs : Array ResultVar} {ks : List K} (n : Nat) (f : Nat → SF) (R : Nat → TV W)
    (step : ∀ i, i ≤ n → (i < n → SEx P T dr rs ks (f (i + 1)) (R (i + 1))) → SEx P T dr rs ks (f i) (R i)) : SEx P T dr rs ks (f 0) (R 0) :=
  SEx.ind f R (fun i => i ≤ n) (fun i => n - i) 0 (Nat.zero_le _) fun i hi ih => step i hi fun h => ih (i + 1) (by omega) (by omega)
structure Same {α : Type} (a b : α) : Prop where out : a = b
structure LLe {α : Type} (l : List α) (n : Nat) : Prop where out : l.length ≤ n
theorem wrap_i64 {n : Int} (h1 : -9223372036854775808 ≤ n) (h2 : n ≤ 9223372036854775807) : IntKind.i64.wrap n = n := IntWalk.i64_in n ⟨h1, h2⟩
theorem wrap_succ {i : Nat} (h : i < 9223372036854775807) : IntKind.i64.wrap ((i : Int) + 1) = ((i + 1 : Nat) : Int) := by
  rw [wrap_i64 (by omega) (by omega)]; rfl
structure SLen (s : ByteArray) : Prop where out : s.size ≤ maxLen
structure IRng (n : Int) : Prop where out : 0 ≤ n ∧ n ≤ 9223372036854775807
structure Hd (p : Prop) : Prop where out : p
theorem lim_ge : (1048576 : Int) ≤ lim := by decide
theorem getD_get {α : Type} {l : List α} {i : Nat} {z : α} (h : i < l.length) : l.getD i z = l[i] := by rw [List.getD_eq_getElem?_getD, List.getElem?_eq_getElem h, Option.getD_some]
def eqS (a b : ByteArray) : Bool := a.toList == b.toList
def idxF {α : Type} (p : α → Bool) : List α → Nat → Int
  | [], _ => -1
  | a :: r, n => if p a = true then n else idxF p r (n + 1)
theorem idxF_at {α : Type} {p : α → Bool} {l : List α} {i n : Nat} (z : α) (h : i < l.length) : idxF p (l.drop i) n = if p (l.getD i z) = true then (n : Int) else idxF p (l.drop (i + 1)) (n + 1) := by
  rw [List.drop_eq_getElem_cons h, List.getD_eq_getElem?_getD, List.getElem?_eq_getElem h, Option.getD_some]; rfl
theorem idxF_yes {α : Type} {p : α → Bool} {l : List α} {i n : Nat} (z : α) (h : i < l.length) (hp : p (l.getD i z) = true) : idxF p (l.drop i) n = n := by rw [idxF_at z h, if_pos hp]
theorem idxF_no {α : Type} {p : α → Bool} {l : List α} {i n : Nat} (z : α) (h : i < l.length) (hp : p (l.getD i z) = false) : idxF p (l.drop i) n = idxF p (l.drop (i + 1)) (n + 1) := by rw [idxF_at z h, hp]; rfl
theorem idxF_end {α : Type} {p : α → Bool} {l : List α} {i n : Nat} (h : l.length ≤ i) : idxF p (l.drop i) n = -1 := by rw [List.drop_eq_nil_of_le h]; rfl
def dcFS (k : Nat) : Dc ByteArray := ⟨fun s => aF k [.ptr [.str s]], fun | (false, [.fn f [.ptr [.str s]]]) => (match nq f k with | true => some s | false => none) | _ => none, by
  intro x a h
  split at h
  · split at h
    · rename_i hk
      obtain rfl := nq_iff.1 hk
      simp only [Option.some.injEq] at h; subst h; rfl
    · cases h
  · cases h⟩
structure IsCall (g' g : FuncId) (r : List (V1 D)) (caps : List D) : Prop where
  fn : g' = g
  caps : r = capsD caps
structure Mem {α : Type} (x : α) (l : List α) : Prop where out : x ∈ l
theorem mem_getD {α : Type} {l : List α} {i : Nat} {z : α} (h : i < l.length) : Mem (l.getD i z) l := ⟨by rw [List.getD_eq_getElem?_getD, List.getElem?_eq_getElem h, Option.getD_some]; exact List.getElem_mem _⟩
def oraP {α : Type} (d : Dc α) (g : FuncId) (caps : List D) (l : List α) (p : α → Bool) : SOra := fun g' as' => match as' with
  | x :: r => (match d.dec x with
    | some q => some ([IsCall g' g r caps, Mem q l], rB (p q))
    | none => none)
  | [] => none
theorem oraP_ok {P : Program} {α : Type} {d : Dc α} {g : FuncId} {caps : List D} {l : List α} {p : α → Bool} (hp : ∀ q ∈ l, SCall P g (d.enc q :: capsD caps) (rB (p q))) : SOraOK P (oraP d g caps l p) := by
  intro g' as'
  unfold oraP
  split
  · split
    · rename_i hx
      refine R.Sim.mk fun hq => ?_
      obtain ⟨rfl, rfl⟩ := hq _ (.head _)
      exact (hp _ (hq _ (.tail _ (.head _))).out).er (by simp only [vserL, d.ok _ _ hx]) rfl
    · exact R.Sim.none'
  · exact R.Sim.none'
theorem idxF_any {α : Type} (p : α → Bool) : ∀ (l : List α) (n : Nat), decide (0 ≤ idxF p l n) = l.any p
  | [], n => rfl
  | a :: r, n => by
    unfold idxF
    rw [List.any_cons]
    cases h : p a with
    | true => rw [if_pos rfl]; simp
    | false => rw [if_neg (by simp)]; exact idxF_any p r (n + 1)
def allF {α : Type} (p : Nat → α → Bool) : List α → Nat → Bool
  | [], _ => true
  | a :: r, n => p n a && allF p r (n + 1)
theorem allF_at {α : Type} {p : Nat → α → Bool} {l : List α} {i n : Nat} (z : α) (h : i < l.length) : allF p (l.drop i) n = (p n (l.getD i z) && allF p (l.drop (i + 1)) (n + 1)) := by
  rw [List.drop_eq_getElem_cons h, List.getD_eq_getElem?_getD, List.getElem?_eq_getElem h, Option.getD_some]; rfl
theorem allF_yes {α : Type} {p : Nat → α → Bool} {l : List α} {i n : Nat} (z : α) (h : i < l.length) (hp : p n (l.getD i z) = true) : allF p (l.drop i) n = allF p (l.drop (i + 1)) (n + 1) := by rw [allF_at z h, hp]; rfl
theorem allF_no {α : Type} {p : Nat → α → Bool} {l : List α} {i n : Nat} (z : α) (h : i < l.length) (hp : p n (l.getD i z) = false) : allF p (l.drop i) n = false := by rw [allF_at z h, hp]; rfl
theorem allF_end {α : Type} {p : Nat → α → Bool} {l : List α} {i n : Nat} (h : l.length ≤ i) : allF p (l.drop i) n = true := by rw [List.drop_eq_nil_of_le h]; rfl
theorem allF_congr {α : Type} {p q : Nat → α → Bool} : ∀ (l : List α) (n : Nat), (∀ i a, l[i]? = some a → p (n + i) a = q (n + i) a) → allF p l n = allF q l n
  | [], _, _ => rfl
  | a :: r, n, h => by
    have h1 : allF p r (n + 1) = allF q r (n + 1) := allF_congr r (n + 1) fun i b hi => by
      have := h (i + 1) b (by simpa using hi)
      rwa [show n + (i + 1) = n + 1 + i by omega] at this
    show (p n a && allF p r (n + 1)) = (q n a && allF q r (n + 1))
    rw [h1, show p n a = q n a from h 0 a rfl]
def wCl {α : Type} (d : Dc α) (g : FuncId) (caps : List D) (f : α → TV W) (p : α → List Prop) : Wr
  | [x, (false, [.fn g' caps'])] => (match d.dec x with | some l => some (Same g' g :: Same caps' caps :: p l, f l) | none => none)
  | _ => none
theorem wCl_ok {P : Program} {k : FuncId} {α : Type} {d : Dc α} {g : FuncId} {caps : List D} {f : α → TV W} {p : α → List Prop} (h : ∀ l, Holds (p l) → SCall P k [d.enc l, aF g caps] (f l)) : WrOK P k (wCl d g caps f p) := by
  intro xs
  unfold wCl
  split
  · split
    · rename_i hx
      refine R.Sim.mk fun hq => ?_
      obtain ⟨rfl⟩ := hq _ (.head _)
      obtain ⟨rfl⟩ := hq _ (.tail _ (.head _))
      exact (h _ fun r hr => hq r (.tail _ (.tail _ hr))).er (by simp only [vserL, d.ok _ _ hx]; rfl) rfl
    · exact R.Sim.none'
  · exact R.Sim.none'
theorem allF_yes_and {α : Type} {p : Nat → α → Bool} {l : List α} {i : Nat} {c : Bool} (z : α) (h : i < l.length) (hp : p i (l.getD i z) = true) : (allF p (l.drop i) i && c) = (allF p (l.drop (i + 1)) (i + 1) && c) := by rw [allF_yes z h hp]
theorem allF_no_and {α : Type} {p : Nat → α → Bool} {l : List α} {i : Nat} {c : Bool} (z : α) (h : i < l.length) (hp : p i (l.getD i z) = false) : (allF p (l.drop i) i && c) = false := by rw [allF_no z h hp]; rfl
theorem allF_end_and {α : Type} {p : Nat → α → Bool} {l : List α} {i : Nat} {c : Bool} (h : l.length ≤ i) : (allF p (l.drop i) i && c) = c := by rw [allF_end h]; rfl
theorem idxF_lt {α : Type} (p : α → Bool) : ∀ (l : List α) (n : Nat), idxF p l n < n + l.length ∧ (idxF p l n = -1 ∨ (n : Int) ≤ idxF p l n)
  | [], n => by simp [idxF]; omega
  | a :: r, n => by
    have := idxF_lt p r (n + 1)
    unfold idxF
    simp only [List.length_cons]
    split <;> omega
theorem er_via {a b : Bool} (h : b = a) (k : Bool) : eR (.v (false, [.fz (.bool k a)])) = eR (rB b) := by rw [er_B]; exact h.symm
structure LoopB (p A B : Bool) : Prop where
  yes : p = true → A = B
  no : p = false → A = false
theorem LoopB.of {α : Type} (p : Nat → α → Bool) (l : List α) (i : Nat) (c : Bool) (z : α) (h : i < l.length) : LoopB (p i (l.getD i z)) (allF p (l.drop i) i && c) (allF p (l.drop (i + 1)) (i + 1) && c) := ⟨allF_yes_and z h, allF_no_and z h⟩
theorem LoopB.stop {p A B : Bool} (h : LoopB p A B) (k : Bool) (hp : p = false) : eR (.v (false, [.fz (.bool k false)])) = eR (rB A) := er_via (h.no hp) k
theorem LoopB.go {p A B : Bool} (h : LoopB p A B) (hp : p = true) : eR (rB B) = eR (rB A) := by rw [h.yes hp]
end Go.Proofs.YtececadpjelanaaGreat.Ai
namespace Go.Proofs.YtececadpjelanaaGreat.Ai
open Go
set_option maxRecDepth 100000
set_option linter.unusedVariables false
set_option linter.unusedSimpArgs false
set_option linter.unusedSectionVars false
variable [MemoCtx]
theorem idxFuncI_ok (l : List Int) (g : FuncId) (caps : List D) (p : Int → Bool) (hp : ∀ q ∈ l, SCall Tryz.prog g (aI q :: capsD caps) (rB (p q))) (h1 : l.length ≤ maxLen) : SCall Tryz.prog 141 [aIs l, aF g caps] (rI (idxF p l 0)) := by
  refine SCall.of X141_ok (fn := Tryz.f141) (c := Tryz.f141.body.getD .skip) (dr := fun n => look 0 [] n) Tryz.func141 rfl (by kernel_rfl) (by kernel_rfl) (by kernel_rfl) ?_
  unfold maxLen at h1
  have hO : SOraOK Tryz.prog (oraP dcI g caps l p) := oraP_ok hp
  refine SEx.go (X := X141) X141_ok (fun n => look [] [(2, [0, 1, 7, 8])] n) (fun _ => none) hO 60 ?_
  intro M R L N hM hAnd hImp hR hL hN
  cases M
  cbv
  repeat' first | (refine hAnd _ _ ?_ ?_) | (refine hImp _ _ (fun h => ?_)) | (refine hR _ ?_) | (refine hL _ _ (Hd.out ?_); generalize hks : (List.cons _ _ : List K) = ks) | (refine hN _ _ ?_; cbv)
  all_goals (clear hAnd hImp hR hL hN)
  all_goals (cases hM; try dsimp only)
  all_goals (try simp only [Bool.not_eq_true', Bool.not_eq_false', decide_eq_true_eq, decide_eq_false_iff_not, Int.not_le, Int.not_lt, beq_iff_eq, beq_eq_false_iff_ne, ne_eq, Int.ofNat_eq_natCast, Int.toNat_natCast, List.length_replicate, ncast, Nat.sub_zero, List.drop_zero, Cue.eta, Tie.eta, Edge.eta, Link.eta, Node.eta] at *)
  obtain ⟨n, hn⟩ : ∃ n, n = l.length := ⟨_, rfl⟩
  refine ⟨SEx.same (SEx.idx n (fun i => ⟨19, [(0, bL (.i l)), (1, .v (false, [.fz (.fn g caps)])), (7, bI n), (8, bI i)], []⟩) (fun i => rI (idxF p (l.drop i) i)) ?_) (by rw [hn]; rfl) rfl⟩
  intro i hi ih
  rw [← hks]
  refine SEx.go (X := X141) X141_ok (fun n => look [] [(2, [0, 1, 7, 8])] n) (fun _ => none) hO 60 ?_
  intro M R L N hM hAnd hImp hR hL hN
  cases M
  cbv
  repeat' first | (refine hAnd _ _ ?_ ?_) | (refine hImp _ _ (fun h => ?_)) | (refine hR _ ?_) | (refine hL _ _ (Hd.out ?_); try first | rw [hks] | rw [hk2] | rw [hk3]) | (refine hN _ _ ?_; cbv)
  all_goals (clear hAnd hImp hR hL hN; try clear hks; try clear hk2; try clear hk3)
  all_goals (cases hM; try dsimp only)
  all_goals (try simp only [Bool.not_eq_true', Bool.not_eq_false', decide_eq_true_eq, decide_eq_false_iff_not, Int.not_le, Int.not_lt, beq_iff_eq, beq_eq_false_iff_ne, ne_eq, Int.ofNat_eq_natCast, Int.toNat_natCast, List.length_replicate, ncast, Nat.sub_zero, List.drop_zero, Cue.eta, Tie.eta, Edge.eta, Link.eta, Node.eta] at *)
  all_goals first
    | omega
    | exact ⟨rfl, by cases caps <;> rfl⟩
    | exact ⟨rfl, rfl⟩
    | exact mem_getD (z := (0 : Int)) (by omega)
    | (rw [idxF_yes (p := p) (l := l) (i := i) (0 : Int) (by omega) (by first | assumption | exact beq_iff_eq.2 (by assumption))]; rfl)
    | (rw [idxF_end (by omega)]; rfl)
    | (simp only [wrap_succ (show i < 9223372036854775807 by omega)]; exact ⟨(ih (by omega)).same rfl (by rw [idxF_no (p := p) (l := l) (i := i) (0 : Int) (by omega) (by first | assumption | exact beq_eq_false_iff_ne.2 (by assumption) | (simp_all; done))])⟩)
theorem contFuncI_ok (l : List Int) (g : FuncId) (caps : List D) (p : Int → Bool) (hp : ∀ q ∈ l, SCall Tryz.prog g (aI q :: capsD caps) (rB (p q))) (h1 : l.length ≤ maxLen) : SCall Tryz.prog 111 [aIs l, aF g caps] (rB (l.any p)) := by
  refine SCall.of X111_ok (fn := Tryz.f111) (c := Tryz.f111.body.getD .skip) (dr := fun n => look 0 [] n) Tryz.func111 rfl (by kernel_rfl) (by kernel_rfl) (by kernel_rfl) ?_
  obtain ⟨f, hf⟩ : ∃ f : List Int → Int, f = fun l => idxF p l 0 := ⟨_, rfl⟩
  have hO : SOraOK Tryz.prog (oraL [(141, wCl dcIs g caps (fun l => rI (f l)) (fun m => [Same m l]))]) := by subst hf; exact oraL_cons (wCl_ok fun m h => by obtain rfl := (h _ (.head _)).out; exact idxFuncI_ok m g caps p hp h1) oraL_nil
  refine SEx.go (X := X111) X111_ok (fun n => look [] [] n) (fun _ => none) hO 60 ?_
  intro M R L N hM hAnd hImp hR hL hN
  cases M
  cbv
  repeat' first | (refine hAnd _ _ ?_ ?_) | (refine hImp _ _ (fun h => ?_)) | (refine hR _ ?_) | (refine hL _ _ (Hd.out ?_); try first | rw [hks] | rw [hk2] | rw [hk3]) | (refine hN _ _ ?_; cbv)
  all_goals (clear hAnd hImp hR hL hN; try clear hks; try clear hk2; try clear hk3)
  all_goals (cases hM; try dsimp only)
  all_goals (try simp only [Bool.not_eq_true', Bool.not_eq_false', decide_eq_true_eq, decide_eq_false_iff_not, Int.not_le, Int.not_lt, beq_iff_eq, beq_eq_false_iff_ne, ne_eq, Int.ofNat_eq_natCast, Int.toNat_natCast, List.length_replicate, ncast, Nat.sub_zero, List.drop_zero, Cue.eta, Tie.eta, Edge.eta, Link.eta, Node.eta] at *)
  all_goals first
    | exact ⟨rfl⟩
    | (rw [← idxF_any p l 0, hf]; rfl)
theorem idxFuncTie_ok (l : List Tie) (g : FuncId) (caps : List D) (p : Tie → Bool) (hp : ∀ q ∈ l, SCall Tryz.prog g (aTie q :: capsD caps) (rB (p q))) (h1 : l.length ≤ maxLen) : SCall Tryz.prog 162 [aTies l, aF g caps] (rI (idxF p l 0)) := by
  refine SCall.of X162_ok (fn := Tryz.f162) (c := Tryz.f162.body.getD .skip) (dr := fun n => look 0 [] n) Tryz.func162 rfl (by kernel_rfl) (by kernel_rfl) (by kernel_rfl) ?_
  unfold maxLen at h1
  have hO : SOraOK Tryz.prog (oraP dcTie g caps l p) := oraP_ok hp
  refine SEx.go (X := X162) X162_ok (fun n => look [] [(2, [0, 1, 7, 8])] n) (fun _ => none) hO 60 ?_
  intro M R L N hM hAnd hImp hR hL hN
  cases M
  cbv
  repeat' first | (refine hAnd _ _ ?_ ?_) | (refine hImp _ _ (fun h => ?_)) | (refine hR _ ?_) | (refine hL _ _ (Hd.out ?_); generalize hks : (List.cons _ _ : List K) = ks) | (refine hN _ _ ?_; cbv)
  all_goals (clear hAnd hImp hR hL hN)
  all_goals (cases hM; try dsimp only)
  all_goals (try simp only [Bool.not_eq_true', Bool.not_eq_false', decide_eq_true_eq, decide_eq_false_iff_not, Int.not_le, Int.not_lt, beq_iff_eq, beq_eq_false_iff_ne, ne_eq, Int.ofNat_eq_natCast, Int.toNat_natCast, List.length_replicate, ncast, Nat.sub_zero, List.drop_zero, Cue.eta, Tie.eta, Edge.eta, Link.eta, Node.eta] at *)
  obtain ⟨n, hn⟩ : ∃ n, n = l.length := ⟨_, rfl⟩
  refine ⟨SEx.same (SEx.idx n (fun i => ⟨19, [(0, bL (.tie l)), (1, .v (false, [.fz (.fn g caps)])), (7, bI n), (8, bI i)], []⟩) (fun i => rI (idxF p (l.drop i) i)) ?_) (by rw [hn]; rfl) rfl⟩
  intro i hi ih
  rw [← hks]
  refine SEx.go (X := X162) X162_ok (fun n => look [] [(2, [0, 1, 7, 8])] n) (fun _ => none) hO 60 ?_
  intro M R L N hM hAnd hImp hR hL hN
  cases M
  cbv
  repeat' first | (refine hAnd _ _ ?_ ?_) | (refine hImp _ _ (fun h => ?_)) | (refine hR _ ?_) | (refine hL _ _ (Hd.out ?_); try first | rw [hks] | rw [hk2] | rw [hk3]) | (refine hN _ _ ?_; cbv)
  all_goals (clear hAnd hImp hR hL hN; try clear hks; try clear hk2; try clear hk3)
  all_goals (cases hM; try dsimp only)
  all_goals (try simp only [Bool.not_eq_true', Bool.not_eq_false', decide_eq_true_eq, decide_eq_false_iff_not, Int.not_le, Int.not_lt, beq_iff_eq, beq_eq_false_iff_ne, ne_eq, Int.ofNat_eq_natCast, Int.toNat_natCast, List.length_replicate, ncast, Nat.sub_zero, List.drop_zero, Cue.eta, Tie.eta, Edge.eta, Link.eta, Node.eta] at *)
  all_goals first
    | omega
    | exact ⟨rfl, by cases caps <;> rfl⟩
    | exact ⟨rfl, rfl⟩
    | exact mem_getD (z := Tie.z) (by omega)
    | (rw [idxF_yes (p := p) (l := l) (i := i) Tie.z (by omega) (by first | assumption | exact beq_iff_eq.2 (by assumption))]; rfl)
    | (rw [idxF_end (by omega)]; rfl)
    | (simp only [wrap_succ (show i < 9223372036854775807 by omega)]; exact ⟨(ih (by omega)).same rfl (by rw [idxF_no (p := p) (l := l) (i := i) Tie.z (by omega) (by first | assumption | exact beq_eq_false_iff_ne.2 (by assumption) | (simp_all; done))])⟩)
theorem contFuncTie_ok (l : List Tie) (g : FuncId) (caps : List D) (p : Tie → Bool) (hp : ∀ q ∈ l, SCall Tryz.prog g (aTie q :: capsD caps) (rB (p q))) (h1 : l.length ≤ maxLen) : SCall Tryz.prog 126 [aTies l, aF g caps] (rB (l.any p)) := by
  refine SCall.of X126_ok (fn := Tryz.f126) (c := Tryz.f126.body.getD .skip) (dr := fun n => look 0 [] n) Tryz.func126 rfl (by kernel_rfl) (by kernel_rfl) (by kernel_rfl) ?_
  obtain ⟨f, hf⟩ : ∃ f : List Tie → Int, f = fun l => idxF p l 0 := ⟨_, rfl⟩
  have hO : SOraOK Tryz.prog (oraL [(162, wCl dcTies g caps (fun l => rI (f l)) (fun m => [Same m l]))]) := by subst hf; exact oraL_cons (wCl_ok fun m h => by obtain rfl := (h _ (.head _)).out; exact idxFuncTie_ok m g caps p hp h1) oraL_nil
  refine SEx.go (X := X126) X126_ok (fun n => look [] [] n) (fun _ => none) hO 60 ?_
  intro M R L N hM hAnd hImp hR hL hN
  cases M
  cbv
  repeat' first | (refine hAnd _ _ ?_ ?_) | (refine hImp _ _ (fun h => ?_)) | (refine hR _ ?_) | (refine hL _ _ (Hd.out ?_); try first | rw [hks] | rw [hk2] | rw [hk3]) | (refine hN _ _ ?_; cbv)
  all_goals (clear hAnd hImp hR hL hN; try clear hks; try clear hk2; try clear hk3)
  all_goals (cases hM; try dsimp only)
  all_goals (try simp only [Bool.not_eq_true', Bool.not_eq_false', decide_eq_true_eq, decide_eq_false_iff_not, Int.not_le, Int.not_lt, beq_iff_eq, beq_eq_false_iff_ne, ne_eq, Int.ofNat_eq_natCast, Int.toNat_natCast, List.length_replicate, ncast, Nat.sub_zero, List.drop_zero, Cue.eta, Tie.eta, Edge.eta, Link.eta, Node.eta] at *)
  all_goals first
    | exact ⟨rfl⟩
    | (rw [← idxF_any p l 0, hf]; rfl)
theorem idxFuncNode_ok (l : List Node) (g : FuncId) (caps : List D) (p : Node → Bool) (hp : ∀ q ∈ l, SCall Tryz.prog g (aNode q :: capsD caps) (rB (p q))) (h1 : l.length ≤ maxLen) : SCall Tryz.prog 146 [aNodes l, aF g caps] (rI (idxF p l 0)) := by
  refine SCall.of X146_ok (fn := Tryz.f146) (c := Tryz.f146.body.getD .skip) (dr := fun n => look 0 [] n) Tryz.func146 rfl (by kernel_rfl) (by kernel_rfl) (by kernel_rfl) ?_
  unfold maxLen at h1
  have hO : SOraOK Tryz.prog (oraP dcNode g caps l p) := oraP_ok hp
  refine SEx.go (X := X146) X146_ok (fun n => look [] [(2, [0, 1, 7, 8])] n) (fun _ => none) hO 60 ?_
  intro M R L N hM hAnd hImp hR hL hN
  cases M
  cbv
  repeat' first | (refine hAnd _ _ ?_ ?_) | (refine hImp _ _ (fun h => ?_)) | (refine hR _ ?_) | (refine hL _ _ (Hd.out ?_); generalize hks : (List.cons _ _ : List K) = ks) | (refine hN _ _ ?_; cbv)
  all_goals (clear hAnd hImp hR hL hN)
  all_goals (cases hM; try dsimp only)
  all_goals (try simp only [Bool.not_eq_true', Bool.not_eq_false', decide_eq_true_eq, decide_eq_false_iff_not, Int.not_le, Int.not_lt, beq_iff_eq, beq_eq_false_iff_ne, ne_eq, Int.ofNat_eq_natCast, Int.toNat_natCast, List.length_replicate, ncast, Nat.sub_zero, List.drop_zero, Cue.eta, Tie.eta, Edge.eta, Link.eta, Node.eta] at *)
  obtain ⟨n, hn⟩ : ∃ n, n = l.length := ⟨_, rfl⟩
  refine ⟨SEx.same (SEx.idx n (fun i => ⟨19, [(0, bL (.node false none l)), (1, .v (false, [.fz (.fn g caps)])), (7, bI n), (8, bI i)], []⟩) (fun i => rI (idxF p (l.drop i) i)) ?_) (by rw [hn]; rfl) rfl⟩
  intro i hi ih
  rw [← hks]
  refine SEx.go (X := X146) X146_ok (fun n => look [] [(2, [0, 1, 7, 8])] n) (fun _ => none) hO 60 ?_
  intro M R L N hM hAnd hImp hR hL hN
  cases M
  cbv
  repeat' first | (refine hAnd _ _ ?_ ?_) | (refine hImp _ _ (fun h => ?_)) | (refine hR _ ?_) | (refine hL _ _ (Hd.out ?_); try first | rw [hks] | rw [hk2] | rw [hk3]) | (refine hN _ _ ?_; cbv)
  all_goals (clear hAnd hImp hR hL hN; try clear hks; try clear hk2; try clear hk3)
  all_goals (cases hM; try dsimp only)
  all_goals (try simp only [Bool.not_eq_true', Bool.not_eq_false', decide_eq_true_eq, decide_eq_false_iff_not, Int.not_le, Int.not_lt, beq_iff_eq, beq_eq_false_iff_ne, ne_eq, Int.ofNat_eq_natCast, Int.toNat_natCast, List.length_replicate, ncast, Nat.sub_zero, List.drop_zero, Cue.eta, Tie.eta, Edge.eta, Link.eta, Node.eta] at *)
  all_goals first
    | omega
    | exact ⟨rfl, by cases caps <;> rfl⟩
    | exact ⟨rfl, rfl⟩
    | exact mem_getD (z := Node.z) (by omega)
    | (rw [idxF_yes (p := p) (l := l) (i := i) Node.z (by omega) (by first | assumption | exact beq_iff_eq.2 (by assumption))]; rfl)
    | (rw [idxF_end (by omega)]; rfl)
    | (simp only [wrap_succ (show i < 9223372036854775807 by omega)]; exact ⟨(ih (by omega)).same rfl (by rw [idxF_no (p := p) (l := l) (i := i) Node.z (by omega) (by first | assumption | exact beq_eq_false_iff_ne.2 (by assumption) | (simp_all; done))])⟩)
theorem idxFuncIs_ok (l : List (List Int)) (g : FuncId) (caps : List D) (p : (List Int) → Bool) (hp : ∀ q ∈ l, SCall Tryz.prog g (aIs q :: capsD caps) (rB (p q))) (h1 : l.length ≤ maxLen) : SCall Tryz.prog 119 [aIss l, aF g caps] (rI (idxF p l 0)) := by
  refine SCall.of X119_ok (fn := Tryz.f119) (c := Tryz.f119.body.getD .skip) (dr := fun n => look 0 [] n) Tryz.func119 rfl (by kernel_rfl) (by kernel_rfl) (by kernel_rfl) ?_
  unfold maxLen at h1
  have hO : SOraOK Tryz.prog (oraP dcIs g caps l p) := oraP_ok hp
  refine SEx.go (X := X119) X119_ok (fun n => look [] [(2, [0, 1, 7, 8])] n) (fun _ => none) hO 60 ?_
  intro M R L N hM hAnd hImp hR hL hN
  cases M
  cbv
  repeat' first | (refine hAnd _ _ ?_ ?_) | (refine hImp _ _ (fun h => ?_)) | (refine hR _ ?_) | (refine hL _ _ (Hd.out ?_); generalize hks : (List.cons _ _ : List K) = ks) | (refine hN _ _ ?_; cbv)
  all_goals (clear hAnd hImp hR hL hN)
  all_goals (cases hM; try dsimp only)
  all_goals (try simp only [Bool.not_eq_true', Bool.not_eq_false', decide_eq_true_eq, decide_eq_false_iff_not, Int.not_le, Int.not_lt, beq_iff_eq, beq_eq_false_iff_ne, ne_eq, Int.ofNat_eq_natCast, Int.toNat_natCast, List.length_replicate, ncast, Nat.sub_zero, List.drop_zero, Cue.eta, Tie.eta, Edge.eta, Link.eta, Node.eta] at *)
  obtain ⟨n, hn⟩ : ∃ n, n = l.length := ⟨_, rfl⟩
  refine ⟨SEx.same (SEx.idx n (fun i => ⟨19, [(0, bL (.ii false none l)), (1, .v (false, [.fz (.fn g caps)])), (7, bI n), (8, bI i)], []⟩) (fun i => rI (idxF p (l.drop i) i)) ?_) (by rw [hn]; rfl) rfl⟩
  intro i hi ih
  rw [← hks]
  refine SEx.go (X := X119) X119_ok (fun n => look [] [(2, [0, 1, 7, 8])] n) (fun _ => none) hO 60 ?_
  intro M R L N hM hAnd hImp hR hL hN
  cases M
  cbv
  repeat' first | (refine hAnd _ _ ?_ ?_) | (refine hImp _ _ (fun h => ?_)) | (refine hR _ ?_) | (refine hL _ _ (Hd.out ?_); try first | rw [hks] | rw [hk2] | rw [hk3]) | (refine hN _ _ ?_; cbv)
  all_goals (clear hAnd hImp hR hL hN; try clear hks; try clear hk2; try clear hk3)
  all_goals (cases hM; try dsimp only)
  all_goals (try simp only [Bool.not_eq_true', Bool.not_eq_false', decide_eq_true_eq, decide_eq_false_iff_not, Int.not_le, Int.not_lt, beq_iff_eq, beq_eq_false_iff_ne, ne_eq, Int.ofNat_eq_natCast, Int.toNat_natCast, List.length_replicate, ncast, Nat.sub_zero, List.drop_zero, Cue.eta, Tie.eta, Edge.eta, Link.eta, Node.eta] at *)
  all_goals first
    | omega
    | exact ⟨rfl, by cases caps <;> rfl⟩
    | exact ⟨rfl, rfl⟩
    | exact mem_getD (z := ([] : List Int)) (by omega)
    | (rw [idxF_yes (p := p) (l := l) (i := i) ([] : List Int) (by omega) (by first | assumption | exact beq_iff_eq.2 (by assumption))]; rfl)
    | (rw [idxF_end (by omega)]; rfl)
    | (simp only [wrap_succ (show i < 9223372036854775807 by omega)]; exact ⟨(ih (by omega)).same rfl (by rw [idxF_no (p := p) (l := l) (i := i) ([] : List Int) (by omega) (by first | assumption | exact beq_eq_false_iff_ne.2 (by assumption) | (simp_all; done))])⟩)
theorem contFuncIs_ok (l : List (List Int)) (g : FuncId) (caps : List D) (p : (List Int) → Bool) (hp : ∀ q ∈ l, SCall Tryz.prog g (aIs q :: capsD caps) (rB (p q))) (h1 : l.length ≤ maxLen) : SCall Tryz.prog 87 [aIss l, aF g caps] (rB (l.any p)) := by
  refine SCall.of X87_ok (fn := Tryz.f87) (c := Tryz.f87.body.getD .skip) (dr := fun n => look 0 [] n) Tryz.func87 rfl (by kernel_rfl) (by kernel_rfl) (by kernel_rfl) ?_
  obtain ⟨f, hf⟩ : ∃ f : List (List Int) → Int, f = fun l => idxF p l 0 := ⟨_, rfl⟩
  have hO : SOraOK Tryz.prog (oraL [(119, wCl dcIss g caps (fun l => rI (f l)) (fun m => [Same m l]))]) := by subst hf; exact oraL_cons (wCl_ok fun m h => by obtain rfl := (h _ (.head _)).out; exact idxFuncIs_ok m g caps p hp h1) oraL_nil
  refine SEx.go (X := X87) X87_ok (fun n => look [] [] n) (fun _ => none) hO 60 ?_
  intro M R L N hM hAnd hImp hR hL hN
  cases M
  cbv
  repeat' first | (refine hAnd _ _ ?_ ?_) | (refine hImp _ _ (fun h => ?_)) | (refine hR _ ?_) | (refine hL _ _ (Hd.out ?_); try first | rw [hks] | rw [hk2] | rw [hk3]) | (refine hN _ _ ?_; cbv)
  all_goals (clear hAnd hImp hR hL hN; try clear hks; try clear hk2; try clear hk3)
  all_goals (cases hM; try dsimp only)
  all_goals (try simp only [Bool.not_eq_true', Bool.not_eq_false', decide_eq_true_eq, decide_eq_false_iff_not, Int.not_le, Int.not_lt, beq_iff_eq, beq_eq_false_iff_ne, ne_eq, Int.ofNat_eq_natCast, Int.toNat_natCast, List.length_replicate, ncast, Nat.sub_zero, List.drop_zero, Cue.eta, Tie.eta, Edge.eta, Link.eta, Node.eta] at *)
  all_goals first
    | exact ⟨rfl⟩
    | (rw [← idxF_any p l 0, hf]; rfl)
theorem indexI_ok (l : List Int) (v : Int) (h1 : l.length ≤ maxLen) : SCall Tryz.prog 170 [aIs l, aI v] (rI (idxF (fun x => v == x) l 0)) := by
  refine SCall.of X170_ok (fn := Tryz.f170) (c := Tryz.f170.body.getD .skip) (dr := fun n => look 0 [] n) Tryz.func170 rfl (by kernel_rfl) (by kernel_rfl) (by kernel_rfl) ?_
  unfold maxLen at h1
  refine SEx.go (X := X170) X170_ok (fun n => look [] [(2, [0, 1, 7, 8])] n) (fun _ => none) oraL_nil 60 ?_
  intro M R L N hM hAnd hImp hR hL hN
  cases M
  cbv
  repeat' first | (refine hAnd _ _ ?_ ?_) | (refine hImp _ _ (fun h => ?_)) | (refine hR _ ?_) | (refine hL _ _ (Hd.out ?_); generalize hks : (List.cons _ _ : List K) = ks) | (refine hN _ _ ?_; cbv)
  all_goals (clear hAnd hImp hR hL hN)
  all_goals (cases hM; try dsimp only)
  all_goals (try simp only [Bool.not_eq_true', Bool.not_eq_false', decide_eq_true_eq, decide_eq_false_iff_not, Int.not_le, Int.not_lt, beq_iff_eq, beq_eq_false_iff_ne, ne_eq, Int.ofNat_eq_natCast, Int.toNat_natCast, List.length_replicate, ncast, Nat.sub_zero, List.drop_zero, Cue.eta, Tie.eta, Edge.eta, Link.eta, Node.eta] at *)
  obtain ⟨n, hn⟩ : ∃ n, n = l.length := ⟨_, rfl⟩
  refine ⟨SEx.same (SEx.idx n (fun i => ⟨19, [(0, bL (.i l)), (1, bI v), (7, bI n), (8, bI i)], []⟩) (fun i => rI (idxF (fun x => v == x) (l.drop i) i)) ?_) (by rw [hn]; rfl) rfl⟩
  intro i hi ih
  rw [← hks]
  refine SEx.go (X := X170) X170_ok (fun n => look [] [(2, [0, 1, 7, 8])] n) (fun _ => none) oraL_nil 60 ?_
  intro M R L N hM hAnd hImp hR hL hN
  cases M
  cbv
  repeat' first | (refine hAnd _ _ ?_ ?_) | (refine hImp _ _ (fun h => ?_)) | (refine hR _ ?_) | (refine hL _ _ (Hd.out ?_); try first | rw [hks] | rw [hk2] | rw [hk3]) | (refine hN _ _ ?_; cbv)
  all_goals (clear hAnd hImp hR hL hN; try clear hks; try clear hk2; try clear hk3)
  all_goals (cases hM; try dsimp only)
  all_goals (try simp only [Bool.not_eq_true', Bool.not_eq_false', decide_eq_true_eq, decide_eq_false_iff_not, Int.not_le, Int.not_lt, beq_iff_eq, beq_eq_false_iff_ne, ne_eq, Int.ofNat_eq_natCast, Int.toNat_natCast, List.length_replicate, ncast, Nat.sub_zero, List.drop_zero, Cue.eta, Tie.eta, Edge.eta, Link.eta, Node.eta] at *)
  all_goals first
    | omega
    | exact ⟨rfl, by cases caps <;> rfl⟩
    | exact ⟨rfl, rfl⟩
    | exact mem_getD (z := (0 : Int)) (by omega)
    | (rw [idxF_yes (p := fun x => v == x) (l := l) (i := i) (0 : Int) (by omega) (by first | assumption | exact beq_iff_eq.2 (by assumption))]; rfl)
    | (rw [idxF_end (by omega)]; rfl)
    | (simp only [wrap_succ (show i < 9223372036854775807 by omega)]; exact ⟨(ih (by omega)).same rfl (by rw [idxF_no (p := fun x => v == x) (l := l) (i := i) (0 : Int) (by omega) (by first | assumption | exact beq_eq_false_iff_ne.2 (by assumption) | (simp_all; done))])⟩)
def wIndexI (f : List Int → Int → Int) : Wr := w2 dcIs dcI (fun l v => rI (f l v)) (fun l _ => [LLe l maxLen])
theorem wIndexI_ok : WrOK Tryz.prog 170 (wIndexI fun l v => idxF (fun x => v == x) l 0) := w2_ok fun l v h => indexI_ok l v (h _ (.head _)).out
end Go.Proofs.YtececadpjelanaaGreat.Ai
namespace Go.Proofs.YtececadpjelanaaGreat.Ai
open Go
set_option maxRecDepth 100000
set_option linter.unusedVariables false
set_option linter.unusedSimpArgs false
set_option linter.unusedSectionVars false
variable [MemoCtx]
def inB (n lo hi : Int) : Bool := decide (lo ≤ n ∧ n ≤ hi)
def bt (s : ByteArray) (i : Nat) : Int := (s[i]?.getD 0).toNat
def nameC (s : ByteArray) (i : Nat) : Bool := decide (97 ≤ bt s i ∧ bt s i ≤ 122 ∨ i ≠ 0 ∧ 48 ≤ bt s i ∧ bt s i ≤ 57)
def nameL (s : ByteArray) (i : Nat) : Bool := (List.range' i (s.size - i)).all (nameC s) && decide (1 ≤ s.size ∧ s.size ≤ 8)
theorem nameL_lt {s : ByteArray} {i : Nat} (h : i < s.size) : nameL s i = (nameC s i && nameL s (i + 1)) := by
  unfold nameL
  rw [show s.size - i = (s.size - (i + 1)) + 1 by omega, List.range'_succ, List.all_cons, Bool.and_assoc]
theorem nameL_no {s : ByteArray} {i : Nat} (h : i < s.size) (hc : ¬ (97 ≤ bt s i ∧ bt s i ≤ 122 ∨ i ≠ 0 ∧ 48 ≤ bt s i ∧ bt s i ≤ 57)) : nameL s i = false := by
  rw [nameL_lt h, nameC, decide_eq_false hc, Bool.false_and]
theorem nameL_yes {s : ByteArray} {i : Nat} (h : i < s.size) (hc : 97 ≤ bt s i ∧ bt s i ≤ 122 ∨ i ≠ 0 ∧ 48 ≤ bt s i ∧ bt s i ≤ 57) : nameL s i = nameL s (i + 1) := by
  rw [nameL_lt h, nameC, decide_eq_true hc, Bool.true_and]
theorem nameL_ge {s : ByteArray} {i : Nat} (h : s.size ≤ i) : nameL s i = decide (1 ≤ s.size ∧ s.size ≤ 8) := by
  unfold nameL
  rw [show s.size - i = 0 by omega]
  simp
theorem l01In_ok (a b c : Int) : SCall Tryz.prog 70 [aI a, aI b, aI c] (rB (inB a b c)) := by
  refine SCall.of X70_ok (fn := Tryz.f70) (c := Tryz.f70.body.getD .skip) (dr := fun n => look 0 [] n) Tryz.func70 rfl (by kernel_rfl) (by kernel_rfl) (by kernel_rfl) ?_
  refine SEx.walk (X := X70) X70_ok (fun n => look [] [] n) oraL_nil 100 ?_
  intro M R L N hM hR hL hN
  cases M
  cbv
  cases hM
  try dsimp only
  repeat' first | apply And.intro | (intro h; try simp only [Bool.not_eq_true', Bool.not_eq_false', decide_eq_true_eq, decide_eq_false_iff_not, Int.not_le, Int.not_lt, beq_iff_eq, beq_eq_false_iff_ne, ne_eq, Int.ofNat_eq_natCast, Int.toNat_natCast, List.length_replicate, ncast, Nat.sub_zero, List.drop_zero, Cue.eta, Tie.eta, Edge.eta, Link.eta, Node.eta] at h) | (refine hR _ ?_) | (refine hL _ _ (Hd.out ?_)) | (refine hN _ _ (Hd.out ?_))
  all_goals simp only [er_B, inB]
  all_goals (rw [Bool.eq_iff_iff]; simp; try omega)
def wInB (f : Int → Int → Int → Bool) : Wr := w3 dcI dcI dcI (fun x y z => rB (f x y z)) (fun _ _ _ => [])
theorem wInB_ok : WrOK Tryz.prog 70 (wInB inB) := w3_ok fun x y z _ => l01In_ok x y z
theorem specIsName_ok (s : ByteArray) (hs : s.size ≤ maxLen) : SCall Tryz.prog 164 [aS s] (rB (nameL s 0)) := by
  refine SCall.of X164_ok (fn := Tryz.f164) (c := Tryz.f164.body.getD .skip) (dr := fun n => look 0 [] n) Tryz.func164 rfl (by kernel_rfl) (by kernel_rfl) (by kernel_rfl) ?_
  obtain ⟨f, hf⟩ : ∃ f, f = inB := ⟨_, rfl⟩
  have hO : SOraOK Tryz.prog (oraL [(70, wInB f)]) := by subst hf; exact oraL_cons wInB_ok oraL_nil
  unfold maxLen at hs
  refine SEx.walk (X := X164) X164_ok (fun n => look [] [(2, [0, 3])] n) hO 100 ?_
  intro M R L N hM hR hL hN
  cases M
  cbv
  cases hM
  try dsimp only
  refine hL _ _ ?_
  clear hR hL hN R L N
  generalize hks : (List.cons _ _ : List K) = ks
  refine SEx.same (SEx.ind (fun i : Nat => ⟨42, [(0, .v (false, [.fz (.str s)])), (3, .v (false, [.fz (.int .i64 i)]))], []⟩) (fun i => rB (nameL s i)) (fun i => i ≤ s.size) (fun i => s.size - i) 0 (Nat.zero_le _) ?_) rfl rfl
  intro i hi ih
  rw [← hks]
  refine SEx.walk (X := X164) X164_ok (fun n => look [] [(2, [0, 3])] n) hO 100 ?_
  intro M R L N hM hR hL hN
  cases M
  cbv
  cases hM
  try dsimp only
  repeat' first | apply And.intro | (intro h; try simp only [Bool.not_eq_true', Bool.not_eq_false', decide_eq_true_eq, decide_eq_false_iff_not, Int.not_le, Int.not_lt, beq_iff_eq, beq_eq_false_iff_ne, ne_eq, Int.ofNat_eq_natCast, Int.toNat_natCast, List.length_replicate, ncast, Nat.sub_zero, List.drop_zero, Cue.eta, Tie.eta, Edge.eta, Link.eta, Node.eta] at h) | (refine hR _ ?_) | (refine hL _ _ (Hd.out ?_)) | (refine hN _ _ (Hd.out ?_))
  all_goals simp only [Int.ofNat_eq_natCast, hks, er_B]
  all_goals (try simp only [wrap_succ (show i < 9223372036854775807 by omega)])
  all_goals first
    | omega
    | (rw [nameL_no] <;> (try unfold bt) <;> omega)
    | (rw [nameL_yes (by omega) (by unfold bt; omega)]; exact ⟨ih (i + 1) (by omega) (by omega)⟩)
    | (rw [hf, nameL_ge (by omega)]; unfold inB; rw [Bool.eq_iff_iff]; simp only [decide_eq_true_eq]; omega)
theorem implIsName_ok (s : ByteArray) (hs : s.size ≤ maxLen) : SCall Tryz.prog 168 [aS s] (rB (nameL s 0)) := by
  refine SCall.of X168_ok (fn := Tryz.f168) (c := Tryz.f168.body.getD .skip) (dr := fun n => look 0 [(4, 22)] n) Tryz.func168 rfl (by kernel_rfl) (by kernel_rfl) (by kernel_rfl) ?_
  unfold maxLen at hs
  refine SEx.walk (X := X168) X168_ok (fun n => look [] [(2, [0, 3])] n) oraL_nil 100 ?_
  intro M R L N hM hR hL hN
  cases M
  cbv
  cases hM
  try dsimp only
  refine hL _ _ ?_
  clear hR hL hN R L N
  generalize hks : (List.cons _ _ : List K) = ks
  refine SEx.same (SEx.ind (fun i : Nat => ⟨50, [(0, .v (false, [.fz (.str s)])), (3, .v (false, [.fz (.int .i64 i)]))], []⟩) (fun i => rB (nameL s i)) (fun i => i ≤ s.size) (fun i => s.size - i) 0 (Nat.zero_le _) ?_) rfl rfl
  intro i hi ih
  rw [← hks]
  refine SEx.walk (X := X168) X168_ok (fun n => look [] [(2, [0, 3])] n) oraL_nil 100 ?_
  intro M R L N hM hR hL hN
  cases M
  cbv
  cases hM
  try dsimp only
  repeat' first | apply And.intro | (intro h; try simp only [Bool.not_eq_true', Bool.not_eq_false', decide_eq_true_eq, decide_eq_false_iff_not, Int.not_le, Int.not_lt, beq_iff_eq, beq_eq_false_iff_ne, ne_eq, Int.ofNat_eq_natCast, Int.toNat_natCast, List.length_replicate, ncast, Nat.sub_zero, List.drop_zero, Cue.eta, Tie.eta, Edge.eta, Link.eta, Node.eta] at h) | (refine hR _ ?_) | (refine hL _ _ (Hd.out ?_)) | (refine hN _ _ (Hd.out ?_))
  all_goals simp only [Int.ofNat_eq_natCast, hks, er_B]
  all_goals (try simp only [wrap_succ (show i < 9223372036854775807 by omega)])
  all_goals first
    | omega
    | (rw [nameL_no] <;> (try unfold bt) <;> omega)
    | (rw [nameL_yes (by omega) (by unfold bt; omega)]; exact ⟨ih (i + 1) (by omega) (by omega)⟩)
    | (rw [nameL_ge (by omega), Bool.eq_iff_iff]; simp only [decide_eq_true_eq, Bool.false_eq_true, false_iff]; omega)
def wNameS (f : ByteArray → Bool) : Wr := w1 dcS (fun x => rB (f x)) (fun x => [SLen x])
theorem wNameS_ok : WrOK Tryz.prog 164 (wNameS (nameL · 0)) := w1_ok fun x h => specIsName_ok x (h _ List.mem_cons_self).out
theorem wNameI_ok : WrOK Tryz.prog 168 (wNameS (nameL · 0)) := w1_ok fun x h => implIsName_ok x (h _ List.mem_cons_self).out
end Go.Proofs.YtececadpjelanaaGreat.Ai
namespace Go.Proofs.YtececadpjelanaaGreat.Ai
open Go
set_option maxRecDepth 100000
set_option linter.unusedVariables false
set_option linter.unusedSimpArgs false
set_option linter.unusedSectionVars false
variable [MemoCtx]
def szL {α : Type} (l : List α) (n : Int) : Int := if n < l.length then -1 else n - l.length
theorem szIntS_ok (l : List Int) (n : Int) (hs : l.length ≤ maxLen) (hn : 0 ≤ n ∧ n ≤ 9223372036854775807) : SCall Tryz.prog 39 [aIs l, aI n] (rI (szL l n)) := by
  refine SCall.of X39_ok (fn := Tryz.f39) (c := Tryz.f39.body.getD .skip) (dr := fun n => look 0 [] n) Tryz.func39 rfl (by kernel_rfl) (by kernel_rfl) (by kernel_rfl) ?_
  unfold maxLen at hs
  refine SEx.go (X := X39) X39_ok (fun n => look [] [] n) (fun _ => none) oraL_nil 60 ?_
  intro M R L N hM hAnd hImp hR hL hN
  cases M
  cbv
  repeat' first | (refine hAnd _ _ ?_ ?_) | (refine hImp _ _ (fun h => ?_)) | (refine hR _ ?_) | (refine hL _ _ (Hd.out ?_); try first | rw [hks] | rw [hk2] | rw [hk3]) | (refine hN _ _ ?_; cbv)
  all_goals (clear hAnd hImp hR hL hN; try clear hks; try clear hk2; try clear hk3)
  all_goals (cases hM; try dsimp only)
  all_goals (try simp only [Bool.not_eq_true', Bool.not_eq_false', decide_eq_true_eq, decide_eq_false_iff_not, Int.not_le, Int.not_lt, beq_iff_eq, beq_eq_false_iff_ne, ne_eq, Int.ofNat_eq_natCast, Int.toNat_natCast, List.length_replicate, ncast, Nat.sub_zero, List.drop_zero, Cue.eta, Tie.eta, Edge.eta, Link.eta, Node.eta] at *)
  all_goals rw [wrap_i64 (by omega) (by omega)] at *
  all_goals simp only [er_I, szL]
  all_goals split <;> omega
def fillL {α : Type} (z : α) (l : List α) (n i : Nat) : List α := l.take i ++ List.replicate (n - i) z
theorem fillL_len {α : Type} {z : α} {l : List α} {n i : Nat} (h : l.length = n) (hi : i ≤ n) : (fillL z l n i).length = n := by simp [fillL]; omega
theorem fillL_succ {α : Type} {z d : α} {l : List α} {n i : Nat} (h : l.length = n) (hi : i < n) : (fillL z l n i).set i (l.getD i d) = fillL z l n (i + 1) := by
  have hl : i < l.length := by omega
  unfold fillL
  rw [show n - i = (n - (i + 1)) + 1 by omega, List.replicate_succ, List.set_append_right _ _ (by simp; omega)]
  rw [show i - (l.take i).length = 0 by simp; omega, List.set_cons_zero, List.take_add_one, List.getElem?_eq_getElem hl]
  simp only [Option.toList_some, List.append_assoc, List.singleton_append, List.getD_eq_getElem?_getD, List.getElem?_eq_getElem hl, Option.getD_some]
theorem fillL_all {α : Type} {z : α} {l : List α} {n : Nat} (h : l.length = n) : fillL z l n n = l := by simp [fillL, ← h]
theorem toIntS_ok (l : List Int) (hs : l.length ≤ 1048576) : SCall Tryz.prog 23 [aIs l] (rIs l) := by
  refine SCall.of X23_ok (fn := Tryz.f23) (c := Tryz.f23.body.getD .skip) (dr := fun n => look 0 [] n) Tryz.func23 rfl (by kernel_rfl) (by kernel_rfl) (by kernel_rfl) ?_
  refine SEx.go (X := X23) X23_ok (fun n => look [] [(3, [0, 3, 4])] n) (fun _ => none) oraL_nil 60 ?_
  intro M R L N hM hAnd hImp hR hL hN
  cases M
  cbv
  repeat' first | (refine hAnd _ _ ?_ ?_) | (refine hImp _ _ (fun h => ?_)) | (refine hR _ ?_) | (refine hL _ _ (Hd.out ?_); generalize hks : (List.cons _ _ : List K) = ks) | (refine hN _ _ ?_; cbv)
  all_goals (clear hAnd hImp hR hL hN)
  all_goals (cases hM; try dsimp only)
  all_goals (try simp only [Bool.not_eq_true', Bool.not_eq_false', decide_eq_true_eq, decide_eq_false_iff_not, Int.not_le, Int.not_lt, beq_iff_eq, beq_eq_false_iff_ne, ne_eq, Int.ofNat_eq_natCast, Int.toNat_natCast, List.length_replicate, ncast, Nat.sub_zero, List.drop_zero, Cue.eta, Tie.eta, Edge.eta, Link.eta, Node.eta] at *)
  · have := lim_ge; omega
  generalize hn : l.length = n at *
  refine ⟨SEx.same (SEx.ind (fun i : Nat => ⟨22, [(0, .v (false, [.fz (.sl (.i l))])), (3, .v (false, [.rf (12288, []) true 0 n])), (4, .v (false, [.fz (.int .i64 i)]))], [(12288, .osl (.i (fillL 0 l n i)))]⟩) (fun _ => rIs l) (fun i => i ≤ n) (fun i => n - i) 0 (Nat.zero_le _) ?_) rfl rfl⟩
  intro i hi ih
  rw [← hks]
  obtain ⟨fl, hfl⟩ : ∃ x, x = fillL 0 l n i := ⟨_, rfl⟩
  have hf := fillL_len (z := (0 : Int)) hn hi
  rw [← hfl] at hf ⊢
  refine SEx.go (X := X23) X23_ok (fun n => look [] [(3, [0, 3, 4])] n) (fun _ => none) oraL_nil 60 ?_
  intro M R L N hM hAnd hImp hR hL hN
  cases M
  cbv
  repeat' first | (refine hAnd _ _ ?_ ?_) | (refine hImp _ _ (fun h => ?_)) | (refine hR _ ?_) | (refine hL _ _ (Hd.out ?_); try first | rw [hks] | rw [hk2] | rw [hk3]) | (refine hN _ _ ?_; cbv)
  all_goals (clear hAnd hImp hR hL hN; try clear hks; try clear hk2; try clear hk3)
  all_goals (cases hM; try dsimp only)
  all_goals (try simp only [Bool.not_eq_true', Bool.not_eq_false', decide_eq_true_eq, decide_eq_false_iff_not, Int.not_le, Int.not_lt, beq_iff_eq, beq_eq_false_iff_ne, ne_eq, Int.ofNat_eq_natCast, Int.toNat_natCast, List.length_replicate, ncast, Nat.sub_zero, List.drop_zero, Cue.eta, Tie.eta, Edge.eta, Link.eta, Node.eta] at *)
  all_goals first
    | omega
    | (simp only [wrap_succ (show i < 9223372036854775807 by omega), hfl, fillL_succ hn (show i < n by omega)]; exact ⟨ih (i + 1) (by omega) (by omega)⟩)
    | (obtain rfl : i = n := by omega
       rw [hfl, fillL_all hn]; rfl)
def wToIntS : Wr := w1 dcIs rIs (fun l => [LLe l 1048576])
theorem wToIntS_ok : WrOK Tryz.prog 23 wToIntS := w1_ok fun l h => toIntS_ok l (h _ (.head _)).out
def wSzIntS : Wr := w2 dcIs dcI (fun l n => rI (szL l n)) (fun l n => [LLe l maxLen, IRng n])
theorem wSzIntS_ok : WrOK Tryz.prog 39 wSzIntS := w2_ok fun l n h => szIntS_ok l n (h _ (.head _)).out (h _ (.tail _ (.head _))).out
theorem eqIntS_ok (l : List Int) (hs : l.length ≤ maxLen) : SCall Tryz.prog 25 [aIs l, aIs l] (rB true) := by
  refine SCall.of X25_ok (fn := Tryz.f25) (c := Tryz.f25.body.getD .skip) (dr := fun n => look 0 [(6, 8)] n) Tryz.func25 rfl (by kernel_rfl) (by kernel_rfl) (by kernel_rfl) ?_
  unfold maxLen at hs
  refine SEx.go (X := X25) X25_ok (fun n => look [] [(4, [0, 1, 5])] n) (fun _ => none) oraL_nil 60 ?_
  intro M R L N hM hAnd hImp hR hL hN
  cases M
  cbv
  repeat' first | (refine hAnd _ _ ?_ ?_) | (refine hImp _ _ (fun h => ?_)) | (refine hR _ ?_) | (refine hL _ _ (Hd.out ?_); generalize hks : (List.cons _ _ : List K) = ks) | (refine hN _ _ ?_; cbv)
  all_goals (clear hAnd hImp hR hL hN)
  all_goals (cases hM; try dsimp only)
  all_goals (try simp only [Bool.not_eq_true', Bool.not_eq_false', decide_eq_true_eq, decide_eq_false_iff_not, Int.not_le, Int.not_lt, beq_iff_eq, beq_eq_false_iff_ne, ne_eq, Int.ofNat_eq_natCast, Int.toNat_natCast, List.length_replicate, ncast, Nat.sub_zero, List.drop_zero, Cue.eta, Tie.eta, Edge.eta, Link.eta, Node.eta] at *)
  · exact absurd trivial (by assumption)
  generalize hn : l.length = n at *
  refine ⟨SEx.same (SEx.ind (fun i : Nat => ⟨26, [(0, .v (false, [.fz (.sl (.i l))])), (1, .v (false, [.fz (.sl (.i l))])), (5, .v (false, [.fz (.int .i64 i)]))], []⟩) (fun _ => rB true) (fun i => i ≤ n) (fun i => n - i) 0 (Nat.zero_le _) ?_) rfl rfl⟩
  intro i hi ih
  rw [← hks]
  refine SEx.go (X := X25) X25_ok (fun n => look [] [(4, [0, 1, 5])] n) (fun _ => none) oraL_nil 60 ?_
  intro M R L N hM hAnd hImp hR hL hN
  cases M
  cbv
  repeat' first | (refine hAnd _ _ ?_ ?_) | (refine hImp _ _ (fun h => ?_)) | (refine hR _ ?_) | (refine hL _ _ (Hd.out ?_); try first | rw [hks] | rw [hk2] | rw [hk3]) | (refine hN _ _ ?_; cbv)
  all_goals (clear hAnd hImp hR hL hN; try clear hks; try clear hk2; try clear hk3)
  all_goals (cases hM; try dsimp only)
  all_goals (try simp only [Bool.not_eq_true', Bool.not_eq_false', decide_eq_true_eq, decide_eq_false_iff_not, Int.not_le, Int.not_lt, beq_iff_eq, beq_eq_false_iff_ne, ne_eq, Int.ofNat_eq_natCast, Int.toNat_natCast, List.length_replicate, ncast, Nat.sub_zero, List.drop_zero, Cue.eta, Tie.eta, Edge.eta, Link.eta, Node.eta] at *)
  all_goals first
    | omega
    | exact absurd trivial (by assumption)
    | rfl
    | (simp only [wrap_succ (show i < 9223372036854775807 by omega)]; exact ⟨ih (i + 1) (by omega) (by omega)⟩)
def wEqIntS : Wr := w2 dcIs dcIs (fun _ _ => rB true) (fun l m => [Same l m, LLe l maxLen])
theorem wEqIntS_ok : WrOK Tryz.prog 25 wEqIntS := w2_ok fun l m h => by
  obtain rfl := (h _ (.head _)).out
  exact eqIntS_ok l (h _ (.tail _ (.head _))).out
end Go.Proofs.YtececadpjelanaaGreat.Ai
namespace Go.Proofs.YtececadpjelanaaGreat.Ai
open Go
set_option maxRecDepth 100000
set_option linter.unusedVariables false
set_option linter.unusedSimpArgs false
set_option linter.unusedSectionVars false
variable [MemoCtx]
def wR (n : Nat) : V1 B := (false, [.rf (lrt 0, []) true 0 n])
def bI1 (n : Int) : V1 B := (false, [.fz (.int .i64 n)])
def markI (k : Int) (n : Nat) : List Int := (List.range n).map fun j => k + (j : Nat)
theorem markI_len (k : Int) (n : Nat) : (markI k n).length = n := by simp [markI]
theorem markI_succ (k : Int) (n : Nat) : markI k (n + 1) = markI k n ++ [k + n] := by simp [markI, List.range_succ]
theorem wrap_inc {q : Int} (h0 : -9223372036854775808 ≤ q) (h : q < 9223372036854775807) : IntKind.i64.wrap (q + 1) = q + 1 := by
  simp [IntKind.wrap, IntKind.bits, IntKind.signed]; omega
theorem mark_step {k : Int} {i : Nat} {l : List Int} (hi : i < l.length) : (markI k i ++ l.drop i).set i (k + i) = markI k (i + 1) ++ l.drop (i + 1) := by
  rw [List.set_append_right _ _ (by rw [markI_len]; omega), markI_len, Nat.sub_self, markI_succ, List.append_assoc, List.drop_eq_getElem_cons hi]; rfl
theorem markIntS_ok (l : List Int) (k : Int) (hl : l.length ≤ maxLen) (hk : 0 ≤ k ∧ k + l.length ≤ 4611686018427387904) :
    SCallW Tryz.prog 26 [wR l.length, bI1 k] [(lrt 0, .osl (.i l))] [.rf (lrt 0, []) true 0 l.length] (.v (bI1 (k + l.length))) [(lrt 0, .osl (.i (markI k l.length)))] [.rf (lrt 0, []) true 0 l.length] := by
  refine SCallW.of X26_ok (fn := Tryz.f26) (c := Tryz.f26.body.getD .skip) (dr := fun n => look 0 [] n) (r := (_, _, _)) Tryz.func26 rfl (by kernel_rfl) (by kernel_rfl) (by kernel_rfl) ?_
  generalize hn : l.length = n at *
  refine SExW.go (X := X26) X26_ok (fun n => look [] [(2, [0, 1, 5, 4294967296])] n) (fun _ => none) oraL_nil 60 1 ?_
  intro M R L N hM hAnd hImp hR hL hN
  cases M
  cbv
  repeat' first | (refine hAnd _ _ ?_ ?_) | (refine hImp _ _ (fun h => ?_)) | (refine hR _ ?_) | (refine hL _ _ (Hd.out ?_); generalize hks : (List.cons _ _ : List K) = ks) | (refine hN _ _ ?_; cbv)
  all_goals (clear hAnd hImp hR hL hN)
  all_goals (cases hM; try dsimp only)
  all_goals (try simp only [Bool.not_eq_true', Bool.not_eq_false', decide_eq_true_eq, decide_eq_false_iff_not, Int.not_le, Int.not_lt, beq_iff_eq, beq_eq_false_iff_ne, ne_eq, Int.ofNat_eq_natCast, Int.toNat_natCast, List.length_replicate, ncast, Nat.sub_zero, List.drop_zero, Cue.eta, Tie.eta, Edge.eta, Link.eta, Node.eta] at *)
  refine ⟨SExW.same (SExW.idx n (fun i => ⟨19, [(0, bR 41000000 n), (1, bI (k + i)), (5, bI i), (4294967296, bR 41000000 n)], [(41000000, .osl (.i (markI k i ++ l.drop i)))]⟩) (fun _ => (.v (bI1 (k + n)), [(lrt 0, .osl (.i (markI k n)))], [.rf (lrt 0, []) true 0 n])) ?_) ?_ ⟨rfl, rfl, rfl⟩⟩
  rotate_left
  · rw [show k + ((0 : Nat) : Int) = k by omega]; rfl
  intro i hi ih
  rw [← hks]
  obtain ⟨c, hc⟩ : ∃ c, c = markI k i ++ l.drop i := ⟨_, rfl⟩
  have hcl : c.length = n := by rw [hc, List.length_append, markI_len, List.length_drop]; omega
  rw [← hc]
  obtain ⟨q, hq⟩ : ∃ q, q = k + (i : Int) := ⟨_, rfl⟩
  rw [← hq]
  unfold maxLen at hl
  refine SExW.go (X := X26) X26_ok (fun n => look [] [(2, [0, 1, 5, 4294967296])] n) (fun _ => none) oraL_nil 60 1 ?_
  intro M R L N hM hAnd hImp hR hL hN
  cases M
  cbv
  repeat' first | (refine hAnd _ _ ?_ ?_) | (refine hImp _ _ (fun h => ?_)) | (refine hR _ ?_) | (refine hL _ _ (Hd.out ?_); try rw [hks]) | (refine hN _ _ ?_; cbv)
  all_goals (clear hAnd hImp hR hL hN; try clear hks)
  all_goals (cases hM; try dsimp only)
  all_goals (try simp only [Bool.not_eq_true', Bool.not_eq_false', decide_eq_true_eq, decide_eq_false_iff_not, Int.not_le, Int.not_lt, beq_iff_eq, beq_eq_false_iff_ne, ne_eq, Int.ofNat_eq_natCast, Int.toNat_natCast, List.length_replicate, ncast, Nat.sub_zero, List.drop_zero, Cue.eta, Tie.eta, Edge.eta, Link.eta, Node.eta] at *)
  all_goals first
    | omega
    | (have hin : i = n := by omega
       subst hin
       rw [List.drop_eq_nil_of_le (by omega), List.append_nil] at hc
       subst hc; subst hq
       refine ⟨?_, ?_, ?_⟩ <;> rfl)
    | (simp only [wrap_succ (show i < 9223372036854775807 by omega), wrap_inc (q := q) (by omega) (by omega)]
       refine ⟨(ih (by omega)).same ?_ ⟨rfl, rfl, rfl⟩⟩
       rw [hc, hq, mark_step (k := k) (i := i) (l := l) (by omega)]
       rw [show k + ((i + 1 : Nat) : Int) = k + i + 1 by omega, show ((i + 1 : Nat) : Int) = i + 1 by omega]
       rfl)
def dch (k : Int) : ByteArray := ⟨(List.map (fun n => UInt8.ofNat n.toNat) [IntKind.u8.wrap (IntKind.i64.wrap (48 + k.tmod 10))]).toArray⟩
theorem dch_size (k : Int) : (dch k).size = 1 := rfl
def digT : Nat → Int → ByteArray → ByteArray
  | 0, _, out => out
  | n + 1, k, out => if 0 < k then digT n (k.tdiv 10) (dch k ++ out) else out
theorem tdiv_lt {k : Int} (h : 0 < k) : 0 ≤ k.tdiv 10 ∧ k.tdiv 10 < k := by
  rw [Int.tdiv_eq_ediv_of_nonneg (by omega)]; omega
theorem digT_fuel : ∀ (n m : Nat) (k : Int) (out : ByteArray), k.toNat ≤ n → k.toNat ≤ m → digT n k out = digT m k out
  | 0, 0, _, _, _, _ => rfl
  | 0, m + 1, k, out, h, _ => by simp only [digT]; rw [if_neg (by omega)]
  | n + 1, 0, k, out, _, h => by simp only [digT]; rw [if_neg (by omega)]
  | n + 1, m + 1, k, out, h1, h2 => by
    simp only [digT]
    split
    · rename_i h
      have := tdiv_lt h
      exact digT_fuel n m _ _ (by omega) (by omega)
    · rfl
theorem digT_step {k : Int} (out : ByteArray) (h : 0 < k) : digT k.toNat k out = digT (k.tdiv 10).toNat (k.tdiv 10) (dch k ++ out) := by
  have := tdiv_lt h
  obtain ⟨n, hn⟩ : ∃ n, k.toNat = n + 1 := ⟨k.toNat - 1, by omega⟩
  rw [hn]
  simp only [digT]
  rw [if_pos h]
  exact digT_fuel _ _ _ _ (by omega) (by omega)
def mS : ByteArray := ⟨⟨[109]⟩⟩
def mT (k : Int) : ByteArray := mS ++ digT k.toNat k ⟨⟨[]⟩⟩
theorem markText_ok (k : Int) (hk : 0 < k ∧ k ≤ 4611686018427387904) : SCall Tryz.prog 84 [aI k] (rS (mT k)) := by
  refine SCall.of X84_ok (fn := Tryz.f84) (c := Tryz.f84.body.getD .skip) (dr := fun n => look 0 [] n) Tryz.func84 rfl (by kernel_rfl) (by kernel_rfl) (by kernel_rfl) ?_
  refine SEx.go (X := X84) X84_ok (fun n => look [] [(4, [0, 3])] n) (fun _ => none) oraL_nil 60 ?_
  intro M R L N hM hAnd hImp hR hL hN
  cases M
  cbv
  repeat' first | (refine hAnd _ _ ?_ ?_) | (refine hImp _ _ (fun h => ?_)) | (refine hR _ ?_) | (refine hL _ _ (Hd.out ?_); generalize hks : (List.cons _ _ : List K) = ks) | (refine hN _ _ ?_; cbv)
  all_goals (clear hAnd hImp hR hL hN)
  all_goals (cases hM; try dsimp only)
  all_goals (try simp only [Bool.not_eq_true', Bool.not_eq_false', decide_eq_true_eq, decide_eq_false_iff_not, Int.not_le, Int.not_lt, beq_iff_eq, beq_eq_false_iff_ne, ne_eq, Int.ofNat_eq_natCast, Int.toNat_natCast, List.length_replicate, ncast, Nat.sub_zero, List.drop_zero, Cue.eta, Tie.eta, Edge.eta, Link.eta, Node.eta] at *)
  · exfalso; omega
  refine ⟨SEx.same (SEx.ind (α := Int × ByteArray) (fun x => ⟨20, [(0, bI x.1), (3, bS x.2)], []⟩) (fun x => rS (mS ++ digT x.1.toNat x.1 x.2)) (fun x => 0 ≤ x.1 ∧ x.2.size + x.1 ≤ 4611686018427387904) (fun x => x.1.toNat) (k, ⟨⟨[]⟩⟩) ⟨by omega, by show (0 : Int) + k ≤ _; omega⟩ ?_) rfl rfl⟩
  rintro ⟨q, out⟩ ⟨hq0, hq1⟩ ih
  simp only at hq0 hq1 ih ⊢
  rw [← hks]
  refine SEx.go (X := X84) X84_ok (fun n => look [] [(4, [0, 3])] n) (fun _ => none) oraL_nil 60 ?_
  intro M R L N hM hAnd hImp hR hL hN
  cases M
  cbv
  repeat' first | (refine hAnd _ _ ?_ ?_) | (refine hImp _ _ (fun h => ?_)) | (refine hR _ ?_) | (refine hL _ _ (Hd.out ?_); try first | rw [hks] | rw [hk2] | rw [hk3]) | (refine hN _ _ ?_; cbv)
  all_goals (clear hAnd hImp hR hL hN; try clear hks; try clear hk2; try clear hk3)
  all_goals (cases hM; try dsimp only)
  all_goals (try simp only [Bool.not_eq_true', Bool.not_eq_false', decide_eq_true_eq, decide_eq_false_iff_not, Int.not_le, Int.not_lt, beq_iff_eq, beq_eq_false_iff_ne, ne_eq, Int.ofNat_eq_natCast, Int.toNat_natCast, List.length_replicate, ncast, Nat.sub_zero, List.drop_zero, Cue.eta, Tie.eta, Edge.eta, Link.eta, Node.eta] at *)
  all_goals first
    | exact ⟨⟩
    | (intro h; cases h; done)
    | rfl
    | (show (dch q).size + out.size ≤ _; rw [dch_size]; omega)
    | (have h2 := tdiv_lt (k := q) (by assumption)
       rw [wrap_i64 (by omega) (by omega)]
       exact ⟨(ih (q.tdiv 10, dch q ++ out) ⟨h2.1, by show ((dch q ++ out).size : Int) + _ ≤ _; rw [ByteArray.size_append, dch_size]; show ((1 + out.size : Nat) : Int) + q.tdiv 10 ≤ _; omega⟩ (by show (q.tdiv 10).toNat < _; omega)).same rfl (by rw [digT_step out (by assumption)])⟩)
    | (have hq : q = 0 := by omega
       subst hq; rfl)
    | trace_state
structure IPos (k : Int) : Prop where out : 0 < k ∧ k ≤ 4611686018427387904
def wMarkT (f : Int → ByteArray) : Wr := w1 dcI (fun k => rS (f k)) (fun k => [IPos k])
structure MkI {α : Type} (p : SP) (n m : Nat) (l : List α) (k : Int) : Prop where out : p = (lrt 0, []) ∧ m = n ∧ l.length = n ∧ n ≤ maxLen ∧ 0 ≤ k ∧ k + n ≤ 4611686018427387904
structure IAdd (k : Int) (n : Nat) : Prop where out : 0 ≤ k ∧ k + n ≤ 4611686018427387904
def addI (k : Int) (n : Nat) : Int := k + n
def wMarkI (f : Int → Nat → List Int) (g : Int → Nat → Int) : WrW
  | [(false, [.rf p true 0 n]), (false, [.fz (.int .i64 k)])], [(.sl m, .osl (.i l))] => some ([MkI p n m l k], (.v (bI1 (g k n)), [(lrt 0, .osl (.i (f k n)))], [.rf (lrt 0, []) true 0 n]))
  | [(false, [.rf p true 0 n]), (false, [.fz (.int .i64 k)])], [(.sl m, .onil)] => some ([MkI p n m ([] : List Int) k], (.v (bI1 k), [(lrt 0, .onil)], [.rf (lrt 0, []) true 0 n]))
  | _, _ => none
theorem wMarkI_ok : WrWOK Tryz.prog 26 (wMarkI markI addI) := by
  intro xs ls
  unfold wMarkI
  split
  · refine R.Sim.mk fun hp => ?_
    obtain ⟨rfl, rfl, rfl, h1, h2, h3⟩ := (hp _ (.head _)).out
    exact markIntS_ok _ _ h1 ⟨h2, h3⟩
  · refine R.Sim.mk fun hp => ?_
    obtain ⟨rfl, rfl, h0, h1, h2, h3⟩ := (hp _ (.head _)).out
    cases h0
    rename_i k
    have := markIntS_ok [] k h1 ⟨h2, h3⟩
    rw [show k + (([] : List Int).length : Int) = k by simp] at this
    exact this
  · exact R.Sim.none'
theorem markI_getD {k : Int} {n i : Nat} (h : i < n) : (markI k n).getD i 0 = k + i := by
  rw [getD_get (by rw [markI_len]; exact h)]; simp [markI]
theorem heldIntS_ok (k : Int) (n : Nat) (h1 : n ≤ maxLen) (hk : 0 ≤ k ∧ k + n ≤ 4611686018427387904) : SCall Tryz.prog 30 [aIs (markI k n), aI k] (rI (addI k n)) := by
  refine SCall.of X30_ok (fn := Tryz.f30) (c := Tryz.f30.body.getD .skip) (dr := fun n => look 0 [] n) Tryz.func30 rfl (by kernel_rfl) (by kernel_rfl) (by kernel_rfl) ?_
  obtain ⟨c, hc⟩ : ∃ c, c = markI k n := ⟨_, rfl⟩
  have hcl : c.length = n := by rw [hc, markI_len]
  rw [← hc]
  refine SEx.go (X := X30) X30_ok (fun n => look [] [(2, [0, 1, 5])] n) (fun _ => none) oraL_nil 60 ?_
  intro M R L N hM hAnd hImp hR hL hN
  cases M
  cbv
  repeat' first | (refine hAnd _ _ ?_ ?_) | (refine hImp _ _ (fun h => ?_)) | (refine hR _ ?_) | (refine hL _ _ (Hd.out ?_); generalize hks : (List.cons _ _ : List K) = ks) | (refine hN _ _ ?_; cbv)
  all_goals (clear hAnd hImp hR hL hN)
  all_goals (cases hM; try dsimp only)
  all_goals (try simp only [Bool.not_eq_true', Bool.not_eq_false', decide_eq_true_eq, decide_eq_false_iff_not, Int.not_le, Int.not_lt, beq_iff_eq, beq_eq_false_iff_ne, ne_eq, Int.ofNat_eq_natCast, Int.toNat_natCast, List.length_replicate, ncast, Nat.sub_zero, List.drop_zero, Cue.eta, Tie.eta, Edge.eta, Link.eta, Node.eta] at *)
  refine ⟨SEx.same (SEx.idx n (fun i => ⟨21, [(0, bL (.i c)), (1, bI (k + i)), (5, bI i)], []⟩) (fun _ => rI (addI k n)) ?_) (by rw [show k + ((0 : Nat) : Int) = k by omega]; rfl) rfl⟩
  intro i hi ih
  rw [← hks]
  obtain ⟨q, hq⟩ : ∃ q, q = k + (i : Int) := ⟨_, rfl⟩
  have hg : i < n → c.getD i 0 = q := fun h => by rw [hc, hq, markI_getD h]
  rw [← hq]
  unfold maxLen at h1
  refine SEx.go (X := X30) X30_ok (fun n => look [] [(2, [0, 1, 5])] n) (fun _ => none) oraL_nil 60 ?_
  intro M R L N hM hAnd hImp hR hL hN
  cases M
  cbv
  repeat' first | (refine hAnd _ _ ?_ ?_) | (refine hImp _ _ (fun h => ?_)) | (refine hR _ ?_) | (refine hL _ _ (Hd.out ?_); try first | rw [hks] | rw [hk2] | rw [hk3]) | (refine hN _ _ ?_; cbv)
  all_goals (clear hAnd hImp hR hL hN; try clear hks; try clear hk2; try clear hk3)
  all_goals (cases hM; try dsimp only)
  all_goals (try simp only [Bool.not_eq_true', Bool.not_eq_false', decide_eq_true_eq, decide_eq_false_iff_not, Int.not_le, Int.not_lt, beq_iff_eq, beq_eq_false_iff_ne, ne_eq, Int.ofNat_eq_natCast, Int.toNat_natCast, List.length_replicate, ncast, Nat.sub_zero, List.drop_zero, Cue.eta, Tie.eta, Edge.eta, Link.eta, Node.eta] at *)
  all_goals first
    | omega
    | (exfalso; have := hg (by omega); first | contradiction | (simp_all; done))
    | (simp only [wrap_succ (show i < 9223372036854775807 by omega), wrap_inc (q := q) (by omega) (by omega)]
       refine ⟨(ih (by omega)).same ?_ rfl⟩
       rw [hq, show k + ((i + 1 : Nat) : Int) = k + i + 1 by omega, show ((i + 1 : Nat) : Int) = i + 1 by omega]
       rfl)
    | (obtain rfl : i = n := by omega
       subst hq; rfl)
    | trace_state
def wHeldI (g : Int → Nat → Int) (f : Int → Nat → List Int) (ln : List Int → Nat) : Wr := w2 dcIs dcI (fun l k => rI (g k (ln l))) (fun l k => [Same l (f k (ln l)), LLe l maxLen, IAdd k (ln l)])
theorem wHeldI_ok : WrOK Tryz.prog 30 (wHeldI addI markI List.length) := w2_ok fun l k h => by
  have e := (h _ (.head _)).out
  have h1 := (h _ (.tail _ (.head _))).out
  have h2 := (h _ (.tail _ (.tail _ (.head _)))).out
  have := heldIntS_ok k l.length h1 h2
  rwa [← e] at this
end Go.Proofs.YtececadpjelanaaGreat.Ai
namespace Go.Proofs.YtececadpjelanaaGreat.Ai
open Go
set_option maxRecDepth 100000
set_option linter.unusedVariables false
set_option linter.unusedSimpArgs false
set_option linter.unusedSectionVars false
variable [MemoCtx]
def l01InB (a b c : Int) : Bool := decide (b ≤ a) && decide (a ≤ c)
theorem in01_ok (a b c : Int) : SCall Tryz.prog 70 [aI a, aI b, aI c] (rB (l01InB a b c)) := by
  refine SCall.of X70_ok (fn := Tryz.f70) (c := Tryz.f70.body.getD .skip) (dr := fun n => look 0 [] n) Tryz.func70 rfl (by kernel_rfl) (by kernel_rfl) (by kernel_rfl) ?_
  refine SEx.go (X := X70) X70_ok (fun n => look [] [] n) (fun _ => none) oraL_nil 60 ?_
  intro M R L N hM hAnd hImp hR hL hN
  cases M
  cbv
  repeat' first | (refine hAnd _ _ ?_ ?_) | (refine hImp _ _ (fun h => ?_)) | (refine hR _ ?_) | (refine hL _ _ (Hd.out ?_); try first | rw [hks] | rw [hk2] | rw [hk3]) | (refine hN _ _ ?_; cbv)
  all_goals (clear hAnd hImp hR hL hN; try clear hks; try clear hk2; try clear hk3)
  all_goals (cases hM; try dsimp only)
  all_goals (try simp only [Bool.not_eq_true', Bool.not_eq_false', decide_eq_true_eq, decide_eq_false_iff_not, Int.not_le, Int.not_lt, beq_iff_eq, beq_eq_false_iff_ne, ne_eq, Int.ofNat_eq_natCast, Int.toNat_natCast, List.length_replicate, ncast, Nat.sub_zero, List.drop_zero, Cue.eta, Tie.eta, Edge.eta, Link.eta, Node.eta] at *)
  · simp only [er_B, l01InB]
    rw [decide_eq_true (show b ≤ a by assumption), Bool.true_and]
  · simp only [er_B, l01InB]
    rw [decide_eq_false (show ¬ b ≤ a by omega), Bool.false_and]
theorem wrap_u64 {n : Nat} (h : n < 18446744073709551616) : IntKind.u64.wrap (n : Int) = (n : Int) := by
  simp [IntKind.wrap, IntKind.bits, IntKind.signed]; omega
def wL01 (f : Int → Int → Int → Bool) : Wr := w3 dcI dcI dcI (fun a b c => rB (f a b c)) (fun _ _ _ => [])
theorem wL01_ok : WrOK Tryz.prog 70 (wL01 l01InB) := w3_ok fun a b c _ => in01_ok a b c
end Go.Proofs.YtececadpjelanaaGreat.Ai
namespace Go.Proofs.YtececadpjelanaaGreat.Ai
open Go
set_option maxRecDepth 100000
set_option linter.unusedVariables false
set_option linter.unusedSimpArgs false
set_option linter.unusedSectionVars false
variable [MemoCtx]
def rUs (l : List Int) : TV W := .v (false, [.osl (.i l)])
end Go.Proofs.YtececadpjelanaaGreat.Ai
namespace Go.Proofs.YtececadpjelanaaGreat.Ai
open Go
set_option maxRecDepth 100000
set_option linter.unusedVariables false
set_option linter.unusedSimpArgs false
set_option linter.unusedSectionVars false
variable [MemoCtx]
structure InX {α : Type} (c : Int) (l : List α) : Prop where out : 0 ≤ c ∧ c < l.length
def isNodeB (n x : Int) : Bool := decide (0 ≤ x ∧ x < n)
theorem isNode_ok (n m : Int) : SCall Tryz.prog 138 [aI n, aI m] (rB (isNodeB n m)) := by
  refine SCall.of X138_ok (fn := Tryz.f138) (c := Tryz.f138.body.getD .skip) (dr := fun n => look 0 [] n) Tryz.func138 rfl (by kernel_rfl) (by kernel_rfl) (by kernel_rfl) ?_
  refine SEx.go (X := X138) X138_ok (fun n => look [] [] n) (fun _ => none) oraL_nil 60 ?_
  intro M R L N hM hAnd hImp hR hL hN
  cases M
  cbv
  repeat' first | (refine hAnd _ _ ?_ ?_) | (refine hImp _ _ (fun h => ?_)) | (refine hR _ ?_) | (refine hL _ _ (Hd.out ?_); try first | rw [hks] | rw [hk2] | rw [hk3]) | (refine hN _ _ ?_; cbv)
  all_goals (clear hAnd hImp hR hL hN; try clear hks; try clear hk2; try clear hk3)
  all_goals (cases hM; try dsimp only)
  all_goals (try simp only [Bool.not_eq_true', Bool.not_eq_false', decide_eq_true_eq, decide_eq_false_iff_not, Int.not_le, Int.not_lt, beq_iff_eq, beq_eq_false_iff_ne, ne_eq, Int.ofNat_eq_natCast, Int.toNat_natCast, List.length_replicate, ncast, Nat.sub_zero, List.drop_zero, Cue.eta, Tie.eta, Edge.eta, Link.eta, Node.eta] at *)
  all_goals simp only [er_B, isNodeB]
  all_goals (first | (rw [decide_eq_false (by omega)]; done) | (symm; apply decide_eq_decide.2; omega) | (rw [Bool.eq_iff_iff]; simp; omega))
def wIsNode (f : Int → Int → Bool) : Wr := w2 dcI dcI (fun x y => rB (f x y)) (fun _ _ => [])
theorem wIsNode_ok : WrOK Tryz.prog 138 (wIsNode isNodeB) := w2_ok fun x y _ => isNode_ok x y
end Go.Proofs.YtececadpjelanaaGreat.Ai
namespace Go.Proofs.YtececadpjelanaaGreat.Ai
open Go
set_option maxRecDepth 100000
set_option linter.unusedVariables false
set_option linter.unusedSimpArgs false
set_option linter.unusedSectionVars false
variable [MemoCtx]
theorem szTieS_ok (l : List Tie) (n : Int) (hs : l.length ≤ maxLen) (hn : 0 ≤ n ∧ n ≤ 9223372036854775807) : SCall Tryz.prog 38 [aTies l, aI n] (rI (szL l n)) := by
  refine SCall.of X38_ok (fn := Tryz.f38) (c := Tryz.f38.body.getD .skip) (dr := fun n => look 0 [] n) Tryz.func38 rfl (by kernel_rfl) (by kernel_rfl) (by kernel_rfl) ?_
  unfold maxLen at hs
  refine SEx.go (X := X38) X38_ok (fun n => look [] [] n) (fun _ => none) oraL_nil 60 ?_
  intro M R L N hM hAnd hImp hR hL hN
  cases M
  cbv
  repeat' first | (refine hAnd _ _ ?_ ?_) | (refine hImp _ _ (fun h => ?_)) | (refine hR _ ?_) | (refine hL _ _ (Hd.out ?_); try first | rw [hks] | rw [hk2] | rw [hk3]) | (refine hN _ _ ?_; cbv)
  all_goals (clear hAnd hImp hR hL hN; try clear hks; try clear hk2; try clear hk3)
  all_goals (cases hM; try dsimp only)
  all_goals (try simp only [Bool.not_eq_true', Bool.not_eq_false', decide_eq_true_eq, decide_eq_false_iff_not, Int.not_le, Int.not_lt, beq_iff_eq, beq_eq_false_iff_ne, ne_eq, Int.ofNat_eq_natCast, Int.toNat_natCast, List.length_replicate, ncast, Nat.sub_zero, List.drop_zero, Cue.eta, Tie.eta, Edge.eta, Link.eta, Node.eta] at *)
  all_goals rw [wrap_i64 (by omega) (by omega)] at *
  all_goals simp only [er_I, szL]
  all_goals split <;> omega
def wSzTieS (f : List Tie → Int → Int) : Wr := w2 dcTies dcI (fun l n => rI (f l n)) (fun l n => [LLe l maxLen, IRng n])
theorem wSzTieS_ok : WrOK Tryz.prog 38 (wSzTieS szL) := w2_ok fun l n h => szTieS_ok l n (h _ (.head _)).out (h _ (.tail _ (.head _))).out
theorem toTie_ok (q : Tie) : SCall Tryz.prog 75 [aTie q] (rTie q) := by
  refine SCall.of X75_ok (fn := Tryz.f75) (c := Tryz.f75.body.getD .skip) (dr := fun n => look 0 [] n) Tryz.func75 rfl (by kernel_rfl) (by kernel_rfl) (by kernel_rfl) ?_
  obtain ⟨x1, x2, x3, x4, x5⟩ := q
  refine SEx.go (X := X75) X75_ok (fun n => look [] [] n) (fun _ => none) oraL_nil 60 ?_
  intro M R L N hM hAnd hImp hR hL hN
  cases M
  cbv
  repeat' first | (refine hAnd _ _ ?_ ?_) | (refine hImp _ _ (fun h => ?_)) | (refine hR _ ?_) | (refine hL _ _ (Hd.out ?_); try first | rw [hks] | rw [hk2] | rw [hk3]) | (refine hN _ _ ?_; cbv)
  all_goals (clear hAnd hImp hR hL hN; try clear hks; try clear hk2; try clear hk3)
  all_goals (cases hM; try dsimp only)
  all_goals (try simp only [Bool.not_eq_true', Bool.not_eq_false', decide_eq_true_eq, decide_eq_false_iff_not, Int.not_le, Int.not_lt, beq_iff_eq, beq_eq_false_iff_ne, ne_eq, Int.ofNat_eq_natCast, Int.toNat_natCast, List.length_replicate, ncast, Nat.sub_zero, List.drop_zero, Cue.eta, Tie.eta, Edge.eta, Link.eta, Node.eta] at *)
  all_goals rfl
def wToTie : Wr := w1 dcTie rTie (fun _ => [])
theorem wToTie_ok : WrOK Tryz.prog 75 wToTie := w1_ok fun q _ => toTie_ok q
theorem toTieS_ok (l : List Tie) (hs : l.length ≤ 1048576) : SCall Tryz.prog 45 [aTies l] (rTies l) := by
  refine SCall.of X45_ok (fn := Tryz.f45) (c := Tryz.f45.body.getD .skip) (dr := fun n => look 0 [] n) Tryz.func45 rfl (by kernel_rfl) (by kernel_rfl) (by kernel_rfl) ?_
  have hO : SOraOK Tryz.prog (oraL [(75, wToTie)]) := oraL_cons wToTie_ok oraL_nil
  refine SEx.go (X := X45) X45_ok (fun n => look [] [(3, [0, 3, 4])] n) (fun _ => none) hO 60 ?_
  intro M R L N hM hAnd hImp hR hL hN
  cases M
  cbv
  repeat' first | (refine hAnd _ _ ?_ ?_) | (refine hImp _ _ (fun h => ?_)) | (refine hR _ ?_) | (refine hL _ _ (Hd.out ?_); generalize hks : (List.cons _ _ : List K) = ks) | (refine hN _ _ ?_; cbv)
  all_goals (clear hAnd hImp hR hL hN)
  all_goals (cases hM; try dsimp only)
  all_goals (try simp only [Bool.not_eq_true', Bool.not_eq_false', decide_eq_true_eq, decide_eq_false_iff_not, Int.not_le, Int.not_lt, beq_iff_eq, beq_eq_false_iff_ne, ne_eq, Int.ofNat_eq_natCast, Int.toNat_natCast, List.length_replicate, ncast, Nat.sub_zero, List.drop_zero, Cue.eta, Tie.eta, Edge.eta, Link.eta, Node.eta] at *)
  · have := lim_ge; omega
  generalize hn : l.length = n at *
  refine ⟨SEx.same (SEx.idx n (fun i : Nat => ⟨23, [(0, bL (.tie l)), (3, bR 12288 n), (4, bI i)], [(12288, .osl (.tie (fillL ⟨0, 0, 0, 0, false⟩ l n i)))]⟩) (fun _ => rTies l) ?_) rfl rfl⟩
  intro i hi ih
  rw [← hks]
  obtain ⟨fl, hfl⟩ : ∃ x, x = fillL (⟨0, 0, 0, 0, false⟩ : Tie) l n i := ⟨_, rfl⟩
  have hf := fillL_len (z := (⟨0, 0, 0, 0, false⟩ : Tie)) hn hi
  rw [← hfl] at hf ⊢
  refine SEx.go (X := X45) X45_ok (fun n => look [] [(3, [0, 3, 4])] n) (fun _ => none) hO 60 ?_
  intro M R L N hM hAnd hImp hR hL hN
  cases M
  cbv
  repeat' first | (refine hAnd _ _ ?_ ?_) | (refine hImp _ _ (fun h => ?_)) | (refine hR _ ?_) | (refine hL _ _ (Hd.out ?_); try first | rw [hks] | rw [hk2] | rw [hk3]) | (refine hN _ _ ?_; cbv)
  all_goals (clear hAnd hImp hR hL hN; try clear hks; try clear hk2; try clear hk3)
  all_goals (cases hM; try dsimp only)
  all_goals (try simp only [Bool.not_eq_true', Bool.not_eq_false', decide_eq_true_eq, decide_eq_false_iff_not, Int.not_le, Int.not_lt, beq_iff_eq, beq_eq_false_iff_ne, ne_eq, Int.ofNat_eq_natCast, Int.toNat_natCast, List.length_replicate, ncast, Nat.sub_zero, List.drop_zero, Cue.eta, Tie.eta, Edge.eta, Link.eta, Node.eta] at *)
  all_goals (try simp only [modL_length] at *)
  all_goals (try omega)
  · simp only [wrap_succ (show i < 9223372036854775807 by omega), modL_modL, modL_const, hfl]
    have e := fillL_succ (z := (⟨0, 0, 0, 0, false⟩ : Tie)) (d := Tie.z) hn (show i < n by omega)
    have ih' := ih (by omega)
    rw [← e] at ih'
    exact ⟨ih'⟩
  · obtain rfl : i = n := by omega
    rw [hfl, fillL_all hn]; rfl
def wToTieS : Wr := w1 dcTies rTies (fun l => [LLe l 1048576])
theorem wToTieS_ok : WrOK Tryz.prog 45 wToTieS := w1_ok fun l h => toTieS_ok l (h _ (.head _)).out
theorem eqTie_ok (q : Tie) : SCall Tryz.prog 83 [aTie q, aTie q] (rB true) := by
  refine SCall.of X83_ok (fn := Tryz.f83) (c := Tryz.f83.body.getD .skip) (dr := fun n => look 0 [] n) Tryz.func83 rfl (by kernel_rfl) (by kernel_rfl) (by kernel_rfl) ?_
  obtain ⟨x1, x2, x3, x4, x5⟩ := q
  refine SEx.go (X := X83) X83_ok (fun n => look [] [] n) (fun _ => none) oraL_nil 60 ?_
  intro M R L N hM hAnd hImp hR hL hN
  cases M
  cbv
  repeat' first | (refine hAnd _ _ ?_ ?_) | (refine hImp _ _ (fun h => ?_)) | (refine hR _ ?_) | (refine hL _ _ (Hd.out ?_); try first | rw [hks] | rw [hk2] | rw [hk3]) | (refine hN _ _ ?_; cbv)
  all_goals (clear hAnd hImp hR hL hN; try clear hks; try clear hk2; try clear hk3)
  all_goals (cases hM; try dsimp only)
  all_goals (try simp only [Bool.not_eq_true', Bool.not_eq_false', decide_eq_true_eq, decide_eq_false_iff_not, Int.not_le, Int.not_lt, beq_iff_eq, beq_eq_false_iff_ne, ne_eq, Int.ofNat_eq_natCast, Int.toNat_natCast, List.length_replicate, ncast, Nat.sub_zero, List.drop_zero, Cue.eta, Tie.eta, Edge.eta, Link.eta, Node.eta] at *)
  all_goals first
    | exact absurd trivial (by assumption)
    | rfl
    | (exfalso; simp_all; done)
def wEqTie : Wr := w2 dcTie dcTie (fun _ _ => rB true) (fun q r => [Same q r])
theorem wEqTie_ok : WrOK Tryz.prog 83 wEqTie := w2_ok fun q r h => by
  obtain rfl := (h _ (.head _)).out
  exact eqTie_ok q
theorem eqTieS_ok (l : List Tie) (hs : l.length ≤ maxLen) : SCall Tryz.prog 49 [aTies l, aTies l] (rB true) := by
  refine SCall.of X49_ok (fn := Tryz.f49) (c := Tryz.f49.body.getD .skip) (dr := fun n => look 0 [(6, 8)] n) Tryz.func49 rfl (by kernel_rfl) (by kernel_rfl) (by kernel_rfl) ?_
  unfold maxLen at hs
  have hO : SOraOK Tryz.prog (oraL [(83, wEqTie)]) := oraL_cons wEqTie_ok oraL_nil
  refine SEx.go (X := X49) X49_ok (fun n => look [] [(4, [0, 1, 5])] n) (fun _ => none) hO 60 ?_
  intro M R L N hM hAnd hImp hR hL hN
  cases M
  cbv
  repeat' first | (refine hAnd _ _ ?_ ?_) | (refine hImp _ _ (fun h => ?_)) | (refine hR _ ?_) | (refine hL _ _ (Hd.out ?_); generalize hks : (List.cons _ _ : List K) = ks) | (refine hN _ _ ?_; cbv)
  all_goals (clear hAnd hImp hR hL hN)
  all_goals (cases hM; try dsimp only)
  all_goals (try simp only [Bool.not_eq_true', Bool.not_eq_false', decide_eq_true_eq, decide_eq_false_iff_not, Int.not_le, Int.not_lt, beq_iff_eq, beq_eq_false_iff_ne, ne_eq, Int.ofNat_eq_natCast, Int.toNat_natCast, List.length_replicate, ncast, Nat.sub_zero, List.drop_zero, Cue.eta, Tie.eta, Edge.eta, Link.eta, Node.eta] at *)
  · exact absurd trivial (by assumption)
  generalize hn : l.length = n at *
  refine ⟨SEx.same (SEx.idx n (fun i : Nat => ⟨27, [(0, bL (.tie l)), (1, bL (.tie l)), (5, bI i)], []⟩) (fun _ => rB true) ?_) rfl rfl⟩
  intro i hi ih
  rw [← hks]
  refine SEx.go (X := X49) X49_ok (fun n => look [] [(4, [0, 1, 5])] n) (fun _ => none) hO 60 ?_
  intro M R L N hM hAnd hImp hR hL hN
  cases M
  cbv
  repeat' first | (refine hAnd _ _ ?_ ?_) | (refine hImp _ _ (fun h => ?_)) | (refine hR _ ?_) | (refine hL _ _ (Hd.out ?_); try first | rw [hks] | rw [hk2] | rw [hk3]) | (refine hN _ _ ?_; cbv)
  all_goals (clear hAnd hImp hR hL hN; try clear hks; try clear hk2; try clear hk3)
  all_goals (cases hM; try dsimp only)
  all_goals (try simp only [Bool.not_eq_true', Bool.not_eq_false', decide_eq_true_eq, decide_eq_false_iff_not, Int.not_le, Int.not_lt, beq_iff_eq, beq_eq_false_iff_ne, ne_eq, Int.ofNat_eq_natCast, Int.toNat_natCast, List.length_replicate, ncast, Nat.sub_zero, List.drop_zero, Cue.eta, Tie.eta, Edge.eta, Link.eta, Node.eta] at *)
  all_goals first
    | omega
    | exact absurd trivial (by assumption)
    | rfl
    | exact ⟨rfl⟩
    | contradiction
    | (simp only [wrap_succ (show i < 9223372036854775807 by omega)]; exact ⟨ih (by omega)⟩)
def wEqTieS : Wr := w2 dcTies dcTies (fun _ _ => rB true) (fun l m => [Same l m, LLe l maxLen])
theorem wEqTieS_ok : WrOK Tryz.prog 49 wEqTieS := w2_ok fun l m h => by
  obtain rfl := (h _ (.head _)).out
  exact eqTieS_ok l (h _ (.tail _ (.head _))).out
end Go.Proofs.YtececadpjelanaaGreat.Ai
namespace Go.Proofs.YtececadpjelanaaGreat.Ai
open Go
set_option maxRecDepth 100000
set_option linter.unusedVariables false
set_option linter.unusedSimpArgs false
set_option linter.unusedSectionVars false
variable [MemoCtx]
def szNodeI (q : Node) (n : Int) : Int := if n < q.name.size then -1 else szL q.label (n - q.name.size)
def wSzIntSF (g : List Int → Int → Int) : Wr := w2 dcIs dcI (fun l n => rI (g l n)) (fun l n => [LLe l maxLen, IRng n])
theorem wSzIntSF_ok : WrOK Tryz.prog 39 (wSzIntSF szL) := wSzIntS_ok
theorem szL_le {α : Type} (l : List α) {n : Int} (h : 0 ≤ n) : szL l n ≤ n := by unfold szL; split <;> omega
theorem szNode_ok (q : Node) (n : Int) (hs : q.name.size ≤ maxLen) (hl : q.label.length ≤ maxLen) (hn : 0 ≤ n ∧ n ≤ 9223372036854775807) : SCall Tryz.prog 69 [aNode q, aI n] (rI (szNodeI q n)) := by
  refine SCall.of X69_ok (fn := Tryz.f69) (c := Tryz.f69.body.getD .skip) (dr := fun n => look 0 [] n) Tryz.func69 rfl (by kernel_rfl) (by kernel_rfl) (by kernel_rfl) ?_
  unfold maxLen at hs
  obtain ⟨g, hg⟩ : ∃ g : List Int → Int → Int, g = szL := ⟨_, rfl⟩
  have hO : SOraOK Tryz.prog (oraL [(39, wSzIntSF g)]) := by subst hg; exact oraL_cons wSzIntSF_ok oraL_nil
  obtain ⟨x1, x2, x3⟩ := q
  have hs : x1.size ≤ 2 ^ 63 - 1 := hs
  have hl : x2.length ≤ maxLen := hl
  refine SEx.go (X := X69) X69_ok (fun n => look [] [] n) (fun _ => none) hO 60 ?_
  intro M R L N hM hAnd hImp hR hL hN
  cases M
  cbv
  repeat' first | (refine hAnd _ _ ?_ ?_) | (refine hImp _ _ (fun h => ?_)) | (refine hR _ ?_) | (refine hL _ _ (Hd.out ?_); try first | rw [hks] | rw [hk2] | rw [hk3]) | (refine hN _ _ ?_; cbv)
  all_goals (clear hAnd hImp hR hL hN; try clear hks; try clear hk2; try clear hk3)
  all_goals (cases hM; try dsimp only)
  all_goals (try simp only [Bool.not_eq_true', Bool.not_eq_false', decide_eq_true_eq, decide_eq_false_iff_not, Int.not_le, Int.not_lt, beq_iff_eq, beq_eq_false_iff_ne, ne_eq, Int.ofNat_eq_natCast, Int.toNat_natCast, List.length_replicate, ncast, Nat.sub_zero, List.drop_zero, Cue.eta, Tie.eta, Edge.eta, Link.eta, Node.eta] at *)
  all_goals (try rw [wrap_i64 (by omega) (by omega)] at *)
  all_goals first
    | exact ⟨hl⟩
    | exact ⟨⟨by omega, by omega⟩⟩
    | (simp only [er_I, szNodeI]; rw [if_pos (by omega)]; done)
    | (subst hg; simp only [er_I, szNodeI]; rw [if_neg (by omega)]; done)
    | (subst hg; simp only [er_I, szNodeI]; rw [if_neg (by omega)]; unfold szL at *; split <;> omega)
theorem szNodeI_le (q : Node) {n : Int} (h : 0 ≤ n) : szNodeI q n ≤ n := by
  unfold szNodeI
  split
  · omega
  · have := szL_le q.label (n := n - q.name.size) (by omega)
    omega
structure NodeLe (q : Node) (n : Nat) : Prop where
  name : q.name.size ≤ n
  label : q.label.length ≤ n
theorem szNodeI_ge {q : Node} {n : Int} (h : 0 ≤ szNodeI q n) : (q.name.size : Int) ≤ n ∧ (q.label.length : Int) ≤ n := by
  unfold szNodeI szL at h
  split at h
  · omega
  · split at h <;> omega
def wSzNode (f : Node → Int → Int) : Wr := w2 dcNode dcI (fun q n => rI (f q n)) (fun q n => [NodeLe q maxLen, IRng n])
theorem wSzNode_ok : WrOK Tryz.prog 69 (wSzNode szNodeI) := w2_ok fun q n h => szNode_ok q n (h _ (.head _)).name (h _ (.head _)).label (h _ (.tail _ (.head _))).out
def szF {α : Type} (f : α → Int → Int) : List α → Int → Int
  | [], n => n
  | q :: r, n => if f q n < 0 then -1 else szF f r (f q n)
theorem szF_drop {α : Type} {f : α → Int → Int} {l : List α} {i : Nat} {m : Int} (z : α) (h : i < l.length) : szF f (l.drop i) m = if f (l.getD i z) m < 0 then -1 else szF f (l.drop (i + 1)) (f (l.getD i z) m) := by
  rw [List.drop_eq_getElem_cons h, getD_get h]
  rfl
def szNodeSI (l : List Node) (n : Int) : Int := if n < l.length then -1 else szF szNodeI l (n - l.length)
theorem szNodeS_ok (l : List Node) (n : Int) (hs : l.length ≤ maxLen) (hq : ∀ q ∈ l, NodeLe q maxLen) (hn : 0 ≤ n ∧ n ≤ 9223372036854775807) : SCall Tryz.prog 37 [aNodes l, aI n] (rI (szNodeSI l n)) := by
  refine SCall.of X37_ok (fn := Tryz.f37) (c := Tryz.f37.body.getD .skip) (dr := fun n => look 0 [] n) Tryz.func37 rfl (by kernel_rfl) (by kernel_rfl) (by kernel_rfl) ?_
  unfold maxLen at hs
  obtain ⟨g, hg⟩ : ∃ g, g = szNodeI := ⟨_, rfl⟩
  have hO : SOraOK Tryz.prog (oraL [(69, wSzNode g)]) := by subst hg; exact oraL_cons wSzNode_ok oraL_nil
  refine SEx.go (X := X37) X37_ok (fun n => look [] [(5, [0, 1, 5])] n) (fun _ => none) hO 60 ?_
  intro M R L N hM hAnd hImp hR hL hN
  cases M
  cbv
  repeat' first | (refine hAnd _ _ ?_ ?_) | (refine hImp _ _ (fun h => ?_)) | (refine hR _ ?_) | (refine hL _ _ (Hd.out ?_); generalize hks : (List.cons _ _ : List K) = ks) | (refine hN _ _ ?_; cbv)
  all_goals (clear hAnd hImp hR hL hN)
  all_goals (cases hM; try dsimp only)
  all_goals (try simp only [Bool.not_eq_true', Bool.not_eq_false', decide_eq_true_eq, decide_eq_false_iff_not, Int.not_le, Int.not_lt, beq_iff_eq, beq_eq_false_iff_ne, ne_eq, Int.ofNat_eq_natCast, Int.toNat_natCast, List.length_replicate, ncast, Nat.sub_zero, List.drop_zero, Cue.eta, Tie.eta, Edge.eta, Link.eta, Node.eta] at *)
  · rw [wrap_i64 (by omega) (by omega)] at *
    simp only [er_I, szNodeSI]
    split <;> omega
  rw [wrap_i64 (by omega) (by omega)] at *
  have h0 : 0 ≤ n - l.length := by assumption
  rw [show szNodeSI l n = szF szNodeI (l.drop 0) (n - l.length) by unfold szNodeSI; rw [if_neg (by omega)]; rfl]
  refine ⟨SEx.same (SEx.ind (fun x : Nat × Int => ⟨27, [(0, bL (.node false none l)), (1, .v (false, [.fz (.int .i64 x.2)])), (5, bI x.1)], []⟩) (fun x => rI (szF szNodeI (l.drop x.1) x.2)) (fun x => x.1 ≤ l.length ∧ 0 ≤ x.2 ∧ x.2 ≤ n) (fun x => l.length - x.1) (0, n - l.length) ⟨by omega, h0, by omega⟩ ?_) rfl rfl⟩
  rintro ⟨i, m⟩ ⟨hi, hm1, hm2⟩ ih
  dsimp only at hi hm1 hm2 ih ⊢
  rw [← hks]
  refine SEx.go (X := X37) X37_ok (fun n => look [] [(5, [0, 1, 5])] n) (fun _ => none) hO 60 ?_
  intro M R L N hM hAnd hImp hR hL hN
  cases M
  cbv
  repeat' first | (refine hAnd _ _ ?_ ?_) | (refine hImp _ _ (fun h => ?_)) | (refine hR _ ?_) | (refine hL _ _ (Hd.out ?_); try first | rw [hks] | rw [hk2] | rw [hk3]) | (refine hN _ _ ?_; cbv)
  all_goals (clear hAnd hImp hR hL hN; try clear hks; try clear hk2; try clear hk3)
  all_goals (cases hM; try dsimp only)
  all_goals (try simp only [Bool.not_eq_true', Bool.not_eq_false', decide_eq_true_eq, decide_eq_false_iff_not, Int.not_le, Int.not_lt, beq_iff_eq, beq_eq_false_iff_ne, ne_eq, Int.ofNat_eq_natCast, Int.toNat_natCast, List.length_replicate, ncast, Nat.sub_zero, List.drop_zero, Cue.eta, Tie.eta, Edge.eta, Link.eta, Node.eta] at *)
  all_goals first
    | omega
    | exact hq _ (mem_getD (z := Node.z) (by omega)).out
    | exact ⟨⟨hm1, by omega⟩⟩
    | (subst hg
       have hi' : i < l.length := by omega
       rw [szF_drop Node.z hi', if_pos (by assumption)]
       rfl)
    | (subst hg
       have hi' : i < l.length := by omega
       have h2 : 0 ≤ szNodeI (l.getD i Node.z) m := by assumption
       have h3 := szNodeI_le (l.getD i Node.z) hm1
       simp only [wrap_succ (show i < 9223372036854775807 by omega)]
       exact ⟨(ih (i + 1, szNodeI (l.getD i Node.z) m) ⟨by show i + 1 ≤ l.length; omega, h2, by show szNodeI _ m ≤ n; omega⟩ (by show l.length - (i + 1) < _; omega)).same rfl (by rw [szF_drop Node.z hi', if_neg (by omega)])⟩)
    | (obtain rfl : i = l.length := by omega
       rw [List.drop_length]
       rfl)
    | trace_state
theorem toNode_ok (q : Node) (hl : q.label.length ≤ 1048576) : SCall Tryz.prog 74 [aNode q] (rNode q) := by
  refine SCall.of X74_ok (fn := Tryz.f74) (c := Tryz.f74.body.getD .skip) (dr := fun n => look 0 [] n) Tryz.func74 rfl (by kernel_rfl) (by kernel_rfl) (by kernel_rfl) ?_
  have hO : SOraOK Tryz.prog (oraL [(23, wToIntS)]) := oraL_cons wToIntS_ok oraL_nil
  obtain ⟨x1, x2, x3⟩ := q
  have hl : x2.length ≤ 1048576 := hl
  refine SEx.go (X := X74) X74_ok (fun n => look [] [] n) (fun _ => none) hO 60 ?_
  intro M R L N hM hAnd hImp hR hL hN
  cases M
  cbv
  repeat' first | (refine hAnd _ _ ?_ ?_) | (refine hImp _ _ (fun h => ?_)) | (refine hR _ ?_) | (refine hL _ _ (Hd.out ?_); try first | rw [hks] | rw [hk2] | rw [hk3]) | (refine hN _ _ ?_; cbv)
  all_goals (clear hAnd hImp hR hL hN; try clear hks; try clear hk2; try clear hk3)
  all_goals (cases hM; try dsimp only)
  all_goals (try simp only [Bool.not_eq_true', Bool.not_eq_false', decide_eq_true_eq, decide_eq_false_iff_not, Int.not_le, Int.not_lt, beq_iff_eq, beq_eq_false_iff_ne, ne_eq, Int.ofNat_eq_natCast, Int.toNat_natCast, List.length_replicate, ncast, Nat.sub_zero, List.drop_zero, Cue.eta, Tie.eta, Edge.eta, Link.eta, Node.eta] at *)
  all_goals first
    | rfl
    | exact ⟨hl⟩
theorem eqNode_ok (q : Node) (hl : q.label.length ≤ maxLen) : SCall Tryz.prog 82 [aNode q, aNode q] (rB true) := by
  refine SCall.of X82_ok (fn := Tryz.f82) (c := Tryz.f82.body.getD .skip) (dr := fun n => look 0 [] n) Tryz.func82 rfl (by kernel_rfl) (by kernel_rfl) (by kernel_rfl) ?_
  have hO : SOraOK Tryz.prog (oraL [(25, wEqIntS)]) := oraL_cons wEqIntS_ok oraL_nil
  obtain ⟨x1, x2, x3⟩ := q
  have hl : x2.length ≤ maxLen := hl
  refine SEx.go (X := X82) X82_ok (fun n => look [] [] n) (fun _ => none) hO 60 ?_
  intro M R L N hM hAnd hImp hR hL hN
  cases M
  cbv
  repeat' first | (refine hAnd _ _ ?_ ?_) | (refine hImp _ _ (fun h => ?_)) | (refine hR _ ?_) | (refine hL _ _ (Hd.out ?_); try first | rw [hks] | rw [hk2] | rw [hk3]) | (refine hN _ _ ?_; cbv)
  all_goals (clear hAnd hImp hR hL hN; try clear hks; try clear hk2; try clear hk3)
  all_goals (cases hM; try dsimp only)
  all_goals (try simp only [Bool.not_eq_true', Bool.not_eq_false', decide_eq_true_eq, decide_eq_false_iff_not, Int.not_le, Int.not_lt, beq_iff_eq, beq_eq_false_iff_ne, ne_eq, Int.ofNat_eq_natCast, Int.toNat_natCast, List.length_replicate, ncast, Nat.sub_zero, List.drop_zero, Cue.eta, Tie.eta, Edge.eta, Link.eta, Node.eta] at *)
  all_goals first
    | exact absurd trivial (by assumption)
    | rfl
    | exact ⟨rfl⟩
    | exact ⟨hl⟩
    | (exfalso; simp_all; done)
structure LabLe (q : Node) (n : Nat) : Prop where out : q.label.length ≤ n
def wToNode : Wr := w1 dcNode rNode (fun q => [LabLe q 1048576])
theorem wToNode_ok : WrOK Tryz.prog 74 wToNode := w1_ok fun q h => toNode_ok q (h _ (.head _)).out
def wEqNode : Wr := w2 dcNode dcNode (fun _ _ => rB true) (fun q r => [Same q r, LabLe q maxLen])
theorem wEqNode_ok : WrOK Tryz.prog 82 wEqNode := w2_ok fun q r h => by
  obtain rfl := (h _ (.head _)).out
  exact eqNode_ok q (h _ (.tail _ (.head _))).out
theorem node_fill {fl : List Node} {i : Nat} (h : i < fl.length) (s : ByteArray) (lab : List Int) (w : Int) :
    modL Node.z ((fl.set i ⟨s, (fl.getD i Node.z).2, (fl.getD i Node.z).3⟩).set i ⟨((fl.set i ⟨s, (fl.getD i Node.z).2, (fl.getD i Node.z).3⟩).getD i Node.z).1, lab, ((fl.set i ⟨s, (fl.getD i Node.z).2, (fl.getD i Node.z).3⟩).getD i Node.z).3⟩) i (fun q => ⟨q.name, q.label, w⟩) = fl.set i ⟨s, lab, w⟩ := by
  simp [modL, List.getD_eq_getElem?_getD, h]
theorem toNodeS_ok (l : List Node) (hs : l.length ≤ 1048576) (hl : ∀ q ∈ l, q.label.length ≤ 1048576) : SCall Tryz.prog 44 [aNodes l] (rNodes l) := by
  refine SCall.of X44_ok (fn := Tryz.f44) (c := Tryz.f44.body.getD .skip) (dr := fun n => look 0 [] n) Tryz.func44 rfl (by kernel_rfl) (by kernel_rfl) (by kernel_rfl) ?_
  have hO : SOraOK Tryz.prog (oraL [(74, wToNode)]) := oraL_cons wToNode_ok oraL_nil
  refine SEx.go (X := X44) X44_ok (fun n => look [] [(3, [0, 3, 4])] n) (fun _ => none) hO 60 ?_
  intro M R L N hM hAnd hImp hR hL hN
  cases M
  cbv
  repeat' first | (refine hAnd _ _ ?_ ?_) | (refine hImp _ _ (fun h => ?_)) | (refine hR _ ?_) | (refine hL _ _ (Hd.out ?_); generalize hks : (List.cons _ _ : List K) = ks) | (refine hN _ _ ?_; cbv)
  all_goals (clear hAnd hImp hR hL hN)
  all_goals (cases hM; try dsimp only)
  all_goals (try simp only [Bool.not_eq_true', Bool.not_eq_false', decide_eq_true_eq, decide_eq_false_iff_not, Int.not_le, Int.not_lt, beq_iff_eq, beq_eq_false_iff_ne, ne_eq, Int.ofNat_eq_natCast, Int.toNat_natCast, List.length_replicate, ncast, Nat.sub_zero, List.drop_zero, Cue.eta, Tie.eta, Edge.eta, Link.eta, Node.eta] at *)
  · have := lim_ge; omega
  generalize hn : l.length = n at *
  refine ⟨SEx.same (SEx.idx n (fun i : Nat => ⟨23, [(0, bL (.node false none l)), (3, bR 12288 n), (4, bI i)], [(12288, .osl (.node true none (fillL ⟨⟨#[]⟩, [], 0⟩ l n i)))]⟩) (fun _ => rNodes l) ?_) rfl rfl⟩
  intro i hi ih
  rw [← hks]
  obtain ⟨fl, hfl⟩ : ∃ x, x = fillL (⟨⟨#[]⟩, [], 0⟩ : Node) l n i := ⟨_, rfl⟩
  have hf := fillL_len (z := (⟨⟨#[]⟩, [], 0⟩ : Node)) hn hi
  rw [← hfl] at hf ⊢
  refine SEx.go (X := X44) X44_ok (fun n => look [] [(3, [0, 3, 4])] n) (fun _ => none) hO 60 ?_
  intro M R L N hM hAnd hImp hR hL hN
  cases M
  cbv
  repeat' first | (refine hAnd _ _ ?_ ?_) | (refine hImp _ _ (fun h => ?_)) | (refine hR _ ?_) | (refine hL _ _ (Hd.out ?_); try first | rw [hks] | rw [hk2] | rw [hk3]) | (refine hN _ _ ?_; cbv)
  all_goals (clear hAnd hImp hR hL hN; try clear hks; try clear hk2; try clear hk3)
  all_goals (cases hM; try dsimp only)
  all_goals (try simp only [Bool.not_eq_true', Bool.not_eq_false', decide_eq_true_eq, decide_eq_false_iff_not, Int.not_le, Int.not_lt, beq_iff_eq, beq_eq_false_iff_ne, ne_eq, Int.ofNat_eq_natCast, Int.toNat_natCast, List.length_replicate, ncast, Nat.sub_zero, List.drop_zero, Cue.eta, Tie.eta, Edge.eta, Link.eta, Node.eta] at *)
  all_goals (try simp only [List.length_set, modL_length])
  all_goals (try omega)
  · exact ⟨hl _ (mem_getD (z := Node.z) (by omega)).out⟩
  · simp only [wrap_succ (show i < 9223372036854775807 by omega)]
    have e := fillL_succ (z := (⟨⟨#[]⟩, [], 0⟩ : Node)) (d := Node.z) hn (show i < n by omega)
    have ih' := ih (by omega)
    rw [← e, ← hfl] at ih'
    refine ⟨ih'.same ?_ rfl⟩
    rw [node_fill (by omega)]
    rfl
  · obtain rfl : i = n := by omega
    rw [hfl, fillL_all hn]; rfl
theorem eqNodeS_ok (l : List Node) (hs : l.length ≤ maxLen) (hl : ∀ q ∈ l, q.label.length ≤ maxLen) : SCall Tryz.prog 48 [aNodes l, aNodes l] (rB true) := by
  refine SCall.of X48_ok (fn := Tryz.f48) (c := Tryz.f48.body.getD .skip) (dr := fun n => look 0 [(6, 8)] n) Tryz.func48 rfl (by kernel_rfl) (by kernel_rfl) (by kernel_rfl) ?_
  unfold maxLen at hs
  have hO : SOraOK Tryz.prog (oraL [(82, wEqNode)]) := oraL_cons wEqNode_ok oraL_nil
  refine SEx.go (X := X48) X48_ok (fun n => look [] [(4, [0, 1, 5])] n) (fun _ => none) hO 60 ?_
  intro M R L N hM hAnd hImp hR hL hN
  cases M
  cbv
  repeat' first | (refine hAnd _ _ ?_ ?_) | (refine hImp _ _ (fun h => ?_)) | (refine hR _ ?_) | (refine hL _ _ (Hd.out ?_); generalize hks : (List.cons _ _ : List K) = ks) | (refine hN _ _ ?_; cbv)
  all_goals (clear hAnd hImp hR hL hN)
  all_goals (cases hM; try dsimp only)
  all_goals (try simp only [Bool.not_eq_true', Bool.not_eq_false', decide_eq_true_eq, decide_eq_false_iff_not, Int.not_le, Int.not_lt, beq_iff_eq, beq_eq_false_iff_ne, ne_eq, Int.ofNat_eq_natCast, Int.toNat_natCast, List.length_replicate, ncast, Nat.sub_zero, List.drop_zero, Cue.eta, Tie.eta, Edge.eta, Link.eta, Node.eta] at *)
  · exact absurd trivial (by assumption)
  generalize hn : l.length = n at *
  refine ⟨SEx.same (SEx.idx n (fun i : Nat => ⟨27, [(0, bL (.node false none l)), (1, bL (.node false none l)), (5, bI i)], []⟩) (fun _ => rB true) ?_) rfl rfl⟩
  intro i hi ih
  rw [← hks]
  refine SEx.go (X := X48) X48_ok (fun n => look [] [(4, [0, 1, 5])] n) (fun _ => none) hO 60 ?_
  intro M R L N hM hAnd hImp hR hL hN
  cases M
  cbv
  repeat' first | (refine hAnd _ _ ?_ ?_) | (refine hImp _ _ (fun h => ?_)) | (refine hR _ ?_) | (refine hL _ _ (Hd.out ?_); try first | rw [hks] | rw [hk2] | rw [hk3]) | (refine hN _ _ ?_; cbv)
  all_goals (clear hAnd hImp hR hL hN; try clear hks; try clear hk2; try clear hk3)
  all_goals (cases hM; try dsimp only)
  all_goals (try simp only [Bool.not_eq_true', Bool.not_eq_false', decide_eq_true_eq, decide_eq_false_iff_not, Int.not_le, Int.not_lt, beq_iff_eq, beq_eq_false_iff_ne, ne_eq, Int.ofNat_eq_natCast, Int.toNat_natCast, List.length_replicate, ncast, Nat.sub_zero, List.drop_zero, Cue.eta, Tie.eta, Edge.eta, Link.eta, Node.eta] at *)
  all_goals first
    | omega
    | exact absurd trivial (by assumption)
    | rfl
    | exact ⟨rfl⟩
    | contradiction
    | exact ⟨hl _ (mem_getD (z := Node.z) (by omega)).out⟩
    | (simp only [wrap_succ (show i < 9223372036854775807 by omega)]; exact ⟨ih (by omega)⟩)
structure LabsLe (l : List Node) (n : Nat) : Prop where out : ∀ q ∈ l, q.label.length ≤ n
structure NodesLe (l : List Node) (n : Nat) : Prop where out : ∀ q ∈ l, NodeLe q n
def wSzNodeS (f : List Node → Int → Int) : Wr := w2 dcNodes dcI (fun l n => rI (f l n)) (fun l n => [LLe l maxLen, NodesLe l maxLen, IRng n])
theorem wSzNodeS_ok : WrOK Tryz.prog 37 (wSzNodeS szNodeSI) := w2_ok fun l n h => szNodeS_ok l n (h _ (.head _)).out (h _ (.tail _ (.head _))).out (h _ (.tail _ (.tail _ (.head _)))).out
def wToNodeS : Wr := w1 dcNodes rNodes (fun l => [LLe l 1048576, LabsLe l 1048576])
theorem wToNodeS_ok : WrOK Tryz.prog 44 wToNodeS := w1_ok fun l h => toNodeS_ok l (h _ (.head _)).out (h _ (.tail _ (.head _))).out
def wEqNodeS : Wr := w2 dcNodes dcNodes (fun _ _ => rB true) (fun l m => [Same l m, LLe l maxLen, LabsLe l maxLen])
theorem wEqNodeS_ok : WrOK Tryz.prog 48 wEqNodeS := w2_ok fun l m h => by
  obtain rfl := (h _ (.head _)).out
  exact eqNodeS_ok l (h _ (.tail _ (.head _))).out (h _ (.tail _ (.tail _ (.head _)))).out
end Go.Proofs.YtececadpjelanaaGreat.Ai
namespace Go.Proofs.YtececadpjelanaaGreat.Ai
open Go
set_option maxRecDepth 100000
set_option linter.unusedVariables false
set_option linter.unusedSimpArgs false
set_option linter.unusedSectionVars false
variable [MemoCtx]
def szShowI (t : Show) (n : Int) : Int := if szNodeSI t.nodes n < 0 then -1 else if szL t.ties (szNodeSI t.nodes n) < 0 then -1 else szL t.ties (szNodeSI t.nodes n)
def szStateI (t : State) (n : Int) : Int := if szL t.times n < 0 then -1 else if szL t.vals (szL t.times n) < 0 then -1 else szL t.vals (szL t.times n)
theorem szF_le : ∀ (l : List Node) (n : Int), 0 ≤ n → szF szNodeI l n ≤ n ∧ (0 ≤ szF szNodeI l n → ∀ q ∈ l, (q.name.size : Int) ≤ n ∧ (q.label.length : Int) ≤ n)
  | [], n, h => ⟨Int.le_refl _, fun _ q hq => by cases hq⟩
  | q :: r, n, h => by
    have h0 := szNodeI_le q h
    unfold szF
    by_cases hn : szNodeI q n < 0
    · rw [if_pos hn]; exact ⟨by omega, fun h => by omega⟩
    · rw [if_neg hn]
      have ih := szF_le r (szNodeI q n) (by omega)
      refine ⟨by omega, fun h1 x hx => ?_⟩
      rcases List.mem_cons.1 hx with rfl | hx
      · exact szNodeI_ge (by omega)
      · have := ih.2 h1 x hx; omega
theorem szNodeSI_le {l : List Node} {n : Int} (h : 0 ≤ n) : szNodeSI l n ≤ n ∧ (0 ≤ szNodeSI l n → (l.length : Int) ≤ n ∧ ∀ q ∈ l, (q.name.size : Int) ≤ n ∧ (q.label.length : Int) ≤ n) := by
  unfold szNodeSI
  split
  · exact ⟨by omega, fun h => by omega⟩
  · have := szF_le l (n - l.length) (by omega)
    refine ⟨by omega, fun h1 => ⟨by omega, fun q hq => ?_⟩⟩
    have := this.2 h1 q hq
    omega
theorem szShow_ok (t : Show) (n : Int) (h1 : t.nodes.length ≤ maxLen) (h2 : t.ties.length ≤ maxLen) (h3 : ∀ q ∈ t.nodes, NodeLe q maxLen) (hn : 0 ≤ n ∧ n ≤ 9223372036854775807) : SCall Tryz.prog 9 [aShow t, aI n] (rI (szShowI t n)) := by
  refine SCall.of X9_ok (fn := Tryz.f9) (c := Tryz.f9.body.getD .skip) (dr := fun n => look 0 [] n) Tryz.func9 rfl (by kernel_rfl) (by kernel_rfl) (by kernel_rfl) ?_
  obtain ⟨f, hf⟩ : ∃ f, f = szNodeSI := ⟨_, rfl⟩
  obtain ⟨g, hg⟩ : ∃ g : List Tie → Int → Int, g = szL := ⟨_, rfl⟩
  have hO : SOraOK Tryz.prog (oraL [(37, wSzNodeS f), (38, wSzTieS g)]) := by subst hf hg; exact oraL_cons wSzNodeS_ok (oraL_cons wSzTieS_ok oraL_nil)
  obtain ⟨cs, ps, hr⟩ := t
  have h1 : cs.length ≤ maxLen := h1
  have h2 : ps.length ≤ maxLen := h2
  have h3 : ∀ q ∈ cs, NodeLe q maxLen := h3
  have h4 : f cs n ≤ n := by rw [hf]; exact (szNodeSI_le hn.1).1
  refine SEx.go (X := X9) X9_ok (fun n => look [] [] n) (fun _ => none) hO 60 ?_
  intro M R L N hM hAnd hImp hR hL hN
  cases M
  cbv
  repeat' first | (refine hAnd _ _ ?_ ?_) | (refine hImp _ _ (fun h => ?_)) | (refine hR _ ?_) | (refine hL _ _ (Hd.out ?_); try first | rw [hks] | rw [hk2] | rw [hk3]) | (refine hN _ _ ?_; cbv)
  all_goals (clear hAnd hImp hR hL hN; try clear hks; try clear hk2; try clear hk3)
  all_goals (cases hM; try dsimp only)
  all_goals (try simp only [Bool.not_eq_true', Bool.not_eq_false', decide_eq_true_eq, decide_eq_false_iff_not, Int.not_le, Int.not_lt, beq_iff_eq, beq_eq_false_iff_ne, ne_eq, Int.ofNat_eq_natCast, Int.toNat_natCast, List.length_replicate, ncast, Nat.sub_zero, List.drop_zero, Cue.eta, Tie.eta, Edge.eta, Link.eta, Node.eta] at *)
  all_goals first
    | exact ⟨h1⟩
    | exact ⟨h2⟩
    | exact ⟨h3⟩
    | exact ⟨hn⟩
    | exact ⟨⟨by omega, by omega⟩⟩
    | (subst hf hg; simp only [er_I, szShowI]; rw [if_pos (by assumption)]; done)
    | (subst hf hg; simp only [er_I, szShowI]; rw [if_neg (by omega), if_pos (by assumption)]; done)
    | (subst hf hg; simp only [er_I, szShowI]; rw [if_neg (by omega), if_neg (by omega)]; done)
    | trace_state
theorem szState_ok (t : State) (n : Int) (h1 : t.times.length ≤ maxLen) (h2 : t.vals.length ≤ maxLen) (hn : 0 ≤ n ∧ n ≤ 9223372036854775807) : SCall Tryz.prog 10 [aState t, aI n] (rI (szStateI t n)) := by
  refine SCall.of X10_ok (fn := Tryz.f10) (c := Tryz.f10.body.getD .skip) (dr := fun n => look 0 [] n) Tryz.func10 rfl (by kernel_rfl) (by kernel_rfl) (by kernel_rfl) ?_
  obtain ⟨g, hg⟩ : ∃ g : List Int → Int → Int, g = szL := ⟨_, rfl⟩
  have hO : SOraOK Tryz.prog (oraL [(39, wSzIntSF g)]) := by subst hg; exact oraL_cons wSzIntSF_ok oraL_nil
  obtain ⟨nw, cs, ps⟩ := t
  have h1 : cs.length ≤ maxLen := h1
  have h2 : ps.length ≤ maxLen := h2
  have h4 : g cs n ≤ n := by rw [hg]; exact szL_le _ hn.1
  refine SEx.go (X := X10) X10_ok (fun n => look [] [] n) (fun _ => none) hO 60 ?_
  intro M R L N hM hAnd hImp hR hL hN
  cases M
  cbv
  repeat' first | (refine hAnd _ _ ?_ ?_) | (refine hImp _ _ (fun h => ?_)) | (refine hR _ ?_) | (refine hL _ _ (Hd.out ?_); try first | rw [hks] | rw [hk2] | rw [hk3]) | (refine hN _ _ ?_; cbv)
  all_goals (clear hAnd hImp hR hL hN; try clear hks; try clear hk2; try clear hk3)
  all_goals (cases hM; try dsimp only)
  all_goals (try simp only [Bool.not_eq_true', Bool.not_eq_false', decide_eq_true_eq, decide_eq_false_iff_not, Int.not_le, Int.not_lt, beq_iff_eq, beq_eq_false_iff_ne, ne_eq, Int.ofNat_eq_natCast, Int.toNat_natCast, List.length_replicate, ncast, Nat.sub_zero, List.drop_zero, Cue.eta, Tie.eta, Edge.eta, Link.eta, Node.eta] at *)
  all_goals first
    | exact ⟨h1⟩
    | exact ⟨h2⟩
    | exact ⟨hn⟩
    | exact ⟨⟨by omega, by omega⟩⟩
    | (subst hg; simp only [er_I, szStateI]; rw [if_pos (by assumption)]; done)
    | (subst hg; simp only [er_I, szStateI]; rw [if_neg (by omega), if_pos (by assumption)]; done)
    | (subst hg; simp only [er_I, szStateI]; rw [if_neg (by omega), if_neg (by omega)]; done)
    | trace_state
theorem toShow_ok (t : Show) (h1 : t.nodes.length ≤ 1048576) (h2 : t.ties.length ≤ 1048576) (h3 : ∀ q ∈ t.nodes, q.label.length ≤ 1048576) : SCall Tryz.prog 12 [aShow t] (rShow t) := by
  refine SCall.of X12_ok (fn := Tryz.f12) (c := Tryz.f12.body.getD .skip) (dr := fun n => look 0 [] n) Tryz.func12 rfl (by kernel_rfl) (by kernel_rfl) (by kernel_rfl) ?_
  have hO : SOraOK Tryz.prog (oraL [(44, wToNodeS), (45, wToTieS)]) := oraL_cons wToNodeS_ok (oraL_cons wToTieS_ok oraL_nil)
  obtain ⟨cs, ps, hr⟩ := t
  have h1 : cs.length ≤ 1048576 := h1
  have h2 : ps.length ≤ 1048576 := h2
  have h3 : ∀ q ∈ cs, q.label.length ≤ 1048576 := h3
  refine SEx.go (X := X12) X12_ok (fun n => look [] [] n) (fun n => look none lv12 n) hO 8 ?_
  intro M R L N hM hAnd hImp hR hL hN
  cases M
  cbv
  repeat' first | (refine hAnd _ _ ?_ ?_) | (refine hImp _ _ (fun h => ?_)) | (refine hR _ ?_) | (refine hL _ _ (Hd.out ?_); try first | rw [hks] | rw [hk2] | rw [hk3]) | (refine hN _ _ ?_; cbv)
  all_goals (clear hAnd hImp hR hL hN; try clear hks; try clear hk2; try clear hk3)
  all_goals (cases hM; try dsimp only)
  all_goals (try simp only [Bool.not_eq_true', Bool.not_eq_false', decide_eq_true_eq, decide_eq_false_iff_not, Int.not_le, Int.not_lt, beq_iff_eq, beq_eq_false_iff_ne, ne_eq, Int.ofNat_eq_natCast, Int.toNat_natCast, List.length_replicate, ncast, Nat.sub_zero, List.drop_zero, Cue.eta, Tie.eta, Edge.eta, Link.eta, Node.eta] at *)
  all_goals first
    | exact ⟨h1⟩
    | exact ⟨h2⟩
    | exact ⟨h3⟩
    | rfl
    | trace_state
theorem toState_ok (t : State) (h1 : t.times.length ≤ 1048576) (h2 : t.vals.length ≤ 1048576) : SCall Tryz.prog 13 [aState t] (rState t) := by
  refine SCall.of X13_ok (fn := Tryz.f13) (c := Tryz.f13.body.getD .skip) (dr := fun n => look 0 [] n) Tryz.func13 rfl (by kernel_rfl) (by kernel_rfl) (by kernel_rfl) ?_
  have hO : SOraOK Tryz.prog (oraL [(23, wToIntS)]) := oraL_cons wToIntS_ok oraL_nil
  obtain ⟨nw, cs, ps⟩ := t
  have h1 : cs.length ≤ 1048576 := h1
  have h2 : ps.length ≤ 1048576 := h2
  refine SEx.go (X := X13) X13_ok (fun n => look [] [] n) (fun n => look none lv13 n) hO 8 ?_
  intro M R L N hM hAnd hImp hR hL hN
  cases M
  cbv
  repeat' first | (refine hAnd _ _ ?_ ?_) | (refine hImp _ _ (fun h => ?_)) | (refine hR _ ?_) | (refine hL _ _ (Hd.out ?_); try first | rw [hks] | rw [hk2] | rw [hk3]) | (refine hN _ _ ?_; cbv)
  all_goals (clear hAnd hImp hR hL hN; try clear hks; try clear hk2; try clear hk3)
  all_goals (cases hM; try dsimp only)
  all_goals (try simp only [Bool.not_eq_true', Bool.not_eq_false', decide_eq_true_eq, decide_eq_false_iff_not, Int.not_le, Int.not_lt, beq_iff_eq, beq_eq_false_iff_ne, ne_eq, Int.ofNat_eq_natCast, Int.toNat_natCast, List.length_replicate, ncast, Nat.sub_zero, List.drop_zero, Cue.eta, Tie.eta, Edge.eta, Link.eta, Node.eta] at *)
  all_goals first
    | exact ⟨h1⟩
    | exact ⟨h2⟩
    | rfl
    | trace_state
theorem eqShow_ok (t : Show) (h1 : t.nodes.length ≤ maxLen) (h2 : t.ties.length ≤ maxLen) (h3 : ∀ q ∈ t.nodes, q.label.length ≤ maxLen) : SCall Tryz.prog 16 [aShow t, aShow t] (rB true) := by
  refine SCall.of X16_ok (fn := Tryz.f16) (c := Tryz.f16.body.getD .skip) (dr := fun n => look 0 [] n) Tryz.func16 rfl (by kernel_rfl) (by kernel_rfl) (by kernel_rfl) ?_
  have hO : SOraOK Tryz.prog (oraL [(48, wEqNodeS), (49, wEqTieS)]) := oraL_cons wEqNodeS_ok (oraL_cons wEqTieS_ok oraL_nil)
  obtain ⟨cs, ps, hr⟩ := t
  have h1 : cs.length ≤ maxLen := h1
  have h2 : ps.length ≤ maxLen := h2
  have h3 : ∀ q ∈ cs, q.label.length ≤ maxLen := h3
  refine SEx.go (X := X16) X16_ok (fun n => look [] [] n) (fun _ => none) hO 60 ?_
  intro M R L N hM hAnd hImp hR hL hN
  cases M
  cbv
  repeat' first | (refine hAnd _ _ ?_ ?_) | (refine hImp _ _ (fun h => ?_)) | (refine hR _ ?_) | (refine hL _ _ (Hd.out ?_); try first | rw [hks] | rw [hk2] | rw [hk3]) | (refine hN _ _ ?_; cbv)
  all_goals (clear hAnd hImp hR hL hN; try clear hks; try clear hk2; try clear hk3)
  all_goals (cases hM; try dsimp only)
  all_goals (try simp only [Bool.not_eq_true', Bool.not_eq_false', decide_eq_true_eq, decide_eq_false_iff_not, Int.not_le, Int.not_lt, beq_iff_eq, beq_eq_false_iff_ne, ne_eq, Int.ofNat_eq_natCast, Int.toNat_natCast, List.length_replicate, ncast, Nat.sub_zero, List.drop_zero, Cue.eta, Tie.eta, Edge.eta, Link.eta, Node.eta] at *)
  all_goals first
    | exact ⟨h1⟩
    | exact ⟨h2⟩
    | exact ⟨h3⟩
    | exact ⟨rfl⟩
    | rfl
    | contradiction
    | exact absurd trivial (by assumption)
    | trace_state
theorem eqState_ok (t : State) (h1 : t.times.length ≤ maxLen) (h2 : t.vals.length ≤ maxLen) : SCall Tryz.prog 17 [aState t, aState t] (rB true) := by
  refine SCall.of X17_ok (fn := Tryz.f17) (c := Tryz.f17.body.getD .skip) (dr := fun n => look 0 [] n) Tryz.func17 rfl (by kernel_rfl) (by kernel_rfl) (by kernel_rfl) ?_
  have hO : SOraOK Tryz.prog (oraL [(25, wEqIntS)]) := oraL_cons wEqIntS_ok oraL_nil
  obtain ⟨nw, cs, ps⟩ := t
  have h1 : cs.length ≤ maxLen := h1
  have h2 : ps.length ≤ maxLen := h2
  refine SEx.go (X := X17) X17_ok (fun n => look [] [] n) (fun _ => none) hO 60 ?_
  intro M R L N hM hAnd hImp hR hL hN
  cases M
  cbv
  repeat' first | (refine hAnd _ _ ?_ ?_) | (refine hImp _ _ (fun h => ?_)) | (refine hR _ ?_) | (refine hL _ _ (Hd.out ?_); try first | rw [hks] | rw [hk2] | rw [hk3]) | (refine hN _ _ ?_; cbv)
  all_goals (clear hAnd hImp hR hL hN; try clear hks; try clear hk2; try clear hk3)
  all_goals (cases hM; try dsimp only)
  all_goals (try simp only [Bool.not_eq_true', Bool.not_eq_false', decide_eq_true_eq, decide_eq_false_iff_not, Int.not_le, Int.not_lt, beq_iff_eq, beq_eq_false_iff_ne, ne_eq, Int.ofNat_eq_natCast, Int.toNat_natCast, List.length_replicate, ncast, Nat.sub_zero, List.drop_zero, Cue.eta, Tie.eta, Edge.eta, Link.eta, Node.eta] at *)
  all_goals first
    | exact ⟨h1⟩
    | exact ⟨h2⟩
    | exact ⟨rfl⟩
    | rfl
    | contradiction
    | exact absurd trivial (by assumption)
    | trace_state
def wSzShow (f : Show → Int → Int) : Wr := w2 dcShow dcI (fun t n => rI (f t n)) (fun t n => [LLe t.nodes maxLen, LLe t.ties maxLen, NodesLe t.nodes maxLen, IRng n])
theorem wSzShow_ok : WrOK Tryz.prog 9 (wSzShow szShowI) := w2_ok fun t n h => szShow_ok t n (h _ (.head _)).out (h _ (.tail _ (.head _))).out (h _ (.tail _ (.tail _ (.head _)))).out (h _ (.tail _ (.tail _ (.tail _ (.head _))))).out
def wSzState (f : State → Int → Int) : Wr := w2 dcState dcI (fun t n => rI (f t n)) (fun t n => [LLe t.times maxLen, LLe t.vals maxLen, IRng n])
theorem wSzState_ok : WrOK Tryz.prog 10 (wSzState szStateI) := w2_ok fun t n h => szState_ok t n (h _ (.head _)).out (h _ (.tail _ (.head _))).out (h _ (.tail _ (.tail _ (.head _)))).out
def wToShow : Wr := w1 dcShow rShow (fun t => [LLe t.nodes 1048576, LLe t.ties 1048576, LabsLe t.nodes 1048576])
theorem wToShow_ok : WrOK Tryz.prog 12 wToShow := w1_ok fun t h => toShow_ok t (h _ (.head _)).out (h _ (.tail _ (.head _))).out (h _ (.tail _ (.tail _ (.head _)))).out
def wToState : Wr := w1 dcState rState (fun t => [LLe t.times 1048576, LLe t.vals 1048576])
theorem wToState_ok : WrOK Tryz.prog 13 wToState := w1_ok fun t h => toState_ok t (h _ (.head _)).out (h _ (.tail _ (.head _))).out
def wEqShow : Wr := w2 dcShow dcShow (fun _ _ => rB true) (fun t u => [Same t u, LLe t.nodes maxLen, LLe t.ties maxLen, LabsLe t.nodes maxLen])
theorem wEqShow_ok : WrOK Tryz.prog 16 wEqShow := w2_ok fun t u h => by
  obtain rfl := (h _ (.head _)).out
  exact eqShow_ok t (h _ (.tail _ (.head _))).out (h _ (.tail _ (.tail _ (.head _)))).out (h _ (.tail _ (.tail _ (.tail _ (.head _))))).out
def wEqState : Wr := w2 dcState dcState (fun _ _ => rB true) (fun t u => [Same t u, LLe t.times maxLen, LLe t.vals maxLen])
theorem wEqState_ok : WrOK Tryz.prog 17 wEqState := w2_ok fun t u h => by
  obtain rfl := (h _ (.head _)).out
  exact eqState_ok t (h _ (.tail _ (.head _))).out (h _ (.tail _ (.tail _ (.head _)))).out
theorem szShow_20 {t : Show} {n : Int} (h0 : 0 ≤ n) (h : 0 ≤ szShowI t n) : (t.nodes.length : Int) ≤ n ∧ (t.ties.length : Int) ≤ n ∧ (∀ q ∈ t.nodes, (q.name.size : Int) ≤ n ∧ (q.label.length : Int) ≤ n) ∧ szShowI t n ≤ n := by
  unfold szShowI at h ⊢
  have h1 := szNodeSI_le (l := t.nodes) h0
  split at h
  · omega
  · rename_i ha
    rw [if_neg ha]
    split at h
    · omega
    · rename_i hb
      rw [if_neg hb]
      have h2 := h1.2 (by omega)
      have h3 := szL_le t.ties (n := szNodeSI t.nodes n) (by omega)
      refine ⟨h2.1, ?_, h2.2, by omega⟩
      unfold szL at hb
      split at hb <;> omega
theorem szState_20 {t : State} {n : Int} (h0 : 0 ≤ n) (h : 0 ≤ szStateI t n) : (t.times.length : Int) ≤ n ∧ (t.vals.length : Int) ≤ n := by
  unfold szStateI at h
  split at h
  · omega
  · rename_i ha
    split at h
    · omega
    · rename_i hb
      unfold szL at ha hb
      constructor
      · split at ha <;> omega
      · split at hb
        · omega
        · split at ha <;> split at hb <;> omega
end Go.Proofs.YtececadpjelanaaGreat.Ai
namespace Go.Proofs.YtececadpjelanaaGreat.Ai
open Go
set_option maxRecDepth 100000
set_option linter.unusedVariables false
set_option linter.unusedSimpArgs false
set_option linter.unusedSectionVars false
variable [MemoCtx]
def allR (p : Nat → Bool) (n : Nat) : Bool := (List.range n).all p
theorem allR_no {p : Nat → Bool} {n i : Nat} (hi : i < n) (h : p i = false) : allR p n = false := by
  unfold allR
  rw [List.all_eq_false]
  exact ⟨i, List.mem_range.2 hi, by rw [h]; simp⟩
theorem allR_yes {p : Nat → Bool} {n : Nat} (h : ∀ j, j < n → p j = true) : allR p n = true := by
  unfold allR
  rw [List.all_eq_true]
  exact fun j hj => h j (List.mem_range.1 hj)
theorem allR_get {p : Nat → Bool} {n : Nat} (h : allR p n = true) : ∀ j, j < n → p j = true := by
  unfold allR at h
  rw [List.all_eq_true] at h
  exact fun j hj => h j (List.mem_range.2 hj)
structure IIn (n : Int) : Prop where out : inI n
def propI (n : Int) : Int := if n < 0 then IntKind.i64.wrap (-n) else n
theorem wrap_neg {n : Int} (h : inI n) : IntKind.i64.wrap (-n) = if n = -9223372036854775808 then n else -n := by
  rw [inI_iff] at h
  split
  · rename_i e; subst e; decide
  · exact wrap_i64 (by omega) (by omega)
theorem specProp_ok (n : Int) : SCall Tryz.prog 132 [aI n] (rI (propI n)) := by
  refine SCall.of X132_ok (fn := Tryz.f132) (c := Tryz.f132.body.getD .skip) (dr := fun n => look 0 [] n) Tryz.func132 rfl (by kernel_rfl) (by kernel_rfl) (by kernel_rfl) ?_
  refine SEx.go (X := X132) X132_ok (fun n => look [] [] n) (fun _ => none) oraL_nil 60 ?_
  intro M R L N hM hAnd hImp hR hL hN
  cases M
  cbv
  repeat' first | (refine hAnd _ _ ?_ ?_) | (refine hImp _ _ (fun h => ?_)) | (refine hR _ ?_) | (refine hL _ _ (Hd.out ?_); try first | rw [hks] | rw [hk2] | rw [hk3]) | (refine hN _ _ ?_; cbv)
  all_goals (clear hAnd hImp hR hL hN; try clear hks; try clear hk2; try clear hk3)
  all_goals (cases hM; try dsimp only)
  all_goals (try simp only [Bool.not_eq_true', Bool.not_eq_false', decide_eq_true_eq, decide_eq_false_iff_not, Int.not_le, Int.not_lt, beq_iff_eq, beq_eq_false_iff_ne, ne_eq, Int.ofNat_eq_natCast, Int.toNat_natCast, List.length_replicate, ncast, Nat.sub_zero, List.drop_zero, Cue.eta, Tie.eta, Edge.eta, Link.eta, Node.eta] at *)
  · simp only [er_I, propI]; rw [if_pos (by assumption), Int.zero_sub]
  · simp only [er_I, propI]; rw [if_neg (by omega)]
theorem implProp_ok (n : Int) (h : inI n) : SCall Tryz.prog 142 [aI n] (rI (propI n)) := by
  refine SCall.of X142_ok (fn := Tryz.f142) (c := Tryz.f142.body.getD .skip) (dr := fun n => look 0 [] n) Tryz.func142 rfl (by kernel_rfl) (by kernel_rfl) (by kernel_rfl) ?_
  refine SEx.go (X := X142) X142_ok (fun n => look [] [] n) (fun _ => none) oraL_nil 60 ?_
  intro M R L N hM hAnd hImp hR hL hN
  cases M
  cbv
  repeat' first | (refine hAnd _ _ ?_ ?_) | (refine hImp _ _ (fun h => ?_)) | (refine hR _ ?_) | (refine hL _ _ (Hd.out ?_); try first | rw [hks] | rw [hk2] | rw [hk3]) | (refine hN _ _ ?_; cbv)
  all_goals (clear hAnd hImp hR hL hN; try clear hks; try clear hk2; try clear hk3)
  all_goals (cases hM; try dsimp only)
  all_goals (try simp only [Bool.not_eq_true', Bool.not_eq_false', decide_eq_true_eq, decide_eq_false_iff_not, Int.not_le, Int.not_lt, beq_iff_eq, beq_eq_false_iff_ne, ne_eq, Int.ofNat_eq_natCast, Int.toNat_natCast, List.length_replicate, ncast, Nat.sub_zero, List.drop_zero, Cue.eta, Tie.eta, Edge.eta, Link.eta, Node.eta] at *)
  all_goals simp only [er_I, propI, Int.zero_sub]
  all_goals rw [wrap_neg h]
  all_goals rw [inI_iff] at h
  all_goals (split <;> split <;> (try split at *) <;> omega)
def wProp (f : Int → Int) : Wr := w1 dcI (fun n => rI (f n)) (fun n => [IIn n])
theorem wPropS_ok : WrOK Tryz.prog 132 (wProp propI) := w1_ok fun n _ => specProp_ok n
theorem wPropI_ok : WrOK Tryz.prog 142 (wProp propI) := w1_ok fun n h => implProp_ok n (h _ (.head _)).out
def lP (l : List Int) (i : Nat) : Bool := decide (¬ l.getD i 0 = 0 ∧ -3 ≤ l.getD i 0 ∧ l.getD i 0 ≤ 3 ∧ (0 < i → propI (l.getD (i - 1) 0) < propI (l.getD i 0)))
def labelB (l : List Int) : Bool := allR (lP l) l.length
theorem implLabelOk_ok (l : List Int) (h1 : l.length ≤ maxLen) (hx : ∀ n ∈ l, inI n) : SCall Tryz.prog 169 [aIs l] (rB (labelB l)) := by
  refine SCall.of X169_ok (fn := Tryz.f169) (c := Tryz.f169.body.getD .skip) (dr := fun n => look 0 [] n) Tryz.func169 rfl (by kernel_rfl) (by kernel_rfl) (by kernel_rfl) ?_
  obtain ⟨m, hm⟩ : ∃ m, m = l.length := ⟨_, rfl⟩
  obtain ⟨r, hr⟩ : ∃ r, r = labelB l := ⟨_, rfl⟩
  obtain ⟨f, hf⟩ : ∃ f, f = propI := ⟨_, rfl⟩
  have hO : SOraOK Tryz.prog (oraL [(142, wProp f)]) := by subst hf; exact oraL_cons wPropI_ok oraL_nil
  unfold maxLen at h1
  rw [← hr]
  refine SEx.go (X := X169) X169_ok (fun n => look [] [(2, [0, 5, 6, 7])] n) (fun _ => none) hO 60 ?_
  intro M R L N hM hAnd hImp hR hL hN
  cases M
  cbv
  repeat' first | (refine hAnd _ _ ?_ ?_) | (refine hImp _ _ (fun h => ?_)) | (refine hR _ ?_) | (refine hL _ _ (Hd.out ?_); generalize hks : (List.cons _ _ : List K) = ks) | (refine hN _ _ ?_; cbv)
  all_goals (clear hAnd hImp hR hL hN)
  all_goals (cases hM; try dsimp only)
  all_goals (try simp only [Bool.not_eq_true', Bool.not_eq_false', decide_eq_true_eq, decide_eq_false_iff_not, Int.not_le, Int.not_lt, beq_iff_eq, beq_eq_false_iff_ne, ne_eq, Int.ofNat_eq_natCast, Int.toNat_natCast, List.length_replicate, ncast, Nat.sub_zero, List.drop_zero, Cue.eta, Tie.eta, Edge.eta, Link.eta, Node.eta] at *)
  refine ⟨SEx.same (SEx.ind (α := Nat) (fun i => ⟨38, [(0, bL (.i l)), (5, bL (.i l)), (6, bI m), (7, bI i)], []⟩) (fun _ => rB r) (fun i => i ≤ m ∧ ∀ j, j < i → lP l j = true) (fun i => m - i) 0 ⟨by omega, fun j h => by omega⟩ ?_) (by rw [hm]; rfl) rfl⟩
  rintro i ⟨hi, hj⟩ ih
  rw [← hks]
  have hw : 0 < (i : Int) → IntKind.i64.wrap ((i : Int) - 1) = ((i - 1 : Nat) : Int) := fun h => by rw [wrap_i64 (by omega) (by omega)]; omega
  have hbad : i < l.length → lP l i = false → r = false := fun h h2 => by rw [hr, labelB, allR_no h h2]
  have hgo : ∀ (h : i < m) (h2 : lP l i = true), i + 1 ≤ m ∧ ∀ j, j < i + 1 → lP l j = true := fun h h2 => ⟨h, fun j hj' => by
    by_cases e : j = i
    · rw [e]; exact h2
    · exact hj j (by omega)⟩
  refine SEx.go (X := X169) X169_ok (fun n => look [] [(2, [0, 5, 6, 7])] n) (fun _ => none) hO 60 ?_
  intro M R L N hM hAnd hImp hR hL hN
  cases M
  cbv
  repeat' first | (refine hAnd _ _ ?_ ?_) | (refine hImp _ _ (fun h => ?_)) | (refine hR _ ?_) | (refine hL _ _ (Hd.out ?_); try first | rw [hks] | rw [hk2] | rw [hk3]) | (refine hN _ _ ?_; cbv)
  all_goals (clear hAnd hImp hR hL hN; try clear hks; try clear hk2; try clear hk3)
  all_goals (cases hM; try dsimp only)
  all_goals (try simp only [Bool.not_eq_true', Bool.not_eq_false', decide_eq_true_eq, decide_eq_false_iff_not, Int.not_le, Int.not_lt, beq_iff_eq, beq_eq_false_iff_ne, ne_eq, Int.ofNat_eq_natCast, Int.toNat_natCast, List.length_replicate, ncast, Nat.sub_zero, List.drop_zero, Cue.eta, Tie.eta, Edge.eta, Link.eta, Node.eta] at *)
  all_goals (try rw [hw (by omega)] at *)
  all_goals (try simp only [Int.toNat_natCast] at *)
  all_goals (clear hO; subst hf)
  all_goals first
    | omega
    | exact ⟨hx _ (mem_getD (z := (0 : Int)) (by omega)).out⟩
    | (have hb := hbad (by omega) (decide_eq_false (by rintro ⟨h1, h2, h3, h4⟩; first | contradiction | omega | (have := h4 (by omega); omega)))
       rw [hb]; rfl)
    | (have hp : lP l i = true := decide_eq_true ⟨by assumption, by assumption, by assumption, fun h => by first | assumption | (exfalso; omega)⟩
       simp only [wrap_succ (show i < 9223372036854775807 by omega)]
       exact ⟨(ih (i + 1) (hgo (by omega) hp) (by omega)).same rfl rfl⟩)
    | (have hee : i = m := by omega
       subst hee
       rw [hr, labelB, allR_yes (by rw [← hm]; exact hj)]; rfl)
theorem specLabelOk_ok (l : List Int) (h1 : l.length ≤ maxLen) (hx : ∀ n ∈ l, inI n) : SCall Tryz.prog 165 [aIs l] (rB (labelB l)) := by
  refine SCall.of X165_ok (fn := Tryz.f165) (c := Tryz.f165.body.getD .skip) (dr := fun n => look 0 [] n) Tryz.func165 rfl (by kernel_rfl) (by kernel_rfl) (by kernel_rfl) ?_
  obtain ⟨m, hm⟩ : ∃ m, m = l.length := ⟨_, rfl⟩
  obtain ⟨r, hr⟩ : ∃ r, r = labelB l := ⟨_, rfl⟩
  obtain ⟨f0, hf0⟩ : ∃ f, f = l01InB := ⟨_, rfl⟩
  obtain ⟨f, hf⟩ : ∃ f, f = propI := ⟨_, rfl⟩
  have hO : SOraOK Tryz.prog (oraL [(70, wL01 f0), (132, wProp f)]) := by subst hf hf0; exact oraL_cons wL01_ok (oraL_cons wPropS_ok oraL_nil)
  unfold maxLen at h1
  rw [← hr]
  refine SEx.go (X := X165) X165_ok (fun n => look [] [(2, [0, 5, 6, 7])] n) (fun _ => none) hO 60 ?_
  intro M R L N hM hAnd hImp hR hL hN
  cases M
  cbv
  repeat' first | (refine hAnd _ _ ?_ ?_) | (refine hImp _ _ (fun h => ?_)) | (refine hR _ ?_) | (refine hL _ _ (Hd.out ?_); generalize hks : (List.cons _ _ : List K) = ks) | (refine hN _ _ ?_; cbv)
  all_goals (clear hAnd hImp hR hL hN)
  all_goals (cases hM; try dsimp only)
  all_goals (try simp only [Bool.not_eq_true', Bool.not_eq_false', decide_eq_true_eq, decide_eq_false_iff_not, Int.not_le, Int.not_lt, beq_iff_eq, beq_eq_false_iff_ne, ne_eq, Int.ofNat_eq_natCast, Int.toNat_natCast, List.length_replicate, ncast, Nat.sub_zero, List.drop_zero, Cue.eta, Tie.eta, Edge.eta, Link.eta, Node.eta] at *)
  refine ⟨SEx.same (SEx.ind (α := Nat) (fun i => ⟨35, [(0, bL (.i l)), (5, bL (.i l)), (6, bI m), (7, bI i)], []⟩) (fun _ => rB r) (fun i => i ≤ m ∧ ∀ j, j < i → lP l j = true) (fun i => m - i) 0 ⟨by omega, fun j h => by omega⟩ ?_) (by rw [hm]; rfl) rfl⟩
  rintro i ⟨hi, hj⟩ ih
  rw [← hks]
  have hw : 0 < (i : Int) → IntKind.i64.wrap ((i : Int) - 1) = ((i - 1 : Nat) : Int) := fun h => by rw [wrap_i64 (by omega) (by omega)]; omega
  have hbad : i < l.length → lP l i = false → r = false := fun h h2 => by rw [hr, labelB, allR_no h h2]
  have hgo : ∀ (h : i < m) (h2 : lP l i = true), i + 1 ≤ m ∧ ∀ j, j < i + 1 → lP l j = true := fun h h2 => ⟨h, fun j hj' => by
    by_cases e : j = i
    · rw [e]; exact h2
    · exact hj j (by omega)⟩
  have hft : f0 (l.getD i 0) (-3) 3 = true → -3 ≤ l.getD i 0 ∧ l.getD i 0 ≤ 3 := by subst hf0; intro h; simpa [l01InB] using h
  have hff : f0 (l.getD i 0) (-3) 3 = false → ¬ (-3 ≤ l.getD i 0 ∧ l.getD i 0 ≤ 3) := by subst hf0; intro h h2; simp only [l01InB, decide_eq_true h2.1, decide_eq_true h2.2] at h; cases h
  refine SEx.go (X := X165) X165_ok (fun n => look [] [(2, [0, 5, 6, 7])] n) (fun _ => none) hO 60 ?_
  intro M R L N hM hAnd hImp hR hL hN
  cases M
  cbv
  repeat' first | (refine hAnd _ _ ?_ ?_) | (refine hImp _ _ (fun h => ?_)) | (refine hR _ ?_) | (refine hL _ _ (Hd.out ?_); try first | rw [hks] | rw [hk2] | rw [hk3]) | (refine hN _ _ ?_; cbv)
  all_goals (clear hAnd hImp hR hL hN; try clear hks; try clear hk2; try clear hk3)
  all_goals (cases hM; try dsimp only)
  all_goals (try simp only [Bool.not_eq_true', Bool.not_eq_false', decide_eq_true_eq, decide_eq_false_iff_not, Int.not_le, Int.not_lt, beq_iff_eq, beq_eq_false_iff_ne, ne_eq, Int.ofNat_eq_natCast, Int.toNat_natCast, List.length_replicate, ncast, Nat.sub_zero, List.drop_zero, Cue.eta, Tie.eta, Edge.eta, Link.eta, Node.eta] at *)
  all_goals (try (have hA := hft (by assumption); have hA1 := hA.1; have hA2 := hA.2))
  all_goals (try have hB := hff (by assumption))
  all_goals (try rw [hw (by omega)] at *)
  all_goals (try simp only [Int.toNat_natCast] at *)
  all_goals (clear hO; subst hf)
  all_goals first
    | omega
    | exact ⟨hx _ (mem_getD (z := (0 : Int)) (by omega)).out⟩
    | (have hb := hbad (by omega) (decide_eq_false (by rintro ⟨h1, h2, h3, h4⟩; first | contradiction | omega | (have := h4 (by omega); omega)))
       rw [hb]; rfl)
    | (have hp : lP l i = true := decide_eq_true ⟨by assumption, by assumption, by assumption, fun h => by first | assumption | (exfalso; omega)⟩
       simp only [wrap_succ (show i < 9223372036854775807 by omega)]
       exact ⟨(ih (i + 1) (hgo (by omega) hp) (by omega)).same rfl rfl⟩)
    | (have hee : i = m := by omega
       subst hee
       rw [hr, labelB, allR_yes (by rw [← hm]; exact hj)]; rfl)
structure LsOk (l : List Int) : Prop where
  len : l.length ≤ maxLen
  all : ∀ n ∈ l, inI n
def wLabelOk (f : List Int → Bool) : Wr := w1 dcIs (fun l => rB (f l)) (fun l => [LsOk l])
theorem wLabelOkS_ok : WrOK Tryz.prog 165 (wLabelOk labelB) := w1_ok fun l h => specLabelOk_ok l (h _ (.head _)).len (h _ (.head _)).all
theorem wLabelOkI_ok : WrOK Tryz.prog 169 (wLabelOk labelB) := w1_ok fun l h => implLabelOk_ok l (h _ (.head _)).len (h _ (.head _)).all
end Go.Proofs.YtececadpjelanaaGreat.Ai
namespace Go.Proofs.YtececadpjelanaaGreat.Ai
open Go
set_option maxRecDepth 100000
set_option linter.unusedVariables false
set_option linter.unusedSimpArgs false
set_option linter.unusedSectionVars false
variable [MemoCtx]
def hasB (l : List Int) (v : Int) : Bool := decide (0 ≤ idxF (fun x => v == x) l 0)
theorem contI_ok (l : List Int) (v : Int) (h1 : l.length ≤ maxLen) : SCall Tryz.prog 143 [aIs l, aI v] (rB (hasB l v)) := by
  refine SCall.of X143_ok (fn := Tryz.f143) (c := Tryz.f143.body.getD .skip) (dr := fun n => look 0 [] n) Tryz.func143 rfl (by kernel_rfl) (by kernel_rfl) (by kernel_rfl) ?_
  obtain ⟨f, hf⟩ : ∃ f : List Int → Int → Int, f = fun l v => idxF (fun x => v == x) l 0 := ⟨_, rfl⟩
  have hO : SOraOK Tryz.prog (oraL [(170, wIndexI f)]) := by subst hf; exact oraL_cons wIndexI_ok oraL_nil
  refine SEx.go (X := X143) X143_ok (fun n => look [] [] n) (fun _ => none) hO 60 ?_
  intro M R L N hM hAnd hImp hR hL hN
  cases M
  cbv
  repeat' first | (refine hAnd _ _ ?_ ?_) | (refine hImp _ _ (fun h => ?_)) | (refine hR _ ?_) | (refine hL _ _ (Hd.out ?_); try first | rw [hks] | rw [hk2] | rw [hk3]) | (refine hN _ _ ?_; cbv)
  all_goals (clear hAnd hImp hR hL hN; try clear hks; try clear hk2; try clear hk3)
  all_goals (cases hM; try dsimp only)
  all_goals (try simp only [Bool.not_eq_true', Bool.not_eq_false', decide_eq_true_eq, decide_eq_false_iff_not, Int.not_le, Int.not_lt, beq_iff_eq, beq_eq_false_iff_ne, ne_eq, Int.ofNat_eq_natCast, Int.toNat_natCast, List.length_replicate, ncast, Nat.sub_zero, List.drop_zero, Cue.eta, Tie.eta, Edge.eta, Link.eta, Node.eta] at *)
  all_goals first
    | exact ⟨h1⟩
    | (subst hf; rfl)
theorem has_ok (l : List Int) (v : Int) (h1 : l.length ≤ maxLen) : SCall Tryz.prog 93 [aIs l, aI v] (rB (hasB l v)) := by
  refine SCall.of X93_ok (fn := Tryz.f93) (c := Tryz.f93.body.getD .skip) (dr := fun n => look 0 [] n) Tryz.func93 rfl (by kernel_rfl) (by kernel_rfl) (by kernel_rfl) ?_
  unfold maxLen at h1
  obtain ⟨g, hg⟩ : ∃ g : Nat → Bool, g = fun i => decide (0 ≤ idxF (fun x => v == x) (l.drop i) i) := ⟨_, rfl⟩
  rw [show hasB l v = g 0 by rw [hg]; rfl]
  refine SEx.go (X := X93) X93_ok (fun n => look [] [(2, [1, 7, 8, 9])] n) (fun _ => none) oraL_nil 60 ?_
  intro M R L N hM hAnd hImp hR hL hN
  cases M
  cbv
  repeat' first | (refine hAnd _ _ ?_ ?_) | (refine hImp _ _ (fun h => ?_)) | (refine hR _ ?_) | (refine hL _ _ (Hd.out ?_); generalize hks : (List.cons _ _ : List K) = ks) | (refine hN _ _ ?_; cbv)
  all_goals (clear hAnd hImp hR hL hN)
  all_goals (cases hM; try dsimp only)
  all_goals (try simp only [Bool.not_eq_true', Bool.not_eq_false', decide_eq_true_eq, decide_eq_false_iff_not, Int.not_le, Int.not_lt, beq_iff_eq, beq_eq_false_iff_ne, ne_eq, Int.ofNat_eq_natCast, Int.toNat_natCast, List.length_replicate, ncast, Nat.sub_zero, List.drop_zero, Cue.eta, Tie.eta, Edge.eta, Link.eta, Node.eta] at *)
  obtain ⟨m, hm⟩ : ∃ m, m = l.length := ⟨_, rfl⟩
  refine ⟨SEx.same (SEx.idx m (fun i => ⟨17, [(1, bI v), (7, bL (.i l)), (8, bI m), (9, bI i)], []⟩) (fun i => rB (g i)) ?_) (by rw [hm]; rfl) rfl⟩
  intro i hi ih
  rw [← hks]
  refine SEx.go (X := X93) X93_ok (fun n => look [] [(2, [1, 7, 8, 9])] n) (fun _ => none) oraL_nil 60 ?_
  intro M R L N hM hAnd hImp hR hL hN
  cases M
  cbv
  repeat' first | (refine hAnd _ _ ?_ ?_) | (refine hImp _ _ (fun h => ?_)) | (refine hR _ ?_) | (refine hL _ _ (Hd.out ?_); try first | rw [hks] | rw [hk2] | rw [hk3]) | (refine hN _ _ ?_; cbv)
  all_goals (clear hAnd hImp hR hL hN; try clear hks; try clear hk2; try clear hk3)
  all_goals (cases hM; try dsimp only)
  all_goals (try simp only [Bool.not_eq_true', Bool.not_eq_false', decide_eq_true_eq, decide_eq_false_iff_not, Int.not_le, Int.not_lt, beq_iff_eq, beq_eq_false_iff_ne, ne_eq, Int.ofNat_eq_natCast, Int.toNat_natCast, List.length_replicate, ncast, Nat.sub_zero, List.drop_zero, Cue.eta, Tie.eta, Edge.eta, Link.eta, Node.eta] at *)
  all_goals first
    | omega
    | (have hh : l.getD i 0 = v := by assumption
       rw [hg]; simp only [er_B]; rw [idxF_yes (z := (0 : Int)) (by omega) (by rw [hh]; simp), decide_eq_true (by omega)])
    | (have hh : ¬ l.getD i 0 = v := by assumption
       simp only [wrap_succ (show i < 9223372036854775807 by omega)]
       have e : g i = g (i + 1) := by rw [hg]; simp only; rw [idxF_no (z := (0 : Int)) (by omega) (beq_eq_false_iff_ne.2 (fun e => hh e.symm))]
       exact ⟨(ih (by omega)).same rfl (by rw [e])⟩)
    | (rw [hg]; simp only [er_B]; rw [idxF_end (by omega)]; rfl)
    | trace_state
def wHas (f : List Int → Int → Bool) : Wr := w2 dcIs dcI (fun l v => rB (f l v)) (fun l _ => [LLe l maxLen])
theorem wHasS_ok : WrOK Tryz.prog 93 (wHas hasB) := w2_ok fun l v h => has_ok l v (h _ (.head _)).out
theorem wHasI_ok : WrOK Tryz.prog 143 (wHas hasB) := w2_ok fun l v h => contI_ok l v (h _ (.head _)).out
def nodeB (q : Node) : Bool := nameL q.name 0 && labelB q.label && (decide (0 ≤ q.watch) && decide (q.watch ≤ 3))
theorem specNodeOk_ok (q : Node) (hs : q.name.size ≤ maxLen) (hl : q.label.length ≤ maxLen) (hx : ∀ n ∈ q.label, inI n) : SCall Tryz.prog 130 [aNode q] (rB (nodeB q)) := by
  refine SCall.of X130_ok (fn := Tryz.f130) (c := Tryz.f130.body.getD .skip) (dr := fun n => look 0 [] n) Tryz.func130 rfl (by kernel_rfl) (by kernel_rfl) (by kernel_rfl) ?_
  obtain ⟨f0, hf0⟩ : ∃ f, f = l01InB := ⟨_, rfl⟩
  obtain ⟨f1, hf1⟩ : ∃ f, f = (nameL · 0) := ⟨_, rfl⟩
  obtain ⟨f2, hf2⟩ : ∃ f, f = labelB := ⟨_, rfl⟩
  have hO : SOraOK Tryz.prog (oraL [(164, wNameS f1), (165, wLabelOk f2), (70, wL01 f0)]) := by subst hf0 hf1 hf2; exact oraL_cons wNameS_ok (oraL_cons wLabelOkS_ok (oraL_cons wL01_ok oraL_nil))
  obtain ⟨x1, x2, x3⟩ := q
  refine SEx.go (X := X130) X130_ok (fun n => look [] [] n) (fun _ => none) hO 60 ?_
  intro M R L N hM hAnd hImp hR hL hN
  cases M
  cbv
  repeat' first | (refine hAnd _ _ ?_ ?_) | (refine hImp _ _ (fun h => ?_)) | (refine hR _ ?_) | (refine hL _ _ (Hd.out ?_); try first | rw [hks] | rw [hk2] | rw [hk3]) | (refine hN _ _ ?_; cbv)
  all_goals (clear hAnd hImp hR hL hN; try clear hks; try clear hk2; try clear hk3)
  all_goals (cases hM; try dsimp only)
  all_goals (try simp only [Bool.not_eq_true', Bool.not_eq_false', decide_eq_true_eq, decide_eq_false_iff_not, Int.not_le, Int.not_lt, beq_iff_eq, beq_eq_false_iff_ne, ne_eq, Int.ofNat_eq_natCast, Int.toNat_natCast, List.length_replicate, ncast, Nat.sub_zero, List.drop_zero, Cue.eta, Tie.eta, Edge.eta, Link.eta, Node.eta] at *)
  all_goals first
    | exact ⟨hs⟩
    | exact ⟨hl, hx⟩
    | (subst hf0 hf1 hf2; simp only [er_B, nodeB]; simp_all [l01InB]; done)
    | trace_state
theorem implNodeOk_ok (q : Node) (hs : q.name.size ≤ maxLen) (hl : q.label.length ≤ maxLen) (hx : ∀ n ∈ q.label, inI n) : SCall Tryz.prog 137 [aNode q] (rB (nodeB q)) := by
  refine SCall.of X137_ok (fn := Tryz.f137) (c := Tryz.f137.body.getD .skip) (dr := fun n => look 0 [] n) Tryz.func137 rfl (by kernel_rfl) (by kernel_rfl) (by kernel_rfl) ?_
  obtain ⟨f1, hf1⟩ : ∃ f, f = (nameL · 0) := ⟨_, rfl⟩
  obtain ⟨f2, hf2⟩ : ∃ f, f = labelB := ⟨_, rfl⟩
  have hO : SOraOK Tryz.prog (oraL [(168, wNameS f1), (169, wLabelOk f2)]) := by subst hf1 hf2; exact oraL_cons wNameI_ok (oraL_cons wLabelOkI_ok oraL_nil)
  obtain ⟨x1, x2, x3⟩ := q
  refine SEx.go (X := X137) X137_ok (fun n => look [] [] n) (fun _ => none) hO 60 ?_
  intro M R L N hM hAnd hImp hR hL hN
  cases M
  cbv
  repeat' first | (refine hAnd _ _ ?_ ?_) | (refine hImp _ _ (fun h => ?_)) | (refine hR _ ?_) | (refine hL _ _ (Hd.out ?_); try first | rw [hks] | rw [hk2] | rw [hk3]) | (refine hN _ _ ?_; cbv)
  all_goals (clear hAnd hImp hR hL hN; try clear hks; try clear hk2; try clear hk3)
  all_goals (cases hM; try dsimp only)
  all_goals (try simp only [Bool.not_eq_true', Bool.not_eq_false', decide_eq_true_eq, decide_eq_false_iff_not, Int.not_le, Int.not_lt, beq_iff_eq, beq_eq_false_iff_ne, ne_eq, Int.ofNat_eq_natCast, Int.toNat_natCast, List.length_replicate, ncast, Nat.sub_zero, List.drop_zero, Cue.eta, Tie.eta, Edge.eta, Link.eta, Node.eta] at *)
  all_goals first
    | exact ⟨hs⟩
    | exact ⟨hl, hx⟩
    | (subst hf1 hf2; simp only [er_B, nodeB]; simp_all; done)
    | (subst hf1 hf2; simp only [er_B, nodeB]; rw [decide_eq_false (by omega)]; simp; done)
    | trace_state
end Go.Proofs.YtececadpjelanaaGreat.Ai
namespace Go.Proofs.YtececadpjelanaaGreat.Ai
open Go
set_option maxRecDepth 100000
set_option linter.unusedVariables false
set_option linter.unusedSimpArgs false
set_option linter.unusedSectionVars false
variable [MemoCtx]
def valB (x : Int) : Bool := decide (-1 ≤ x) && decide (x ≤ 1)
def valuesB (l : List Int) : Bool := allF (fun _ x => valB x) l 0 && decide (l.length = 3)
theorem specValuesOk_ok (l : List Int) (h1 : l.length ≤ maxLen) : SCall Tryz.prog 71 [aIs l] (rB (valuesB l)) := by
  refine SCall.of X71_ok (fn := Tryz.f71) (c := Tryz.f71.body.getD .skip) (dr := fun n => look 0 [] n) Tryz.func71 rfl (by kernel_rfl) (by kernel_rfl) (by kernel_rfl) ?_
  unfold maxLen at h1
  obtain ⟨f0, hf0⟩ : ∃ f, f = l01InB := ⟨_, rfl⟩
  have hO : SOraOK Tryz.prog (oraL [(70, wL01 f0)]) := by subst hf0; exact oraL_cons wL01_ok oraL_nil
  have hv : ∀ x, f0 x (-1) 1 = valB x := by intro x; rw [hf0]; rfl
  obtain ⟨c, hc⟩ : ∃ c, c = decide (l.length = 3) := ⟨_, rfl⟩
  rw [show valuesB l = (allF (fun _ x => valB x) (l.drop 0) 0 && c) by rw [hc]; rfl]
  clear hf0
  refine SEx.go (X := X71) X71_ok (fun n => look [] [(2, [0, 5, 6, 7])] n) (fun _ => none) hO 60 ?_
  intro M R L N hM hAnd hImp hR hL hN
  cases M
  cbv
  repeat' first | (refine hAnd _ _ ?_ ?_) | (refine hImp _ _ (fun h => ?_)) | (refine hR _ ?_) | (refine hL _ _ (Hd.out ?_); generalize hks : (List.cons _ _ : List K) = ks) | (refine hN _ _ ?_; cbv)
  all_goals (clear hAnd hImp hR hL hN)
  all_goals (cases hM; try dsimp only)
  all_goals (try simp only [Bool.not_eq_true', Bool.not_eq_false', decide_eq_true_eq, decide_eq_false_iff_not, Int.not_le, Int.not_lt, beq_iff_eq, beq_eq_false_iff_ne, ne_eq, Int.ofNat_eq_natCast, Int.toNat_natCast, List.length_replicate, ncast, Nat.sub_zero, List.drop_zero, Cue.eta, Tie.eta, Edge.eta, Link.eta, Node.eta] at *)
  obtain ⟨m, hm⟩ : ∃ m, m = l.length := ⟨_, rfl⟩
  refine ⟨SEx.same (SEx.idx m (fun i => ⟨18, [(0, bL (.i l)), (5, bL (.i l)), (6, bI m), (7, bI i)], []⟩) (fun i => rB (allF (fun _ x => valB x) (l.drop i) i && c)) ?_) (by rw [hm]; rfl) rfl⟩
  intro i hi ih
  rw [← hks]
  refine SEx.go (X := X71) X71_ok (fun n => look [] [(2, [0, 5, 6, 7])] n) (fun _ => none) hO 60 ?_
  intro M R L N hM hAnd hImp hR hL hN
  cases M
  cbv
  repeat' first | (refine hAnd _ _ ?_ ?_) | (refine hImp _ _ (fun h => ?_)) | (refine hR _ ?_) | (refine hL _ _ (Hd.out ?_); try first | rw [hks] | rw [hk2] | rw [hk3]) | (refine hN _ _ ?_; cbv)
  all_goals (clear hAnd hImp hR hL hN; try clear hks; try clear hk2; try clear hk3)
  all_goals (cases hM; try dsimp only)
  all_goals (try simp only [Bool.not_eq_true', Bool.not_eq_false', decide_eq_true_eq, decide_eq_false_iff_not, Int.not_le, Int.not_lt, beq_iff_eq, beq_eq_false_iff_ne, ne_eq, Int.ofNat_eq_natCast, Int.toNat_natCast, List.length_replicate, ncast, Nat.sub_zero, List.drop_zero, Cue.eta, Tie.eta, Edge.eta, Link.eta, Node.eta] at *)
  all_goals first
    | omega
    | exact mem_getD (z := (0 : Int)) (by omega)
    | exact ⟨rfl⟩
    | exact ⟨by omega⟩
    | (rw [allF_no_and (p := fun _ x => valB x) (l := l) (i := i) (0 : Int) (by omega) (by rw [← hv]; assumption)]; rfl)
    | (simp only [wrap_succ (show i < 9223372036854775807 by omega)]; exact ⟨(ih (by omega)).same rfl (by rw [allF_yes_and (p := fun _ x => valB x) (l := l) (i := i) (0 : Int) (by omega) (by rw [← hv]; assumption)])⟩)
    | skip
  all_goals first
    | (rw [allF_end_and (l := l) (by omega), hc]; simp only [er_B, Bool.true_and]; apply decide_eq_decide.2; omega)
theorem implValues1_ok (n : Int) : SCall Tryz.prog 145 [aI n] (rB (!valB n)) := by
  refine SCall.of X145_ok (fn := Tryz.f145) (c := Tryz.f145.body.getD .skip) (dr := fun n => look 0 [] n) Tryz.func145 rfl (by kernel_rfl) (by kernel_rfl) (by kernel_rfl) ?_
  refine SEx.go (X := X145) X145_ok (fun n => look [] [] n) (fun _ => none) oraL_nil 60 ?_
  intro M R L N hM hAnd hImp hR hL hN
  cases M
  cbv
  repeat' first | (refine hAnd _ _ ?_ ?_) | (refine hImp _ _ (fun h => ?_)) | (refine hR _ ?_) | (refine hL _ _ (Hd.out ?_); try first | rw [hks] | rw [hk2] | rw [hk3]) | (refine hN _ _ ?_; cbv)
  all_goals (clear hAnd hImp hR hL hN; try clear hks; try clear hk2; try clear hk3)
  all_goals (cases hM; try dsimp only)
  all_goals (try simp only [Bool.not_eq_true', Bool.not_eq_false', decide_eq_true_eq, decide_eq_false_iff_not, Int.not_le, Int.not_lt, beq_iff_eq, beq_eq_false_iff_ne, ne_eq, Int.ofNat_eq_natCast, Int.toNat_natCast, List.length_replicate, ncast, Nat.sub_zero, List.drop_zero, Cue.eta, Tie.eta, Edge.eta, Link.eta, Node.eta] at *)
  all_goals simp only [er_B, valB]
  all_goals first
    | (rw [decide_eq_false (show ¬ -1 ≤ n by omega)]; rfl)
    | (rw [decide_eq_true (show -1 ≤ n by omega)]; rw [Bool.eq_iff_iff]; simp; done)
theorem implValuesOk_ok (l : List Int) (h1 : l.length ≤ maxLen) : SCall Tryz.prog 114 [aIs l] (rB (valuesB l)) := by
  refine SCall.of X114_ok (fn := Tryz.f114) (c := Tryz.f114.body.getD .skip) (dr := fun n => look 0 [] n) Tryz.func114 rfl (by kernel_rfl) (by kernel_rfl) (by kernel_rfl) ?_
  obtain ⟨f, hf⟩ : ∃ f : List Int → Bool, f = fun l => l.any (fun n => !valB n) := ⟨_, rfl⟩
  have hO : SOraOK Tryz.prog (oraL [(111, wCl dcIs 145 [] (fun l => rB (f l)) (fun l => [LLe l maxLen]))]) := by
    subst hf
    exact oraL_cons (wCl_ok fun l h => contFuncI_ok l _ _ _ (fun q _ => implValues1_ok q) (h _ (.head _)).out) oraL_nil
  have ha : allF (fun _ x => valB x) l 0 = !f l := by
    rw [hf, show (!List.any l fun n => !valB n) = l.all valB by rw [List.not_any_eq_all_not]; simp]
    generalize 0 = k
    induction l generalizing k with
    | nil => rfl
    | cons x r ih => simp only [allF, List.all_cons]; rw [ih (by simp at h1; omega)]
  rw [show valuesB l = (!f l && decide (l.length = 3)) by unfold valuesB; rw [ha]]
  clear ha hf
  refine SEx.go (X := X114) X114_ok (fun n => look [] [] n) (fun _ => none) hO 60 ?_
  intro M R L N hM hAnd hImp hR hL hN
  cases M
  cbv
  repeat' first | (refine hAnd _ _ ?_ ?_) | (refine hImp _ _ (fun h => ?_)) | (refine hR _ ?_) | (refine hL _ _ (Hd.out ?_); try first | rw [hks] | rw [hk2] | rw [hk3]) | (refine hN _ _ ?_; cbv)
  all_goals (clear hAnd hImp hR hL hN; try clear hks; try clear hk2; try clear hk3)
  all_goals (cases hM; try dsimp only)
  all_goals (try simp only [Bool.not_eq_true', Bool.not_eq_false', decide_eq_true_eq, decide_eq_false_iff_not, Int.not_le, Int.not_lt, beq_iff_eq, beq_eq_false_iff_ne, ne_eq, Int.ofNat_eq_natCast, Int.toNat_natCast, List.length_replicate, ncast, Nat.sub_zero, List.drop_zero, Cue.eta, Tie.eta, Edge.eta, Link.eta, Node.eta] at *)
  all_goals first
    | exact ⟨rfl⟩
    | exact ⟨h1⟩
    | (simp only [er_B]; rw [decide_eq_true (by omega), Bool.and_true]; done)
    | (simp only [er_B]; rw [decide_eq_false (by omega), Bool.and_false]; done)
def wValuesOk (f : List Int → Bool) : Wr := w1 dcIs (fun l => rB (f l)) (fun l => [LLe l maxLen])
theorem wValuesOkS_ok : WrOK Tryz.prog 71 (wValuesOk valuesB) := w1_ok fun l h => specValuesOk_ok l (h _ (.head _)).out
theorem wValuesOkI_ok : WrOK Tryz.prog 114 (wValuesOk valuesB) := w1_ok fun l h => implValuesOk_ok l (h _ (.head _)).out
theorem nodeNamed_ok (t : Show) (s : ByteArray) (h1 : t.nodes.length ≤ maxLen) : SCall Tryz.prog 131 [aShow t, aS s] (rI (idxF (fun q => eqS q.name s) t.nodes 0)) := by
  refine SCall.of X131_ok (fn := Tryz.f131) (c := Tryz.f131.body.getD .skip) (dr := fun n => look 0 [] n) Tryz.func131 rfl (by kernel_rfl) (by kernel_rfl) (by kernel_rfl) ?_
  obtain ⟨cs, ps, hr⟩ := t
  have h1 : cs.length ≤ maxLen := h1
  unfold maxLen at h1
  show SEx _ _ _ _ _ _ (rI (idxF _ cs 0))
  refine SEx.go (X := X131) X131_ok (fun n => look [] [(2, [1, 8, 9, 10])] n) (fun _ => none) oraL_nil 60 ?_
  intro M R L N hM hAnd hImp hR hL hN
  cases M
  cbv
  repeat' first | (refine hAnd _ _ ?_ ?_) | (refine hImp _ _ (fun h => ?_)) | (refine hR _ ?_) | (refine hL _ _ (Hd.out ?_); generalize hks : (List.cons _ _ : List K) = ks) | (refine hN _ _ ?_; cbv)
  all_goals (clear hAnd hImp hR hL hN)
  all_goals (cases hM; try dsimp only)
  all_goals (try simp only [Bool.not_eq_true', Bool.not_eq_false', decide_eq_true_eq, decide_eq_false_iff_not, Int.not_le, Int.not_lt, beq_iff_eq, beq_eq_false_iff_ne, ne_eq, Int.ofNat_eq_natCast, Int.toNat_natCast, List.length_replicate, ncast, Nat.sub_zero, List.drop_zero, Cue.eta, Tie.eta, Edge.eta, Link.eta, Node.eta] at *)
  obtain ⟨n, hn⟩ : ∃ n, n = cs.length := ⟨_, rfl⟩
  refine ⟨SEx.same (SEx.idx n (fun i => ⟨21, [(1, bS s), (8, bL (.node false none cs)), (9, bI n), (10, bI i)], []⟩) (fun i => rI (idxF (fun q => eqS q.name s) (cs.drop i) i)) ?_) (by rw [hn]; rfl) rfl⟩
  intro i hi ih
  rw [← hks]
  refine SEx.go (X := X131) X131_ok (fun n => look [] [(2, [1, 8, 9, 10])] n) (fun _ => none) oraL_nil 60 ?_
  intro M R L N hM hAnd hImp hR hL hN
  cases M
  cbv
  repeat' first | (refine hAnd _ _ ?_ ?_) | (refine hImp _ _ (fun h => ?_)) | (refine hR _ ?_) | (refine hL _ _ (Hd.out ?_); try first | rw [hks] | rw [hk2] | rw [hk3]) | (refine hN _ _ ?_; cbv)
  all_goals (clear hAnd hImp hR hL hN; try clear hks; try clear hk2; try clear hk3)
  all_goals (cases hM; try dsimp only)
  all_goals (try simp only [Bool.not_eq_true', Bool.not_eq_false', decide_eq_true_eq, decide_eq_false_iff_not, Int.not_le, Int.not_lt, beq_iff_eq, beq_eq_false_iff_ne, ne_eq, Int.ofNat_eq_natCast, Int.toNat_natCast, List.length_replicate, ncast, Nat.sub_zero, List.drop_zero, Cue.eta, Tie.eta, Edge.eta, Link.eta, Node.eta] at *)
  all_goals first
    | omega
    | exact ⟨rfl, by cases caps <;> rfl⟩
    | exact ⟨rfl, rfl⟩
    | exact mem_getD (z := Node.z) (by omega)
    | (rw [idxF_yes (p := fun q => eqS q.name s) (l := cs) (i := i) Node.z (by omega) (by first | assumption | exact beq_iff_eq.2 (by assumption))]; rfl)
    | (rw [idxF_end (by omega)]; rfl)
    | (simp only [wrap_succ (show i < 9223372036854775807 by omega)]; exact ⟨(ih (by omega)).same rfl (by rw [idxF_no (p := fun q => eqS q.name s) (l := cs) (i := i) Node.z (by omega) (by first | assumption | exact beq_eq_false_iff_ne.2 (by assumption) | (simp_all; done))])⟩)
def dcFIs (k : Nat) : Dc (List Int) := ⟨fun s => aF k [.ptr [.sl (.i s)]], fun | (false, [.fn f [.ptr [.sl (.i s)]]]) => (match nq f k with | true => some s | false => none) | _ => none, by
  intro x a h
  split at h
  · split at h
    · rename_i hk
      obtain rfl := nq_iff.1 hk
      simp only [Option.some.injEq] at h; subst h; rfl
    · cases h
  · cases h⟩
def implB (a b : List Int) : Bool := labelB a && labelB b && b.all (hasB a)
theorem all_allF {α : Type} (p : α → Bool) : ∀ (l : List α) (k : Nat), allF (fun _ x => p x) l k = l.all p
  | [], _ => rfl
  | a :: r, k => by simp only [allF, List.all_cons, all_allF p r]
theorem implImplies1_ok (x : Int) (a : List Int) (h1 : a.length ≤ maxLen) : SCall Tryz.prog 171 [aI x, (false, [.ptr [.sl (.i a)]])] (rB (!hasB a x)) := by
  refine SCall.of X171_ok (fn := Tryz.f171) (c := Tryz.f171.body.getD .skip) (dr := fun n => look 0 [] n) Tryz.func171 rfl (by kernel_rfl) (by kernel_rfl) (by kernel_rfl) ?_
  obtain ⟨f, hf⟩ : ∃ f, f = hasB := ⟨_, rfl⟩
  have hO : SOraOK Tryz.prog (oraL [(143, wHas f)]) := by subst hf; exact oraL_cons wHasI_ok oraL_nil
  rw [← hf]
  refine SEx.go (X := X171) X171_ok (fun n => look [] [] n) (fun _ => none) hO 60 ?_
  intro M R L N hM hAnd hImp hR hL hN
  cases M
  cbv
  repeat' first | (refine hAnd _ _ ?_ ?_) | (refine hImp _ _ (fun h => ?_)) | (refine hR _ ?_) | (refine hL _ _ (Hd.out ?_); try first | rw [hks] | rw [hk2] | rw [hk3]) | (refine hN _ _ ?_; cbv)
  all_goals (clear hAnd hImp hR hL hN; try clear hks; try clear hk2; try clear hk3)
  all_goals (cases hM; try dsimp only)
  all_goals (try simp only [Bool.not_eq_true', Bool.not_eq_false', decide_eq_true_eq, decide_eq_false_iff_not, Int.not_le, Int.not_lt, beq_iff_eq, beq_eq_false_iff_ne, ne_eq, Int.ofNat_eq_natCast, Int.toNat_natCast, List.length_replicate, ncast, Nat.sub_zero, List.drop_zero, Cue.eta, Tie.eta, Edge.eta, Link.eta, Node.eta] at *)
  all_goals first
    | exact ⟨h1⟩
    | rfl
theorem implImplies_ok (a b : List Int) (ha : LsOk a) (hb : LsOk b) : SCall Tryz.prog 144 [aIs a, aIs b] (rB (implB a b)) := by
  refine SCall.of X144_ok (fn := Tryz.f144) (c := Tryz.f144.body.getD .skip) (dr := fun n => look 0 [] n) Tryz.func144 rfl (by kernel_rfl) (by kernel_rfl) (by kernel_rfl) ?_
  obtain ⟨f, hf⟩ : ∃ f, f = labelB := ⟨_, rfl⟩
  obtain ⟨g, hg⟩ : ∃ g : List Int → List Int → Bool, g = fun l a => l.any (fun x => !hasB a x) := ⟨_, rfl⟩
  have hO : SOraOK Tryz.prog (oraL [(169, wLabelOk f), (111, w2 dcIs (dcFIs 171) (fun l s => rB (g l s)) (fun l s => [LLe l maxLen, LLe s maxLen]))]) := by
    subst hf hg
    exact oraL_cons wLabelOkI_ok (oraL_cons (w2_ok fun l s h => contFuncI_ok l _ _ _ (fun q _ => implImplies1_ok q s (h _ (.tail _ (.head _))).out) (h _ (.head _)).out) oraL_nil)
  rw [show implB a b = (f a && f b && !g b a) by rw [hf, hg]; unfold implB; rw [show (!List.any b fun x => !hasB a x) = b.all (hasB a) by rw [List.not_any_eq_all_not]; simp]]
  clear hf hg
  refine SEx.go (X := X144) X144_ok (fun n => look [] [] n) (fun _ => none) hO 60 ?_
  intro M R L N hM hAnd hImp hR hL hN
  cases M
  cbv
  repeat' first | (refine hAnd _ _ ?_ ?_) | (refine hImp _ _ (fun h => ?_)) | (refine hR _ ?_) | (refine hL _ _ (Hd.out ?_); try first | rw [hks] | rw [hk2] | rw [hk3]) | (refine hN _ _ ?_; cbv)
  all_goals (clear hAnd hImp hR hL hN; try clear hks; try clear hk2; try clear hk3)
  all_goals (cases hM; try dsimp only)
  all_goals (try simp only [Bool.not_eq_true', Bool.not_eq_false', decide_eq_true_eq, decide_eq_false_iff_not, Int.not_le, Int.not_lt, beq_iff_eq, beq_eq_false_iff_ne, ne_eq, Int.ofNat_eq_natCast, Int.toNat_natCast, List.length_replicate, ncast, Nat.sub_zero, List.drop_zero, Cue.eta, Tie.eta, Edge.eta, Link.eta, Node.eta] at *)
  all_goals first
    | exact ha
    | exact hb
    | exact ⟨rfl⟩
    | exact ⟨ha.len⟩
    | exact ⟨hb.len⟩
    | (simp only [er_B]; simp_all; done)
    | trace_state
theorem specImplies_ok (a b : List Int) (ha : LsOk a) (hb : LsOk b) : SCall Tryz.prog 133 [aIs a, aIs b] (rB (implB a b)) := by
  refine SCall.of X133_ok (fn := Tryz.f133) (c := Tryz.f133.body.getD .skip) (dr := fun n => look 0 [] n) Tryz.func133 rfl (by kernel_rfl) (by kernel_rfl) (by kernel_rfl) ?_
  obtain ⟨f, hf⟩ : ∃ f, f = labelB := ⟨_, rfl⟩
  obtain ⟨g, hg⟩ : ∃ f, f = hasB := ⟨_, rfl⟩
  have hO : SOraOK Tryz.prog (oraL [(165, wLabelOk f), (93, wHas g)]) := by subst hf hg; exact oraL_cons wLabelOkS_ok (oraL_cons wHasS_ok oraL_nil)
  rw [show implB a b = (f a && f b && allF (fun _ x => g a x) (b.drop 0) 0) by rw [hf, hg, List.drop_zero, all_allF]; rfl]
  clear hf hg
  have hal := ha.len
  have hbl := hb.len
  unfold maxLen at hbl
  refine SEx.go (X := X133) X133_ok (fun n => look [] [(4, [0, 15, 16, 17])] n) (fun _ => none) hO 60 ?_
  intro M R L N hM hAnd hImp hR hL hN
  cases M
  cbv
  repeat' first | (refine hAnd _ _ ?_ ?_) | (refine hImp _ _ (fun h => ?_)) | (refine hR _ ?_) | (refine hL _ _ (Hd.out ?_); generalize hks : (List.cons _ _ : List K) = ks) | (refine hN _ _ ?_; cbv)
  all_goals (clear hAnd hImp hR hL hN)
  all_goals (cases hM; try dsimp only)
  all_goals (try simp only [Bool.not_eq_true', Bool.not_eq_false', decide_eq_true_eq, decide_eq_false_iff_not, Int.not_le, Int.not_lt, beq_iff_eq, beq_eq_false_iff_ne, ne_eq, Int.ofNat_eq_natCast, Int.toNat_natCast, List.length_replicate, ncast, Nat.sub_zero, List.drop_zero, Cue.eta, Tie.eta, Edge.eta, Link.eta, Node.eta] at *)
  all_goals first
    | exact ha
    | exact hb
    | (simp only [er_B]; simp_all; done)
    | skip
  rw [show f a = true by assumption, show f b = true by assumption, Bool.true_and, Bool.true_and]
  obtain ⟨m, hm⟩ : ∃ m, m = b.length := ⟨_, rfl⟩
  refine ⟨SEx.same (SEx.idx m (fun i => ⟨26, [(0, bL (.i a)), (15, bL (.i b)), (16, bI m), (17, bI i)], []⟩) (fun i => rB (allF (fun _ x => g a x) (b.drop i) i)) ?_) (by rw [hm]; rfl) rfl⟩
  intro i hi ih
  rw [← hks]
  refine SEx.go (X := X133) X133_ok (fun n => look [] [(4, [0, 15, 16, 17])] n) (fun _ => none) hO 60 ?_
  intro M R L N hM hAnd hImp hR hL hN
  cases M
  cbv
  repeat' first | (refine hAnd _ _ ?_ ?_) | (refine hImp _ _ (fun h => ?_)) | (refine hR _ ?_) | (refine hL _ _ (Hd.out ?_); try first | rw [hks] | rw [hk2] | rw [hk3]) | (refine hN _ _ ?_; cbv)
  all_goals (clear hAnd hImp hR hL hN; try clear hks; try clear hk2; try clear hk3)
  all_goals (cases hM; try dsimp only)
  all_goals (try simp only [Bool.not_eq_true', Bool.not_eq_false', decide_eq_true_eq, decide_eq_false_iff_not, Int.not_le, Int.not_lt, beq_iff_eq, beq_eq_false_iff_ne, ne_eq, Int.ofNat_eq_natCast, Int.toNat_natCast, List.length_replicate, ncast, Nat.sub_zero, List.drop_zero, Cue.eta, Tie.eta, Edge.eta, Link.eta, Node.eta] at *)
  all_goals first
    | omega
    | exact ⟨hal⟩
    | (rw [allF_no (p := fun _ x => g a x) (l := b) (i := i) (0 : Int) (by omega) (by assumption)]; rfl)
    | (simp only [wrap_succ (show i < 9223372036854775807 by omega)]; exact ⟨(ih (by omega)).same rfl (by rw [allF_yes (p := fun _ x => g a x) (l := b) (i := i) (0 : Int) (by omega) (by assumption)])⟩)
    | (rw [List.drop_eq_nil_of_le (by omega)]; rfl)
    | trace_state
def wImplies (f : List Int → List Int → Bool) : Wr := w2 dcIs dcIs (fun a b => rB (f a b)) (fun a b => [LsOk a, LsOk b])
theorem wImpliesS_ok : WrOK Tryz.prog 133 (wImplies implB) := w2_ok fun a b h => specImplies_ok a b (h _ (.head _)) (h _ (.tail _ (.head _)))
theorem wImpliesI_ok : WrOK Tryz.prog 144 (wImplies implB) := w2_ok fun a b h => implImplies_ok a b (h _ (.head _)) (h _ (.tail _ (.head _)))
end Go.Proofs.YtececadpjelanaaGreat.Ai
namespace Go.Proofs.YtececadpjelanaaGreat.Ai
open Go
set_option maxRecDepth 100000
set_option linter.unusedVariables false
set_option linter.unusedSimpArgs false
set_option linter.unusedSectionVars false
variable [MemoCtx]
structure IPos0 (p : Int) : Prop where out : 0 < p
def watI (l : List Node) (p : Int) : Int := idxF (fun q => q.watch == p) l 0
theorem specWatcher_ok (t : Show) (p : Int) (h1 : t.nodes.length ≤ maxLen) : SCall Tryz.prog 72 [aShow t, aI p] (rI (watI t.nodes p)) := by
  refine SCall.of X72_ok (fn := Tryz.f72) (c := Tryz.f72.body.getD .skip) (dr := fun n => look 0 [] n) Tryz.func72 rfl (by kernel_rfl) (by kernel_rfl) (by kernel_rfl) ?_
  obtain ⟨cs, ps, hr⟩ := t
  have h1 : cs.length ≤ maxLen := h1
  unfold maxLen at h1
  show SEx _ _ _ _ _ _ (rI (idxF _ cs 0))
  refine SEx.go (X := X72) X72_ok (fun n => look [] [(2, [1, 8, 9, 10])] n) (fun _ => none) oraL_nil 60 ?_
  intro M R L N hM hAnd hImp hR hL hN
  cases M
  cbv
  repeat' first | (refine hAnd _ _ ?_ ?_) | (refine hImp _ _ (fun h => ?_)) | (refine hR _ ?_) | (refine hL _ _ (Hd.out ?_); generalize hks : (List.cons _ _ : List K) = ks) | (refine hN _ _ ?_; cbv)
  all_goals (clear hAnd hImp hR hL hN)
  all_goals (cases hM; try dsimp only)
  all_goals (try simp only [Bool.not_eq_true', Bool.not_eq_false', decide_eq_true_eq, decide_eq_false_iff_not, Int.not_le, Int.not_lt, beq_iff_eq, beq_eq_false_iff_ne, ne_eq, Int.ofNat_eq_natCast, Int.toNat_natCast, List.length_replicate, ncast, Nat.sub_zero, List.drop_zero, Cue.eta, Tie.eta, Edge.eta, Link.eta, Node.eta] at *)
  obtain ⟨n, hn⟩ : ∃ n, n = cs.length := ⟨_, rfl⟩
  refine ⟨SEx.same (SEx.idx n (fun i => ⟨21, [(1, bI p), (8, bL (.node false none cs)), (9, bI n), (10, bI i)], []⟩) (fun i => rI (idxF (fun q => q.watch == p) (cs.drop i) i)) ?_) (by rw [hn]; rfl) rfl⟩
  intro i hi ih
  rw [← hks]
  refine SEx.go (X := X72) X72_ok (fun n => look [] [(2, [1, 8, 9, 10])] n) (fun _ => none) oraL_nil 60 ?_
  intro M R L N hM hAnd hImp hR hL hN
  cases M
  cbv
  repeat' first | (refine hAnd _ _ ?_ ?_) | (refine hImp _ _ (fun h => ?_)) | (refine hR _ ?_) | (refine hL _ _ (Hd.out ?_); try first | rw [hks] | rw [hk2] | rw [hk3]) | (refine hN _ _ ?_; cbv)
  all_goals (clear hAnd hImp hR hL hN; try clear hks; try clear hk2; try clear hk3)
  all_goals (cases hM; try dsimp only)
  all_goals (try simp only [Bool.not_eq_true', Bool.not_eq_false', decide_eq_true_eq, decide_eq_false_iff_not, Int.not_le, Int.not_lt, beq_iff_eq, beq_eq_false_iff_ne, ne_eq, Int.ofNat_eq_natCast, Int.toNat_natCast, List.length_replicate, ncast, Nat.sub_zero, List.drop_zero, Cue.eta, Tie.eta, Edge.eta, Link.eta, Node.eta] at *)
  all_goals first
    | omega
    | exact ⟨rfl, by cases caps <;> rfl⟩
    | exact ⟨rfl, rfl⟩
    | exact mem_getD (z := Node.z) (by omega)
    | (rw [idxF_yes (p := fun q => q.watch == p) (l := cs) (i := i) Node.z (by omega) (by first | assumption | exact beq_iff_eq.2 (by assumption))]; rfl)
    | (rw [idxF_end (by omega)]; rfl)
    | (simp only [wrap_succ (show i < 9223372036854775807 by omega)]; exact ⟨(ih (by omega)).same rfl (by rw [idxF_no (p := fun q => q.watch == p) (l := cs) (i := i) Node.z (by omega) (by first | assumption | exact beq_eq_false_iff_ne.2 (by assumption) | (simp_all; done))])⟩)
  all_goals trace_state
def dcFI (k : Nat) : Dc Int := ⟨fun s => aF k [.ptr [.int .i64 s]], fun | (false, [.fn f [.ptr [.int .i64 s]]]) => (match nq f k with | true => some s | false => none) | _ => none, by
  intro x a h
  split at h
  · split at h
    · rename_i hk
      obtain rfl := nq_iff.1 hk
      simp only [Option.some.injEq] at h; subst h; rfl
    · cases h
  · cases h⟩
theorem implWatcher1_ok (q : Node) (p : Int) (hp : 0 < p) : SCall Tryz.prog 147 [aNode q, (false, [.ptr [.int .i64 p]])] (rB (q.watch == p)) := by
  refine SCall.of X147_ok (fn := Tryz.f147) (c := Tryz.f147.body.getD .skip) (dr := fun n => look 0 [] n) Tryz.func147 rfl (by kernel_rfl) (by kernel_rfl) (by kernel_rfl) ?_
  obtain ⟨x1, x2, x3⟩ := q
  refine SEx.go (X := X147) X147_ok (fun n => look [] [] n) (fun _ => none) oraL_nil 60 ?_
  intro M R L N hM hAnd hImp hR hL hN
  cases M
  cbv
  repeat' first | (refine hAnd _ _ ?_ ?_) | (refine hImp _ _ (fun h => ?_)) | (refine hR _ ?_) | (refine hL _ _ (Hd.out ?_); try first | rw [hks] | rw [hk2] | rw [hk3]) | (refine hN _ _ ?_; cbv)
  all_goals (clear hAnd hImp hR hL hN; try clear hks; try clear hk2; try clear hk3)
  all_goals (cases hM; try dsimp only)
  all_goals (try simp only [Bool.not_eq_true', Bool.not_eq_false', decide_eq_true_eq, decide_eq_false_iff_not, Int.not_le, Int.not_lt, beq_iff_eq, beq_eq_false_iff_ne, ne_eq, Int.ofNat_eq_natCast, Int.toNat_natCast, List.length_replicate, ncast, Nat.sub_zero, List.drop_zero, Cue.eta, Tie.eta, Edge.eta, Link.eta, Node.eta] at *)
  all_goals first
    | rfl
    | (exfalso; omega)
    | trace_state
theorem implWatcher_ok (t : Show) (p : Int) (h1 : t.nodes.length ≤ maxLen) (hp : 0 < p) : SCall Tryz.prog 115 [aShow t, aI p] (rI (watI t.nodes p)) := by
  refine SCall.of X115_ok (fn := Tryz.f115) (c := Tryz.f115.body.getD .skip) (dr := fun n => look 0 [] n) Tryz.func115 rfl (by kernel_rfl) (by kernel_rfl) (by kernel_rfl) ?_
  obtain ⟨f, hf⟩ : ∃ f, f = watI := ⟨_, rfl⟩
  have hO : SOraOK Tryz.prog (oraL [(146, w2 dcNodes (dcFI 147) (fun l s => rI (f l s)) (fun l s => [LLe l maxLen, IPos0 s]))]) := by
    subst hf
    exact oraL_cons (w2_ok fun l s h => idxFuncNode_ok l _ _ _ (fun q _ => implWatcher1_ok q s (h _ (.tail _ (.head _))).out) (h _ (.head _)).out) oraL_nil
  obtain ⟨cs, ps, hr⟩ := t
  have h1 : cs.length ≤ maxLen := h1
  refine SEx.go (X := X115) X115_ok (fun n => look [] [] n) (fun _ => none) hO 60 ?_
  intro M R L N hM hAnd hImp hR hL hN
  cases M
  cbv
  repeat' first | (refine hAnd _ _ ?_ ?_) | (refine hImp _ _ (fun h => ?_)) | (refine hR _ ?_) | (refine hL _ _ (Hd.out ?_); try first | rw [hks] | rw [hk2] | rw [hk3]) | (refine hN _ _ ?_; cbv)
  all_goals (clear hAnd hImp hR hL hN; try clear hks; try clear hk2; try clear hk3)
  all_goals (cases hM; try dsimp only)
  all_goals (try simp only [Bool.not_eq_true', Bool.not_eq_false', decide_eq_true_eq, decide_eq_false_iff_not, Int.not_le, Int.not_lt, beq_iff_eq, beq_eq_false_iff_ne, ne_eq, Int.ofNat_eq_natCast, Int.toNat_natCast, List.length_replicate, ncast, Nat.sub_zero, List.drop_zero, Cue.eta, Tie.eta, Edge.eta, Link.eta, Node.eta] at *)
  all_goals first
    | exact ⟨h1⟩
    | exact ⟨hp⟩
    | (subst hf; rfl)
    | trace_state
def wWatcher (f : List Node → Int → Int) : Wr := w2 dcShow dcI (fun t p => rI (f t.nodes p)) (fun t p => [LLe t.nodes maxLen, IPos0 p])
theorem wWatcherI_ok : WrOK Tryz.prog 115 (wWatcher watI) := w2_ok fun t p h => implWatcher_ok t p (h _ (.head _)).out (h _ (.tail _ (.head _))).out
end Go.Proofs.YtececadpjelanaaGreat.Ai
namespace Go.Proofs.YtececadpjelanaaGreat.Ai
open Go
set_option maxRecDepth 100000
set_option linter.unusedVariables false
set_option linter.unusedSimpArgs false
set_option linter.unusedSectionVars false
variable [MemoCtx]
def spanB (n : Int) : Bool := decide (-20 ≤ n) && decide (n ≤ 20)
theorem isSpan_ok (n : Int) : SCall Tryz.prog 139 [aI n] (rB (spanB n)) := by
  refine SCall.of X139_ok (fn := Tryz.f139) (c := Tryz.f139.body.getD .skip) (dr := fun n => look 0 [] n) Tryz.func139 rfl (by kernel_rfl) (by kernel_rfl) (by kernel_rfl) ?_
  refine SEx.go (X := X139) X139_ok (fun n => look [] [] n) (fun _ => none) oraL_nil 60 ?_
  intro M R L N hM hAnd hImp hR hL hN
  cases M
  cbv
  repeat' first | (refine hAnd _ _ ?_ ?_) | (refine hImp _ _ (fun h => ?_)) | (refine hR _ ?_) | (refine hL _ _ (Hd.out ?_); try first | rw [hks] | rw [hk2] | rw [hk3]) | (refine hN _ _ ?_; cbv)
  all_goals (clear hAnd hImp hR hL hN; try clear hks; try clear hk2; try clear hk3)
  all_goals (cases hM; try dsimp only)
  all_goals (try simp only [Bool.not_eq_true', Bool.not_eq_false', decide_eq_true_eq, decide_eq_false_iff_not, Int.not_le, Int.not_lt, beq_iff_eq, beq_eq_false_iff_ne, ne_eq, Int.ofNat_eq_natCast, Int.toNat_natCast, List.length_replicate, ncast, Nat.sub_zero, List.drop_zero, Cue.eta, Tie.eta, Edge.eta, Link.eta, Node.eta] at *)
  all_goals simp only [er_B, spanB]
  all_goals first
    | (rw [decide_eq_false (show ¬ -20 ≤ n by omega)]; rfl)
    | (rw [decide_eq_true (show -20 ≤ n by omega), Bool.true_and])
def wSpan (f : Int → Bool) : Wr := w1 dcI (fun n => rB (f n)) (fun _ => [])
theorem wSpan_ok : WrOK Tryz.prog 139 (wSpan spanB) := w1_ok fun n _ => isSpan_ok n
def sameL (a b : List Int) : Bool := decide (a.length = b.length) && allF (fun i x => x == b.getD i 0) a 0
theorem l08Same_ok (a b : List Int) (h1 : a.length ≤ maxLen) (h2 : b.length ≤ maxLen) : SCall Tryz.prog 85 [aIs a, aIs b] (rB (sameL a b)) := by
  refine SCall.of X85_ok (fn := Tryz.f85) (c := Tryz.f85.body.getD .skip) (dr := fun n => look 0 [] n) Tryz.func85 rfl (by kernel_rfl) (by kernel_rfl) (by kernel_rfl) ?_
  unfold maxLen at h1 h2
  rw [show sameL a b = (decide (a.length = b.length) && allF (fun i x => x == b.getD i 0) (a.drop 0) 0) by rw [List.drop_zero]; rfl]
  refine SEx.go (X := X85) X85_ok (fun n => look [] [(4, [1, 12, 13, 14])] n) (fun _ => none) oraL_nil 60 ?_
  intro M R L N hM hAnd hImp hR hL hN
  cases M
  cbv
  repeat' first | (refine hAnd _ _ ?_ ?_) | (refine hImp _ _ (fun h => ?_)) | (refine hR _ ?_) | (refine hL _ _ (Hd.out ?_); generalize hks : (List.cons _ _ : List K) = ks) | (refine hN _ _ ?_; cbv)
  all_goals (clear hAnd hImp hR hL hN)
  all_goals (cases hM; try dsimp only)
  all_goals (try simp only [Bool.not_eq_true', Bool.not_eq_false', decide_eq_true_eq, decide_eq_false_iff_not, Int.not_le, Int.not_lt, beq_iff_eq, beq_eq_false_iff_ne, ne_eq, Int.ofNat_eq_natCast, Int.toNat_natCast, List.length_replicate, ncast, Nat.sub_zero, List.drop_zero, Cue.eta, Tie.eta, Edge.eta, Link.eta, Node.eta] at *)
  · simp only [er_B]; rw [decide_eq_false (by omega)]; rfl
  have hab : a.length = b.length := by omega
  rw [decide_eq_true hab, Bool.true_and]
  obtain ⟨m, hm⟩ : ∃ m, m = a.length := ⟨_, rfl⟩
  refine ⟨SEx.same (SEx.idx m (fun i => ⟨26, [(1, bL (.i b)), (12, bL (.i a)), (13, bI m), (14, bI i)], []⟩) (fun i => rB (allF (fun i x => x == b.getD i 0) (a.drop i) i)) ?_) (by rw [hm]; rfl) rfl⟩
  intro i hi ih
  rw [← hks]
  refine SEx.go (X := X85) X85_ok (fun n => look [] [(4, [1, 12, 13, 14])] n) (fun _ => none) oraL_nil 60 ?_
  intro M R L N hM hAnd hImp hR hL hN
  cases M
  cbv
  repeat' first | (refine hAnd _ _ ?_ ?_) | (refine hImp _ _ (fun h => ?_)) | (refine hR _ ?_) | (refine hL _ _ (Hd.out ?_); try first | rw [hks] | rw [hk2] | rw [hk3]) | (refine hN _ _ ?_; cbv)
  all_goals (clear hAnd hImp hR hL hN; try clear hks; try clear hk2; try clear hk3)
  all_goals (cases hM; try dsimp only)
  all_goals (try simp only [Bool.not_eq_true', Bool.not_eq_false', decide_eq_true_eq, decide_eq_false_iff_not, Int.not_le, Int.not_lt, beq_iff_eq, beq_eq_false_iff_ne, ne_eq, Int.ofNat_eq_natCast, Int.toNat_natCast, List.length_replicate, ncast, Nat.sub_zero, List.drop_zero, Cue.eta, Tie.eta, Edge.eta, Link.eta, Node.eta] at *)
  all_goals first
    | omega
    | (rw [allF_no (p := fun i x => x == b.getD i 0) (l := a) (i := i) (0 : Int) (by omega) (beq_eq_false_iff_ne.2 (by assumption))]; rfl)
    | (simp only [wrap_succ (show i < 9223372036854775807 by omega)]; exact ⟨(ih (by omega)).same rfl (by rw [allF_yes (p := fun i x => x == b.getD i 0) (l := a) (i := i) (0 : Int) (by omega) (beq_iff_eq.2 (by assumption))])⟩)
    | (rw [List.drop_eq_nil_of_le (by omega)]; rfl)
    | trace_state
theorem equalI_ok (a b : List Int) (h1 : a.length ≤ maxLen) (h2 : b.length ≤ maxLen) : SCall Tryz.prog 89 [aIs a, aIs b] (rB (sameL a b)) := by
  refine SCall.of X89_ok (fn := Tryz.f89) (c := Tryz.f89.body.getD .skip) (dr := fun n => look 0 [(6, 8)] n) Tryz.func89 rfl (by kernel_rfl) (by kernel_rfl) (by kernel_rfl) ?_
  unfold maxLen at h1 h2
  rw [show sameL a b = (decide (a.length = b.length) && allF (fun i x => x == b.getD i 0) (a.drop 0) 0) by rw [List.drop_zero]; rfl]
  refine SEx.go (X := X89) X89_ok (fun n => look [] [(4, [0, 1, 12, 13])] n) (fun _ => none) oraL_nil 60 ?_
  intro M R L N hM hAnd hImp hR hL hN
  cases M
  cbv
  repeat' first | (refine hAnd _ _ ?_ ?_) | (refine hImp _ _ (fun h => ?_)) | (refine hR _ ?_) | (refine hL _ _ (Hd.out ?_); generalize hks : (List.cons _ _ : List K) = ks) | (refine hN _ _ ?_; cbv)
  all_goals (clear hAnd hImp hR hL hN)
  all_goals (cases hM; try dsimp only)
  all_goals (try simp only [Bool.not_eq_true', Bool.not_eq_false', decide_eq_true_eq, decide_eq_false_iff_not, Int.not_le, Int.not_lt, beq_iff_eq, beq_eq_false_iff_ne, ne_eq, Int.ofNat_eq_natCast, Int.toNat_natCast, List.length_replicate, ncast, Nat.sub_zero, List.drop_zero, Cue.eta, Tie.eta, Edge.eta, Link.eta, Node.eta] at *)
  · simp only [er_B]; rw [decide_eq_false (by omega)]; rfl
  have hab : a.length = b.length := by omega
  rw [decide_eq_true hab, Bool.true_and]
  obtain ⟨m, hm⟩ : ∃ m, m = a.length := ⟨_, rfl⟩
  refine ⟨SEx.same (SEx.idx m (fun i => ⟨26, [(0, bL (.i a)), (1, bL (.i b)), (12, bI m), (13, bI i)], []⟩) (fun i => rB (allF (fun i x => x == b.getD i 0) (a.drop i) i)) ?_) (by rw [hm]; rfl) rfl⟩
  intro i hi ih
  rw [← hks]
  refine SEx.go (X := X89) X89_ok (fun n => look [] [(4, [0, 1, 12, 13])] n) (fun _ => none) oraL_nil 60 ?_
  intro M R L N hM hAnd hImp hR hL hN
  cases M
  cbv
  repeat' first | (refine hAnd _ _ ?_ ?_) | (refine hImp _ _ (fun h => ?_)) | (refine hR _ ?_) | (refine hL _ _ (Hd.out ?_); try first | rw [hks] | rw [hk2] | rw [hk3]) | (refine hN _ _ ?_; cbv)
  all_goals (clear hAnd hImp hR hL hN; try clear hks; try clear hk2; try clear hk3)
  all_goals (cases hM; try dsimp only)
  all_goals (try simp only [Bool.not_eq_true', Bool.not_eq_false', decide_eq_true_eq, decide_eq_false_iff_not, Int.not_le, Int.not_lt, beq_iff_eq, beq_eq_false_iff_ne, ne_eq, Int.ofNat_eq_natCast, Int.toNat_natCast, List.length_replicate, ncast, Nat.sub_zero, List.drop_zero, Cue.eta, Tie.eta, Edge.eta, Link.eta, Node.eta] at *)
  all_goals first
    | omega
    | (rw [allF_no (p := fun i x => x == b.getD i 0) (l := a) (i := i) (0 : Int) (by omega) (beq_eq_false_iff_ne.2 (by assumption))]; rfl)
    | (simp only [wrap_succ (show i < 9223372036854775807 by omega)]; exact ⟨(ih (by omega)).same rfl (by rw [allF_yes (p := fun i x => x == b.getD i 0) (l := a) (i := i) (0 : Int) (by omega) (beq_iff_eq.2 (by assumption))])⟩)
    | (rw [List.drop_eq_nil_of_le (by omega)]; rfl)
    | trace_state
theorem sameL_aux : ∀ (a c : List Int) (b : List Int) (k : Nat), c = b.drop k → a.length = c.length → (allF (fun i x => x == b.getD i 0) a k = decide (a = c))
  | [], [], _, _, _, _ => rfl
  | [], _ :: _, _, _, _, h => by simp at h
  | _ :: _, [], _, _, _, h => by simp at h
  | x :: r, y :: s, b, k, hc, hl => by
    have hk : k < b.length := by
      apply Decidable.byContradiction; intro h
      rw [List.drop_eq_nil_of_le (by omega)] at hc; cases hc
    rw [List.drop_eq_getElem_cons hk] at hc
    injection hc with h1 h2
    unfold allF
    rw [sameL_aux r s b (k + 1) h2 (by simpa using hl), List.getD_eq_getElem?_getD, List.getElem?_eq_getElem hk, Option.getD_some, ← h1]
    rw [Bool.eq_iff_iff]; simp
theorem sameL_eq (a b : List Int) : sameL a b = decide (a = b) := by
  unfold sameL
  by_cases h : a.length = b.length
  · rw [decide_eq_true h, Bool.true_and, sameL_aux a b b 0 rfl h]
  · rw [decide_eq_false h, Bool.false_and, decide_eq_false (fun e => h (by rw [e]))]
def wSameL (f : List Int → List Int → Bool) : Wr := w2 dcIs dcIs (fun a b => rB (f a b)) (fun a b => [LLe a maxLen, LLe b maxLen])
theorem wSameS_ok : WrOK Tryz.prog 85 (wSameL sameL) := w2_ok fun a b h => l08Same_ok a b (h _ (.head _)).out (h _ (.tail _ (.head _))).out
theorem wSameI_ok : WrOK Tryz.prog 89 (wSameL sameL) := w2_ok fun a b h => equalI_ok a b (h _ (.head _)).out (h _ (.tail _ (.head _))).out
structure NdOk (q : Node) : Prop where
  name : q.name.size ≤ maxLen
  len : q.label.length ≤ maxLen
  all : ∀ n ∈ q.label, inI n
def wNodeOk (f : Node → Bool) : Wr := w1 dcNode (fun q => rB (f q)) (fun q => [NdOk q])
theorem wNodeOkS_ok : WrOK Tryz.prog 130 (wNodeOk nodeB) := w1_ok fun q h => specNodeOk_ok q (h _ (.head _)).name (h _ (.head _)).len (h _ (.head _)).all
theorem wNodeOkI_ok : WrOK Tryz.prog 137 (wNodeOk nodeB) := w1_ok fun q h => implNodeOk_ok q (h _ (.head _)).name (h _ (.head _)).len (h _ (.head _)).all
end Go.Proofs.YtececadpjelanaaGreat.Ai
namespace Go.Proofs.YtececadpjelanaaGreat.Ai
open Go
set_option maxRecDepth 100000
set_option linter.unusedVariables false
set_option linter.unusedSimpArgs false
set_option linter.unusedSectionVars false
variable [MemoCtx]
def freeI (l : List Tie) (x : Int) : Int := idxF (fun q => q.free && q.dst == x) l 0
theorem specFree_ok (t : Show) (x : Int) (h1 : t.ties.length ≤ maxLen) : SCall Tryz.prog 121 [aShow t, aI x] (rI (freeI t.ties x)) := by
  refine SCall.of X121_ok (fn := Tryz.f121) (c := Tryz.f121.body.getD .skip) (dr := fun n => look 0 [] n) Tryz.func121 rfl (by kernel_rfl) (by kernel_rfl) (by kernel_rfl) ?_
  obtain ⟨ns, cs, hr⟩ := t
  have h1 : cs.length ≤ maxLen := h1
  unfold maxLen at h1
  show SEx _ _ _ _ _ _ (rI (idxF _ cs 0))
  refine SEx.go (X := X121) X121_ok (fun n => look [] [(2, [1, 8, 9, 10])] n) (fun _ => none) oraL_nil 60 ?_
  intro M R L N hM hAnd hImp hR hL hN
  cases M
  cbv
  repeat' first | (refine hAnd _ _ ?_ ?_) | (refine hImp _ _ (fun h => ?_)) | (refine hR _ ?_) | (refine hL _ _ (Hd.out ?_); generalize hks : (List.cons _ _ : List K) = ks) | (refine hN _ _ ?_; cbv)
  all_goals (clear hAnd hImp hR hL hN)
  all_goals (cases hM; try dsimp only)
  all_goals (try simp only [Bool.not_eq_true', Bool.not_eq_false', decide_eq_true_eq, decide_eq_false_iff_not, Int.not_le, Int.not_lt, beq_iff_eq, beq_eq_false_iff_ne, ne_eq, Int.ofNat_eq_natCast, Int.toNat_natCast, List.length_replicate, ncast, Nat.sub_zero, List.drop_zero, Cue.eta, Tie.eta, Edge.eta, Link.eta, Node.eta] at *)
  obtain ⟨n, hn⟩ : ∃ n, n = cs.length := ⟨_, rfl⟩
  refine ⟨SEx.same (SEx.idx n (fun i => ⟨25, [(1, bI x), (8, bL (.tie cs)), (9, bI n), (10, bI i)], []⟩) (fun i => rI (idxF (fun q => q.free && q.dst == x) (cs.drop i) i)) ?_) (by rw [hn]; rfl) rfl⟩
  intro i hi ih
  rw [← hks]
  refine SEx.go (X := X121) X121_ok (fun n => look [] [(2, [1, 8, 9, 10])] n) (fun _ => none) oraL_nil 60 ?_
  intro M R L N hM hAnd hImp hR hL hN
  cases M
  cbv
  repeat' first | (refine hAnd _ _ ?_ ?_) | (refine hImp _ _ (fun h => ?_)) | (refine hR _ ?_) | (refine hL _ _ (Hd.out ?_); try first | rw [hks] | rw [hk2] | rw [hk3]) | (refine hN _ _ ?_; cbv)
  all_goals (clear hAnd hImp hR hL hN; try clear hks; try clear hk2; try clear hk3)
  all_goals (cases hM; try dsimp only)
  all_goals (try simp only [Bool.not_eq_true', Bool.not_eq_false', decide_eq_true_eq, decide_eq_false_iff_not, Int.not_le, Int.not_lt, beq_iff_eq, beq_eq_false_iff_ne, ne_eq, Int.ofNat_eq_natCast, Int.toNat_natCast, List.length_replicate, ncast, Nat.sub_zero, List.drop_zero, Cue.eta, Tie.eta, Edge.eta, Link.eta, Node.eta] at *)
  all_goals first
    | omega
    | (rw [idxF_yes (p := fun q => q.free && q.dst == x) (l := cs) (i := i) Tie.z (by omega) (by simp_all)]; rfl)
    | (rw [idxF_end (by omega)]; rfl)
    | (simp only [wrap_succ (show i < 9223372036854775807 by omega)]; exact ⟨(ih (by omega)).same rfl (by rw [idxF_no (p := fun q => q.free && q.dst == x) (l := cs) (i := i) Tie.z (by omega) (by simp_all)])⟩)
def wFree (f : List Tie → Int → Int) : Wr := w2 dcShow dcI (fun t x => rI (f t.ties x)) (fun t _ => [LLe t.ties maxLen])
theorem wFreeS_ok : WrOK Tryz.prog 121 (wFree freeI) := w2_ok fun t x h => specFree_ok t x (h _ (.head _)).out
end Go.Proofs.YtececadpjelanaaGreat.Ai
namespace Go.Proofs.YtececadpjelanaaGreat.Ai
open Go
set_option maxRecDepth 100000
set_option linter.unusedVariables false
set_option linter.unusedSimpArgs false
set_option linter.unusedSectionVars false
variable [MemoCtx]
def nd (ns : List Node) (x : Int) : Node := ns.getD x.toNat Node.z
def tieB (ns : List Node) (ts : List Tie) (i : Nat) (q : Tie) : Bool :=
  decide (0 ≤ q.src ∧ q.src ≤ ns.length - 1 ∧ 0 ≤ q.dst ∧ q.dst ≤ ns.length - 1 ∧ ¬ q.src = q.dst ∧ -20 ≤ q.low ∧ q.high ≤ 20 ∧ q.low ≤ q.high) && (!q.free || (decide (1 ≤ q.low ∧ ¬ q.dst = 0 ∧ (nd ns q.dst).watch = 0) && sameL (nd ns q.src).label (nd ns q.dst).label && decide (freeI ts q.dst = i)))
theorem specTie_ok (t : Show) (i : Int) (hi : 0 ≤ i ∧ i < t.ties.length) (h1 : t.nodes.length ≤ maxLen) (h2 : t.ties.length ≤ maxLen) (h3 : ∀ q ∈ t.nodes, q.label.length ≤ maxLen) : SCall Tryz.prog 103 [aShow t, aI i] (rB (tieB t.nodes t.ties i.toNat (t.ties.getD i.toNat Tie.z))) := by
  refine SCall.of X103_ok (fn := Tryz.f103) (c := Tryz.f103.body.getD .skip) (dr := fun n => look 0 [(5, 45)] n) Tryz.func103 rfl (by kernel_rfl) (by kernel_rfl) (by kernel_rfl) ?_
  obtain ⟨f0, hf0⟩ : ∃ f, f = l01InB := ⟨_, rfl⟩
  obtain ⟨f1, hf1⟩ : ∃ f, f = sameL := ⟨_, rfl⟩
  obtain ⟨f2, hf2⟩ : ∃ f, f = freeI := ⟨_, rfl⟩
  have hO : SOraOK Tryz.prog (oraL [(70, wL01 f0), (85, wSameL f1), (121, wFree f2)]) := by subst hf0 hf1 hf2; exact oraL_cons wL01_ok (oraL_cons wSameS_ok (oraL_cons wFreeS_ok oraL_nil))
  obtain ⟨ns, ts, hr⟩ := t
  have hi : 0 ≤ i ∧ i < ts.length := hi
  have h1 : ns.length ≤ maxLen := h1
  have h2 : ts.length ≤ maxLen := h2
  have h3 : ∀ q ∈ ns, q.label.length ≤ maxLen := h3
  show SEx _ _ _ _ _ _ (rB (tieB ns ts i.toNat (ts.getD i.toNat Tie.z)))
  obtain ⟨n, rfl⟩ : ∃ n : Nat, i = n := ⟨i.toNat, by omega⟩
  refine SEx.go (X := X103) X103_ok (fun n => look [] [] n) (fun _ => none) hO 60 ?_
  intro M R L N hM hAnd hImp hR hL hN
  cases M
  cbv
  repeat' first | (refine hAnd _ _ ?_ ?_) | (refine hImp _ _ (fun h => ?_)) | (refine hR _ ?_) | (refine hL _ _ (Hd.out ?_); try first | rw [hks] | rw [hk2] | rw [hk3]) | (refine hN _ _ ?_; cbv)
  all_goals (clear hAnd hImp hR hL hN; try clear hks; try clear hk2; try clear hk3)
  all_goals (cases hM; try dsimp only)
  all_goals (try simp only [Bool.not_eq_true', Bool.not_eq_false', decide_eq_true_eq, decide_eq_false_iff_not, Int.not_le, Int.not_lt, beq_iff_eq, beq_eq_false_iff_ne, ne_eq, Int.ofNat_eq_natCast, Int.toNat_natCast, List.length_replicate, ncast, Nat.sub_zero, List.drop_zero, Cue.eta, Tie.eta, Edge.eta, Link.eta, Node.eta] at *)
  all_goals (have hQ := mem_getD (z := Tie.z) (l := ts) (i := n) (by omega); generalize ts.getD n Tie.z = q at *; obtain ⟨x1, x2, x3, x4, x5⟩ := q)
  all_goals (clear hO; subst hf0 hf1 hf2; unfold maxLen at h1 h2; try dsimp only at *)
  all_goals (try simp only [wrap_i64 (n := (ns.length : Int) - 1) (by omega) (by omega), l01InB, Bool.and_eq_true, Bool.and_eq_false_iff, decide_eq_true_eq, decide_eq_false_iff_not] at *)
  all_goals first
    | omega
    | exact ⟨h2⟩
    | exact ⟨h3 _ (mem_getD (z := Node.z) (by omega)).out⟩
    | (simp only [er_B]; symm; rw [Bool.eq_false_iff]; intro h; simp only [tieB, Bool.and_eq_true, Bool.or_eq_true, Bool.not_eq_true', decide_eq_true_eq] at h; simp only [nd] at h; first | omega | (simp_all; done) | (simp_all; omega))
    | (simp only [er_B]; symm; simp only [tieB, Bool.and_eq_true, Bool.or_eq_true, Bool.not_eq_true', decide_eq_true_eq]; first | (refine ⟨by omega, .inl ?_⟩; assumption) | (refine ⟨by omega, .inr ⟨⟨by omega, ?_⟩, ?_⟩⟩ <;> assumption))
    | (simp only [er_B]; simp only [tieB, nd]; rw [Bool.eq_iff_iff]; simp only [Bool.and_eq_true, Bool.or_eq_true, Bool.not_eq_true', decide_eq_true_eq, beq_iff_eq]; constructor; (· intro h; exact ⟨by omega, .inr ⟨⟨⟨by assumption, by assumption, by assumption⟩, by assumption⟩, h⟩⟩); (· rintro ⟨-, h | h⟩; (· have := h.symm.trans (by assumption : _ = true); cases this); (· exact h.2)))
    | (simp only [er_B]; rw [Bool.eq_iff_iff]; simp only [tieB, Bool.and_eq_true, Bool.or_eq_true, Bool.not_eq_true', decide_eq_true_eq, beq_iff_eq]; simp only [nd]; constructor; (· intro h; exact ⟨by omega, .inr ⟨⟨⟨by assumption, by assumption, by assumption⟩, by assumption⟩, h⟩⟩); (· rintro ⟨-, h | h⟩; (· have := h.symm.trans (by assumption : _ = true); cases this); (· exact h.2)))
def dcC1 {α : Type} (k : Nat) (g : Bool) (d : Dc α) (hg : ∀ a, (d.enc a).1 = g) : Dc α := ⟨fun a => aF k [.ptr (d.enc a).2], fun | (false, [.fn f [.ptr x]]) => (match nq f k with | true => d.dec (g, x) | false => none) | _ => none, by
  intro x a h
  split at h
  · split at h
    · rename_i hk
      obtain rfl := nq_iff.1 hk
      have := d.ok _ _ h
      have e := congrArg Prod.snd this
      simp only [v1er] at e
      simp only [v1er, D.erL, D.er, aF, e]
    · cases h
  · cases h⟩
theorem areTies1_ok (u t : Tie) : SCall Tryz.prog 140 [aTie u, (false, [.ptr t.d])] (rB (u.free && u.dst == t.dst)) := by
  refine SCall.of X140_ok (fn := Tryz.f140) (c := Tryz.f140.body.getD .skip) (dr := fun n => look 0 [] n) Tryz.func140 rfl (by kernel_rfl) (by kernel_rfl) (by kernel_rfl) ?_
  obtain ⟨x1, x2, x3, x4, x5⟩ := u
  obtain ⟨y1, y2, y3, y4, y5⟩ := t
  refine SEx.go (X := X140) X140_ok (fun n => look [] [] n) (fun _ => none) oraL_nil 60 ?_
  intro M R L N hM hAnd hImp hR hL hN
  cases M
  cbv
  repeat' first | (refine hAnd _ _ ?_ ?_) | (refine hImp _ _ (fun h => ?_)) | (refine hR _ ?_) | (refine hL _ _ (Hd.out ?_); try first | rw [hks] | rw [hk2] | rw [hk3]) | (refine hN _ _ ?_; cbv)
  all_goals (clear hAnd hImp hR hL hN; try clear hks; try clear hk2; try clear hk3)
  all_goals (cases hM; try dsimp only)
  all_goals (try simp only [Bool.not_eq_true', Bool.not_eq_false', decide_eq_true_eq, decide_eq_false_iff_not, Int.not_le, Int.not_lt, beq_iff_eq, beq_eq_false_iff_ne, ne_eq, Int.ofNat_eq_natCast, Int.toNat_natCast, List.length_replicate, ncast, Nat.sub_zero, List.drop_zero, Cue.eta, Tie.eta, Edge.eta, Link.eta, Node.eta] at *)
  all_goals simp only [er_B]
  all_goals (rw [show x5 = _ by assumption]; rfl)
def dcTc (k : Nat) : Dc Tie := dcC1 k true dcTie fun _ => rfl
def tieI (ns : List Node) (ts : List Tie) (i : Nat) (q : Tie) : Bool :=
  decide (0 ≤ q.src ∧ q.src ≤ ns.length - 1 ∧ 0 ≤ q.dst ∧ q.dst ≤ ns.length - 1 ∧ ¬ q.src = q.dst ∧ -20 ≤ q.low ∧ q.high ≤ 20 ∧ q.low ≤ q.high) && (!q.free || (decide (1 ≤ q.low ∧ ¬ q.dst = 0 ∧ (nd ns q.dst).watch = 0) && sameL (nd ns q.dst).label (nd ns q.src).label && !((ts.take i).any fun u => u.free && u.dst == q.dst)))
theorem areTies_ok (t : Show) (h1 : t.nodes.length ≤ maxLen) (h2 : t.ties.length ≤ maxLen) (h3 : ∀ q ∈ t.nodes, q.label.length ≤ maxLen) : SCall Tryz.prog 110 [aShow t] (rB (allF (tieI t.nodes t.ties) t.ties 0 && decide (t.ties.length ≤ 14))) := by
  refine SCall.of X110_ok (fn := Tryz.f110) (c := Tryz.f110.body.getD .skip) (dr := fun n => look 0 [(7, 33)] n) Tryz.func110 rfl (by kernel_rfl) (by kernel_rfl) (by kernel_rfl) ?_
  obtain ⟨f0, hf0⟩ : ∃ f, f = isNodeB := ⟨_, rfl⟩
  obtain ⟨f1, hf1⟩ : ∃ f, f = sameL := ⟨_, rfl⟩
  obtain ⟨f2, hf2⟩ : ∃ f, f = spanB := ⟨_, rfl⟩
  obtain ⟨f3, hf3⟩ : ∃ f : List Tie → Tie → Bool, f = fun l q => l.any fun u => u.free && u.dst == q.dst := ⟨_, rfl⟩
  have hO : SOraOK Tryz.prog (oraL [(138, wIsNode f0), (139, wSpan f2), (89, wSameL f1), (126, w2 dcTies (dcTc 140) (fun l q => rB (f3 l q)) (fun l q => [LLe l maxLen]))]) := by
    subst hf0 hf1 hf2 hf3
    exact oraL_cons wIsNode_ok (oraL_cons wSpan_ok (oraL_cons wSameI_ok (oraL_cons (w2_ok fun l q h => contFuncTie_ok l _ _ _ (fun u _ => areTies1_ok u q) (h _ (.head _)).out) oraL_nil)))
  obtain ⟨ns, ts, hr⟩ := t
  have h1 : ns.length ≤ maxLen := h1
  have h2 : ts.length ≤ maxLen := h2
  have h3 : ∀ q ∈ ns, q.label.length ≤ maxLen := h3
  unfold maxLen at h1 h2
  show SEx _ _ _ _ _ _ (rB (allF (tieI ns ts) ts 0 && decide (ts.length ≤ 14)))
  obtain ⟨c, hc⟩ : ∃ c, c = decide (ts.length ≤ 14) := ⟨_, rfl⟩
  obtain ⟨p, hp⟩ : ∃ p, p = tieI ns ts := ⟨_, rfl⟩
  rw [← hc, ← hp]
  refine SEx.go (X := X110) X110_ok (fun n => look [] [(2, [1, 6, 7, 8])] n) (fun _ => none) hO 60 ?_
  intro M R L N hM hAnd hImp hR hL hN
  cases M
  cbv
  repeat' first | (refine hAnd _ _ ?_ ?_) | (refine hImp _ _ (fun h => ?_)) | (refine hR _ ?_) | (refine hL _ _ (Hd.out ?_); generalize hks : (List.cons _ _ : List K) = ks) | (refine hN _ _ ?_; cbv)
  all_goals (clear hAnd hImp hR hL hN)
  all_goals (cases hM; try dsimp only)
  all_goals (try simp only [Bool.not_eq_true', Bool.not_eq_false', decide_eq_true_eq, decide_eq_false_iff_not, Int.not_le, Int.not_lt, beq_iff_eq, beq_eq_false_iff_ne, ne_eq, Int.ofNat_eq_natCast, Int.toNat_natCast, List.length_replicate, ncast, Nat.sub_zero, List.drop_zero, Cue.eta, Tie.eta, Edge.eta, Link.eta, Node.eta] at *)
  obtain ⟨m, hm⟩ : ∃ m, m = ts.length := ⟨_, rfl⟩
  refine ⟨SEx.same (SEx.idx m (fun i => ⟨105, [(1, bP 4096), (6, bL (.tie ts)), (7, bI m), (8, bI i)], [(4096, .obx [.fz (.sl (.node false none ns)), .fz (.sl (.tie ts)), .fz (.int .i64 hr)])]⟩) (fun i => rB (allF p (ts.drop i) i && c)) ?_) (by rw [hm]; rfl) rfl⟩
  intro i hi ih
  rw [← hks]
  have hl : i < m → LoopB _ _ _ := fun h => LoopB.of p ts i c Tie.z (by omega)
  have he : i = m → (allF p (ts.drop i) i && c) = c := fun h => allF_end_and (by omega)
  refine SEx.go (X := X110) X110_ok (fun n => look [] [(2, [1, 6, 7, 8])] n) (fun _ => none) hO 60 ?_
  intro M R L N hM hAnd hImp hR hL hN
  cases M
  cbv
  repeat' first | (refine hAnd _ _ ?_ ?_) | (refine hImp _ _ (fun h => ?_)) | (refine hR _ ?_) | (refine hL _ _ (Hd.out ?_); try first | rw [hks] | rw [hk2] | rw [hk3]) | (refine hN _ _ ?_; cbv)
  all_goals (clear hAnd hImp hR hL hN; try clear hks; try clear hk2; try clear hk3)
  all_goals (cases hM; try dsimp only)
  all_goals (try simp only [Bool.not_eq_true', Bool.not_eq_false', decide_eq_true_eq, decide_eq_false_iff_not, Int.not_le, Int.not_lt, beq_iff_eq, beq_eq_false_iff_ne, ne_eq, Int.ofNat_eq_natCast, Int.toNat_natCast, List.length_replicate, ncast, Nat.sub_zero, List.drop_zero, Cue.eta, Tie.eta, Edge.eta, Link.eta, Node.eta] at *)
  all_goals (clear hO; subst hf0 hf1 hf2 hf3)
  all_goals (try simp only [wrap_succ (show i < 9223372036854775807 by omega)])
  all_goals (try refine ⟨(ih (by omega)).same rfl ?_⟩)
  all_goals (clear ih)
  all_goals (generalize ts.getD i Tie.z = q at *; obtain ⟨x1, x2, x3, x4, x5⟩ := q; try dsimp only at *)
  all_goals (try simp only [isNodeB, spanB, Bool.and_eq_true, Bool.and_eq_false_iff, decide_eq_true_eq, decide_eq_false_iff_not] at *)
  all_goals first
    | omega
    | exact ⟨h3 _ (mem_getD (z := Node.z) (by omega)).out⟩
    | (refine ⟨?_⟩; simp only [List.length_take]; omega)
    | (rw [he (by omega), hc]; simp only [er_B]; apply decide_eq_decide.2; omega)
    | (refine (hl (by omega)).stop _ ?_; clear hl he; rw [hp, Bool.eq_false_iff]; intro h; simp only [tieI, Bool.and_eq_true, Bool.or_eq_true, Bool.not_eq_true', decide_eq_true_eq] at h; simp only [nd] at h; first | omega | (rcases h with ⟨-, h | h⟩; (· simp_all; done); (· refine absurd h.2 ?_; rw [Bool.not_eq_false]; assumption)) | (generalize ns.getD x2.toNat Node.z = r2 at *; generalize ns.getD x1.toNat Node.z = r1 at *; cases r1; cases r2; simp_all; done) | (simp_all; omega))
    | (refine (hl (by omega)).go ?_; clear hl he; rw [hp]; simp only [tieI, Bool.and_eq_true, Bool.or_eq_true, Bool.not_eq_true', decide_eq_true_eq]; first | (refine ⟨by omega, .inl ?_⟩; assumption) | (refine ⟨by omega, .inr ⟨⟨⟨by omega, by omega, by assumption⟩, ?_⟩, ?_⟩⟩ <;> assumption))
    | trace_state
theorem idxF_take {α : Type} {p : α → Bool} : ∀ {l : List α} {i : Nat} (n : Nat) (z : α), i < l.length → p (l.getD i z) = true → (idxF p l n = (n + i : Nat) ↔ (l.take i).any p = false)
  | [], i, n, z, h, _ => absurd h (Nat.not_lt_zero _)
  | a :: r, 0, n, z, _, hp => by simp only [List.getD_cons_zero] at hp; simp [idxF, hp]
  | a :: r, i + 1, n, z, h, hp => by
    simp only [List.getD_cons_succ] at hp
    simp only [List.length_cons] at h
    have ih := idxF_take (l := r) (i := i) (n + 1) z (by omega) hp
    have hge := (idxF_lt p r (n + 1)).2
    unfold idxF
    simp only [List.take_succ_cons, List.any_cons]
    cases ha : p a with
    | true => simp; omega
    | false =>
      simp only [Bool.false_or, Bool.false_eq_true, if_false]
      rw [← ih, show n + 1 + i = n + (i + 1) by omega]
theorem sameL_comm (a b : List Int) : sameL a b = sameL b a := by
  rw [sameL_eq, sameL_eq, Bool.eq_iff_iff]
  simp only [decide_eq_true_eq]
  exact ⟨fun h => h.symm, fun h => h.symm⟩
theorem tieI_eq {ns : List Node} {ts : List Tie} {i : Nat} {q : Tie} (h : ts[i]? = some q) : tieI ns ts i q = tieB ns ts i q := by
  have hi : i < ts.length := by rw [List.getElem?_eq_some_iff] at h; exact h.1
  have hq : ts.getD i Tie.z = q := by rw [List.getD_eq_getElem?_getD, h]; rfl
  unfold tieI tieB
  cases hf : q.free with
  | false => rfl
  | true =>
    have e : decide (freeI ts q.dst = i) = !((ts.take i).any fun u => u.free && u.dst == q.dst) := by
      have := idxF_take (p := fun u : Tie => u.free && u.dst == q.dst) (l := ts) (i := i) 0 Tie.z hi (by rw [hq, hf]; simp)
      rw [Nat.zero_add] at this
      rw [Bool.eq_iff_iff]
      simp only [decide_eq_true_eq, Bool.not_eq_true']
      exact this
    rw [e, sameL_comm]
theorem ties_eq (ns : List Node) (ts : List Tie) : allF (tieI ns ts) ts 0 = allF (tieB ns ts) ts 0 := allF_congr ts 0 fun i q h => by rw [Nat.zero_add]; exact tieI_eq h
def wTie (f : List Node → List Tie → Nat → Tie → Bool) : Wr := w2 dcShow dcI (fun t i => rB (f t.nodes t.ties i.toNat (t.ties.getD i.toNat Tie.z))) (fun t i => [InX i t.ties, LLe t.nodes maxLen, LLe t.ties maxLen, LabsLe t.nodes maxLen])
theorem wTie_ok : WrOK Tryz.prog 103 (wTie tieB) := w2_ok fun t i h => specTie_ok t i (h _ (.head _)).out (h _ (.tail _ (.head _))).out (h _ (.tail _ (.tail _ (.head _)))).out (h _ (.tail _ (.tail _ (.tail _ (.head _))))).out
def wAreTies (f : List Node → List Tie → Bool) : Wr := w1 dcShow (fun t => rB (f t.nodes t.ties)) (fun t => [LLe t.nodes maxLen, LLe t.ties maxLen, LabsLe t.nodes maxLen])
def tiesB (ns : List Node) (ts : List Tie) : Bool := allF (tieB ns ts) ts 0 && decide (ts.length ≤ 14)
theorem wAreTies_ok : WrOK Tryz.prog 110 (wAreTies tiesB) := w1_ok fun t h => by unfold tiesB; rw [← ties_eq]; exact areTies_ok t (h _ (.head _)).out (h _ (.tail _ (.head _))).out (h _ (.tail _ (.tail _ (.head _)))).out
end Go.Proofs.YtececadpjelanaaGreat.Ai
namespace Go.Proofs.YtececadpjelanaaGreat.Ai
open Go
set_option maxRecDepth 100000
set_option linter.unusedVariables false
set_option linter.unusedSimpArgs false
set_option linter.unusedSectionVars false
variable [MemoCtx]
def negI (x : Int) : Int := IntKind.i64.wrap (-x)
def labAt (cs : List Node) (x : Int) : List Int := (cs.getD x.toNat Node.z).label
def wdB (cs : List Node) (l : List Int) (x : Int) : Bool := decide (0 ≤ watI cs (propI x)) && (!hasB (labAt cs (watI cs (propI x))) x && (!hasB (labAt cs (watI cs (propI x))) (negI x) && implB l (labAt cs (watI cs (propI x)))))
def wWatcherN (f : List Node → Int → Int) : Wr := w2 dcShow dcI (fun t p => rI (f t.nodes p)) (fun t p => [LLe t.nodes maxLen])
theorem wWatcherN_ok : WrOK Tryz.prog 72 (wWatcherN watI) := w2_ok fun t p h => specWatcher_ok t p (h _ (.head _)).out
def wNamed (f : List Node → ByteArray → Int) : Wr := w2 dcShow dcS (fun t p => rI (f t.nodes p)) (fun t p => [LLe t.nodes maxLen])
def nameI (l : List Node) (s : ByteArray) : Int := idxF (fun q => eqS q.name s) l 0
theorem wNamed_ok : WrOK Tryz.prog 131 (wNamed nameI) := w2_ok fun t p h => nodeNamed_ok t p (h _ (.head _)).out
theorem watI_lt (l : List Node) (p : Int) : watI l p < l.length ∧ (0 ≤ watI l p ∨ watI l p = -1) := by
  unfold watI
  have := idxF_lt (fun q : Node => q.watch == p) l 0
  omega
theorem isWatched_ok (t : Show) (l : List Int) (x : Int) (h1 : t.nodes.length ≤ maxLen) (h2 : ∀ q ∈ t.nodes, LsOk q.label) (hl : LsOk l) (hx : inI x) (hp : 0 < propI x) : SCall Tryz.prog 113 [aShow t, aIs l, aI x] (rB (wdB t.nodes l x)) := by
  refine SCall.of X113_ok (fn := Tryz.f113) (c := Tryz.f113.body.getD .skip) (dr := fun n => look 0 [(1, 3)] n) Tryz.func113 rfl (by kernel_rfl) (by kernel_rfl) (by kernel_rfl) ?_
  obtain ⟨f0, hf0⟩ : ∃ f, f = propI := ⟨_, rfl⟩
  obtain ⟨f1, hf1⟩ : ∃ f, f = watI := ⟨_, rfl⟩
  obtain ⟨f2, hf2⟩ : ∃ f, f = hasB := ⟨_, rfl⟩
  obtain ⟨f3, hf3⟩ : ∃ f, f = implB := ⟨_, rfl⟩
  have hO : SOraOK Tryz.prog (oraL [(142, wProp f0), (115, wWatcher f1), (143, wHas f2), (144, wImplies f3)]) := by
    subst hf0 hf1 hf2 hf3
    exact oraL_cons wPropI_ok (oraL_cons wWatcherI_ok (oraL_cons wHasI_ok (oraL_cons wImpliesI_ok oraL_nil)))
  obtain ⟨ns, ts, hr⟩ := t
  have h1 : ns.length ≤ maxLen := h1
  have h2 : ∀ q ∈ ns, LsOk q.label := h2
  show SEx _ _ _ _ _ _ (rB (wdB ns l x))
  rw [← hf0] at hp
  have hlt : f1 ns (f0 x) < ns.length := by rw [hf1]; exact (watI_lt _ _).1
  refine SEx.go (X := X113) X113_ok (fun n => look [] [] n) (fun _ => none) hO 60 ?_
  intro M R L N hM hAnd hImp hR hL hN
  cases M
  cbv
  repeat' first | (refine hAnd _ _ ?_ ?_) | (refine hImp _ _ (fun h => ?_)) | (refine hR _ ?_) | (refine hL _ _ (Hd.out ?_); try first | rw [hks] | rw [hk2] | rw [hk3]) | (refine hN _ _ ?_; cbv)
  all_goals (clear hAnd hImp hR hL hN; try clear hks; try clear hk2; try clear hk3)
  all_goals (cases hM; try dsimp only)
  all_goals (try simp only [Bool.not_eq_true', Bool.not_eq_false', decide_eq_true_eq, decide_eq_false_iff_not, Int.not_le, Int.not_lt, beq_iff_eq, beq_eq_false_iff_ne, ne_eq, Int.ofNat_eq_natCast, Int.toNat_natCast, List.length_replicate, ncast, Nat.sub_zero, List.drop_zero, Cue.eta, Tie.eta, Edge.eta, Link.eta, Node.eta] at *)
  all_goals (clear hO; subst hf0 hf1 hf2 hf3)
  all_goals first
    | exact ⟨hx⟩
    | exact ⟨h1⟩
    | exact ⟨hp⟩
    | exact hl
    | omega
    | exact ⟨(h2 _ (mem_getD (z := Node.z) (by omega)).out).len⟩
    | exact h2 _ (mem_getD (z := Node.z) (by omega)).out
    | (simp only [er_B]; unfold wdB labAt negI; delta Node.label; rw [decide_eq_false (by omega)]; rfl)
    | (simp only [er_B]; unfold wdB labAt negI; delta Node.label; rw [decide_eq_true (by omega)]; simp_all; done)
    | skip
structure PosP (x : Int) : Prop where out : 0 < propI x
structure LabsOk (cs : List Node) : Prop where out : ∀ q ∈ cs, LsOk q.label
theorem showOk1_ok (x : Int) (t : Show) (q : Node) (h1 : t.nodes.length ≤ maxLen) (h2 : ∀ q ∈ t.nodes, LsOk q.label) (hl : LsOk q.label) (hx : inI x) (hp : 0 < propI x) : SCall Tryz.prog 112 [aI x, (false, [.ptr t.d]), (false, [.ptr q.d])] (rB (!wdB t.nodes q.label x)) := by
  refine SCall.of X112_ok (fn := Tryz.f112) (c := Tryz.f112.body.getD .skip) (dr := fun n => look 0 [] n) Tryz.func112 rfl (by kernel_rfl) (by kernel_rfl) (by kernel_rfl) ?_
  obtain ⟨f, hf⟩ : ∃ f, f = wdB := ⟨_, rfl⟩
  have hO : SOraOK Tryz.prog (oraL [(113, w3 dcShow dcIs dcI (fun t l x => rB (f t.nodes l x)) (fun t l x => [LLe t.nodes maxLen, LabsOk t.nodes, LsOk l, IIn x, PosP x]))]) := by
    subst hf
    exact oraL_cons (w3_ok fun t l x h => isWatched_ok t l x (h _ (.head _)).out (h _ (.tail _ (.head _))).out (h _ (.tail _ (.tail _ (.head _)))) (h _ (.tail _ (.tail _ (.tail _ (.head _))))).out (h _ (.tail _ (.tail _ (.tail _ (.tail _ (.head _)))))).out) oraL_nil
  obtain ⟨ns, ts, hr⟩ := t
  obtain ⟨x1, x2, x3⟩ := q
  have h1 : ns.length ≤ maxLen := h1
  have h2 : ∀ q ∈ ns, LsOk q.label := h2
  have hl : LsOk x2 := hl
  refine SEx.go (X := X112) X112_ok (fun n => look [] [] n) (fun _ => none) hO 60 ?_
  intro M R L N hM hAnd hImp hR hL hN
  cases M
  cbv
  repeat' first | (refine hAnd _ _ ?_ ?_) | (refine hImp _ _ (fun h => ?_)) | (refine hR _ ?_) | (refine hL _ _ (Hd.out ?_); try first | rw [hks] | rw [hk2] | rw [hk3]) | (refine hN _ _ ?_; cbv)
  all_goals (clear hAnd hImp hR hL hN; try clear hks; try clear hk2; try clear hk3)
  all_goals (cases hM; try dsimp only)
  all_goals (try simp only [Bool.not_eq_true', Bool.not_eq_false', decide_eq_true_eq, decide_eq_false_iff_not, Int.not_le, Int.not_lt, beq_iff_eq, beq_eq_false_iff_ne, ne_eq, Int.ofNat_eq_natCast, Int.toNat_natCast, List.length_replicate, ncast, Nat.sub_zero, List.drop_zero, Cue.eta, Tie.eta, Edge.eta, Link.eta, Node.eta] at *)
  all_goals first
    | exact ⟨h1⟩
    | exact ⟨h2⟩
    | exact hl
    | exact ⟨hx⟩
    | exact ⟨hp⟩
    | (subst hf; rfl)
def ndP (cs : List Node) (i : Nat) (q : Node) : Bool := nodeB q && (decide (nameI cs q.name = i) && (decide (q.watch = 0) || decide (watI cs q.watch = i)))
def labsP (cs : List Node) (q : Node) : Bool := allF (fun _ x => wdB cs q.label x) q.label 0
def headB (cs : List Node) : Bool := decide (1 ≤ (cs.length : Int) ∧ (cs.length : Int) ≤ 7) && (decide (((nd cs 0).label.length : Int) ≤ 0) && decide ((nd cs 0).watch = 0))
theorem specNodes_ok (t : Show) (h1 : t.nodes.length ≤ maxLen) (h2 : ∀ q ∈ t.nodes, NdOk q) : SCall Tryz.prog 102 [aShow t] (rB (headB t.nodes && (allF (ndP t.nodes) t.nodes 0 && allF (fun _ q => labsP t.nodes q) t.nodes 0))) := by
  refine SCall.of X102_ok (fn := Tryz.f102) (c := Tryz.f102.body.getD .skip) (dr := fun n => look 0 [(15, 3), (16, 32)] n) Tryz.func102 rfl (by kernel_rfl) (by kernel_rfl) (by kernel_rfl) ?_
  obtain ⟨f0, hf0⟩ : ∃ f, f = l01InB := ⟨_, rfl⟩
  obtain ⟨f1, hf1⟩ : ∃ f, f = nodeB := ⟨_, rfl⟩
  obtain ⟨f2, hf2⟩ : ∃ f, f = nameI := ⟨_, rfl⟩
  obtain ⟨f3, hf3⟩ : ∃ f, f = watI := ⟨_, rfl⟩
  obtain ⟨f4, hf4⟩ : ∃ f, f = propI := ⟨_, rfl⟩
  obtain ⟨f5, hf5⟩ : ∃ f, f = hasB := ⟨_, rfl⟩
  obtain ⟨f6, hf6⟩ : ∃ f, f = implB := ⟨_, rfl⟩
  have hO : SOraOK Tryz.prog (oraL [(70, wL01 f0), (130, wNodeOk f1), (131, wNamed f2), (72, wWatcherN f3), (132, wProp f4), (93, wHas f5), (133, wImplies f6)]) := by
    subst hf0 hf1 hf2 hf3 hf4 hf5 hf6
    exact oraL_cons wL01_ok (oraL_cons wNodeOkS_ok (oraL_cons wNamed_ok (oraL_cons wWatcherN_ok (oraL_cons wPropS_ok (oraL_cons wHasS_ok (oraL_cons wImpliesS_ok oraL_nil))))))
  obtain ⟨cs, ts, hr⟩ := t
  have h1 : cs.length ≤ maxLen := h1
  have h2 : ∀ q ∈ cs, NdOk q := h2
  unfold maxLen at h1
  show SEx _ _ _ _ _ _ (rB (headB cs && (allF (ndP cs) cs 0 && allF (fun _ q => labsP cs q) cs 0)))
  obtain ⟨c, hc⟩ : ∃ c, c = allF (fun _ q => labsP cs q) cs 0 := ⟨_, rfl⟩
  obtain ⟨p, hp⟩ : ∃ p, p = ndP cs := ⟨_, rfl⟩
  rw [← hc, ← hp]
  refine SEx.go (X := X102) X102_ok (fun n => look [] [(4, [1, 33, 34, 35]), (10, [1, 66, 67, 68]), (13, [1, 6, 66, 67, 68, 73, 74, 75])] n) (fun _ => none) hO 60 ?_
  intro M R L N hM hAnd hImp hR hL hN
  cases M
  cbv
  repeat' first | (refine hAnd _ _ ?_ ?_) | (refine hImp _ _ (fun h => ?_)) | (refine hR _ ?_) | (refine hL _ _ (Hd.out ?_); generalize hks : (List.cons _ _ : List K) = ks) | (refine hN _ _ ?_; cbv)
  all_goals (clear hAnd hImp hR hL hN)
  all_goals (cases hM; try dsimp only)
  all_goals (try simp only [Bool.not_eq_true', Bool.not_eq_false', decide_eq_true_eq, decide_eq_false_iff_not, Int.not_le, Int.not_lt, beq_iff_eq, beq_eq_false_iff_ne, ne_eq, Int.ofNat_eq_natCast, Int.toNat_natCast, List.length_replicate, ncast, Nat.sub_zero, List.drop_zero, Cue.eta, Tie.eta, Edge.eta, Link.eta, Node.eta] at *)
  all_goals (try simp only [hf0, l01InB, Bool.and_eq_true, Bool.and_eq_false_iff, decide_eq_true_eq, decide_eq_false_iff_not] at *)
  all_goals first
    | omega
    | (refine er_via ?_ _; unfold headB nd; delta Node.label Node.watch; rw [decide_eq_false (by omega)]; rfl)
    | (refine er_via ?_ _; unfold headB nd; delta Node.label Node.watch; rw [Bool.and_assoc, decide_eq_true (by omega), Bool.true_and, decide_eq_false (by omega)]; rfl)
    | (refine er_via ?_ _; unfold headB nd; delta Node.label Node.watch; rw [decide_eq_true (by omega), decide_eq_true (by omega), decide_eq_false (by assumption)]; rfl)
    | skip
  have hh : headB cs = true := by
    unfold headB nd; delta Node.label Node.watch; rw [decide_eq_true (by omega), decide_eq_true (by omega), decide_eq_true (by assumption)]; rfl
  rw [hh, Bool.true_and]
  obtain ⟨m, hm⟩ : ∃ m, m = cs.length := ⟨_, rfl⟩
  refine ⟨SEx.same (SEx.idx m (fun i => ⟨120, [(1, bP 4096), (33, bL (.node false none cs)), (34, bI m), (35, bI i)], [(4096, .obx [.fz (.sl (.node false none cs)), .fz (.sl (.tie ts)), .fz (.int .i64 hr)])]⟩) (fun i => rB (allF p (cs.drop i) i && c)) ?_) (by rw [hm]; rfl) rfl⟩
  intro i hi ih
  rw [← hks]
  have hl : i < m → LoopB _ _ _ := fun h => LoopB.of p cs i c Node.z (by omega)
  have he : i = m → (allF p (cs.drop i) i && c) = c := fun h => allF_end_and (by omega)
  refine SEx.go (X := X102) X102_ok (fun n => look [] [(4, [1, 33, 34, 35]), (10, [1, 66, 67, 68]), (13, [1, 6, 66, 67, 68, 73, 74, 75])] n) (fun _ => none) hO 60 ?_
  intro M R L N hM hAnd hImp hR hL hN
  cases M
  cbv
  repeat' first | (refine hAnd _ _ ?_ ?_) | (refine hImp _ _ (fun h => ?_)) | (refine hR _ ?_) | (refine hL _ _ (Hd.out ?_); first | rw [hks] | generalize hk2 : (List.cons _ _ : List K) = k2) | (refine hN _ _ ?_; cbv)
  all_goals (clear hAnd hImp hR hL hN)
  all_goals (cases hM; try dsimp only)
  all_goals (try simp only [Bool.not_eq_true', Bool.not_eq_false', decide_eq_true_eq, decide_eq_false_iff_not, Int.not_le, Int.not_lt, beq_iff_eq, beq_eq_false_iff_ne, ne_eq, Int.ofNat_eq_natCast, Int.toNat_natCast, List.length_replicate, ncast, Nat.sub_zero, List.drop_zero, Cue.eta, Tie.eta, Edge.eta, Link.eta, Node.eta] at *)
  all_goals (try simp only [wrap_succ (show i < 9223372036854775807 by omega)])
  all_goals first
    | omega
    | exact h2 _ (mem_getD (z := Node.z) (by omega)).out
    | exact ⟨h1⟩
    | (refine (hl (by omega)).stop _ ?_; subst hf1 hf2 hf3; rw [hp]; unfold ndP; delta Node.name Node.watch; simp_all; done)
    | (refine ⟨(ih (by omega)).same rfl ((hl (by omega)).go ?_)⟩; clear ih; subst hf1 hf2 hf3; rw [hp]; unfold ndP; delta Node.name Node.watch; simp_all; done)
    | skip
  have him : i = m := by omega
  rw [he him]
  clear ih hl he
  obtain ⟨pl, hpl⟩ : ∃ pl : Nat → Node → Bool, pl = fun _ q => labsP cs q := ⟨_, rfl⟩
  rw [← hpl] at hc
  refine ⟨SEx.same (SEx.idx m (fun i => ⟨120, [(1, bP 4096), (66, bL (.node false none cs)), (67, bI m), (68, bI i)], [(4096, .obx [.fz (.sl (.node false none cs)), .fz (.sl (.tie ts)), .fz (.int .i64 hr)])]⟩) (fun i => rB (allF pl (cs.drop i) i && true)) ?_) (by rw [hm]; rfl) (by rw [hc, Bool.and_true]; rfl)⟩
  intro k hk ih
  rw [← hk2]
  have hl : k < m → LoopB _ _ _ := fun h => LoopB.of pl cs k true Node.z (by omega)
  have he : k = m → (allF pl (cs.drop k) k && true) = true := fun h => allF_end_and (by omega)
  refine SEx.go (X := X102) X102_ok (fun n => look [] [(4, [1, 33, 34, 35]), (10, [1, 66, 67, 68]), (13, [1, 6, 66, 67, 68, 73, 74, 75])] n) (fun _ => none) hO 60 ?_
  intro M R L N hM hAnd hImp hR hL hN
  cases M
  cbv
  repeat' first | (refine hAnd _ _ ?_ ?_) | (refine hImp _ _ (fun h => ?_)) | (refine hR _ ?_) | (refine hL _ _ (Hd.out ?_); first | rw [hks] | rw [hk2] | generalize hk3 : (List.cons _ _ : List K) = k3) | (refine hN _ _ ?_; cbv)
  all_goals (clear hAnd hImp hR hL hN)
  all_goals (cases hM; try dsimp only)
  all_goals (try simp only [Bool.not_eq_true', Bool.not_eq_false', decide_eq_true_eq, decide_eq_false_iff_not, Int.not_le, Int.not_lt, beq_iff_eq, beq_eq_false_iff_ne, ne_eq, Int.ofNat_eq_natCast, Int.toNat_natCast, List.length_replicate, ncast, Nat.sub_zero, List.drop_zero, Cue.eta, Tie.eta, Edge.eta, Link.eta, Node.eta] at *)
  all_goals first
    | omega
    | (refine er_via ?_ _; rw [he (by omega)]; done)
    | skip
  have hkm : k < m := by omega
  obtain ⟨q, hq⟩ : ∃ q, q = cs.getD k Node.z := ⟨_, rfl⟩
  have hnq : NdOk q := by rw [hq]; exact h2 _ (mem_getD (z := Node.z) (by omega)).out
  obtain ⟨d, hd⟩ : ∃ d, d = (allF pl (cs.drop (k + 1)) (k + 1) && true) := ⟨_, rfl⟩
  have hs : (allF pl (cs.drop k) k && true) = (allF (fun _ x => wdB cs q.label x) (q.label.drop 0) 0 && d) := by
    rw [allF_at Node.z (show k < cs.length by omega), hd, ← hq, hpl, Bool.and_assoc]; rfl
  rw [hs]
  rw [← hd] at ih
  clear hl he hs hd
  obtain ⟨x1, x2, x3⟩ := q
  obtain ⟨w, hw⟩ : ∃ w, w = x2.length := ⟨_, rfl⟩
  have hlw := hnq.len
  have hall := hnq.all
  dsimp only at hlw hall
  unfold maxLen at hlw
  refine ⟨SEx.same (SEx.idx w (fun j => ⟨120, [(1, bP 4096), (6, bP 24576), (66, bL (.node false none cs)), (67, bI m), (68, bI k), (73, bL (.i x2)), (74, bI w), (75, bI j)], [(4096, .obx [.fz (.sl (.node false none cs)), .fz (.sl (.tie ts)), .fz (.int .i64 hr)]), (24576, .obx [.fz (.str x1), .fz (.sl (.i x2)), .fz (.int .i64 x3)])]⟩) (fun j => rB (allF (fun _ x => wdB cs x2 x) (x2.drop j) j && d)) ?_) (by rw [hw, ← hq]; rfl) rfl⟩
  intro j hj ihj
  rw [← hk3]
  have hl : j < w → LoopB _ _ _ := fun h => LoopB.of (fun _ x => wdB cs x2 x) x2 j d (0 : Int) (by omega)
  have he : j = w → (allF (fun _ x => wdB cs x2 x) (x2.drop j) j && d) = d := fun h => allF_end_and (by omega)
  have hlt : ∀ x, f3 cs x < cs.length := fun x => by rw [hf3]; exact (watI_lt _ _).1
  refine SEx.go (X := X102) X102_ok (fun n => look [] [(4, [1, 33, 34, 35]), (10, [1, 66, 67, 68]), (13, [1, 6, 66, 67, 68, 73, 74, 75])] n) (fun _ => none) hO 60 ?_
  intro M R L N hM hAnd hImp hR hL hN
  cases M
  cbv
  repeat' first | (refine hAnd _ _ ?_ ?_) | (refine hImp _ _ (fun h => ?_)) | (refine hR _ ?_) | (refine hL _ _ (Hd.out ?_); try first | rw [hks] | rw [hk2] | rw [hk3]) | (refine hN _ _ ?_; cbv)
  all_goals (clear hAnd hImp hR hL hN; try clear hks; try clear hk2; try clear hk3)
  all_goals (cases hM; try dsimp only)
  all_goals (try simp only [Bool.not_eq_true', Bool.not_eq_false', decide_eq_true_eq, decide_eq_false_iff_not, Int.not_le, Int.not_lt, beq_iff_eq, beq_eq_false_iff_ne, ne_eq, Int.ofNat_eq_natCast, Int.toNat_natCast, List.length_replicate, ncast, Nat.sub_zero, List.drop_zero, Cue.eta, Tie.eta, Edge.eta, Link.eta, Node.eta] at *)
  all_goals (try simp only [wrap_succ (show j < 9223372036854775807 by omega)])
  all_goals (try have h5 := hlt (f4 (x2.getD j 0)))
  all_goals first
    | omega
    | exact ⟨h1⟩
    | exact ⟨hall _ (mem_getD (z := (0 : Int)) (by omega)).out⟩
    | exact ⟨(h2 _ (mem_getD (z := Node.z) (by omega)).out).len⟩
    | exact ⟨hlw, hall⟩
    | exact ⟨(h2 _ (mem_getD (z := Node.z) (by omega)).out).len, (h2 _ (mem_getD (z := Node.z) (by omega)).out).all⟩
    | (have hjw : j = w := by omega
       rw [he hjw]
       simp only [wrap_succ (show k < 9223372036854775807 by omega)]
       exact ⟨(ih hkm).same rfl rfl⟩)
    | (refine (hl (by omega)).stop _ ?_; subst hf3 hf4 hf5 hf6; unfold wdB labAt negI; delta Node.label; rw [decide_eq_false (by omega)]; rfl)
    | (refine (hl (by omega)).stop _ ?_; subst hf3 hf4 hf5 hf6; unfold wdB labAt negI; delta Node.label; rw [decide_eq_true (by omega)]; simp_all; done)
    | (refine ⟨(ihj (by omega)).same rfl ((hl (by omega)).go ?_)⟩; clear ih ihj; subst hf3 hf4 hf5 hf6; unfold wdB labAt negI; delta Node.label; rw [decide_eq_true (by omega)]; simp_all; done)
    | skip
def clashB (q m : Node) : Bool := eqS m.name q.name || (decide (¬ q.watch = 0) && m.watch == q.watch)
def ndI (cs : List Node) (i : Nat) (q : Node) : Bool := nodeB q && allF (fun _ m => !clashB q m) (cs.take i) 0
theorem areNodes_ok (t : Show) (h1 : t.nodes.length ≤ maxLen) (h2 : ∀ q ∈ t.nodes, NdOk q) : SCall Tryz.prog 109 [aShow t] (rB (headB t.nodes && allF (ndI t.nodes) t.nodes 0)) := by
  refine SCall.of X109_ok (fn := Tryz.f109) (c := Tryz.f109.body.getD .skip) (dr := fun n => look 0 [] n) Tryz.func109 rfl (by kernel_rfl) (by kernel_rfl) (by kernel_rfl) ?_
  obtain ⟨f1, hf1⟩ : ∃ f, f = nodeB := ⟨_, rfl⟩
  have hO : SOraOK Tryz.prog (oraL [(137, wNodeOk f1)]) := by
    subst hf1
    exact oraL_cons wNodeOkI_ok oraL_nil
  obtain ⟨cs, ts, hr⟩ := t
  have h1 : cs.length ≤ maxLen := h1
  have h2 : ∀ q ∈ cs, NdOk q := h2
  unfold maxLen at h1
  show SEx _ _ _ _ _ _ (rB (headB cs && allF (ndI cs) cs 0))
  obtain ⟨p, hp⟩ : ∃ p, p = ndI cs := ⟨_, rfl⟩
  rw [← hp]
  refine SEx.go (X := X109) X109_ok (fun n => look [] [(4, [1, 35, 36, 37]), (9, [1, 4, 35, 36, 37, 48, 49, 50])] n) (fun _ => none) hO 60 ?_
  intro M R L N hM hAnd hImp hR hL hN
  cases M
  cbv
  repeat' first | (refine hAnd _ _ ?_ ?_) | (refine hImp _ _ (fun h => ?_)) | (refine hR _ ?_) | (refine hL _ _ (Hd.out ?_); generalize hks : (List.cons _ _ : List K) = ks) | (refine hN _ _ ?_; cbv)
  all_goals (clear hAnd hImp hR hL hN)
  all_goals (cases hM; try dsimp only)
  all_goals (try simp only [Bool.not_eq_true', Bool.not_eq_false', decide_eq_true_eq, decide_eq_false_iff_not, Int.not_le, Int.not_lt, beq_iff_eq, beq_eq_false_iff_ne, ne_eq, Int.ofNat_eq_natCast, Int.toNat_natCast, List.length_replicate, ncast, Nat.sub_zero, List.drop_zero, Cue.eta, Tie.eta, Edge.eta, Link.eta, Node.eta] at *)
  all_goals first
    | omega
    | (refine er_via ?_ _; unfold headB nd; delta Node.label Node.watch; rw [decide_eq_false (by omega)]; rfl)
    | (refine er_via ?_ _; unfold headB nd; delta Node.label Node.watch; rw [Bool.and_assoc, decide_eq_true (by omega), Bool.true_and, decide_eq_false (by omega)]; rfl)
    | (refine er_via ?_ _; unfold headB nd; delta Node.label Node.watch; rw [decide_eq_true (by omega), decide_eq_true (by omega), decide_eq_false (by assumption)]; rfl)
    | skip
  have hh : headB cs = true := by
    unfold headB nd; delta Node.label Node.watch; rw [decide_eq_true (by omega), decide_eq_true (by omega), decide_eq_true (by assumption)]; rfl
  rw [hh, Bool.true_and]
  obtain ⟨m, hm⟩ : ∃ m, m = cs.length := ⟨_, rfl⟩
  refine ⟨SEx.same (SEx.idx m (fun i => ⟨73, [(1, bP 4096), (35, bL (.node false none cs)), (36, bI m), (37, bI i)], [(4096, .obx [.fz (.sl (.node false none cs)), .fz (.sl (.tie ts)), .fz (.int .i64 hr)])]⟩) (fun i => rB (allF p (cs.drop i) i && true)) ?_) (by rw [hm]; rfl) (by rw [Bool.and_true]; rfl)⟩
  intro i hi ih
  rw [← hks]
  have hl : i < m → LoopB _ _ _ := fun h => LoopB.of p cs i true Node.z (by omega)
  have he : i = m → (allF p (cs.drop i) i && true) = true := fun h => allF_end_and (by omega)
  refine SEx.go (X := X109) X109_ok (fun n => look [] [(4, [1, 35, 36, 37]), (9, [1, 4, 35, 36, 37, 48, 49, 50])] n) (fun _ => none) hO 60 ?_
  intro M R L N hM hAnd hImp hR hL hN
  cases M
  cbv
  repeat' first | (refine hAnd _ _ ?_ ?_) | (refine hImp _ _ (fun h => ?_)) | (refine hR _ ?_) | (refine hL _ _ (Hd.out ?_); first | rw [hks] | generalize hk2 : (List.cons _ _ : List K) = k2) | (refine hN _ _ ?_; cbv)
  all_goals (clear hAnd hImp hR hL hN)
  all_goals (cases hM; try dsimp only)
  all_goals (try simp only [Bool.not_eq_true', Bool.not_eq_false', decide_eq_true_eq, decide_eq_false_iff_not, Int.not_le, Int.not_lt, beq_iff_eq, beq_eq_false_iff_ne, ne_eq, Int.ofNat_eq_natCast, Int.toNat_natCast, List.length_replicate, ncast, Nat.sub_zero, List.drop_zero, Cue.eta, Tie.eta, Edge.eta, Link.eta, Node.eta] at *)
  all_goals (try simp only [wrap_succ (show i < 9223372036854775807 by omega)])
  all_goals first
    | omega
    | exact h2 _ (mem_getD (z := Node.z) (by omega)).out
    | (refine er_via ?_ _; rw [he (by omega)]; done)
    | (refine (hl (by omega)).stop _ ?_; subst hf1; rw [hp]; unfold ndI; simp_all; done)
    | skip
  have him : i < m := by omega
  have hq1 : f1 (cs.getD i Node.z) = true := by assumption
  obtain ⟨q, hq⟩ : ∃ q, q = cs.getD i Node.z := ⟨_, rfl⟩
  rw [← hq] at hq1
  obtain ⟨l, hll⟩ : ∃ l, l = cs.take i := ⟨_, rfl⟩
  obtain ⟨d, hd⟩ : ∃ d, d = (allF p (cs.drop (i + 1)) (i + 1) && true) := ⟨_, rfl⟩
  have hs : (allF p (cs.drop i) i && true) = (allF (fun _ m => !clashB q m) (l.drop 0) 0 && d) := by
    rw [allF_at Node.z (show i < cs.length by omega), hd, ← hq, hp, Bool.and_assoc, ndI, ← hf1, hq1, ← hll, Bool.true_and]; rfl
  rw [hs]
  rw [← hd] at ih
  clear hl he hs hd
  obtain ⟨x1, x2, x3⟩ := q
  obtain ⟨w, hw⟩ : ∃ w, w = l.length := ⟨_, rfl⟩
  have hwl : w ≤ cs.length := by rw [hw, hll, List.length_take]; omega
  refine ⟨SEx.same (SEx.idx w (fun j => ⟨73, [(1, bP 4096), (4, bP 16384), (35, bL (.node false none cs)), (36, bI m), (37, bI i), (48, bL (.node false none l)), (49, bI w), (50, bI j)], [(4096, .obx [.fz (.sl (.node false none cs)), .fz (.sl (.tie ts)), .fz (.int .i64 hr)]), (16384, .obx [.fz (.str x1), .fz (.sl (.i x2)), .fz (.int .i64 x3)])]⟩) (fun j => rB (allF (fun _ m => !clashB ⟨x1, x2, x3⟩ m) (l.drop j) j && d)) ?_) (by rw [hw, ← hq, hll]; rfl) rfl⟩
  intro j hj ihj
  rw [← hk2]
  have hl : j < w → LoopB _ _ _ := fun h => LoopB.of (fun _ m => !clashB ⟨x1, x2, x3⟩ m) l j d Node.z (by omega)
  have he : j = w → (allF (fun _ m => !clashB ⟨x1, x2, x3⟩ m) (l.drop j) j && d) = d := fun h => allF_end_and (by omega)
  refine SEx.go (X := X109) X109_ok (fun n => look [] [(4, [1, 35, 36, 37]), (9, [1, 4, 35, 36, 37, 48, 49, 50])] n) (fun _ => none) hO 60 ?_
  intro M R L N hM hAnd hImp hR hL hN
  cases M
  cbv
  repeat' first | (refine hAnd _ _ ?_ ?_) | (refine hImp _ _ (fun h => ?_)) | (refine hR _ ?_) | (refine hL _ _ (Hd.out ?_); try first | rw [hks] | rw [hk2] | rw [hk3]) | (refine hN _ _ ?_; cbv)
  all_goals (clear hAnd hImp hR hL hN; try clear hks; try clear hk2; try clear hk3)
  all_goals (cases hM; try dsimp only)
  all_goals (try simp only [Bool.not_eq_true', Bool.not_eq_false', decide_eq_true_eq, decide_eq_false_iff_not, Int.not_le, Int.not_lt, beq_iff_eq, beq_eq_false_iff_ne, ne_eq, Int.ofNat_eq_natCast, Int.toNat_natCast, List.length_replicate, ncast, Nat.sub_zero, List.drop_zero, Cue.eta, Tie.eta, Edge.eta, Link.eta, Node.eta] at *)
  all_goals (try simp only [wrap_succ (show j < 9223372036854775807 by omega)])
  all_goals first
    | omega
    | (refine (hl (by omega)).stop _ ?_; unfold clashB eqS; delta Node.name Node.watch; simp_all; done)
    | (refine ⟨(ihj (by omega)).same rfl ((hl (by omega)).go ?_)⟩; clear ih ihj; unfold clashB eqS; delta Node.name Node.watch; simp_all; done)
    | (rw [he (by omega)]; simp only [wrap_succ (show i < 9223372036854775807 by omega)]; exact ⟨(ih (by omega)).same rfl rfl⟩)
    | skip
theorem any_or {α : Type} (p q : α → Bool) : ∀ l : List α, (l.any fun x => p x || q x) = (l.any p || l.any q)
  | [] => rfl
  | a :: r => by simp only [List.any_cons, any_or p q r]; cases p a <;> cases q a <;> cases r.any p <;> cases r.any q <;> rfl
theorem any_and {α : Type} (c : Bool) (q : α → Bool) : ∀ l : List α, (l.any fun x => c && q x) = (c && l.any q)
  | [] => by simp
  | a :: r => by simp only [List.any_cons, any_and c q r]; cases c <;> rfl
theorem eqS_self (s : ByteArray) : eqS s s = true := by unfold eqS; simp
theorem ndI_eq {cs : List Node} {i : Nat} {q : Node} (h : cs[i]? = some q) : ndI cs i q = ndP cs i q := by
  have hi : i < cs.length := by rw [List.getElem?_eq_some_iff] at h; exact h.1
  have hq : cs.getD i Node.z = q := by rw [List.getD_eq_getElem?_getD, h]; rfl
  have e1 : decide (nameI cs q.name = i) = !((cs.take i).any fun r => eqS r.name q.name) := by
    have := idxF_take (p := fun r : Node => eqS r.name q.name) (l := cs) (i := i) 0 Node.z hi (by rw [hq]; exact eqS_self _)
    rw [Nat.zero_add] at this
    rw [Bool.eq_iff_iff]
    simp only [decide_eq_true_eq, Bool.not_eq_true']
    exact this
  have e2 : decide (watI cs q.watch = i) = !((cs.take i).any fun r => r.watch == q.watch) := by
    have := idxF_take (p := fun r : Node => r.watch == q.watch) (l := cs) (i := i) 0 Node.z hi (by rw [hq]; exact beq_self_eq_true _)
    rw [Nat.zero_add] at this
    rw [Bool.eq_iff_iff]
    simp only [decide_eq_true_eq, Bool.not_eq_true']
    exact this
  have e3 : allF (fun _ m => !clashB q m) (cs.take i) 0 = !(((cs.take i).any fun r => eqS r.name q.name) || (decide (¬ q.watch = 0) && (cs.take i).any fun r => r.watch == q.watch)) := by
    rw [all_allF, ← any_and, ← any_or, List.not_any_eq_all_not]; rfl
  unfold ndI ndP
  rw [e1, e2, e3, Bool.not_or, Bool.not_and, decide_not, Bool.not_not]
theorem nodes_eq (cs : List Node) : allF (ndI cs) cs 0 = allF (ndP cs) cs 0 := allF_congr cs 0 fun i q h => by rw [Nat.zero_add]; exact ndI_eq h
structure NdsOk (cs : List Node) : Prop where out : ∀ q ∈ cs, NdOk q
def nodesB (cs : List Node) : Bool := headB cs && allF (ndP cs) cs 0
def labsB (cs : List Node) : Bool := allF (fun _ q => labsP cs q) cs 0
def wAreNodes (f : List Node → Bool) : Wr := w1 dcShow (fun t => rB (f t.nodes)) (fun t => [LLe t.nodes maxLen, NdsOk t.nodes])
def nlB (cs : List Node) : Bool := nodesB cs && labsB cs
theorem wSpecNodes_ok : WrOK Tryz.prog 102 (wAreNodes nlB) := w1_ok fun t h => by
  unfold nlB nodesB labsB
  rw [Bool.and_assoc]
  exact specNodes_ok t (h _ (.head _)).out (h _ (.tail _ (.head _))).out
theorem wAreNodes_ok : WrOK Tryz.prog 109 (wAreNodes nodesB) := w1_ok fun t h => by
  unfold nodesB
  rw [← nodes_eq]
  exact areNodes_ok t (h _ (.head _)).out (h _ (.tail _ (.head _))).out
def horB (n : Int) : Bool := decide (1 ≤ n) && decide (n ≤ 10)
def showB (t : Show) : Bool := nodesB t.nodes && (labsB t.nodes && (tiesB t.nodes t.ties && horB t.hor))
structure ShowLe (t : Show) : Prop where
  len : t.nodes.length ≤ maxLen
  tlen : t.ties.length ≤ maxLen
  nodes : ∀ q ∈ t.nodes, NdOk q
theorem specShowOk_ok (t : Show) (ht : ShowLe t) : SCall Tryz.prog 63 [aShow t] (rB (showB t)) := by
  refine SCall.of X63_ok (fn := Tryz.f63) (c := Tryz.f63.body.getD .skip) (dr := fun n => look 0 [] n) Tryz.func63 rfl (by kernel_rfl) (by kernel_rfl) (by kernel_rfl) ?_
  have h1 := ht.len
  have h2 := ht.tlen
  have h3 := ht.nodes
  clear ht
  obtain ⟨f1, hf1⟩ : ∃ f, f = nlB := ⟨_, rfl⟩
  obtain ⟨f3, hf3⟩ : ∃ f, f = l01InB := ⟨_, rfl⟩
  obtain ⟨f4, hf4⟩ : ∃ f, f = tieB := ⟨_, rfl⟩
  have hO : SOraOK Tryz.prog (oraL [(102, wAreNodes f1), (70, wL01 f3), (103, wTie f4)]) := by
    subst hf1 hf3 hf4
    exact oraL_cons wSpecNodes_ok (oraL_cons wL01_ok (oraL_cons wTie_ok oraL_nil))
  obtain ⟨ns, ts, hr⟩ := t
  have h1 : ns.length ≤ maxLen := h1
  have h2 : ts.length ≤ maxLen := h2
  have h3 : ∀ q ∈ ns, NdOk q := h3
  unfold maxLen at h2
  obtain ⟨a, ha⟩ : ∃ a, a = decide (ts.length ≤ 14) := ⟨_, rfl⟩
  obtain ⟨d, hd⟩ : ∃ a, a = horB hr := ⟨_, rfl⟩
  obtain ⟨p, hp⟩ : ∃ p : Nat → Tie → Bool, p = f4 ns ts := ⟨_, rfl⟩
  have hs : showB ⟨ns, ts, hr⟩ = (f1 ns && (allF p ts 0 && (a && d))) := by
    rw [hf1, hp, hf4, ha, hd]; unfold showB tiesB nlB; rw [Bool.and_assoc, Bool.and_assoc]
  rw [hs]
  have hdd : f3 hr 1 10 = d := by rw [hf3, hd]; rfl
  clear hd hs
  refine SEx.go (X := X63) X63_ok (fun n => look [] [(4, [1, 21, 22])] n) (fun _ => none) hO 60 ?_
  intro M R L N hM hAnd hImp hR hL hN
  cases M
  cbv
  repeat' first | (refine hAnd _ _ ?_ ?_) | (refine hImp _ _ (fun h => ?_)) | (refine hR _ ?_) | (refine hL _ _ (Hd.out ?_); generalize hks : (List.cons _ _ : List K) = ks) | (refine hN _ _ ?_; cbv)
  all_goals (clear hAnd hImp hR hL hN)
  all_goals (cases hM; try dsimp only)
  all_goals (try simp only [Bool.not_eq_true', Bool.not_eq_false', decide_eq_true_eq, decide_eq_false_iff_not, Int.not_le, Int.not_lt, beq_iff_eq, beq_eq_false_iff_ne, ne_eq, Int.ofNat_eq_natCast, Int.toNat_natCast, List.length_replicate, ncast, Nat.sub_zero, List.drop_zero, Cue.eta, Tie.eta, Edge.eta, Link.eta, Node.eta] at *)
  all_goals (try rw [hdd] at *)
  all_goals first
    | exact ⟨h1⟩
    | exact ⟨h3⟩
    | (refine er_via ?_ _; simp_all; done)
    | (refine er_via ?_ _; rw [ha, decide_eq_false (by omega)]; simp; done)
    | skip
  rw [show f1 ns = true by assumption, Bool.true_and, show a = true by rw [ha]; exact decide_eq_true (by omega), show d = true by assumption, Bool.true_and]
  obtain ⟨m, hm⟩ : ∃ m, m = ts.length := ⟨_, rfl⟩
  refine ⟨SEx.same (SEx.idx m (fun i => ⟨30, [(1, bP 4096), (21, bI m), (22, bI i)], [(4096, .obx [.fz (.sl (.node false none ns)), .fz (.sl (.tie ts)), .fz (.int .i64 hr)])]⟩) (fun i => rB (allF p (ts.drop i) i && true)) ?_) (by rw [hm]; rfl) rfl⟩
  intro i hi ih
  rw [← hks]
  have hl : i < m → LoopB _ _ _ := fun h => LoopB.of p ts i true Tie.z (by omega)
  have he : i = m → (allF p (ts.drop i) i && true) = true := fun h => allF_end_and (by omega)
  refine SEx.go (X := X63) X63_ok (fun n => look [] [(4, [1, 21, 22])] n) (fun _ => none) hO 60 ?_
  intro M R L N hM hAnd hImp hR hL hN
  cases M
  cbv
  repeat' first | (refine hAnd _ _ ?_ ?_) | (refine hImp _ _ (fun h => ?_)) | (refine hR _ ?_) | (refine hL _ _ (Hd.out ?_); try first | rw [hks] | rw [hk2] | rw [hk3]) | (refine hN _ _ ?_; cbv)
  all_goals (clear hAnd hImp hR hL hN; try clear hks; try clear hk2; try clear hk3)
  all_goals (cases hM; try dsimp only)
  all_goals (try simp only [Bool.not_eq_true', Bool.not_eq_false', decide_eq_true_eq, decide_eq_false_iff_not, Int.not_le, Int.not_lt, beq_iff_eq, beq_eq_false_iff_ne, ne_eq, Int.ofNat_eq_natCast, Int.toNat_natCast, List.length_replicate, ncast, Nat.sub_zero, List.drop_zero, Cue.eta, Tie.eta, Edge.eta, Link.eta, Node.eta] at *)
  all_goals (try simp only [wrap_succ (show i < 9223372036854775807 by omega)])
  all_goals first
    | omega
    | exact ⟨h1⟩
    | exact ⟨h2⟩
    | exact ⟨fun q hq => (h3 q hq).len⟩
    | exact ⟨⟨by omega, by omega⟩⟩
    | (refine er_via ?_ _; rw [he (by omega)]; done)
    | (refine (hl (by omega)).stop _ ?_; rw [hp]; assumption)
    | (refine ⟨(ih (by omega)).same rfl ((hl (by omega)).go ?_)⟩; rw [hp]; assumption)
    | skip
end Go.Proofs.YtececadpjelanaaGreat.Ai
namespace Go.Proofs.YtececadpjelanaaGreat.Ai
open Go
set_option maxRecDepth 100000
set_option linter.unusedVariables false
set_option linter.unusedSimpArgs false
set_option linter.unusedSectionVars false
variable [MemoCtx]
def dcC2 {α β : Type} (k : Nat) (g h : Bool) (d : Dc α) (e : Dc β) : Dc (α × β) := ⟨fun a => aF k [.ptr (d.enc a.1).2, .ptr (e.enc a.2).2], fun | (false, [.fn f [.ptr x, .ptr y]]) => (match nq f k with | true => (match d.dec (g, x), e.dec (h, y) with | some a, some b => some (a, b) | _, _ => none) | false => none) | _ => none, by
  intro x a hh
  split at hh
  · split at hh
    · rename_i hk
      obtain rfl := nq_iff.1 hk
      split at hh
      · rename_i a' b' ha hb
        simp only [Option.some.injEq] at hh
        subst hh
        have e1 := congrArg Prod.snd (d.ok _ _ ha)
        have e2 := congrArg Prod.snd (e.ok _ _ hb)
        simp only [v1er] at e1 e2
        simp only [v1er, D.erL, D.er, aF, e1, e2]
      · cases hh
    · cases hh
  · cases hh⟩
structure LabIn (l : List Int) : Prop where out : ∀ x ∈ l, inI x ∧ 0 < propI x
theorem propI_pos {x : Int} (h0 : ¬ x = 0) (h1 : -3 ≤ x) (h2 : x ≤ 3) : 0 < propI x := by
  unfold propI
  split
  · rw [wrap_i64 (by omega) (by omega)]; omega
  · omega
theorem labelB_mem {l : List Int} (h : labelB l = true) {x : Int} (hx : x ∈ l) : ¬ x = 0 ∧ -3 ≤ x ∧ x ≤ 3 := by
  obtain ⟨i, hi, rfl⟩ := List.mem_iff_getElem.1 hx
  have := of_decide_eq_true (allR_get h i hi)
  rw [getD_get hi] at this
  exact ⟨this.1, this.2.1, this.2.2.1⟩
theorem labelB_in {l : List Int} (h : labelB l = true) : ∀ x ∈ l, inI x ∧ 0 < propI x := fun x hx => by
  have ⟨h1, h2, h3⟩ := labelB_mem h hx
  exact ⟨by rw [inI_iff]; omega, propI_pos h1 h2 h3⟩
theorem allF_mem {α : Type} {p : Nat → α → Bool} : ∀ {l : List α} {n : Nat} {q : α}, allF p l n = true → q ∈ l → ∃ i, p i q = true
  | a :: r, n, q, h, hq => by
    unfold allF at h
    rw [Bool.and_eq_true] at h
    rcases List.mem_cons.1 hq with rfl | hq
    · exact ⟨n, h.1⟩
    · exact allF_mem h.2 hq
theorem nodesB_node {cs : List Node} (h : nodesB cs = true) {q : Node} (hq : q ∈ cs) : nodeB q = true := by
  unfold nodesB at h
  rw [Bool.and_eq_true] at h
  obtain ⟨i, hi⟩ := allF_mem h.2 hq
  unfold ndP at hi
  rw [Bool.and_eq_true] at hi
  exact hi.1
theorem nodeB_label {q : Node} (h : nodeB q = true) : labelB q.label = true := by
  unfold nodeB at h
  simp only [Bool.and_eq_true] at h
  exact h.1.2
def badL (l : List Int) (t : Show) (q : Node) : Bool := l.any fun x => !wdB t.nodes q.label x
theorem implShowOk_ok (t : Show) (ht : ShowLe t) : SCall Tryz.prog 76 [aShow t] (rB (showB t)) := by
  refine SCall.of X76_ok (fn := Tryz.f76) (c := Tryz.f76.body.getD .skip) (dr := fun n => look 0 [] n) Tryz.func76 rfl (by kernel_rfl) (by kernel_rfl) (by kernel_rfl) ?_
  have h1 := ht.len
  have h2 := ht.tlen
  have h3 := ht.nodes
  clear ht
  obtain ⟨f1, hf1⟩ : ∃ f, f = nodesB := ⟨_, rfl⟩
  obtain ⟨f2, hf2⟩ : ∃ f, f = tiesB := ⟨_, rfl⟩
  obtain ⟨f3, hf3⟩ : ∃ f, f = badL := ⟨_, rfl⟩
  have hO : SOraOK Tryz.prog (oraL [(109, wAreNodes f1), (110, wAreTies f2), (111, w2 dcIs (dcC2 112 true true dcShow dcNode) (fun l x => rB (f3 l x.1 x.2)) (fun l x => [LLe l maxLen, LabIn l, LLe x.1.nodes maxLen, NdsOk x.1.nodes, NdOk x.2]))]) := by
    subst hf1 hf2 hf3
    exact oraL_cons wAreNodes_ok (oraL_cons wAreTies_ok (oraL_cons (w2_ok fun l x h => by
      have g1 := (h _ (.head _)).out
      have g2 := (h _ (.tail _ (.head _))).out
      have g3 := (h _ (.tail _ (.tail _ (.head _)))).out
      have g4 := (h _ (.tail _ (.tail _ (.tail _ (.head _))))).out
      have g5 := h _ (.tail _ (.tail _ (.tail _ (.tail _ (.head _)))))
      exact contFuncI_ok l _ _ _ (fun y hy => showOk1_ok y x.1 x.2 g3 (fun q hq => ⟨(g4 q hq).len, (g4 q hq).all⟩) ⟨g5.len, g5.all⟩ (g2 y hy).1 (g2 y hy).2) g1) oraL_nil))
  obtain ⟨ns, ts, hr⟩ := t
  have h1 : ns.length ≤ maxLen := h1
  have h2 : ts.length ≤ maxLen := h2
  have h3 : ∀ q ∈ ns, NdOk q := h3
  have h1' := h1
  unfold maxLen at h1'
  obtain ⟨d, hd⟩ : ∃ a, a = horB hr := ⟨_, rfl⟩
  obtain ⟨p, hp⟩ : ∃ p : Nat → Node → Bool, p = fun _ q => labsP ns q := ⟨_, rfl⟩
  have hs : showB ⟨ns, ts, hr⟩ = (f1 ns && (f2 ns ts && (d && allF p ns 0))) := by
    rw [hf1, hp, hf2, hd]; unfold showB labsB; dsimp only
    generalize allF (fun _ q => labsP ns q) ns 0 = a
    generalize tiesB ns ts = b
    generalize horB hr = c
    generalize nodesB ns = e
    revert a b c e; decide
  rw [hs]
  clear hs
  refine SEx.go (X := X76) X76_ok (fun n => look [] [(4, [1, 24, 25, 26])] n) (fun _ => none) hO 60 ?_
  intro M R L N hM hAnd hImp hR hL hN
  cases M
  cbv
  repeat' first | (refine hAnd _ _ ?_ ?_) | (refine hImp _ _ (fun h => ?_)) | (refine hR _ ?_) | (refine hL _ _ (Hd.out ?_); generalize hks : (List.cons _ _ : List K) = ks) | (refine hN _ _ ?_; cbv)
  all_goals (clear hAnd hImp hR hL hN)
  all_goals (cases hM; try dsimp only)
  all_goals (try simp only [Bool.not_eq_true', Bool.not_eq_false', decide_eq_true_eq, decide_eq_false_iff_not, Int.not_le, Int.not_lt, beq_iff_eq, beq_eq_false_iff_ne, ne_eq, Int.ofNat_eq_natCast, Int.toNat_natCast, List.length_replicate, ncast, Nat.sub_zero, List.drop_zero, Cue.eta, Tie.eta, Edge.eta, Link.eta, Node.eta] at *)
  all_goals first
    | exact ⟨h1⟩
    | exact ⟨h2⟩
    | exact ⟨h3⟩
    | exact ⟨fun q hq => (h3 q hq).len⟩
    | (refine er_via ?_ _; rw [show f1 ns = false by assumption]; rfl)
    | (refine er_via ?_ _; rw [show f2 ns ts = false by assumption]; simp; done)
    | (refine er_via ?_ _; rw [hd, horB, decide_eq_false (by omega)]; simp; done)
    | (refine er_via ?_ _; rw [hd, horB, decide_eq_false (show ¬ hr ≤ 10 by omega)]; simp; done)
    | skip
  have hn1 : nodesB ns = true := by rw [← hf1]; assumption
  rw [show f1 ns = true by assumption, show f2 ns ts = true by assumption, show d = true by rw [hd, horB, decide_eq_true (by omega), decide_eq_true (by omega)]; rfl, Bool.true_and, Bool.true_and, Bool.true_and]
  obtain ⟨m, hm⟩ : ∃ m, m = ns.length := ⟨_, rfl⟩
  refine ⟨SEx.same (SEx.idx m (fun i => ⟨35, [(1, bP 4096), (24, bL (.node false none ns)), (25, bI m), (26, bI i)], [(4096, .obx [.fz (.sl (.node false none ns)), .fz (.sl (.tie ts)), .fz (.int .i64 hr)])]⟩) (fun i => rB (allF p (ns.drop i) i && true)) ?_) (by rw [hm]; rfl) (by rw [Bool.and_true]; rfl)⟩
  intro i hi ih
  rw [← hks]
  have hl : i < m → LoopB _ _ _ := fun h => LoopB.of p ns i true Node.z (by omega)
  have he : i = m → (allF p (ns.drop i) i && true) = true := fun h => allF_end_and (by omega)
  have hmem : i < m → Mem (ns.getD i Node.z) ns := fun h => mem_getD (by omega)
  have hps : ∀ q : Node, f3 q.label ⟨ns, ts, hr⟩ q = !p i q := fun q => by
    rw [hf3, hp]; show (q.label.any fun x => !wdB ns q.label x) = !allF (fun _ x => wdB ns q.label x) q.label 0; rw [all_allF, List.not_all_eq_any_not]
  refine SEx.go (X := X76) X76_ok (fun n => look [] [(4, [1, 24, 25, 26])] n) (fun _ => none) hO 60 ?_
  intro M R L N hM hAnd hImp hR hL hN
  cases M
  cbv
  repeat' first | (refine hAnd _ _ ?_ ?_) | (refine hImp _ _ (fun h => ?_)) | (refine hR _ ?_) | (refine hL _ _ (Hd.out ?_); try first | rw [hks] | rw [hk2] | rw [hk3]) | (refine hN _ _ ?_; cbv)
  all_goals (clear hAnd hImp hR hL hN; try clear hks; try clear hk2; try clear hk3)
  all_goals (cases hM; try dsimp only)
  all_goals (try simp only [Bool.not_eq_true', Bool.not_eq_false', decide_eq_true_eq, decide_eq_false_iff_not, Int.not_le, Int.not_lt, beq_iff_eq, beq_eq_false_iff_ne, ne_eq, Int.ofNat_eq_natCast, Int.toNat_natCast, List.length_replicate, ncast, Nat.sub_zero, List.drop_zero, Cue.eta, Tie.eta, Edge.eta, Link.eta, Node.eta] at *)
  all_goals (try simp only [wrap_succ (show i < 9223372036854775807 by omega)])
  all_goals first
    | omega
    | exact ⟨h1⟩
    | exact ⟨h3⟩
    | exact ⟨(h3 _ (hmem (by omega)).out).len⟩
    | exact ⟨labelB_in (nodeB_label (nodesB_node hn1 (hmem (by omega)).out))⟩
    | exact h3 _ (hmem (by omega)).out
    | (refine er_via ?_ _; rw [he (by omega)]; done)
    | (refine (hl (by omega)).stop _ ?_; have hx := hps (ns.getD i Node.z); simp_all; done)
    | (refine ⟨(ih (by omega)).same rfl ((hl (by omega)).go ?_)⟩; clear ih; have hx := hps (ns.getD i Node.z); simp_all; done)
    | skip
def wShowOk (f : Show → Bool) : Wr := w1 dcShow (fun t => rB (f t)) (fun t => [ShowLe t])
theorem wShowOkS_ok : WrOK Tryz.prog 63 (wShowOk showB) := w1_ok fun t h => specShowOk_ok t (h _ (.head _))
theorem wShowOkI_ok : WrOK Tryz.prog 76 (wShowOk showB) := w1_ok fun t h => implShowOk_ok t (h _ (.head _))
theorem showB_hor {t : Show} (h : showB t = true) : 1 ≤ t.hor ∧ t.hor ≤ 10 := by
  unfold showB horB at h
  simp only [Bool.and_eq_true, decide_eq_true_eq] at h
  exact h.2.2.2
theorem showB_len {t : Show} (h : showB t = true) : 1 ≤ t.nodes.length ∧ t.nodes.length ≤ 7 := by
  unfold showB nodesB headB at h
  simp only [Bool.and_eq_true, decide_eq_true_eq] at h
  omega
theorem showB_ties {t : Show} (h : showB t = true) : t.ties.length ≤ 14 := by
  unfold showB tiesB at h
  simp only [Bool.and_eq_true, decide_eq_true_eq] at h
  exact h.2.2.1.2
end Go.Proofs.YtececadpjelanaaGreat.Ai
namespace Go.Proofs.YtececadpjelanaaGreat.Ai
open Go
set_option maxRecDepth 100000
set_option linter.unusedVariables false
set_option linter.unusedSimpArgs false
set_option linter.unusedSectionVars false
variable [MemoCtx]
def openB (times : List Int) (w : Int) : Bool := decide (0 ≤ w) && decide (¬ times.getD w.toNat 0 = -1)
def timeP (now : Int) (i : Nat) (n : Int) : Bool := decide ((i = 0 → n = 0) ∧ (0 < i → -1 ≤ n ∧ n ≤ now - 1))
def valP (cs : List Node) (times : List Int) (i : Nat) (v : Int) : Bool := decide (¬ v = 0) == openB times (watI cs ((i : Int) + 1))
def stateB (t : Show) (x : State) : Bool := decide (0 ≤ x.now ∧ x.now ≤ t.hor + 1 ∧ x.times.length = t.nodes.length) && (valuesB x.vals && (allF (timeP x.now) x.times 0 && allF (valP t.nodes x.times) x.vals 0))
structure StateLe (x : State) : Prop where
  now : inI x.now
  tlen : x.times.length ≤ maxLen
  vlen : x.vals.length ≤ maxLen
theorem valuesB_len {l : List Int} (h : valuesB l = true) : l.length = 3 := by
  unfold valuesB at h
  simp only [Bool.and_eq_true, decide_eq_true_eq] at h
  exact h.2
theorem dec_ne (a b : Int) : decide (¬ a = b) = !(a == b) := by by_cases h : a = b <;> simp [h]
theorem isState_ok (t : Show) (x : State) (ht : showB t = true) (hx : StateLe x) : SCall Tryz.prog 77 [aShow t, aState x] (rB (stateB t x)) := by
  refine SCall.of X77_ok (fn := Tryz.f77) (c := Tryz.f77.body.getD .skip) (dr := fun n => look 0 [] n) Tryz.func77 rfl (by kernel_rfl) (by kernel_rfl) (by kernel_rfl) ?_
  have hh := showB_hor ht
  have hn := showB_len ht
  have h2 := hx.tlen
  have h3 := hx.vlen
  have h4 := hx.now
  clear ht hx
  rw [inI_iff] at h4
  obtain ⟨f1, hf1⟩ : ∃ f, f = valuesB := ⟨_, rfl⟩
  obtain ⟨f2, hf2⟩ : ∃ f, f = watI := ⟨_, rfl⟩
  have hO : SOraOK Tryz.prog (oraL [(114, wValuesOk f1), (115, wWatcher f2)]) := by
    subst hf1 hf2
    exact oraL_cons wValuesOkI_ok (oraL_cons wWatcherI_ok oraL_nil)
  obtain ⟨ns, ts, hr⟩ := t
  obtain ⟨now, times, vals⟩ := x
  dsimp only at hh hn h2 h3 h4
  unfold maxLen at h2 h3
  obtain ⟨p, hp⟩ : ∃ p, p = timeP now := ⟨_, rfl⟩
  obtain ⟨q, hq⟩ : ∃ q, q = valP ns times := ⟨_, rfl⟩
  obtain ⟨d, hd⟩ : ∃ d, d = allF q vals 0 := ⟨_, rfl⟩
  have hs : stateB ⟨ns, ts, hr⟩ ⟨now, times, vals⟩ = (decide (0 ≤ now ∧ now ≤ hr + 1 ∧ times.length = ns.length) && (f1 vals && (allF p times 0 && d))) := by
    rw [hf1, hp, hd, hq]; rfl
  rw [hs]
  clear hs
  obtain ⟨r, hrr⟩ : ∃ r, r = (decide (0 ≤ now ∧ now ≤ hr + 1 ∧ times.length = ns.length) && (f1 vals && (allF p times 0 && d))) := ⟨_, rfl⟩
  rw [← hrr]
  have h1r : IntKind.i64.wrap (hr + 1) = hr + 1 := wrap_i64 (by omega) (by omega)
  refine SEx.go (X := X77) X77_ok (fun n => look [] [(4, [2, 3, 37, 38, 39]), (10, [2, 3, 67, 68, 69])] n) (fun _ => none) hO 60 ?_
  intro M R L N hM hAnd hImp hR hL hN
  cases M
  cbv
  repeat' first | (refine hAnd _ _ ?_ ?_) | (refine hImp _ _ (fun h => ?_)) | (refine hR _ ?_) | (refine hL _ _ (Hd.out ?_); generalize hks : (List.cons _ _ : List K) = ks) | (refine hN _ _ ?_; cbv)
  all_goals (clear hAnd hImp hR hL hN)
  all_goals (cases hM; try dsimp only)
  all_goals (try simp only [Bool.not_eq_true', Bool.not_eq_false', decide_eq_true_eq, decide_eq_false_iff_not, Int.not_le, Int.not_lt, beq_iff_eq, beq_eq_false_iff_ne, ne_eq, Int.ofNat_eq_natCast, Int.toNat_natCast, List.length_replicate, ncast, Nat.sub_zero, List.drop_zero, Cue.eta, Tie.eta, Edge.eta, Link.eta, Node.eta] at *)
  all_goals (try rw [h1r] at *)
  all_goals first
    | omega
    | exact ⟨h3⟩
    | (refine er_via ?_ _; rw [hrr, decide_eq_false (by omega)]; rfl)
    | (refine er_via ?_ _; rw [hrr, show f1 vals = false by assumption]; simp; done)
    | skip
  rw [show f1 vals = true by assumption, decide_eq_true (by omega), Bool.true_and, Bool.true_and] at hrr
  rw [hrr]
  clear hrr
  have hv3 : vals.length = 3 := by apply valuesB_len; rw [← hf1]; assumption
  obtain ⟨m, hm⟩ : ∃ m, m = times.length := ⟨_, rfl⟩
  refine ⟨SEx.same (SEx.idx m (fun i => ⟨92, [(2, bP 8192), (3, bP 12288), (37, bL (.i times)), (38, bI m), (39, bI i)], [(8192, .obx [.fz (.sl (.node false none ns)), .fz (.sl (.tie ts)), .fz (.int .i64 hr)]), (12288, .obx [.fz (.int .i64 now), .fz (.sl (.i times)), .fz (.sl (.i vals))])]⟩) (fun i => rB (allF p (times.drop i) i && d)) ?_) (by rw [hm]; rfl) rfl⟩
  intro i hi ih
  rw [← hks]
  have hl : i < m → LoopB _ _ _ := fun h => LoopB.of p times i d (0 : Int) (by omega)
  have he : i = m → (allF p (times.drop i) i && d) = d := fun h => allF_end_and (by omega)
  have h1n : IntKind.i64.wrap (now - 1) = now - 1 := wrap_i64 (by omega) (by omega)
  refine SEx.go (X := X77) X77_ok (fun n => look [] [(4, [2, 3, 37, 38, 39]), (10, [2, 3, 67, 68, 69])] n) (fun _ => none) hO 60 ?_
  intro M R L N hM hAnd hImp hR hL hN
  cases M
  cbv
  repeat' first | (refine hAnd _ _ ?_ ?_) | (refine hImp _ _ (fun h => ?_)) | (refine hR _ ?_) | (refine hL _ _ (Hd.out ?_); first | rw [hks] | generalize hk2 : (List.cons _ _ : List K) = k2) | (refine hN _ _ ?_; cbv)
  all_goals (clear hAnd hImp hR hL hN)
  all_goals (cases hM; try dsimp only)
  all_goals (try simp only [Bool.not_eq_true', Bool.not_eq_false', decide_eq_true_eq, decide_eq_false_iff_not, Int.not_le, Int.not_lt, beq_iff_eq, beq_eq_false_iff_ne, ne_eq, Int.ofNat_eq_natCast, Int.toNat_natCast, List.length_replicate, ncast, Nat.sub_zero, List.drop_zero, Cue.eta, Tie.eta, Edge.eta, Link.eta, Node.eta] at *)
  all_goals (try simp only [wrap_succ (show i < 9223372036854775807 by omega), h1n] at *)
  all_goals first
    | omega
    | (refine (hl (by omega)).stop _ ?_; rw [hp, timeP]; apply decide_eq_false; omega)
    | (refine ⟨(ih (by omega)).same rfl ((hl (by omega)).go ?_)⟩; rw [hp, timeP]; apply decide_eq_true; omega)
    | skip
  have him : i = m := by omega
  rw [he him]
  clear ih hl he
  rw [hd]
  clear hd
  refine ⟨SEx.same (SEx.idx 3 (fun i => ⟨92, [(2, bP 8192), (3, bP 12288), (67, bL (.i vals)), (68, bI 3), (69, bI i)], [(8192, .obx [.fz (.sl (.node false none ns)), .fz (.sl (.tie ts)), .fz (.int .i64 hr)]), (12288, .obx [.fz (.int .i64 now), .fz (.sl (.i times)), .fz (.sl (.i vals))])]⟩) (fun i => rB (allF q (vals.drop i) i && true)) ?_) (by rw [hv3]; rfl) (by rw [Bool.and_true]; rfl)⟩
  intro k hk ih
  rw [← hk2]
  have hl : k < 3 → LoopB _ _ _ := fun h => LoopB.of q vals k true (0 : Int) (by omega)
  have he : k = 3 → (allF q (vals.drop k) k && true) = true := fun h => allF_end_and (by omega)
  have hlt : ∀ x, f2 ns x < ns.length := fun x => by rw [hf2]; exact (watI_lt _ _).1
  have hqk : q k (vals.getD k 0) = (decide (¬ vals.getD k 0 = 0) == openB times (f2 ns ((k + 1 : Nat) : Int))) := by
    rw [hq, hf2]; rfl
  have h5 := hlt ((k + 1 : Nat) : Int)
  refine SEx.go (X := X77) X77_ok (fun n => look [] [(4, [2, 3, 37, 38, 39]), (10, [2, 3, 67, 68, 69])] n) (fun _ => none) hO 60 ?_
  intro M R L N hM hAnd hImp hR hL hN
  cases M
  cbv
  repeat' first | (refine hAnd _ _ ?_ ?_) | (refine hImp _ _ (fun h => ?_)) | (refine hR _ ?_) | (refine hL _ _ (Hd.out ?_); try first | rw [hks] | rw [hk2] | rw [hk3]) | (refine hN _ _ ?_; cbv)
  all_goals (clear hAnd hImp hR hL hN; try clear hks; try clear hk2; try clear hk3)
  all_goals (cases hM; try dsimp only)
  all_goals (try simp only [Bool.not_eq_true', Bool.not_eq_false', decide_eq_true_eq, decide_eq_false_iff_not, Int.not_le, Int.not_lt, beq_iff_eq, beq_eq_false_iff_ne, ne_eq, Int.ofNat_eq_natCast, Int.toNat_natCast, List.length_replicate, ncast, Nat.sub_zero, List.drop_zero, Cue.eta, Tie.eta, Edge.eta, Link.eta, Node.eta] at *)
  all_goals (try simp only [wrap_succ (show k < 9223372036854775807 by omega)] at *)
  all_goals first
    | omega
    | exact ⟨by omega⟩
    | (refine er_via ?_ _; rw [he (by omega)]; done)
    | (refine (hl (by omega)).stop _ ?_; rw [hqk]; unfold openB; clear hqk hl he ih; generalize f2 ns ((k + 1 : Nat) : Int) = w at *; rw [decide_eq_true (show 0 ≤ w by assumption)]; generalize times.getD w.toNat 0 = b at *; generalize vals.getD k 0 = a at *; rw [dec_ne, dec_ne]; generalize (a == 0) = u at *; generalize (b == -1) = v at *; cases u <;> cases v <;> simp_all; done)
    | (refine (hl (by omega)).stop _ ?_; rw [hqk]; unfold openB; clear hqk hl he ih; generalize f2 ns ((k + 1 : Nat) : Int) = w at *; rw [decide_eq_false (show ¬ 0 ≤ w by omega)]; generalize vals.getD k 0 = a at *; by_cases ha : a = 0 <;> simp_all; done)
    | (refine ⟨(ih (by omega)).same rfl ((hl (by omega)).go ?_)⟩; rw [hqk]; unfold openB; clear hqk hl he ih; generalize f2 ns ((k + 1 : Nat) : Int) = w at *; rw [decide_eq_true (show 0 ≤ w by assumption)]; generalize times.getD w.toNat 0 = b at *; generalize vals.getD k 0 = a at *; rw [dec_ne, dec_ne]; generalize (a == 0) = u at *; generalize (b == -1) = v at *; cases u <;> cases v <;> simp_all; done)
    | (refine ⟨(ih (by omega)).same rfl ((hl (by omega)).go ?_)⟩; rw [hqk]; unfold openB; clear hqk hl he ih; generalize f2 ns ((k + 1 : Nat) : Int) = w at *; rw [decide_eq_false (show ¬ 0 ≤ w by omega)]; generalize vals.getD k 0 = a at *; by_cases ha : a = 0 <;> simp_all; done)
    | skip
def stOkB (t : Show) (x : State) : Bool := showB t && stateB t x
theorem specStateOk_ok (t : Show) (x : State) (ht : ShowLe t) (hx : StateLe x) : SCall Tryz.prog 40 [aShow t, aState x] (rB (stOkB t x)) := by
  refine SCall.of X40_ok (fn := Tryz.f40) (c := Tryz.f40.body.getD .skip) (dr := fun n => look 0 [(13, 17)] n) Tryz.func40 rfl (by kernel_rfl) (by kernel_rfl) (by kernel_rfl) ?_
  have h2 := hx.tlen
  have h3 := hx.vlen
  have h4 := hx.now
  clear hx
  rw [inI_iff] at h4
  obtain ⟨f0, hf0⟩ : ∃ f, f = l01InB := ⟨_, rfl⟩
  obtain ⟨f1, hf1⟩ : ∃ f, f = valuesB := ⟨_, rfl⟩
  obtain ⟨f2, hf2⟩ : ∃ f, f = watI := ⟨_, rfl⟩
  obtain ⟨f3, hf3⟩ : ∃ f, f = showB := ⟨_, rfl⟩
  have hO : SOraOK Tryz.prog (oraL [(63, wShowOk f3), (70, wL01 f0), (71, wValuesOk f1), (72, wWatcherN f2)]) := by
    subst hf0 hf1 hf2 hf3
    exact oraL_cons wShowOkS_ok (oraL_cons wL01_ok (oraL_cons wValuesOkS_ok (oraL_cons wWatcherN_ok oraL_nil)))
  have hsh : f3 t = true → (1 ≤ t.hor ∧ t.hor ≤ 10) ∧ 1 ≤ t.nodes.length ∧ t.nodes.length ≤ 7 := fun h => by rw [hf3] at h; exact ⟨showB_hor h, showB_len h⟩
  obtain ⟨ns, ts, hr⟩ := t
  obtain ⟨now, times, vals⟩ := x
  dsimp only at hsh h2 h3 h4
  unfold maxLen at h2 h3
  have h1 : ns.length ≤ maxLen := ht.len
  obtain ⟨p, hp⟩ : ∃ p, p = timeP now := ⟨_, rfl⟩
  obtain ⟨q, hq⟩ : ∃ q, q = valP ns times := ⟨_, rfl⟩
  obtain ⟨d, hd⟩ : ∃ d, d = allF q vals 0 := ⟨_, rfl⟩
  obtain ⟨r, hrr⟩ : ∃ r, r = (f3 ⟨ns, ts, hr⟩ && (decide (0 ≤ now ∧ now ≤ hr + 1 ∧ times.length = ns.length) && (f1 vals && (allF p times 0 && d)))) := ⟨_, rfl⟩
  have hs : stOkB ⟨ns, ts, hr⟩ ⟨now, times, vals⟩ = r := by
    rw [hrr, hf1, hp, hd, hq, hf3]; rfl
  rw [hs]
  clear hs
  have h1r : f3 ⟨ns, ts, hr⟩ = true → f0 now 0 (IntKind.i64.wrap (hr + 1)) = (decide (0 ≤ now) && decide (now ≤ hr + 1)) := fun h => by have := hsh h; rw [wrap_i64 (by omega) (by omega), hf0]; rfl
  have hz : ¬ times.getD (Int.toNat 0) 0 = 0 → 0 < times.length → allF p times 0 = false := fun h h5 => by
    rw [show times = times.drop 0 by rfl]
    refine allF_no (0 : Int) h5 ?_
    rw [hp, timeP]
    apply decide_eq_false
    intro h6
    exact h (h6.1 rfl)
  refine SEx.go (X := X40) X40_ok (fun n => look [] [(4, [2, 3, 44, 45, 46]), (10, [2, 3, 7])] n) (fun _ => none) hO 60 ?_
  intro M R L N hM hAnd hImp hR hL hN
  cases M
  cbv
  repeat' first | (refine hAnd _ _ ?_ ?_) | (refine hImp _ _ (fun h => ?_)) | (refine hR _ ?_) | (refine hL _ _ (Hd.out ?_); generalize hks : (List.cons _ _ : List K) = ks) | (refine hN _ _ ?_; cbv)
  all_goals (clear hAnd hImp hR hL hN)
  all_goals (cases hM; try dsimp only)
  all_goals (try simp only [Bool.not_eq_true', Bool.not_eq_false', decide_eq_true_eq, decide_eq_false_iff_not, Int.not_le, Int.not_lt, beq_iff_eq, beq_eq_false_iff_ne, ne_eq, Int.ofNat_eq_natCast, Int.toNat_natCast, List.length_replicate, ncast, Nat.sub_zero, List.drop_zero, Cue.eta, Tie.eta, Edge.eta, Link.eta, Node.eta] at *)
  all_goals (try (have h7 := hsh (by assumption)))
  all_goals (try (rw [h1r (by assumption)] at *))
  all_goals (try simp only [Bool.and_eq_true, Bool.and_eq_false_iff, decide_eq_true_eq, decide_eq_false_iff_not] at *)
  all_goals first
    | omega
    | exact ht
    | exact ⟨by omega⟩
    | (refine er_via ?_ _; rw [hrr, show f3 ⟨ns, ts, hr⟩ = false by assumption]; rfl)
    | (refine er_via ?_ _; rw [hrr, decide_eq_false (by omega)]; simp; done)
    | (refine er_via ?_ _; rw [hrr, hz (by assumption) (by omega)]; simp; done)
    | (refine er_via ?_ _; rw [hrr, show f1 vals = false by assumption]; simp; done)
    | skip
  have h7 := hsh (by assumption)
  rw [show f3 ⟨ns, ts, hr⟩ = true by assumption, show f1 vals = true by assumption, decide_eq_true (by omega), Bool.true_and, Bool.true_and, Bool.true_and] at hrr
  rw [hrr]
  clear hrr hz h1r
  have hv3 : vals.length = 3 := by apply valuesB_len; rw [← hf1]; assumption
  obtain ⟨m, hm⟩ : ∃ m, m = times.length := ⟨_, rfl⟩
  refine ⟨SEx.same (SEx.idx m (fun i => ⟨87, [(2, bP 8192), (3, bP 12288), (44, bL (.i times)), (45, bI m), (46, bI i)], [(8192, .obx [.fz (.sl (.node false none ns)), .fz (.sl (.tie ts)), .fz (.int .i64 hr)]), (12288, .obx [.fz (.int .i64 now), .fz (.sl (.i times)), .fz (.sl (.i vals))])]⟩) (fun i => rB (allF p (times.drop i) i && d)) ?_) (by rw [hm]; rfl) rfl⟩
  intro i hi ih
  rw [← hks]
  have hl : i < m → LoopB _ _ _ := fun h => LoopB.of p times i d (0 : Int) (by omega)
  have he : i = m → (allF p (times.drop i) i && d) = d := fun h => allF_end_and (by omega)
  have h1n : IntKind.i64.wrap (now - 1) = now - 1 := wrap_i64 (by omega) (by omega)
  have h0t : i = 0 → times.getD i 0 = 0 := fun h => by subst h; assumption
  have hin : f0 (times.getD i 0) (-1) (IntKind.i64.wrap (now - 1)) = (decide (-1 ≤ times.getD i 0) && decide (times.getD i 0 ≤ now - 1)) := by rw [h1n, hf0]; rfl
  refine SEx.go (X := X40) X40_ok (fun n => look [] [(4, [2, 3, 44, 45, 46]), (10, [2, 3, 7])] n) (fun _ => none) hO 60 ?_
  intro M R L N hM hAnd hImp hR hL hN
  cases M
  cbv
  repeat' first | (refine hAnd _ _ ?_ ?_) | (refine hImp _ _ (fun h => ?_)) | (refine hR _ ?_) | (refine hL _ _ (Hd.out ?_); first | rw [hks] | generalize hk2 : (List.cons _ _ : List K) = k2) | (refine hN _ _ ?_; cbv)
  all_goals (clear hAnd hImp hR hL hN)
  all_goals (cases hM; try dsimp only)
  all_goals (try simp only [Bool.not_eq_true', Bool.not_eq_false', decide_eq_true_eq, decide_eq_false_iff_not, Int.not_le, Int.not_lt, beq_iff_eq, beq_eq_false_iff_ne, ne_eq, Int.ofNat_eq_natCast, Int.toNat_natCast, List.length_replicate, ncast, Nat.sub_zero, List.drop_zero, Cue.eta, Tie.eta, Edge.eta, Link.eta, Node.eta] at *)
  all_goals (try simp only [wrap_succ (show i < 9223372036854775807 by omega)] at *)
  all_goals (try rw [hin] at *)
  all_goals (try simp only [Bool.and_eq_true, Bool.and_eq_false_iff, decide_eq_true_eq, decide_eq_false_iff_not] at *)
  all_goals first
    | omega
    | (refine (hl (by omega)).stop _ ?_; rw [hp, timeP]; apply decide_eq_false; omega)
    | (refine ⟨(ih (by omega)).same rfl ((hl (by omega)).go ?_)⟩; rw [hp, timeP]; apply decide_eq_true; omega)
    | skip
  have him : i = m := by omega
  rw [he him]
  clear ih hl he hin h0t h1n
  rw [hd]
  clear hd
  refine ⟨SEx.same (SEx.idx 3 (fun i => ⟨87, [(2, bP 8192), (3, bP 12288), (7, bI (i + 1 : Nat))], [(8192, .obx [.fz (.sl (.node false none ns)), .fz (.sl (.tie ts)), .fz (.int .i64 hr)]), (12288, .obx [.fz (.int .i64 now), .fz (.sl (.i times)), .fz (.sl (.i vals))])]⟩) (fun i => rB (allF q (vals.drop i) i && true)) ?_) rfl (by rw [Bool.and_true]; rfl)⟩
  intro k hk ih
  rw [← hk2]
  have hl : k < 3 → LoopB _ _ _ := fun h => LoopB.of q vals k true (0 : Int) (by omega)
  have he : k = 3 → (allF q (vals.drop k) k && true) = true := fun h => allF_end_and (by omega)
  have hlt : ∀ x, f2 ns x < ns.length := fun x => by rw [hf2]; exact (watI_lt _ _).1
  have h5 := hlt ((k + 1 : Nat) : Int)
  have hwk : IntKind.i64.wrap (((k + 1 : Nat) : Int) - 1) = k := by rw [wrap_i64 (by omega) (by omega)]; omega
  obtain ⟨kk, hkk⟩ : ∃ kk : Nat, kk = k + 1 := ⟨_, rfl⟩
  rw [← hkk] at hwk h5 ⊢
  have hqk : q k (vals.getD k 0) = (decide (¬ vals.getD k 0 = 0) == openB times (f2 ns kk)) := by
    rw [hq, hf2, hkk]; rfl
  refine SEx.go (X := X40) X40_ok (fun n => look [] [(4, [2, 3, 44, 45, 46]), (10, [2, 3, 7])] n) (fun _ => none) hO 60 ?_
  intro M R L N hM hAnd hImp hR hL hN
  cases M
  cbv
  repeat' first | (refine hAnd _ _ ?_ ?_) | (refine hImp _ _ (fun h => ?_)) | (refine hR _ ?_) | (refine hL _ _ (Hd.out ?_); try first | rw [hks] | rw [hk2] | rw [hk3]) | (refine hN _ _ ?_; cbv)
  all_goals (clear hAnd hImp hR hL hN; try clear hks; try clear hk2; try clear hk3)
  all_goals (cases hM; try dsimp only)
  all_goals (try simp only [Bool.not_eq_true', Bool.not_eq_false', decide_eq_true_eq, decide_eq_false_iff_not, Int.not_le, Int.not_lt, beq_iff_eq, beq_eq_false_iff_ne, ne_eq, Int.ofNat_eq_natCast, Int.toNat_natCast, List.length_replicate, ncast, Nat.sub_zero, List.drop_zero, Cue.eta, Tie.eta, Edge.eta, Link.eta, Node.eta] at *)
  all_goals (try simp only [hwk, Int.toNat_natCast, wrap_succ (show kk < 9223372036854775807 by omega)] at *)
  all_goals first
    | omega
    | exact ⟨h1⟩
    | (refine er_via ?_ _; rw [he (by omega)]; done)
    | (refine (hl (by omega)).stop _ ?_; rw [hqk]; unfold openB; clear hqk hl he ih; generalize f2 ns (kk : Int) = w at *; rw [decide_eq_true (show 0 ≤ w by assumption)]; generalize times.getD w.toNat 0 = b at *; generalize vals.getD k 0 = a at *; rw [dec_ne, dec_ne]; generalize (a == 0) = u at *; generalize (b == -1) = v at *; cases u <;> cases v <;> simp_all; done)
    | (refine (hl (by omega)).stop _ ?_; rw [hqk]; unfold openB; clear hqk hl he ih; generalize f2 ns (kk : Int) = w at *; rw [decide_eq_false (show ¬ 0 ≤ w by omega)]; generalize vals.getD k 0 = a at *; by_cases ha : a = 0 <;> simp_all; done)
    | (subst hkk; refine ⟨(ih (by omega)).same rfl ((hl (by omega)).go ?_)⟩; rw [hqk]; unfold openB; clear hqk hl he ih; generalize f2 ns ((k + 1 : Nat) : Int) = w at *; rw [decide_eq_true (show 0 ≤ w by assumption)]; generalize times.getD w.toNat 0 = b at *; generalize vals.getD k 0 = a at *; rw [dec_ne, dec_ne]; generalize (a == 0) = u at *; generalize (b == -1) = v at *; cases u <;> cases v <;> simp_all; done)
    | (subst hkk; refine ⟨(ih (by omega)).same rfl ((hl (by omega)).go ?_)⟩; rw [hqk]; unfold openB; clear hqk hl he ih; generalize f2 ns ((k + 1 : Nat) : Int) = w at *; rw [decide_eq_false (show ¬ 0 ≤ w by omega)]; generalize vals.getD k 0 = a at *; by_cases ha : a = 0 <;> simp_all; done)
    | skip
structure ShowT (t : Show) : Prop where out : showB t = true
def wIsState (f : Show → State → Bool) : Wr := w2 dcShow dcState (fun t x => rB (f t x)) (fun t x => [ShowT t, StateLe x])
theorem wIsState_ok : WrOK Tryz.prog 77 (wIsState stateB) := w2_ok fun t x h => isState_ok t x (h _ (.head _)).out (h _ (.tail _ (.head _)))
def wStateOk (f : Show → State → Bool) : Wr := w2 dcShow dcState (fun t x => rB (f t x)) (fun t x => [ShowLe t, StateLe x])
theorem wStateOkS_ok : WrOK Tryz.prog 40 (wStateOk stOkB) := w2_ok fun t x h => specStateOk_ok t x (h _ (.head _)) (h _ (.tail _ (.head _)))
theorem implStateOk_ok (t : Show) (x : State) (ht : ShowLe t) (hx : StateLe x) : SCall Tryz.prog 46 [aShow t, aState x] (rB (stOkB t x)) := by
  refine SCall.of X46_ok (fn := Tryz.f46) (c := Tryz.f46.body.getD .skip) (dr := fun n => look 0 [] n) Tryz.func46 rfl (by kernel_rfl) (by kernel_rfl) (by kernel_rfl) ?_
  obtain ⟨f1, hf1⟩ : ∃ f, f = showB := ⟨_, rfl⟩
  obtain ⟨f2, hf2⟩ : ∃ f, f = stateB := ⟨_, rfl⟩
  have hO : SOraOK Tryz.prog (oraL [(76, wShowOk f1), (77, wIsState f2)]) := by
    subst hf1 hf2
    exact oraL_cons wShowOkI_ok (oraL_cons wIsState_ok oraL_nil)
  rw [show stOkB t x = (f1 t && f2 t x) by rw [hf1, hf2]; rfl]
  have hsh : f1 t = true → showB t = true := fun h => by rw [hf1] at h; exact h
  obtain ⟨ns, ts, hr⟩ := t
  obtain ⟨now, times, vals⟩ := x
  refine SEx.go (X := X46) X46_ok (fun n => look [] [] n) (fun _ => none) hO 60 ?_
  intro M R L N hM hAnd hImp hR hL hN
  cases M
  cbv
  repeat' first | (refine hAnd _ _ ?_ ?_) | (refine hImp _ _ (fun h => ?_)) | (refine hR _ ?_) | (refine hL _ _ (Hd.out ?_); try first | rw [hks] | rw [hk2] | rw [hk3]) | (refine hN _ _ ?_; cbv)
  all_goals (clear hAnd hImp hR hL hN; try clear hks; try clear hk2; try clear hk3)
  all_goals (cases hM; try dsimp only)
  all_goals (try simp only [Bool.not_eq_true', Bool.not_eq_false', decide_eq_true_eq, decide_eq_false_iff_not, Int.not_le, Int.not_lt, beq_iff_eq, beq_eq_false_iff_ne, ne_eq, Int.ofNat_eq_natCast, Int.toNat_natCast, List.length_replicate, ncast, Nat.sub_zero, List.drop_zero, Cue.eta, Tie.eta, Edge.eta, Link.eta, Node.eta] at *)
  all_goals first
    | exact ht
    | exact hx
    | exact ⟨hsh (by assumption)⟩
    | (refine er_via ?_ _; simp_all; done)
    | skip
theorem wStateOkI_ok : WrOK Tryz.prog 46 (wStateOk stOkB) := w2_ok fun t x h => implStateOk_ok t x (h _ (.head _)) (h _ (.tail _ (.head _)))
end Go.Proofs.YtececadpjelanaaGreat.Ai
namespace Go.Proofs.YtececadpjelanaaGreat.Ai
open Go
set_option maxRecDepth 100000
set_option linter.unusedVariables false
set_option linter.unusedSimpArgs false
set_option linter.unusedSectionVars false
variable [MemoCtx]
structure StT (t : Show) (x : State) : Prop where
  sh : showB t = true
  st : stateB t x = true
theorem StT.vals {t : Show} {x : State} (h : StT t x) : valuesB x.vals = true := by
  have := h.st
  unfold stateB at this
  rw [Bool.and_eq_true, Bool.and_eq_true] at this
  exact this.2.1
theorem StT.now {t : Show} {x : State} (h : StT t x) : 0 ≤ x.now ∧ x.now ≤ t.hor + 1 ∧ x.times.length = t.nodes.length := by
  have := h.st
  unfold stateB at this
  rw [Bool.and_eq_true, decide_eq_true_eq] at this
  exact this.1
theorem allF_getD {α : Type} {p : Nat → α → Bool} : ∀ {l : List α} {n i : Nat} (z : α), allF p l n = true → i < l.length → p (n + i) (l.getD i z) = true
  | a :: r, n, 0, z, h, _ => by
    unfold allF at h
    rw [Bool.and_eq_true] at h
    simpa using h.1
  | a :: r, n, i + 1, z, h, hi => by
    unfold allF at h
    rw [Bool.and_eq_true] at h
    have := allF_getD z h.2 (show i < r.length by simpa using hi)
    rw [List.getD_cons_succ, show n + (i + 1) = n + 1 + i by omega]
    exact this
theorem StT.time {t : Show} {x : State} (h : StT t x) (i : Nat) : -1 ≤ x.times.getD i 0 ∧ x.times.getD i 0 ≤ 10 := by
  have hn := h.now
  have hh := showB_hor h.sh
  have := h.st
  unfold stateB at this
  rw [Bool.and_eq_true, Bool.and_eq_true, Bool.and_eq_true] at this
  by_cases hi : i < x.times.length
  · have h1 := allF_getD (0 : Int) this.2.2.1 hi
    rw [Nat.zero_add, timeP, decide_eq_true_eq] at h1
    by_cases h0 : i = 0
    · have := h1.1 h0; omega
    · have := h1.2 (by omega); omega
  · rw [List.getD_eq_getElem?_getD, List.getElem?_eq_none (by omega)]
    exact ⟨by decide, by decide⟩
structure StLe (t : Show) (x : State) : Prop where
  sh : ShowLe t
  st : StateLe x
end Go.Proofs.YtececadpjelanaaGreat.Ai
namespace Go.Proofs.YtececadpjelanaaGreat.Ai
open Go
set_option maxRecDepth 100000
set_option linter.unusedVariables false
set_option linter.unusedSimpArgs false
set_option linter.unusedSectionVars false
variable [MemoCtx]
structure TieT (t : Show) (q : Tie) : Prop where
  src : 0 ≤ q.src ∧ q.src < t.nodes.length
  dst : 0 ≤ q.dst ∧ q.dst < t.nodes.length
theorem showB_tie {t : Show} (h : showB t = true) {q : Tie} (hq : q ∈ t.ties) : TieT t q := by
  have hn := showB_len h
  unfold showB tiesB at h
  simp only [Bool.and_eq_true] at h
  obtain ⟨i, hi⟩ := allF_mem h.2.2.1.1 hq
  unfold tieB at hi
  rw [Bool.and_eq_true, decide_eq_true_eq] at hi
  exact ⟨by omega, by omega⟩
end Go.Proofs.YtececadpjelanaaGreat.Ai
namespace Go.Proofs.YtececadpjelanaaGreat.Ai
open Go
set_option maxRecDepth 100000
set_option linter.unusedVariables false
set_option linter.unusedSimpArgs false
set_option linter.unusedSectionVars false
variable [MemoCtx]
theorem ShowIn.le {t : Show} (h : ShowIn t) : ShowLe t := ⟨h.len, h.tlen, fun q hq => ⟨(h.nodes q hq).name, (h.nodes q hq).len, (h.nodes q hq).label⟩⟩
theorem StateIn.le {x : State} (h : StateIn x) : StateLe x := ⟨h.now, h.len, h.vlen⟩
structure ShowSz (t : Show) (n : Int) : Prop where
  len : t.nodes.length ≤ 1048576
  tlen : t.ties.length ≤ 1048576
  labs : ∀ q ∈ t.nodes, q.label.length ≤ 1048576
  le : n ≤ 1048576
theorem showSz {t : Show} (h : 0 ≤ szShowI t 1048576) : ShowSz t (szShowI t 1048576) := by
  have := szShow_20 (n := 1048576) (by decide) h
  exact ⟨by omega, by omega, fun q hq => by have := (this.2.2.1 q hq).2; omega, this.2.2.2⟩
structure StateSz (x : State) : Prop where
  tlen : x.times.length ≤ 1048576
  vlen : x.vals.length ≤ 1048576
theorem stateSz {x : State} {n : Int} (h0 : 0 ≤ n) (h1 : n ≤ 1048576) (h : 0 ≤ szStateI x n) : StateSz x := by
  have := szState_20 h0 h
  exact ⟨by omega, by omega⟩
end Go.Proofs.YtececadpjelanaaGreat.Ai
namespace Go.Proofs.YtececadpjelanaaGreat.Ai
open Go
set_option maxRecDepth 100000
set_option linter.unusedVariables false
set_option linter.unusedSimpArgs false
set_option linter.unusedSectionVars false
variable [MemoCtx]
end Go.Proofs.YtececadpjelanaaGreat.Ai
