/- The types that the functions use. -/
import Derived.Test.YtnipkagkeehncaaSyB
import Derived.Test.YtnipkagkeehncaaProg
import Derived.KernelRfl
namespace Go.Proofs.Ytnipkagkeehncaa.Ai
open Go
set_option maxRecDepth 100000
def tr3 : Ty := { kind := TK.int IntKind.i64, agg := false, size := 1, bytes := 8, zero := [C.int IntKind.i64 (Int.ofNat 0)] }
theorem ty3 : tyOf Try.prog 3 = some tr3 := by kernel_rfl
def tr4 : Ty := { kind := TK.bool, agg := false, size := 1, bytes := 1, zero := [C.bool false] }
theorem ty4 : tyOf Try.prog 4 = some tr4 := by kernel_rfl
def tr9 : Ty := { kind := TK.str, agg := false, size := 1, bytes := 16, zero := [C.str { data := { toList := [] } }] }
theorem ty9 : tyOf Try.prog 9 = some tr9 := by kernel_rfl
def tr22 : Ty := { kind := TK.sl 45, agg := false, size := 1, bytes := 24, zero := [C.nilsl] }
theorem ty22 : tyOf Try.prog 22 = some tr22 := by kernel_rfl
def tr23 : Ty := { kind := TK.sl 3, agg := false, size := 1, bytes := 24, zero := [C.nilsl] }
theorem ty23 : tyOf Try.prog 23 = some tr23 := by kernel_rfl
def tr25 : Ty := { kind := TK.st [(0, 1, false), (1, 1, false), (2, 1, false)], agg := true, size := 3, bytes := 56, zero := [C.nilsl, C.nilsl, C.int IntKind.i64 (Int.ofNat 0)] }
theorem ty25 : tyOf Try.prog 25 = some tr25 := by kernel_rfl
def tr28 : Ty := { kind := TK.sl 37, agg := false, size := 1, bytes := 24, zero := [C.nilsl] }
theorem ty28 : tyOf Try.prog 28 = some tr28 := by kernel_rfl
def tr30 : Ty := { kind := TK.st [(0, 1, false), (1, 1, false), (2, 1, false)], agg := true, size := 3, bytes := 56, zero := [C.nilsl, C.nilsl, C.int IntKind.i64 (Int.ofNat 0)] }
theorem ty30 : tyOf Try.prog 30 = some tr30 := by kernel_rfl
def tr37 : Ty := { kind := TK.st [(0, 1, false), (1, 1, false), (2, 1, false), (3, 1, false), (4, 1, false), (5, 1, false), (6, 1, false), (7, 1, false), (8, 1, false), (9, 1, false), (10, 1, false)], agg := true, size := 11, bytes := 96, zero := [C.str { data := { toList := [] } }, C.int IntKind.i64 (Int.ofNat 0), C.bool false, C.int IntKind.i64 (Int.ofNat 0), C.int IntKind.i64 (Int.ofNat 0), C.int IntKind.i64 (Int.ofNat 0), C.int IntKind.i64 (Int.ofNat 0), C.bool false, C.int IntKind.i64 (Int.ofNat 0), C.int IntKind.i64 (Int.ofNat 0), C.int IntKind.i64 (Int.ofNat 0)] }
theorem ty37 : tyOf Try.prog 37 = some tr37 := by kernel_rfl
def tr45 : Ty := { kind := TK.st [(0, 1, false), (1, 1, false), (2, 1, false), (3, 1, false), (4, 1, false), (5, 1, false), (6, 1, false), (7, 1, false), (8, 1, false), (9, 1, false), (10, 1, false)], agg := true, size := 11, bytes := 96, zero := [C.str { data := { toList := [] } }, C.int IntKind.i64 (Int.ofNat 0), C.bool false, C.int IntKind.i64 (Int.ofNat 0), C.int IntKind.i64 (Int.ofNat 0), C.int IntKind.i64 (Int.ofNat 0), C.int IntKind.i64 (Int.ofNat 0), C.bool false, C.int IntKind.i64 (Int.ofNat 0), C.int IntKind.i64 (Int.ofNat 0), C.int IntKind.i64 (Int.ofNat 0)] }
theorem ty45 : tyOf Try.prog 45 = some tr45 := by kernel_rfl
def T3 : List (Nat × Option Ty) := [(25, some tr25), (30, some tr30), (3, some tr3), (9, some tr9)]
def X3 : SX := ⟨look none T3, fun t => look none [(3, some .i), (9, some .s)] t⟩
theorem X3_ok : TyOK Try.prog X3.T := tyOK_list (by simp only [T3, List.mem_cons, List.not_mem_nil, or_false, forall_eq_or_imp, forall_eq, ty25, ty30, ty3, ty9]; simp)
def T4 : List (Nat × Option Ty) := [(25, some tr25), (3, some tr3), (22, some tr22), (23, some tr23)]
def X4 : SX := ⟨look none T4, fun t => look none [(3, some .i), (23, some .ii)] t⟩
theorem X4_ok : TyOK Try.prog X4.T := tyOK_list (by simp only [T4, List.mem_cons, List.not_mem_nil, or_false, forall_eq_or_imp, forall_eq, ty25, ty3, ty22, ty23]; simp)
def T5 : List (Nat × Option Ty) := [(37, some tr37), (28, some tr28), (3, some tr3), (9, some tr9), (30, some tr30)]
def X5 : SX := ⟨look none T5, fun t => look none [(37, some .cue), (3, some .i), (9, some .s)] t⟩
theorem X5_ok : TyOK Try.prog X5.T := tyOK_list (by simp only [T5, List.mem_cons, List.not_mem_nil, or_false, forall_eq_or_imp, forall_eq, ty37, ty28, ty3, ty9, ty30]; simp)
def T6 : List (Nat × Option Ty) := [(30, some tr30), (25, some tr25), (23, some tr23), (3, some tr3), (22, some tr22), (28, some tr28)]
def X6 : SX := ⟨look none T6, fun t => look none [(23, some .ii), (3, some .i)] t⟩
theorem X6_ok : TyOK Try.prog X6.T := tyOK_list (by simp only [T6, List.mem_cons, List.not_mem_nil, or_false, forall_eq_or_imp, forall_eq, ty30, ty25, ty23, ty3, ty22, ty28]; simp)
def T7 : List (Nat × Option Ty) := [(30, some tr30), (28, some tr28)]
def X7 : SX := ⟨look none T7, fun t => look none [] t⟩
theorem X7_ok : TyOK Try.prog X7.T := tyOK_list (by simp only [T7, List.mem_cons, List.not_mem_nil, or_false, forall_eq_or_imp, forall_eq, ty30, ty28]; simp)
def T8 : List (Nat × Option Ty) := [(30, some tr30), (3, some tr3), (28, some tr28), (23, some tr23)]
def X8 : SX := ⟨look none T8, fun t => look none [(3, some .i), (23, some .ii)] t⟩
theorem X8_ok : TyOK Try.prog X8.T := tyOK_list (by simp only [T8, List.mem_cons, List.not_mem_nil, or_false, forall_eq_or_imp, forall_eq, ty30, ty3, ty28, ty23]; simp)
def T9 : List (Nat × Option Ty) := [(3, some tr3), (22, some tr22), (45, some tr45)]
def X9 : SX := ⟨look none T9, fun t => look none [(3, some .i), (45, some .cue)] t⟩
theorem X9_ok : TyOK Try.prog X9.T := tyOK_list (by simp only [T9, List.mem_cons, List.not_mem_nil, or_false, forall_eq_or_imp, forall_eq, ty3, ty22, ty45]; simp)
def T10 : List (Nat × Option Ty) := [(3, some tr3), (23, some tr23)]
def X10 : SX := ⟨look none T10, fun t => look none [(3, some .i), (23, some .ii)] t⟩
theorem X10_ok : TyOK Try.prog X10.T := tyOK_list (by simp only [T10, List.mem_cons, List.not_mem_nil, or_false, forall_eq_or_imp, forall_eq, ty3, ty23]; simp)
def T11 : List (Nat × Option Ty) := [(22, some tr22), (28, some tr28), (3, some tr3), (45, some tr45), (37, some tr37)]
def X11 : SX := ⟨look none T11, fun t => look none [(3, some .i), (45, some .cue), (37, some .cue)] t⟩
theorem X11_ok : TyOK Try.prog X11.T := tyOK_list (by simp only [T11, List.mem_cons, List.not_mem_nil, or_false, forall_eq_or_imp, forall_eq, ty22, ty28, ty3, ty45, ty37]; simp)
def T12 : List (Nat × Option Ty) := [(23, some tr23), (3, some tr3)]
def X12 : SX := ⟨look none T12, fun t => look none [(23, some .ii), (3, some .i)] t⟩
theorem X12_ok : TyOK Try.prog X12.T := tyOK_list (by simp only [T12, List.mem_cons, List.not_mem_nil, or_false, forall_eq_or_imp, forall_eq, ty23, ty3]; simp)
def T13 : List (Nat × Option Ty) := [(28, some tr28), (3, some tr3), (37, some tr37)]
def X13 : SX := ⟨look none T13, fun t => look none [(3, some .i), (37, some .cue)] t⟩
theorem X13_ok : TyOK Try.prog X13.T := tyOK_list (by simp only [T13, List.mem_cons, List.not_mem_nil, or_false, forall_eq_or_imp, forall_eq, ty28, ty3, ty37]; simp)
def T14 : List (Nat × Option Ty) := [(9, some tr9), (37, some tr37)]
def X14 : SX := ⟨look none T14, fun t => look none [(9, some .s), (37, some .cue)] t⟩
theorem X14_ok : TyOK Try.prog X14.T := tyOK_list (by simp only [T14, List.mem_cons, List.not_mem_nil, or_false, forall_eq_or_imp, forall_eq, ty9, ty37]; simp)
def T15 : List (Nat × Option Ty) := [(28, some tr28), (3, some tr3), (37, some tr37)]
def X15 : SX := ⟨look none T15, fun t => look none [(3, some .i), (37, some .cue)] t⟩
theorem X15_ok : TyOK Try.prog X15.T := tyOK_list (by simp only [T15, List.mem_cons, List.not_mem_nil, or_false, forall_eq_or_imp, forall_eq, ty28, ty3, ty37]; simp)
def T16 : List (Nat × Option Ty) := [(3, some tr3), (23, some tr23)]
def X16 : SX := ⟨look none T16, fun t => look none [(3, some .i), (23, some .ii)] t⟩
theorem X16_ok : TyOK Try.prog X16.T := tyOK_list (by simp only [T16, List.mem_cons, List.not_mem_nil, or_false, forall_eq_or_imp, forall_eq, ty3, ty23]; simp)
def T17 : List (Nat × Option Ty) := [(9, some tr9), (3, some tr3), (45, some tr45)]
def X17 : SX := ⟨look none T17, fun t => look none [(9, some .s), (3, some .i), (45, some .cue)] t⟩
theorem X17_ok : TyOK Try.prog X17.T := tyOK_list (by simp only [T17, List.mem_cons, List.not_mem_nil, or_false, forall_eq_or_imp, forall_eq, ty9, ty3, ty45]; simp)
def T18 : List (Nat × Option Ty) := [(3, some tr3), (37, some tr37), (45, some tr45), (4, some tr4), (9, some tr9)]
def X18 : SX := ⟨look none T18, fun t => look none [(3, some .i), (37, some .cue), (45, some .cue), (4, some .b), (9, some .s)] t⟩
theorem X18_ok : TyOK Try.prog X18.T := tyOK_list (by simp only [T18, List.mem_cons, List.not_mem_nil, or_false, forall_eq_or_imp, forall_eq, ty3, ty37, ty45, ty4, ty9]; simp)
def T19 : List (Nat × Option Ty) := [(3, some tr3), (37, some tr37), (4, some tr4), (9, some tr9)]
def X19 : SX := ⟨look none T19, fun t => look none [(3, some .i), (37, some .cue), (4, some .b), (9, some .s)] t⟩
theorem X19_ok : TyOK Try.prog X19.T := tyOK_list (by simp only [T19, List.mem_cons, List.not_mem_nil, or_false, forall_eq_or_imp, forall_eq, ty3, ty37, ty4, ty9]; simp)
def lv6 : List (Nat × Option (List Nat)) := [(2, some [0]), (3, some [1]), (4, some [1, 2]), (5, some [1, 2, 3]), (6, some [1, 2, 3, 4]), (7, some [1, 2, 3, 5]), (8, some [1, 2, 3, 6]), (9, some [1, 2, 3]), (10, some [1, 2, 3, 8]), (11, some [1, 2, 3, 9]), (12, some [1, 2, 3, 10]), (13, some [1, 2, 3]), (14, some [2, 3, 12]), (15, some [2, 3, 13]), (16, some [2, 3])]
end Go.Proofs.Ytnipkagkeehncaa.Ai
