/- The types that the functions use. -/
import Derived.Test.YtlmejcmnmdleaaaBD
import Derived.Test.YtlmejcmnmdleaaaProg
import Derived.KernelRfl
namespace Go.Proofs.Ytlmejcmnmdleaaa.Ai
open Go
set_option maxRecDepth 100000
set_option linter.unusedSimpArgs false
def tr3 : Ty := { kind := TK.int IntKind.i64, agg := false, size := 1, bytes := 8, zero := [C.int IntKind.i64 (Int.ofNat 0)] }
theorem ty3 : tyOf Try.prog 3 = some tr3 := by kernel_rfl
def tr4 : Ty := { kind := TK.bool, agg := false, size := 1, bytes := 1, zero := [C.bool false] }
theorem ty4 : tyOf Try.prog 4 = some tr4 := by kernel_rfl
def tr5 : Ty := { kind := TK.int IntKind.u8, agg := false, size := 1, bytes := 1, zero := [C.int IntKind.u8 (Int.ofNat 0)] }
theorem ty5 : tyOf Try.prog 5 = some tr5 := by kernel_rfl
def tr9 : Ty := { kind := TK.str, agg := false, size := 1, bytes := 16, zero := [C.str { data := { toList := [] } }] }
theorem ty9 : tyOf Try.prog 9 = some tr9 := by kernel_rfl
def tr22 : Ty := { kind := TK.sl 62, agg := false, size := 1, bytes := 24, zero := [C.nilsl] }
theorem ty22 : tyOf Try.prog 22 = some tr22 := by kernel_rfl
def tr23 : Ty := { kind := TK.sl 3, agg := false, size := 1, bytes := 24, zero := [C.nilsl] }
theorem ty23 : tyOf Try.prog 23 = some tr23 := by kernel_rfl
def tr25 : Ty := { kind := TK.st [(0, 1, false), (1, 1, false), (2, 1, false)], agg := true, size := 3, bytes := 56, zero := [C.nilsl, C.nilsl, C.int IntKind.i64 (Int.ofNat 0)] }
theorem ty25 : tyOf Try.prog 25 = some tr25 := by kernel_rfl
def tr28 : Ty := { kind := TK.sl 49, agg := false, size := 1, bytes := 24, zero := [C.nilsl] }
theorem ty28 : tyOf Try.prog 28 = some tr28 := by kernel_rfl
def tr30 : Ty := { kind := TK.st [(0, 1, false), (1, 1, false), (2, 1, false)], agg := true, size := 3, bytes := 56, zero := [C.nilsl, C.nilsl, C.int IntKind.i64 (Int.ofNat 0)] }
theorem ty30 : tyOf Try.prog 30 = some tr30 := by kernel_rfl
def tr49 : Ty := { kind := TK.st [(0, 1, false), (1, 1, false), (2, 1, false), (3, 1, false), (4, 1, false), (5, 1, false), (6, 1, false), (7, 1, false), (8, 1, false), (9, 1, false), (10, 1, false)], agg := true, size := 11, bytes := 96, zero := [C.str { data := { toList := [] } }, C.int IntKind.i64 (Int.ofNat 0), C.bool false, C.int IntKind.i64 (Int.ofNat 0), C.int IntKind.i64 (Int.ofNat 0), C.int IntKind.i64 (Int.ofNat 0), C.int IntKind.i64 (Int.ofNat 0), C.bool false, C.int IntKind.i64 (Int.ofNat 0), C.int IntKind.i64 (Int.ofNat 0), C.int IntKind.i64 (Int.ofNat 0)] }
theorem ty49 : tyOf Try.prog 49 = some tr49 := by kernel_rfl
def tr62 : Ty := { kind := TK.st [(0, 1, false), (1, 1, false), (2, 1, false), (3, 1, false), (4, 1, false), (5, 1, false), (6, 1, false), (7, 1, false), (8, 1, false), (9, 1, false), (10, 1, false)], agg := true, size := 11, bytes := 96, zero := [C.str { data := { toList := [] } }, C.int IntKind.i64 (Int.ofNat 0), C.bool false, C.int IntKind.i64 (Int.ofNat 0), C.int IntKind.i64 (Int.ofNat 0), C.int IntKind.i64 (Int.ofNat 0), C.int IntKind.i64 (Int.ofNat 0), C.bool false, C.int IntKind.i64 (Int.ofNat 0), C.int IntKind.i64 (Int.ofNat 0), C.int IntKind.i64 (Int.ofNat 0)] }
theorem ty62 : tyOf Try.prog 62 = some tr62 := by kernel_rfl
def tr70 : Ty := { kind := TK.sl 5, agg := false, size := 1, bytes := 24, zero := [C.nilsl] }
theorem ty70 : tyOf Try.prog 70 = some tr70 := by kernel_rfl
def T8 : List (Nat × Option Ty) := [(3, some tr3), (25, some tr25), (30, some tr30)]
def X8 : SX := { T := look none T8, K := fun t => look none [(3, some .i)] t }
theorem X8_ok : TyOK Try.prog X8.T := tyOK_list (by simp only [T8, List.mem_cons, List.not_mem_nil, or_false, forall_eq_or_imp, forall_eq, ty3, ty25, ty30]; simp)
def T10 : List (Nat × Option Ty) := [(25, some tr25), (3, some tr3), (22, some tr22), (23, some tr23)]
def X10 : SX := { T := look none T10, K := fun t => look none [(3, some .i), (23, some .ii)] t }
theorem X10_ok : TyOK Try.prog X10.T := tyOK_list (by simp only [T10, List.mem_cons, List.not_mem_nil, or_false, forall_eq_or_imp, forall_eq, ty25, ty3, ty22, ty23]; simp)
def T12 : List (Nat × Option Ty) := [(30, some tr30), (25, some tr25), (23, some tr23), (3, some tr3), (22, some tr22), (28, some tr28)]
def X12 : SX := { T := look none T12, K := fun t => look none [(23, some .ii), (3, some .i)] t }
theorem X12_ok : TyOK Try.prog X12.T := tyOK_list (by simp only [T12, List.mem_cons, List.not_mem_nil, or_false, forall_eq_or_imp, forall_eq, ty30, ty25, ty23, ty3, ty22, ty28]; simp)
def T14 : List (Nat × Option Ty) := [(30, some tr30), (3, some tr3), (28, some tr28), (23, some tr23)]
def X14 : SX := { T := look none T14, K := fun t => look none [(3, some .i), (23, some .ii)] t }
theorem X14_ok : TyOK Try.prog X14.T := tyOK_list (by simp only [T14, List.mem_cons, List.not_mem_nil, or_false, forall_eq_or_imp, forall_eq, ty30, ty3, ty28, ty23]; simp)
def T23 : List (Nat × Option Ty) := [(3, some tr3), (49, some tr49), (23, some tr23), (28, some tr28), (30, some tr30)]
def X23 : SX := { T := look none T23, K := fun t => look none [(3, some .i), (49, some .cue), (23, some .ii)] t }
theorem X23_ok : TyOK Try.prog X23.T := tyOK_list (by simp only [T23, List.mem_cons, List.not_mem_nil, or_false, forall_eq_or_imp, forall_eq, ty3, ty49, ty23, ty28, ty30]; simp)
def T24 : List (Nat × Option Ty) := [(3, some tr3), (49, some tr49), (28, some tr28), (23, some tr23), (30, some tr30)]
def X24 : SX := { T := look none T24, K := fun t => look none [(3, some .i), (49, some .cue), (23, some .ii)] t }
theorem X24_ok : TyOK Try.prog X24.T := tyOK_list (by simp only [T24, List.mem_cons, List.not_mem_nil, or_false, forall_eq_or_imp, forall_eq, ty3, ty49, ty28, ty23, ty30]; simp)
def T25 : List (Nat × Option Ty) := [(3, some tr3), (23, some tr23)]
def X25 : SX := { T := look none T25, K := fun t => look none [(3, some .i), (23, some .ii)] t }
theorem X25_ok : TyOK Try.prog X25.T := tyOK_list (by simp only [T25, List.mem_cons, List.not_mem_nil, or_false, forall_eq_or_imp, forall_eq, ty3, ty23]; simp)
def T26 : List (Nat × Option Ty) := [(30, some tr30), (28, some tr28), (23, some tr23)]
def X26 : SX := { T := look none T26, K := fun t => look none [(23, some .ii)] t }
theorem X26_ok : TyOK Try.prog X26.T := tyOK_list (by simp only [T26, List.mem_cons, List.not_mem_nil, or_false, forall_eq_or_imp, forall_eq, ty30, ty28, ty23]; simp)
def T27 : List (Nat × Option Ty) := [(3, some tr3), (23, some tr23)]
def X27 : SX := { T := look none T27, K := fun t => look none [(3, some .i), (23, some .ii)] t }
theorem X27_ok : TyOK Try.prog X27.T := tyOK_list (by simp only [T27, List.mem_cons, List.not_mem_nil, or_false, forall_eq_or_imp, forall_eq, ty3, ty23]; simp)
def T28 : List (Nat × Option Ty) := [(3, some tr3), (23, some tr23)]
def X28 : SX := { T := look none T28, K := fun t => look none [(3, some .i), (23, some .ii)] t }
theorem X28_ok : TyOK Try.prog X28.T := tyOK_list (by simp only [T28, List.mem_cons, List.not_mem_nil, or_false, forall_eq_or_imp, forall_eq, ty3, ty23]; simp)
def T30 : List (Nat × Option Ty) := [(23, some tr23), (3, some tr3)]
def X30 : SX := { T := look none T30, K := fun t => look none [(23, some .ii), (3, some .i)] t }
theorem X30_ok : TyOK Try.prog X30.T := tyOK_list (by simp only [T30, List.mem_cons, List.not_mem_nil, or_false, forall_eq_or_imp, forall_eq, ty23, ty3]; simp)
def T35 : List (Nat × Option Ty) := [(3, some tr3), (22, some tr22), (62, some tr62)]
def X35 : SX := { T := look none T35, K := fun t => look none [(3, some .i), (62, some .cue)] t }
theorem X35_ok : TyOK Try.prog X35.T := tyOK_list (by simp only [T35, List.mem_cons, List.not_mem_nil, or_false, forall_eq_or_imp, forall_eq, ty3, ty22, ty62]; simp)
def T36 : List (Nat × Option Ty) := [(3, some tr3), (23, some tr23)]
def X36 : SX := { T := look none T36, K := fun t => look none [(3, some .i), (23, some .ii)] t }
theorem X36_ok : TyOK Try.prog X36.T := tyOK_list (by simp only [T36, List.mem_cons, List.not_mem_nil, or_false, forall_eq_or_imp, forall_eq, ty3, ty23]; simp)
def T40 : List (Nat × Option Ty) := [(22, some tr22), (28, some tr28), (3, some tr3), (62, some tr62), (49, some tr49)]
def X40 : SX := { T := look none T40, K := fun t => look none [(3, some .i), (62, some .cue), (49, some .cue)] t }
theorem X40_ok : TyOK Try.prog X40.T := tyOK_list (by simp only [T40, List.mem_cons, List.not_mem_nil, or_false, forall_eq_or_imp, forall_eq, ty22, ty28, ty3, ty62, ty49]; simp)
def T46 : List (Nat × Option Ty) := [(28, some tr28), (3, some tr3), (49, some tr49)]
def X46 : SX := { T := look none T46, K := fun t => look none [(3, some .i), (49, some .cue)] t }
theorem X46_ok : TyOK Try.prog X46.T := tyOK_list (by simp only [T46, List.mem_cons, List.not_mem_nil, or_false, forall_eq_or_imp, forall_eq, ty28, ty3, ty49]; simp)
def T55 : List (Nat × Option Ty) := [(3, some tr3), (28, some tr28), (49, some tr49), (4, some tr4), (9, some tr9)]
def X55 : SX := { T := look none T55, K := fun t => look none [(3, some .i), (49, some .cue), (4, some .b), (9, some .s)] t }
theorem X55_ok : TyOK Try.prog X55.T := tyOK_list (by simp only [T55, List.mem_cons, List.not_mem_nil, or_false, forall_eq_or_imp, forall_eq, ty3, ty28, ty49, ty4, ty9]; simp)
def T56 : List (Nat × Option Ty) := [(9, some tr9), (3, some tr3), (62, some tr62)]
def X56 : SX := { T := look none T56, K := fun t => look none [(9, some .s), (3, some .i), (62, some .cue)] t }
theorem X56_ok : TyOK Try.prog X56.T := tyOK_list (by simp only [T56, List.mem_cons, List.not_mem_nil, or_false, forall_eq_or_imp, forall_eq, ty9, ty3, ty62]; simp)
def T58 : List (Nat × Option Ty) := [(3, some tr3), (49, some tr49), (62, some tr62), (4, some tr4), (9, some tr9)]
def X58 : SX := { T := look none T58, K := fun t => look none [(3, some .i), (49, some .cue), (62, some .cue), (4, some .b), (9, some .s)] t }
theorem X58_ok : TyOK Try.prog X58.T := tyOK_list (by simp only [T58, List.mem_cons, List.not_mem_nil, or_false, forall_eq_or_imp, forall_eq, ty3, ty49, ty62, ty4, ty9]; simp)
def T63 : List (Nat × Option Ty) := [(3, some tr3), (49, some tr49), (4, some tr4), (9, some tr9)]
def X63 : SX := { T := look none T63, K := fun t => look none [(3, some .i), (49, some .cue), (4, some .b), (9, some .s)] t }
theorem X63_ok : TyOK Try.prog X63.T := tyOK_list (by simp only [T63, List.mem_cons, List.not_mem_nil, or_false, forall_eq_or_imp, forall_eq, ty3, ty49, ty4, ty9]; simp)
def T64 : List (Nat × Option Ty) := [(3, some tr3), (9, some tr9), (70, some tr70), (5, some tr5)]
def X64 : SX := { T := look none T64, K := fun t => look none [(3, some .i), (9, some .s), (5, some .u)] t }
theorem X64_ok : TyOK Try.prog X64.T := tyOK_list (by simp only [T64, List.mem_cons, List.not_mem_nil, or_false, forall_eq_or_imp, forall_eq, ty3, ty9, ty70, ty5]; simp)
def lv12 : List (Nat × Option (List Nat)) := [(2, some [0]), (3, some [1]), (4, some [1, 2]), (5, some [1, 2, 3]), (6, some [1, 2, 3, 4]), (7, some [1, 2, 3, 5]), (8, some [1, 2, 3, 6]), (9, some [1, 2, 3]), (10, some [1, 2, 3, 8]), (11, some [1, 2, 3, 9]), (12, some [1, 2, 3, 10]), (13, some [1, 2, 3]), (14, some [2, 3, 12]), (15, some [2, 3, 13]), (16, some [2, 3])]
end Go.Proofs.Ytlmejcmnmdleaaa.Ai
