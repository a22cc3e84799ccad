/- The types that the functions use. -/
import Derived.Test.YtlmejcmnmdleaaaSyB
import Derived.Test.YtlmejcmnmdleaaaProg
import Derived.KernelRfl
namespace Go.Proofs.Ytlmejcmnmdleaaa.Ai
open Go
set_option maxRecDepth 100000
set_option linter.unusedSimpArgs false
def tr3 : Ty := { kind := TK.int IntKind.i64, agg := false, size := 1, bytes := 8, zero := [C.int IntKind.i64 (Int.ofNat 0)] }
theorem ty3 : tyOf Try.prog 3 = some tr3 := by kernel_rfl
def tr4 : Ty := { kind := TK.bool, agg := false, size := 1, bytes := 1, zero := [C.bool false] }
theorem ty4 : tyOf Try.prog 4 = some tr4 := by kernel_rfl
def tr5 : Ty := { kind := TK.int IntKind.u8, agg := false, size := 1, bytes := 1, zero := [C.int IntKind.u8 (Int.ofNat 0)] }
theorem ty5 : tyOf Try.prog 5 = some tr5 := by kernel_rfl
def tr9 : Ty := { kind := TK.str, agg := false, size := 1, bytes := 16, zero := [C.str { data := { toList := [] } }] }
theorem ty9 : tyOf Try.prog 9 = some tr9 := by kernel_rfl
def tr22 : Ty := { kind := TK.sl 62, agg := false, size := 1, bytes := 24, zero := [C.nilsl] }
theorem ty22 : tyOf Try.prog 22 = some tr22 := by kernel_rfl
def tr23 : Ty := { kind := TK.sl 3, agg := false, size := 1, bytes := 24, zero := [C.nilsl] }
theorem ty23 : tyOf Try.prog 23 = some tr23 := by kernel_rfl
def tr25 : Ty := { kind := TK.st [(0, 1, false), (1, 1, false), (2, 1, false)], agg := true, size := 3, bytes := 56, zero := [C.nilsl, C.nilsl, C.int IntKind.i64 (Int.ofNat 0)] }
theorem ty25 : tyOf Try.prog 25 = some tr25 := by kernel_rfl
def tr28 : Ty := { kind := TK.sl 49, agg := false, size := 1, bytes := 24, zero := [C.nilsl] }
theorem ty28 : tyOf Try.prog 28 = some tr28 := by kernel_rfl
def tr30 : Ty := { kind := TK.st [(0, 1, false), (1, 1, false), (2, 1, false)], agg := true, size := 3, bytes := 56, zero := [C.nilsl, C.nilsl, C.int IntKind.i64 (Int.ofNat 0)] }
theorem ty30 : tyOf Try.prog 30 = some tr30 := by kernel_rfl
def tr49 : Ty := { kind := TK.st [(0, 1, false), (1, 1, false), (2, 1, false), (3, 1, false), (4, 1, false), (5, 1, false), (6, 1, false), (7, 1, false), (8, 1, false), (9, 1, false), (10, 1, false)], agg := true, size := 11, bytes := 96, zero := [C.str { data := { toList := [] } }, C.int IntKind.i64 (Int.ofNat 0), C.bool false, C.int IntKind.i64 (Int.ofNat 0), C.int IntKind.i64 (Int.ofNat 0), C.int IntKind.i64 (Int.ofNat 0), C.int IntKind.i64 (Int.ofNat 0), C.bool false, C.int IntKind.i64 (Int.ofNat 0), C.int IntKind.i64 (Int.ofNat 0), C.int IntKind.i64 (Int.ofNat 0)] }
theorem ty49 : tyOf Try.prog 49 = some tr49 := by kernel_rfl
def tr62 : Ty := { kind := TK.st [(0, 1, false), (1, 1, false), (2, 1, false), (3, 1, false), (4, 1, false), (5, 1, false), (6, 1, false), (7, 1, false), (8, 1, false), (9, 1, false), (10, 1, false)], agg := true, size := 11, bytes := 96, zero := [C.str { data := { toList := [] } }, C.int IntKind.i64 (Int.ofNat 0), C.bool false, C.int IntKind.i64 (Int.ofNat 0), C.int IntKind.i64 (Int.ofNat 0), C.int IntKind.i64 (Int.ofNat 0), C.int IntKind.i64 (Int.ofNat 0), C.bool false, C.int IntKind.i64 (Int.ofNat 0), C.int IntKind.i64 (Int.ofNat 0), C.int IntKind.i64 (Int.ofNat 0)] }
theorem ty62 : tyOf Try.prog 62 = some tr62 := by kernel_rfl
def T3 : List (Nat × Option Ty) := [(25, some tr25), (30, some tr30), (3, some tr3), (4, some tr4)]
def X3 : SX := ⟨look none T3, fun t => look none [(3, some .i), (4, some .b)] t⟩
theorem X3_ok : TyOK Try.prog X3.T := tyOK_list (by simp only [T3, List.mem_cons, List.not_mem_nil, or_false, forall_eq_or_imp, forall_eq, ty25, ty30, ty3, ty4]; simp)
def T5 : List (Nat × Option Ty) := [(25, some tr25), (30, some tr30), (3, some tr3)]
def X5 : SX := ⟨look none T5, fun t => look none [(3, some .i)] t⟩
theorem X5_ok : TyOK Try.prog X5.T := tyOK_list (by simp only [T5, List.mem_cons, List.not_mem_nil, or_false, forall_eq_or_imp, forall_eq, ty25, ty30, ty3]; simp)
def T6 : List (Nat × Option Ty) := [(25, some tr25), (30, some tr30), (3, some tr3)]
def X6 : SX := ⟨look none T6, fun t => look none [(3, some .i)] t⟩
theorem X6_ok : TyOK Try.prog X6.T := tyOK_list (by simp only [T6, List.mem_cons, List.not_mem_nil, or_false, forall_eq_or_imp, forall_eq, ty25, ty30, ty3]; simp)
def T7 : List (Nat × Option Ty) := [(25, some tr25), (30, some tr30), (3, some tr3)]
def X7 : SX := ⟨look none T7, fun t => look none [(3, some .i)] t⟩
theorem X7_ok : TyOK Try.prog X7.T := tyOK_list (by simp only [T7, List.mem_cons, List.not_mem_nil, or_false, forall_eq_or_imp, forall_eq, ty25, ty30, ty3]; simp)
def T10 : List (Nat × Option Ty) := [(25, some tr25), (3, some tr3), (22, some tr22), (23, some tr23)]
def X10 : SX := ⟨look none T10, fun t => look none [(3, some .i), (23, some .ii)] t⟩
theorem X10_ok : TyOK Try.prog X10.T := tyOK_list (by simp only [T10, List.mem_cons, List.not_mem_nil, or_false, forall_eq_or_imp, forall_eq, ty25, ty3, ty22, ty23]; simp)
def T11 : List (Nat × Option Ty) := [(3, some tr3), (30, some tr30), (28, some tr28), (23, some tr23), (49, some tr49), (9, some tr9)]
def X11 : SX := ⟨look none T11, fun t => look none [(3, some .i), (23, some .ii), (49, some .cue), (9, some .s)] t⟩
theorem X11_ok : TyOK Try.prog X11.T := tyOK_list (by simp only [T11, List.mem_cons, List.not_mem_nil, or_false, forall_eq_or_imp, forall_eq, ty3, ty30, ty28, ty23, ty49, ty9]; simp)
def T12 : List (Nat × Option Ty) := [(30, some tr30), (25, some tr25), (23, some tr23), (3, some tr3), (22, some tr22), (28, some tr28)]
def X12 : SX := ⟨look none T12, fun t => look none [(23, some .ii), (3, some .i)] t⟩
theorem X12_ok : TyOK Try.prog X12.T := tyOK_list (by simp only [T12, List.mem_cons, List.not_mem_nil, or_false, forall_eq_or_imp, forall_eq, ty30, ty25, ty23, ty3, ty22, ty28]; simp)
def T13 : List (Nat × Option Ty) := [(3, some tr3), (30, some tr30), (28, some tr28), (49, some tr49), (23, some tr23), (9, some tr9)]
def X13 : SX := ⟨look none T13, fun t => look none [(3, some .i), (49, some .cue), (23, some .ii), (9, some .s)] t⟩
theorem X13_ok : TyOK Try.prog X13.T := tyOK_list (by simp only [T13, List.mem_cons, List.not_mem_nil, or_false, forall_eq_or_imp, forall_eq, ty3, ty30, ty28, ty49, ty23, ty9]; simp)
def T14 : List (Nat × Option Ty) := [(30, some tr30), (3, some tr3), (28, some tr28), (23, some tr23)]
def X14 : SX := ⟨look none T14, fun t => look none [(3, some .i), (23, some .ii)] t⟩
theorem X14_ok : TyOK Try.prog X14.T := tyOK_list (by simp only [T14, List.mem_cons, List.not_mem_nil, or_false, forall_eq_or_imp, forall_eq, ty30, ty3, ty28, ty23]; simp)
def T17 : List (Nat × Option Ty) := [(30, some tr30), (28, some tr28), (3, some tr3)]
def X17 : SX := ⟨look none T17, fun t => look none [(3, some .i)] t⟩
theorem X17_ok : TyOK Try.prog X17.T := tyOK_list (by simp only [T17, List.mem_cons, List.not_mem_nil, or_false, forall_eq_or_imp, forall_eq, ty30, ty28, ty3]; simp)
def T18 : List (Nat × Option Ty) := [(30, some tr30), (28, some tr28), (23, some tr23), (3, some tr3)]
def X18 : SX := ⟨look none T18, fun t => look none [(23, some .ii), (3, some .i)] t⟩
theorem X18_ok : TyOK Try.prog X18.T := tyOK_list (by simp only [T18, List.mem_cons, List.not_mem_nil, or_false, forall_eq_or_imp, forall_eq, ty30, ty28, ty23, ty3]; simp)
def T19 : List (Nat × Option Ty) := [(30, some tr30), (28, some tr28), (3, some tr3), (49, some tr49)]
def X19 : SX := ⟨look none T19, fun t => look none [(3, some .i), (49, some .cue)] t⟩
theorem X19_ok : TyOK Try.prog X19.T := tyOK_list (by simp only [T19, List.mem_cons, List.not_mem_nil, or_false, forall_eq_or_imp, forall_eq, ty30, ty28, ty3, ty49]; simp)
def T20 : List (Nat × Option Ty) := [(30, some tr30), (28, some tr28), (23, some tr23), (3, some tr3)]
def X20 : SX := ⟨look none T20, fun t => look none [(23, some .ii), (3, some .i)] t⟩
theorem X20_ok : TyOK Try.prog X20.T := tyOK_list (by simp only [T20, List.mem_cons, List.not_mem_nil, or_false, forall_eq_or_imp, forall_eq, ty30, ty28, ty23, ty3]; simp)
def T21 : List (Nat × Option Ty) := [(30, some tr30), (3, some tr3), (28, some tr28)]
def X21 : SX := ⟨look none T21, fun t => look none [(3, some .i)] t⟩
theorem X21_ok : TyOK Try.prog X21.T := tyOK_list (by simp only [T21, List.mem_cons, List.not_mem_nil, or_false, forall_eq_or_imp, forall_eq, ty30, ty3, ty28]; simp)
def T22 : List (Nat × Option Ty) := [(30, some tr30), (3, some tr3)]
def X22 : SX := ⟨look none T22, fun t => look none [(3, some .i)] t⟩
theorem X22_ok : TyOK Try.prog X22.T := tyOK_list (by simp only [T22, List.mem_cons, List.not_mem_nil, or_false, forall_eq_or_imp, forall_eq, ty30, ty3]; simp)
def T25 : List (Nat × Option Ty) := [(3, some tr3), (23, some tr23)]
def X25 : SX := ⟨look none T25, fun t => look none [(3, some .i), (23, some .ii)] t⟩
theorem X25_ok : TyOK Try.prog X25.T := tyOK_list (by simp only [T25, List.mem_cons, List.not_mem_nil, or_false, forall_eq_or_imp, forall_eq, ty3, ty23]; simp)
def T30 : List (Nat × Option Ty) := [(23, some tr23), (3, some tr3)]
def X30 : SX := ⟨look none T30, fun t => look none [(23, some .ii), (3, some .i)] t⟩
theorem X30_ok : TyOK Try.prog X30.T := tyOK_list (by simp only [T30, List.mem_cons, List.not_mem_nil, or_false, forall_eq_or_imp, forall_eq, ty23, ty3]; simp)
def T35 : List (Nat × Option Ty) := [(3, some tr3), (22, some tr22), (62, some tr62)]
def X35 : SX := ⟨look none T35, fun t => look none [(3, some .i), (62, some .cue)] t⟩
theorem X35_ok : TyOK Try.prog X35.T := tyOK_list (by simp only [T35, List.mem_cons, List.not_mem_nil, or_false, forall_eq_or_imp, forall_eq, ty3, ty22, ty62]; simp)
def T36 : List (Nat × Option Ty) := [(3, some tr3), (23, some tr23)]
def X36 : SX := ⟨look none T36, fun t => look none [(3, some .i), (23, some .ii)] t⟩
theorem X36_ok : TyOK Try.prog X36.T := tyOK_list (by simp only [T36, List.mem_cons, List.not_mem_nil, or_false, forall_eq_or_imp, forall_eq, ty3, ty23]; simp)
def T37 : List (Nat × Option Ty) := [(3, some tr3)]
def X37 : SX := ⟨look none T37, fun t => look none [(3, some .i)] t⟩
theorem X37_ok : TyOK Try.prog X37.T := tyOK_list (by simp only [T37, List.mem_cons, List.not_mem_nil, or_false, forall_eq_or_imp, forall_eq, ty3]; simp)
def T38 : List (Nat × Option Ty) := [(3, some tr3), (49, some tr49), (9, some tr9), (4, some tr4)]
def X38 : SX := ⟨look none T38, fun t => look none [(3, some .i), (49, some .cue), (9, some .s), (4, some .b)] t⟩
theorem X38_ok : TyOK Try.prog X38.T := tyOK_list (by simp only [T38, List.mem_cons, List.not_mem_nil, or_false, forall_eq_or_imp, forall_eq, ty3, ty49, ty9, ty4]; simp)
def T39 : List (Nat × Option Ty) := [(49, some tr49), (28, some tr28), (3, some tr3), (9, some tr9), (30, some tr30)]
def X39 : SX := ⟨look none T39, fun t => look none [(49, some .cue), (3, some .i), (9, some .s)] t⟩
theorem X39_ok : TyOK Try.prog X39.T := tyOK_list (by simp only [T39, List.mem_cons, List.not_mem_nil, or_false, forall_eq_or_imp, forall_eq, ty49, ty28, ty3, ty9, ty30]; simp)
def T40 : List (Nat × Option Ty) := [(22, some tr22), (28, some tr28), (3, some tr3), (62, some tr62), (49, some tr49)]
def X40 : SX := ⟨look none T40, fun t => look none [(3, some .i), (62, some .cue), (49, some .cue)] t⟩
theorem X40_ok : TyOK Try.prog X40.T := tyOK_list (by simp only [T40, List.mem_cons, List.not_mem_nil, or_false, forall_eq_or_imp, forall_eq, ty22, ty28, ty3, ty62, ty49]; simp)
def T41 : List (Nat × Option Ty) := [(3, some tr3), (49, some tr49), (9, some tr9), (4, some tr4)]
def X41 : SX := ⟨look none T41, fun t => look none [(3, some .i), (49, some .cue), (9, some .s), (4, some .b)] t⟩
theorem X41_ok : TyOK Try.prog X41.T := tyOK_list (by simp only [T41, List.mem_cons, List.not_mem_nil, or_false, forall_eq_or_imp, forall_eq, ty3, ty49, ty9, ty4]; simp)
def T42 : List (Nat × Option Ty) := [(30, some tr30), (28, some tr28)]
def X42 : SX := ⟨look none T42, fun t => look none [] t⟩
theorem X42_ok : TyOK Try.prog X42.T := tyOK_list (by simp only [T42, List.mem_cons, List.not_mem_nil, or_false, forall_eq_or_imp, forall_eq, ty30, ty28]; simp)
def T43 : List (Nat × Option Ty) := [(3, some tr3)]
def X43 : SX := ⟨look none T43, fun t => look none [(3, some .i)] t⟩
theorem X43_ok : TyOK Try.prog X43.T := tyOK_list (by simp only [T43, List.mem_cons, List.not_mem_nil, or_false, forall_eq_or_imp, forall_eq, ty3]; simp)
def T44 : List (Nat × Option Ty) := []
def X44 : SX := ⟨look none T44, fun t => look none [] t⟩
theorem X44_ok : TyOK Try.prog X44.T := tyOK_list (by intro p hp; cases hp)
def T45 : List (Nat × Option Ty) := [(3, some tr3)]
def X45 : SX := ⟨look none T45, fun t => look none [(3, some .i)] t⟩
theorem X45_ok : TyOK Try.prog X45.T := tyOK_list (by simp only [T45, List.mem_cons, List.not_mem_nil, or_false, forall_eq_or_imp, forall_eq, ty3]; simp)
def T46 : List (Nat × Option Ty) := [(28, some tr28), (3, some tr3), (49, some tr49)]
def X46 : SX := ⟨look none T46, fun t => look none [(3, some .i), (49, some .cue)] t⟩
theorem X46_ok : TyOK Try.prog X46.T := tyOK_list (by simp only [T46, List.mem_cons, List.not_mem_nil, or_false, forall_eq_or_imp, forall_eq, ty28, ty3, ty49]; simp)
def T50 : List (Nat × Option Ty) := [(3, some tr3), (28, some tr28), (49, some tr49), (30, some tr30)]
def X50 : SX := ⟨look none T50, fun t => look none [(3, some .i), (49, some .cue)] t⟩
theorem X50_ok : TyOK Try.prog X50.T := tyOK_list (by simp only [T50, List.mem_cons, List.not_mem_nil, or_false, forall_eq_or_imp, forall_eq, ty3, ty28, ty49, ty30]; simp)
def T51 : List (Nat × Option Ty) := [(3, some tr3)]
def X51 : SX := ⟨look none T51, fun t => look none [(3, some .i)] t⟩
theorem X51_ok : TyOK Try.prog X51.T := tyOK_list (by simp only [T51, List.mem_cons, List.not_mem_nil, or_false, forall_eq_or_imp, forall_eq, ty3]; simp)
def T52 : List (Nat × Option Ty) := [(3, some tr3), (23, some tr23), (49, some tr49), (28, some tr28), (30, some tr30)]
def X52 : SX := ⟨look none T52, fun t => look none [(3, some .i), (23, some .ii), (49, some .cue)] t⟩
theorem X52_ok : TyOK Try.prog X52.T := tyOK_list (by simp only [T52, List.mem_cons, List.not_mem_nil, or_false, forall_eq_or_imp, forall_eq, ty3, ty23, ty49, ty28, ty30]; simp)
def T53 : List (Nat × Option Ty) := [(30, some tr30), (3, some tr3), (28, some tr28), (49, some tr49)]
def X53 : SX := ⟨look none T53, fun t => look none [(3, some .i), (49, some .cue)] t⟩
theorem X53_ok : TyOK Try.prog X53.T := tyOK_list (by simp only [T53, List.mem_cons, List.not_mem_nil, or_false, forall_eq_or_imp, forall_eq, ty30, ty3, ty28, ty49]; simp)
def T54 : List (Nat × Option Ty) := [(3, some tr3), (23, some tr23)]
def X54 : SX := ⟨look none T54, fun t => look none [(3, some .i), (23, some .ii)] t⟩
theorem X54_ok : TyOK Try.prog X54.T := tyOK_list (by simp only [T54, List.mem_cons, List.not_mem_nil, or_false, forall_eq_or_imp, forall_eq, ty3, ty23]; simp)
def T56 : List (Nat × Option Ty) := [(9, some tr9), (3, some tr3), (62, some tr62)]
def X56 : SX := ⟨look none T56, fun t => look none [(9, some .s), (3, some .i), (62, some .cue)] t⟩
theorem X56_ok : TyOK Try.prog X56.T := tyOK_list (by simp only [T56, List.mem_cons, List.not_mem_nil, or_false, forall_eq_or_imp, forall_eq, ty9, ty3, ty62]; simp)
def T57 : List (Nat × Option Ty) := [(9, some tr9), (5, some tr5), (3, some tr3)]
def X57 : SX := ⟨look none T57, fun t => look none [(9, some .s), (5, some .u), (3, some .i)] t⟩
theorem X57_ok : TyOK Try.prog X57.T := tyOK_list (by simp only [T57, List.mem_cons, List.not_mem_nil, or_false, forall_eq_or_imp, forall_eq, ty9, ty5, ty3]; simp)
def T58 : List (Nat × Option Ty) := [(3, some tr3), (49, some tr49), (62, some tr62), (4, some tr4), (9, some tr9)]
def X58 : SX := ⟨look none T58, fun t => look none [(3, some .i), (49, some .cue), (62, some .cue), (4, some .b), (9, some .s)] t⟩
theorem X58_ok : TyOK Try.prog X58.T := tyOK_list (by simp only [T58, List.mem_cons, List.not_mem_nil, or_false, forall_eq_or_imp, forall_eq, ty3, ty49, ty62, ty4, ty9]; simp)
def T59 : List (Nat × Option Ty) := [(9, some tr9), (3, some tr3), (5, some tr5)]
def X59 : SX := ⟨look none T59, fun t => look none [(9, some .s), (3, some .i), (5, some .u)] t⟩
theorem X59_ok : TyOK Try.prog X59.T := tyOK_list (by simp only [T59, List.mem_cons, List.not_mem_nil, or_false, forall_eq_or_imp, forall_eq, ty9, ty3, ty5]; simp)
def T60 : List (Nat × Option Ty) := [(28, some tr28), (3, some tr3), (49, some tr49)]
def X60 : SX := ⟨look none T60, fun t => look none [(3, some .i), (49, some .cue)] t⟩
theorem X60_ok : TyOK Try.prog X60.T := tyOK_list (by simp only [T60, List.mem_cons, List.not_mem_nil, or_false, forall_eq_or_imp, forall_eq, ty28, ty3, ty49]; simp)
def T61 : List (Nat × Option Ty) := [(9, some tr9), (49, some tr49)]
def X61 : SX := ⟨look none T61, fun t => look none [(9, some .s), (49, some .cue)] t⟩
theorem X61_ok : TyOK Try.prog X61.T := tyOK_list (by simp only [T61, List.mem_cons, List.not_mem_nil, or_false, forall_eq_or_imp, forall_eq, ty9, ty49]; simp)
def T62 : List (Nat × Option Ty) := [(3, some tr3), (23, some tr23)]
def X62 : SX := ⟨look none T62, fun t => look none [(3, some .i), (23, some .ii)] t⟩
theorem X62_ok : TyOK Try.prog X62.T := tyOK_list (by simp only [T62, List.mem_cons, List.not_mem_nil, or_false, forall_eq_or_imp, forall_eq, ty3, ty23]; simp)
def T63 : List (Nat × Option Ty) := [(3, some tr3), (49, some tr49), (4, some tr4), (9, some tr9)]
def X63 : SX := ⟨look none T63, fun t => look none [(3, some .i), (49, some .cue), (4, some .b), (9, some .s)] t⟩
theorem X63_ok : TyOK Try.prog X63.T := tyOK_list (by simp only [T63, List.mem_cons, List.not_mem_nil, or_false, forall_eq_or_imp, forall_eq, ty3, ty49, ty4, ty9]; simp)
def lv12 : List (Nat × Option (List Nat)) := [(2, some [0]), (3, some [1]), (4, some [1, 2]), (5, some [1, 2, 3]), (6, some [1, 2, 3, 4]), (7, some [1, 2, 3, 5]), (8, some [1, 2, 3, 6]), (9, some [1, 2, 3]), (10, some [1, 2, 3, 8]), (11, some [1, 2, 3, 9]), (12, some [1, 2, 3, 10]), (13, some [1, 2, 3]), (14, some [2, 3, 12]), (15, some [2, 3, 13]), (16, some [2, 3])]
def lv38 : List (Nat × Option (List Nat)) := [(3, some [0, 1]), (5, some [1, 2, 93]), (6, some [1, 2]), (7, some [1, 2, 5]), (8, some [1, 2, 6]), (9, some [1, 2, 7]), (10, some [1, 2, 8]), (11, some [1, 2, 8, 9]), (12, some [1, 2, 8, 10]), (13, some [1, 2, 8, 11]), (14, some [1, 2, 8, 12]), (15, some [1, 2, 13]), (16, some [1, 2, 14]), (17, some [1, 2, 14, 15]), (18, some [1, 2, 14, 16]), (19, some [1, 2, 14, 17]), (20, some [1, 2, 18]), (21, some [1, 2, 19]), (22, some [1, 2, 19, 20]), (23, some [1, 2, 19, 21]), (24, some [2, 19, 21, 22]), (25, some [2, 19, 23]), (26, some [2, 24]), (27, some [2, 25]), (28, some [2, 25, 26]), (29, some [2, 25, 27]), (30, some [2, 25, 28]), (31, some [2, 25, 29]), (32, some [2, 25, 29, 30]), (33, some [2, 25, 29, 31]), (34, some [2, 25, 29, 32]), (35, some [2, 25, 33]), (36, some [2, 34]), (37, some [2, 35]), (38, some [2, 35, 36]), (39, some [2, 35, 37]), (40, some [2, 35, 38]), (41, some [2, 39]), (42, some [2, 40]), (43, some [2, 40, 41]), (44, some [2, 40, 42]), (45, some [2, 40, 42, 43]), (46, some [2, 40, 42, 44]), (47, some [2, 40, 45]), (48, some [2, 46]), (49, some [2, 47]), (50, some [2, 47, 48]), (51, some [2, 47, 49]), (52, some [2, 47, 50]), (53, some [2, 51]), (54, some [2, 52]), (55, some [2, 52, 53]), (56, some [2, 52, 54]), (57, some [2, 52, 55]), (58, some [2, 56]), (59, some [2, 57]), (60, some [2, 57, 58]), (61, some [2, 57, 59]), (62, some [2, 57, 59, 60]), (63, some [2, 57, 59, 61]), (64, some [2, 57, 62]), (65, some [2, 63]), (66, some [2, 64]), (67, some [2, 64, 65]), (68, some [2, 64, 66]), (69, some [2, 64, 67]), (70, some [2, 68]), (71, some [2, 69]), (72, some [2, 69, 70]), (73, some [2, 69, 71]), (74, some [2, 69, 72]), (75, some [2, 69, 73]), (76, some [2, 69, 73, 74]), (77, some [2, 69, 73, 75]), (78, some [2, 69, 73, 76]), (79, some [2, 69, 77]), (80, some [2, 78]), (81, some [2, 79]), (82, some [2, 79, 80]), (83, some [2, 79, 81]), (84, some [2, 79, 82]), (85, some [2, 83]), (86, some [2, 84]), (87, some [2, 84, 85]), (88, some [2, 84, 86]), (89, some [2, 84, 87]), (90, some [2, 88]), (91, some [2, 89]), (92, some [89, 90]), (93, some [89, 91]), (94, some [89, 92])]
def lv41 : List (Nat × Option (List Nat)) := [(3, some [0, 1]), (5, some [1, 2, 93]), (6, some [1, 2]), (7, some [1, 2, 5]), (8, some [1, 2, 6]), (9, some [1, 2, 7]), (10, some [1, 2, 8]), (11, some [1, 2, 9]), (12, some [1, 2, 9, 10]), (13, some [1, 2, 9, 11]), (14, some [1, 2, 9, 12]), (15, some [1, 2, 9, 13]), (16, some [1, 2, 14]), (17, some [1, 2, 15]), (18, some [1, 2, 15, 16]), (19, some [1, 2, 15, 17]), (20, some [1, 2, 15, 18]), (21, some [1, 2, 19]), (22, some [1, 2, 20]), (23, some [1, 2, 20, 21]), (24, some [1, 2, 20, 22]), (25, some [2, 20, 22, 23]), (26, some [2, 20, 24]), (27, some [2, 25]), (28, some [2, 26]), (29, some [2, 26, 27]), (30, some [2, 26, 28]), (31, some [2, 26, 29]), (32, some [2, 26, 30]), (33, some [2, 26, 30, 31]), (34, some [2, 26, 30, 32]), (35, some [2, 26, 33]), (36, some [2]), (37, some [2, 35]), (38, some [2, 36]), (39, some [2, 37]), (40, some [2, 38]), (41, some [2, 38, 39]), (42, some [2, 38, 40]), (43, some [2, 38, 40, 41]), (44, some [2, 38, 40, 42]), (45, some [2, 38, 43]), (46, some [2, 44]), (47, some [2, 45]), (48, some [2, 45, 46]), (49, some [2, 45, 47]), (50, some [2, 45, 48]), (51, some [2, 49]), (52, some [2, 50]), (53, some [2, 50, 51]), (54, some [2, 50, 52]), (55, some [2, 50, 53]), (56, some [2, 54]), (57, some [2, 55]), (58, some [2, 55, 56]), (59, some [2, 55, 57]), (60, some [2, 55, 57, 58]), (61, some [2, 55, 57, 59]), (62, some [2, 55, 60]), (63, some [2, 61]), (64, some [2, 62]), (65, some [2, 62, 63]), (66, some [2, 62, 64]), (67, some [2, 62, 65]), (68, some [2, 66]), (69, some [2, 67]), (70, some [2, 67, 68]), (71, some [2, 67, 69]), (72, some [2, 67, 70]), (73, some [2, 67, 70, 71]), (74, some [2, 67, 70, 72]), (75, some [2, 67, 70, 73]), (76, some [2, 67, 74]), (77, some [2]), (78, some [2, 76]), (79, some [2, 77]), (80, some [2, 78]), (81, some [2, 79]), (82, some [2, 79, 80]), (83, some [2, 79, 81]), (84, some [2, 79, 82]), (85, some [2, 83]), (86, some [2, 84]), (87, some [2, 84, 85]), (88, some [2, 84, 86]), (89, some [2, 84, 87]), (90, some [2, 88]), (91, some [2, 89]), (92, some [89, 90]), (93, some [89, 91]), (94, some [89, 92])]
end Go.Proofs.Ytlmejcmnmdleaaa.Ai
