/- The types that the functions use. -/
import Derived.Test.YtlmejcmnmdleaaaBD
import Derived.Test.YtlmejcmnmdleaaaProg
import Derived.KernelRfl
namespace Go.Proofs.Ytlmejcmnmdleaaa.Ai
open Go
set_option maxRecDepth 100000
set_option linter.unusedSimpArgs false
def tr3 : Ty := { kind := TK.int IntKind.i64, agg := false, size := 1, bytes := 8, zero := [C.int IntKind.i64 (Int.ofNat 0)] }
theorem ty3 : tyOf Try.prog 3 = some tr3 := by kernel_rfl
def tr23 : Ty := { kind := TK.sl 3, agg := false, size := 1, bytes := 24, zero := [C.nilsl] }
theorem ty23 : tyOf Try.prog 23 = some tr23 := by kernel_rfl
def tr40 : Ty := { kind := TK.sl 23, agg := false, size := 1, bytes := 24, zero := [C.nilsl] }
theorem ty40 : tyOf Try.prog 40 = some tr40 := by kernel_rfl
def tr60 : Ty := { kind := TK.int IntKind.u64, agg := false, size := 1, bytes := 8, zero := [C.int IntKind.u64 (Int.ofNat 0)] }
theorem ty60 : tyOf Try.prog 60 = some tr60 := by kernel_rfl
def T9 : List (Nat × Option Ty) := [(3, some tr3), (23, some tr23)]
def X9 : SX := { T := look none T9, K := fun t => look none [(3, some .i), (23, some .ii)] t }
theorem X9_ok : TyOK Try.prog X9.T := tyOK_list (by simp only [T9, List.mem_cons, List.not_mem_nil, or_false, forall_eq_or_imp, forall_eq, ty3, ty23]; simp)
def T25 : List (Nat × Option Ty) := [(3, some tr3), (23, some tr23)]
def X25 : SX := { T := look none T25, K := fun t => look none [(3, some .i), (23, some .ii)] t }
theorem X25_ok : TyOK Try.prog X25.T := tyOK_list (by simp only [T25, List.mem_cons, List.not_mem_nil, or_false, forall_eq_or_imp, forall_eq, ty3, ty23]; simp)
def T27 : List (Nat × Option Ty) := [(3, some tr3), (23, some tr23)]
def X27 : SX := { T := look none T27, K := fun t => look none [(3, some .i), (23, some .ii)] t }
theorem X27_ok : TyOK Try.prog X27.T := tyOK_list (by simp only [T27, List.mem_cons, List.not_mem_nil, or_false, forall_eq_or_imp, forall_eq, ty3, ty23]; simp)
def T28 : List (Nat × Option Ty) := [(3, some tr3), (23, some tr23)]
def X28 : SX := { T := look none T28, K := fun t => look none [(3, some .i), (23, some .ii)] t }
theorem X28_ok : TyOK Try.prog X28.T := tyOK_list (by simp only [T28, List.mem_cons, List.not_mem_nil, or_false, forall_eq_or_imp, forall_eq, ty3, ty23]; simp)
def T29 : List (Nat × Option Ty) := [(3, some tr3), (23, some tr23), (40, some tr40), (60, some tr60)]
def X29 : SX := { T := look none T29, K := fun t => look none [(3, some .i), (23, some .ii)] t }
theorem X29_ok : TyOK Try.prog X29.T := tyOK_list (by simp only [T29, List.mem_cons, List.not_mem_nil, or_false, forall_eq_or_imp, forall_eq, ty3, ty23, ty40, ty60]; simp)
def T30 : List (Nat × Option Ty) := [(23, some tr23), (3, some tr3)]
def X30 : SX := { T := look none T30, K := fun t => look none [(23, some .ii), (3, some .i)] t }
theorem X30_ok : TyOK Try.prog X30.T := tyOK_list (by simp only [T30, List.mem_cons, List.not_mem_nil, or_false, forall_eq_or_imp, forall_eq, ty23, ty3]; simp)
def T31 : List (Nat × Option Ty) := [(3, some tr3), (23, some tr23), (40, some tr40)]
def X31 : SX := { T := look none T31, K := fun t => look none [(3, some .i), (23, some .ii)] t }
theorem X31_ok : TyOK Try.prog X31.T := tyOK_list (by simp only [T31, List.mem_cons, List.not_mem_nil, or_false, forall_eq_or_imp, forall_eq, ty3, ty23, ty40]; simp)
def T32 : List (Nat × Option Ty) := [(40, some tr40), (3, some tr3), (23, some tr23)]
def X32 : SX := { T := look none T32, K := fun t => look none [(3, some .i), (23, some .ii)] t }
theorem X32_ok : TyOK Try.prog X32.T := tyOK_list (by simp only [T32, List.mem_cons, List.not_mem_nil, or_false, forall_eq_or_imp, forall_eq, ty40, ty3, ty23]; simp)
def T33 : List (Nat × Option Ty) := [(40, some tr40), (3, some tr3), (23, some tr23)]
def X33 : SX := { T := look none T33, K := fun t => look none [(3, some .i), (23, some .ii)] t }
theorem X33_ok : TyOK Try.prog X33.T := tyOK_list (by simp only [T33, List.mem_cons, List.not_mem_nil, or_false, forall_eq_or_imp, forall_eq, ty40, ty3, ty23]; simp)
def T34 : List (Nat × Option Ty) := [(3, some tr3), (40, some tr40), (23, some tr23)]
def X34 : SX := { T := look none T34, K := fun t => look none [(3, some .i), (23, some .ii)] t }
theorem X34_ok : TyOK Try.prog X34.T := tyOK_list (by simp only [T34, List.mem_cons, List.not_mem_nil, or_false, forall_eq_or_imp, forall_eq, ty3, ty40, ty23]; simp)
def T37 : List (Nat × Option Ty) := [(3, some tr3)]
def X37 : SX := { T := look none T37, K := fun t => look none [(3, some .i)] t }
theorem X37_ok : TyOK Try.prog X37.T := tyOK_list (by simp only [T37, List.mem_cons, List.not_mem_nil, or_false, forall_eq_or_imp, forall_eq, ty3]; simp)
end Go.Proofs.Ytlmejcmnmdleaaa.Ai
