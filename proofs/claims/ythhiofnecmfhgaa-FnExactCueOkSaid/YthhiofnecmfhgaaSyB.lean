/- Symbolic runs, part 11: a row's arguments are typed data. -/
import Derived.Test.YthhiofnecmfhgaaAi29
namespace Go.Proofs.Ythhiofnecmfhgaa.Ai
open Go
theorem wt_int {k : IntKind} {y : List C} (h : Wt (.int k) y) : ∃ n, y = [.int k n] ∧ k.min ≤ n ∧ n ≤ k.max := h
theorem wt_str {y : List C} (h : Wt .str y) : ∃ s, y = [.str s] ∧ s.size ≤ maxLen := h
theorem wt_bool {y : List C} (h : Wt .bool y) : ∃ b, y = [.bool b] := h
def shCue : Sh := .st [.str, .int .i64, .bool, .int .i64, .int .i64, .int .i64, .int .i64, .bool, .int .i64, .int .i64, .int .i64]
def inI (n : Int) : Prop := IntKind.min .i64 ≤ n ∧ n ≤ IntKind.max .i64
theorem inI_iff (n : Int) : inI n ↔ -9223372036854775808 ≤ n ∧ n ≤ 9223372036854775807 := Iff.rfl
structure CueIn (q : Cue) : Prop where
  name : q.name.size ≤ maxLen
  after : inI q.after
  low : inI q.low
  high : inI q.high
  min : inI q.min
  max : inI q.max
  cond : inI q.cond
  watch : inI q.watch
  device : inI q.device
theorem wt_cue {y : List C} (h : Wt shCue y) : ∃ q : Cue, y = D.erL q.d ∧ CueIn q := by
  obtain ⟨_, _, rfl, ⟨x1, rfl, h1⟩, h⟩ := h
  obtain ⟨_, _, rfl, ⟨x2, rfl, h2⟩, h⟩ := h
  obtain ⟨_, _, rfl, ⟨x3, rfl⟩, h⟩ := h
  obtain ⟨_, _, rfl, ⟨x4, rfl, h4⟩, h⟩ := h
  obtain ⟨_, _, rfl, ⟨x5, rfl, h5⟩, h⟩ := h
  obtain ⟨_, _, rfl, ⟨x6, rfl, h6⟩, h⟩ := h
  obtain ⟨_, _, rfl, ⟨x7, rfl, h7⟩, h⟩ := h
  obtain ⟨_, _, rfl, ⟨x8, rfl⟩, h⟩ := h
  obtain ⟨_, _, rfl, ⟨x9, rfl, h9⟩, h⟩ := h
  obtain ⟨_, _, rfl, ⟨x10, rfl, h10⟩, h⟩ := h
  obtain ⟨_, _, rfl, ⟨x11, rfl, h11⟩, h⟩ := h
  obtain rfl := h
  exact ⟨⟨x1, x2, x3, x4, x5, x6, x7, x8, x9, x10, x11⟩, rfl, h1, h2, h4, h5, h6, h7, h9, h10, h11⟩
theorem wtArgs_nil {ys : List (V1 C)} (h : WtArgs [] ys) : ys = [] := h
theorem wtArgs_cons {s : Sh} {r : List Sh} {ys : List (V1 C)} (h : WtArgs (s :: r) ys) : ∃ y zs, ys = (s.isSt, y) :: zs ∧ Wt s y ∧ WtArgs r zs := h
end Go.Proofs.Ythhiofnecmfhgaa.Ai
