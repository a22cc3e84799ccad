/- Symbolic runs, part 11: a row's arguments are typed data. -/
import Derived.Test.YtlmejcmnmdleaaaAi29
namespace Go.Proofs.Ytlmejcmnmdleaaa.Ai
open Go
theorem ncast (n : Nat) : @NatCast.natCast Int instNatCastInt n = (n : Int) := rfl
theorem Cue.eta (q : Cue) : (⟨q.name, q.after, q.atEnd, q.low, q.high, q.min, q.max, q.free, q.cond, q.watch, q.device⟩ : Cue) = q := rfl
theorem Tie.eta (q : Tie) : (⟨q.src, q.dst, q.low, q.high, q.free⟩ : Tie) = q := rfl
theorem Edge.eta (q : Go.Proofs.Ytlmejcmnmdleaaa.Ai.Edge) : (⟨q.src, q.dst, q.w⟩ : Go.Proofs.Ytlmejcmnmdleaaa.Ai.Edge) = q := rfl
theorem Link.eta (q : Link) : (⟨q.src, q.dst, q.low, q.high⟩ : Link) = q := rfl
theorem Node.eta (q : Node) : (⟨q.name, q.label, q.watch⟩ : Node) = q := rfl
theorem wt_int {k : IntKind} {y : List C} (h : Wt (.int k) y) : ∃ n, y = [.int k n] ∧ k.min ≤ n ∧ n ≤ k.max := h
theorem wt_str {y : List C} (h : Wt .str y) : ∃ s, y = [.str s] ∧ s.size ≤ maxLen := h
theorem wt_bool {y : List C} (h : Wt .bool y) : ∃ b, y = [.bool b] := h
def shCue : Sh := .st [.str, .int .i64, .bool, .int .i64, .int .i64, .int .i64, .int .i64, .bool, .int .i64, .int .i64, .int .i64]
def inI (n : Int) : Prop := IntKind.min .i64 ≤ n ∧ n ≤ IntKind.max .i64
theorem inI_iff (n : Int) : inI n ↔ -9223372036854775808 ≤ n ∧ n ≤ 9223372036854775807 := Iff.rfl
structure CueIn (q : Cue) : Prop where
  name : q.name.size ≤ maxLen
  after : inI q.after
  low : inI q.low
  high : inI q.high
  min : inI q.min
  max : inI q.max
  cond : inI q.cond
  watch : inI q.watch
  device : inI q.device
theorem wt_cue {y : List C} (h : Wt shCue y) : ∃ q : Cue, y = D.erL q.d ∧ CueIn q := by
  obtain ⟨_, _, rfl, ⟨x1, rfl, h1⟩, h⟩ := h
  obtain ⟨_, _, rfl, ⟨x2, rfl, h2⟩, h⟩ := h
  obtain ⟨_, _, rfl, ⟨x3, rfl⟩, h⟩ := h
  obtain ⟨_, _, rfl, ⟨x4, rfl, h4⟩, h⟩ := h
  obtain ⟨_, _, rfl, ⟨x5, rfl, h5⟩, h⟩ := h
  obtain ⟨_, _, rfl, ⟨x6, rfl, h6⟩, h⟩ := h
  obtain ⟨_, _, rfl, ⟨x7, rfl, h7⟩, h⟩ := h
  obtain ⟨_, _, rfl, ⟨x8, rfl⟩, h⟩ := h
  obtain ⟨_, _, rfl, ⟨x9, rfl, h9⟩, h⟩ := h
  obtain ⟨_, _, rfl, ⟨x10, rfl, h10⟩, h⟩ := h
  obtain ⟨_, _, rfl, ⟨x11, rfl, h11⟩, h⟩ := h
  obtain rfl := h
  exact ⟨⟨x1, x2, x3, x4, x5, x6, x7, x8, x9, x10, x11⟩, rfl, h1, h2, h4, h5, h6, h7, h9, h10, h11⟩
theorem wt_list {α : Type} {e : Sh} {f : α → List C} {P : α → Prop} (he : ∀ y, Wt e y → ∃ a, y = f a ∧ P a) : ∀ {ys : List (List C)}, (∀ y, y ∈ ys → Wt e y) → ∃ l : List α, ys = l.map f ∧ ∀ a ∈ l, P a
  | [], _ => ⟨[], rfl, fun _ h => by cases h⟩
  | y :: ys, h => by
    obtain ⟨a, h1, h2⟩ := he y (h y List.mem_cons_self)
    obtain ⟨l, h3, h4⟩ := wt_list he (ys := ys) (fun z hz => h z (List.mem_cons_of_mem _ hz))
    exact ⟨a :: l, by rw [h1, h3]; rfl, fun b hb => (List.mem_cons.1 hb).elim (fun e => e ▸ h2) (h4 b)⟩
theorem wt_ints {y : List C} (h : Wt (.sl (.int .i64)) y) : ∃ l : List Int, y = [(D.sl (.i l)).er] ∧ l.length ≤ maxLen ∧ ∀ n ∈ l, inI n := by
  obtain ⟨ys, rfl, h1, h2⟩ := h
  obtain ⟨l, rfl, h3⟩ := wt_list (f := fun n : Int => [C.int .i64 n]) (P := inI) (fun y hy => by obtain ⟨n, h1, h2⟩ := hy; exact ⟨n, h1, h2⟩) h2
  exact ⟨l, rfl, by simpa using h1, h3⟩
/-- A sheet's numbers are numbers, its texts are texts. -/
structure SheetIn (t : Sheet) : Prop where
  len : t.cues.length ≤ maxLen
  plen : t.prep.length ≤ maxLen
  cues : ∀ q ∈ t.cues, CueIn q
  prep : ∀ n ∈ t.prep, inI n
  hor : inI t.hor
theorem SheetIn.names {t : Sheet} (h : SheetIn t) : ∀ q ∈ t.cues, q.name.size ≤ maxLen := fun q hq => (h.cues q hq).name
def shSheet : Sh := .st [.sl shCue, .sl (.int .i64), .int .i64]
theorem wt_sheet {y : List C} (h : Wt shSheet y) : ∃ t : Sheet, y = D.erL t.d ∧ SheetIn t := by
  obtain ⟨_, _, rfl, ⟨ys, rfl, h1, h2⟩, h⟩ := h
  obtain ⟨_, _, rfl, h3, h⟩ := h
  obtain ⟨_, _, rfl, ⟨x3, rfl, h5⟩, h⟩ := h
  obtain rfl := h
  obtain ⟨l, rfl, h6⟩ := wt_list (fun y hy => wt_cue hy) h2
  obtain ⟨ps, rfl, h7, h8⟩ := wt_ints h3
  exact ⟨⟨l, ps, x3⟩, rfl, by simpa using h1, h7, h6, h8, h5⟩
theorem wtArgs_nil {ys : List (V1 C)} (h : WtArgs [] ys) : ys = [] := h
theorem wtArgs_cons {s : Sh} {r : List Sh} {ys : List (V1 C)} (h : WtArgs (s :: r) ys) : ∃ y zs, ys = (s.isSt, y) :: zs ∧ Wt s y ∧ WtArgs r zs := h
end Go.Proofs.Ytlmejcmnmdleaaa.Ai
