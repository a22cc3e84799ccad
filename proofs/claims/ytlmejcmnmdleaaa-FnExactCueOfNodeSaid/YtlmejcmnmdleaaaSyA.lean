/- Symbolic runs, part 10: what goes into calls and comes out of them. -/
import Derived.Test.YtlmejcmnmdleaaaSy9
namespace Go.Proofs.Ytlmejcmnmdleaaa.Ai
open Go
set_option linter.unusedSectionVars false

theorem tyOK_list {P : Program} {l : List (Nat × Option Ty)} (h : ∀ p ∈ l, p.2 = none ∨ tyOf P p.1 = p.2) : TyOK P (look none l) := by
  intro t y ht
  induction l with
  | nil => simp [look] at ht
  | cons a r ih =>
    obtain ⟨k, v⟩ := a
    simp only [look] at ht
    cases hb : nq k t with
    | true =>
      rw [hb] at ht
      obtain rfl := Nat.eq_of_beq_eq_true hb
      have ht : v = some y := ht
      subst ht
      rcases h _ List.mem_cons_self with h | h
      · cases h
      · exact h
    | false =>
      rw [hb] at ht
      exact ih (fun p hp => h p (List.mem_cons_of_mem _ hp)) ht

/-! ### arguments -/
def aI (n : Int) : V1 D := (false, [.int .i64 n])
def aU (n : Int) : V1 D := (false, [.int .u8 n])
def aB (b : Bool) : V1 D := (false, [.bool false b])
def aS (s : ByteArray) : V1 D := (false, [.str s])
def aIs (l : List Int) : V1 D := (false, [.sl (.i l)])
def aIss (l : List (List Int)) : V1 D := (false, [.sl (.ii false none l)])
def aSs (l : List ByteArray) : V1 D := (false, [.sl (.s l)])
def aCue (q : Cue) : V1 D := (true, q.d)
def aTie (q : Tie) : V1 D := (true, q.d)
def aNode (q : Node) : V1 D := (true, q.d)
def aCues (l : List Cue) : V1 D := (false, [.sl (.cue l)])
def aTies (l : List Tie) : V1 D := (false, [.sl (.tie l)])
def aNodes (l : List Node) : V1 D := (false, [.sl (.node false none l)])
def aF (f : FuncId) (caps : List D) : V1 D := (false, [.fn f caps])
structure Sheet where
  cues : List Cue
  prep : List Int
  hor : Int
structure Show where
  nodes : List Node
  ties : List Tie
  hor : Int
structure State where
  now : Int
  times : List Int
  vals : List Int
def Sheet.d (t : Sheet) : List D := [.sl (.cue t.cues), .sl (.i t.prep), .int .i64 t.hor]
def Show.d (t : Show) : List D := [.sl (.node false none t.nodes), .sl (.tie t.ties), .int .i64 t.hor]
def State.d (t : State) : List D := [.int .i64 t.now, .sl (.i t.times), .sl (.i t.vals)]
def aSheet (t : Sheet) : V1 D := (true, t.d)
def aShow (t : Show) : V1 D := (true, t.d)
def aState (t : State) : V1 D := (true, t.d)

/-- How an argument is read: the data, and the same meaning. -/
structure Dc (α : Type) where
  enc : α → V1 D
  dec : V1 D → Option α
  ok : ∀ x a, dec x = some a → v1er D.erL x = v1er D.erL (enc a)
def dcI : Dc Int := ⟨aI, fun | (false, [.int .i64 n]) => some n | _ => none, by intro x a h; split at h <;> first | (simp only [Option.some.injEq] at h; subst h; rfl) | cases h⟩
def dcU : Dc Int := ⟨aU, fun | (false, [.int .u8 n]) => some n | _ => none, by intro x a h; split at h <;> first | (simp only [Option.some.injEq] at h; subst h; rfl) | cases h⟩
def dcB : Dc Bool := ⟨aB, fun | (false, [.bool _ n]) => some n | _ => none, by intro x a h; split at h <;> first | (simp only [Option.some.injEq] at h; subst h; rfl) | cases h⟩
def dcS : Dc ByteArray := ⟨aS, fun | (false, [.str n]) => some n | _ => none, by intro x a h; split at h <;> first | (simp only [Option.some.injEq] at h; subst h; rfl) | cases h⟩
def dcIs : Dc (List Int) := ⟨aIs, fun | (false, [.sl (.i l)]) => some l | _ => none, by intro x a h; split at h <;> first | (simp only [Option.some.injEq] at h; subst h; rfl) | cases h⟩
def dcIss : Dc (List (List Int)) := ⟨aIss, fun | (false, [.sl (.ii _ _ l)]) => some l | (false, [.sl (.i [])]) => some [] | _ => none, by intro x a h; split at h <;> first | (simp only [Option.some.injEq] at h; subst h; rfl) | cases h⟩
def dcSs : Dc (List ByteArray) := ⟨aSs, fun | (false, [.sl (.s l)]) => some l | (false, [.sl (.i [])]) => some [] | _ => none, by intro x a h; split at h <;> first | (simp only [Option.some.injEq] at h; subst h; rfl) | cases h⟩
def dcCues : Dc (List Cue) := ⟨aCues, fun | (false, [.sl (.cue l)]) => some l | (false, [.sl (.i [])]) => some [] | _ => none, by intro x a h; split at h <;> first | (simp only [Option.some.injEq] at h; subst h; rfl) | cases h⟩
def dcTies : Dc (List Tie) := ⟨aTies, fun | (false, [.sl (.tie l)]) => some l | (false, [.sl (.i [])]) => some [] | _ => none, by intro x a h; split at h <;> first | (simp only [Option.some.injEq] at h; subst h; rfl) | cases h⟩
def dcNodes : Dc (List Node) := ⟨aNodes, fun | (false, [.sl (.node _ _ l)]) => some l | (false, [.sl (.i [])]) => some [] | _ => none, by intro x a h; split at h <;> first | (simp only [Option.some.injEq] at h; subst h; rfl) | cases h⟩
def dcF : Dc (FuncId × List D) := ⟨fun x => aF x.1 x.2, fun | (false, [.fn f caps]) => some (f, caps) | _ => none, by intro x a h; split at h <;> first | (simp only [Option.some.injEq] at h; subst h; rfl) | cases h⟩
def dcP : Dc (List D) := ⟨fun x => (false, [.ptr x]), fun | (false, [.ptr caps]) => some caps | _ => none, by intro x a h; split at h <;> first | (simp only [Option.some.injEq] at h; subst h; rfl) | cases h⟩
def dcCue : Dc Cue := ⟨aCue, fun
  | (true, [.str x1, .int .i64 x2, .bool _ x3, .int .i64 x4, .int .i64 x5, .int .i64 x6, .int .i64 x7, .bool _ x8, .int .i64 x9, .int .i64 x10, .int .i64 x11]) => some ⟨x1, x2, x3, x4, x5, x6, x7, x8, x9, x10, x11⟩
  | _ => none, by intro x a h; split at h <;> first | (simp only [Option.some.injEq] at h; subst h; rfl) | cases h⟩
def dcTie : Dc Tie := ⟨aTie, fun
  | (true, [.int .i64 x1, .int .i64 x2, .int .i64 x3, .int .i64 x4, .bool _ x5]) => some ⟨x1, x2, x3, x4, x5⟩
  | _ => none, by intro x a h; split at h <;> first | (simp only [Option.some.injEq] at h; subst h; rfl) | cases h⟩
def dcNode : Dc Node := ⟨aNode, fun
  | (true, [.str x1, .sl (.i x2), .int .i64 x3]) => some ⟨x1, x2, x3⟩
  | _ => none, by intro x a h; split at h <;> first | (simp only [Option.some.injEq] at h; subst h; rfl) | cases h⟩
def lsCues : D → Option (List Cue)
  | .sl (.cue l) => some l
  | .sl (.i []) => some []
  | _ => none
def lsTies : D → Option (List Tie)
  | .sl (.tie l) => some l
  | .sl (.i []) => some []
  | _ => none
def lsNodes : D → Option (List Node)
  | .sl (.node _ _ l) => some l
  | .sl (.i []) => some []
  | _ => none
theorem lsCues_er {d : D} {l : List Cue} (h : lsCues d = some l) : d.er = .sl (l.map Cue.rc) := by
  unfold lsCues at h; split at h <;> first | (simp only [Option.some.injEq] at h; subst h; rfl) | cases h
theorem lsTies_er {d : D} {l : List Tie} (h : lsTies d = some l) : d.er = .sl (l.map Tie.rc) := by
  unfold lsTies at h; split at h <;> first | (simp only [Option.some.injEq] at h; subst h; rfl) | cases h
theorem lsNodes_er {d : D} {l : List Node} (h : lsNodes d = some l) : d.er = .sl (l.map Node.rc) := by
  unfold lsNodes at h; split at h <;> first | (simp only [Option.some.injEq] at h; subst h; rfl) | cases h
def dcSheet : Dc Sheet := ⟨aSheet, fun
  | (true, [d, .sl (.i x2), .int .i64 x3]) => (match lsCues d with | some x1 => some ⟨x1, x2, x3⟩ | none => none)
  | _ => none, by
    intro x a h
    split at h
    · split at h
      · rename_i hd
        simp only [Option.some.injEq] at h; subst h; simp only [v1er, D.erL, lsCues_er hd, aSheet, Sheet.d]; rfl
      · cases h
    · cases h⟩
def dcShow : Dc Show := ⟨aShow, fun
  | (true, [d, e, .int .i64 x3]) => (match lsNodes d, lsTies e with | some x1, some x2 => some ⟨x1, x2, x3⟩ | _, _ => none)
  | _ => none, by
    intro x a h
    split at h
    · split at h
      · rename_i hd he
        simp only [Option.some.injEq] at h; subst h; simp only [v1er, D.erL, lsNodes_er hd, lsTies_er he, aShow, Show.d]; rfl
      · cases h
    · cases h⟩
def dcState : Dc State := ⟨aState, fun
  | (true, [.int .i64 x1, .sl (.i x2), .sl (.i x3)]) => some ⟨x1, x2, x3⟩
  | _ => none, by intro x a h; split at h <;> first | (simp only [Option.some.injEq] at h; subst h; rfl) | cases h⟩

/-! ### results -/
def rB (b : Bool) : TV W := .v (false, [.fz (.bool false b)])
def rI (n : Int) : TV W := .v (false, [.fz (.int .i64 n)])
def rS (s : ByteArray) : TV W := .v (false, [.fz (.str s)])
def rIs (l : List Int) : TV W := .v (false, [.osl (.i l)])
def rIss (l : List (List Int)) : TV W := .v (false, [.osl (.ii true none l)])
def rSs (l : List ByteArray) : TV W := .v (false, [.osl (.s l)])
def rCues (l : List Cue) : TV W := .v (false, [.osl (.cue l)])
def rTies (l : List Tie) : TV W := .v (false, [.osl (.tie l)])
def rNodes (l : List Node) : TV W := .v (false, [.osl (.node true none l)])
def Sheet.w (t : Sheet) : List W := [.osl (.cue t.cues), .osl (.i t.prep), .fz (.int .i64 t.hor)]
def Show.w (t : Show) : List W := [.osl (.node true none t.nodes), .osl (.tie t.ties), .fz (.int .i64 t.hor)]
def State.w (t : State) : List W := [.fz (.int .i64 t.now), .osl (.i t.times), .osl (.i t.vals)]
def rCue (q : Cue) : TV W := .v (true, fzW q.d)
def rTie (q : Tie) : TV W := .v (true, fzW q.d)
def rNode (q : Node) : TV W := .v (true, q.w true)
def rSheet (t : Sheet) : TV W := .v (true, t.w)
def rShow (t : Show) : TV W := .v (true, t.w)
def rState (t : State) : TV W := .v (true, t.w)
abbrev eR (r : TV W) : TV O := r.er W.erL
@[simp] theorem er_B (k b b') : eR (.v (false, [.fz (.bool k b)])) = eR (rB b') ↔ b = b' := by simp [eR, TV.er, v1er, W.erL, W.er, D.er, rB]
@[simp] theorem er_I (n n') : eR (.v (false, [.fz (.int .i64 n)])) = eR (rI n') ↔ n = n' := by simp [eR, TV.er, v1er, W.erL, W.er, D.er, rI]
@[simp] theorem er_S (n n') : eR (.v (false, [.fz (.str n)])) = eR (rS n') ↔ n = n' := by simp [eR, TV.er, v1er, W.erL, W.er, D.er, rS]
theorem SCall.er {P : Program} {g : FuncId} {as as' : List (V1 D)} {r r' : TV W} (h : SCall P g as r) (ha : vserL D.erL as' = vserL D.erL as) (hr : eR r' = eR r) : SCall P g as' r' := by
  unfold SCall at h ⊢
  rw [ha, show r'.er W.erL = r.er W.erL from hr]
  exact h

/-! ### what callers use: by the numbers of the functions -/
abbrev Wr := List (V1 D) → R (TV W)
def oraL : List (Nat × Wr) → SOra
  | [], _, _ => none
  | (k, f) :: r, g, xs => match nq k g with | true => f xs | false => oraL r g xs
def WrOK (P : Program) (g : FuncId) (f : Wr) : Prop := ∀ xs, R.Sim (f xs) fun r => SCall P g xs r
theorem oraL_nil {P : Program} : SOraOK P (oraL []) := fun _ _ => R.Sim.none'
theorem oraL_cons {P : Program} {k : Nat} {f : Wr} {r : List (Nat × Wr)} (h : WrOK P k f) (hr : SOraOK P (oraL r)) : SOraOK P (oraL ((k, f) :: r)) := by
  intro g xs
  simp only [oraL]
  split
  · rename_i e
    obtain rfl := Nat.eq_of_beq_eq_true e
    exact h xs
  · exact hr g xs
def w1 {α : Type} (a : Dc α) (f : α → TV W) (p : α → List Prop) : Wr
  | [x] => match a.dec x with | some x => some (p x, f x) | none => none
  | _ => none
def w2 {α β : Type} (a : Dc α) (b : Dc β) (f : α → β → TV W) (p : α → β → List Prop) : Wr
  | [x, y] => match a.dec x, b.dec y with | some x, some y => some (p x y, f x y) | _, _ => none
  | _ => none
def w3 {α β γ : Type} (a : Dc α) (b : Dc β) (c : Dc γ) (f : α → β → γ → TV W) (p : α → β → γ → List Prop) : Wr
  | [x, y, z] => match a.dec x, b.dec y, c.dec z with | some x, some y, some z => some (p x y z, f x y z) | _, _, _ => none
  | _ => none
def w4 {α β γ δ : Type} (a : Dc α) (b : Dc β) (c : Dc γ) (d : Dc δ) (f : α → β → γ → δ → TV W) (p : α → β → γ → δ → List Prop) : Wr
  | [x, y, z, u] => match a.dec x, b.dec y, c.dec z, d.dec u with | some x, some y, some z, some u => some (p x y z u, f x y z u) | _, _, _, _ => none
  | _ => none
theorem w1_ok {P : Program} {g : FuncId} {α : Type} {a : Dc α} {f : α → TV W} {p : α → List Prop} (h : ∀ x, Holds (p x) → SCall P g [a.enc x] (f x)) : WrOK P g (w1 a f p) := by
  intro xs
  unfold w1
  split
  · split
    · rename_i hx
      exact R.Sim.mk fun hp => (h _ hp).er (by simp only [vserL, a.ok _ _ hx]) rfl
    · exact R.Sim.none'
  · exact R.Sim.none'
theorem w2_ok {P : Program} {g : FuncId} {α β : Type} {a : Dc α} {b : Dc β} {f : α → β → TV W} {p : α → β → List Prop} (h : ∀ x y, Holds (p x y) → SCall P g [a.enc x, b.enc y] (f x y)) : WrOK P g (w2 a b f p) := by
  intro xs
  unfold w2
  split
  · split
    · rename_i hx hy
      exact R.Sim.mk fun hp => (h _ _ hp).er (by simp only [vserL, a.ok _ _ hx, b.ok _ _ hy]) rfl
    · exact R.Sim.none'
  · exact R.Sim.none'
theorem w3_ok {P : Program} {g : FuncId} {α β γ : Type} {a : Dc α} {b : Dc β} {c : Dc γ} {f : α → β → γ → TV W} {p : α → β → γ → List Prop} (h : ∀ x y z, Holds (p x y z) → SCall P g [a.enc x, b.enc y, c.enc z] (f x y z)) : WrOK P g (w3 a b c f p) := by
  intro xs
  unfold w3
  split
  · split
    · rename_i hx hy hz
      exact R.Sim.mk fun hp => (h _ _ _ hp).er (by simp only [vserL, a.ok _ _ hx, b.ok _ _ hy, c.ok _ _ hz]) rfl
    · exact R.Sim.none'
  · exact R.Sim.none'
theorem w4_ok {P : Program} {g : FuncId} {α β γ δ : Type} {a : Dc α} {b : Dc β} {c : Dc γ} {d : Dc δ} {f : α → β → γ → δ → TV W} {p : α → β → γ → δ → List Prop} (h : ∀ x y z u, Holds (p x y z u) → SCall P g [a.enc x, b.enc y, c.enc z, d.enc u] (f x y z u)) : WrOK P g (w4 a b c d f p) := by
  intro xs
  unfold w4
  split
  · split
    · rename_i hx hy hz hu
      exact R.Sim.mk fun hp => (h _ _ _ _ hp).er (by simp only [vserL, a.ok _ _ hx, b.ok _ _ hy, c.ok _ _ hz, d.ok _ _ hu]) rfl
    · exact R.Sim.none'
  · exact R.Sim.none'
end Go.Proofs.Ytlmejcmnmdleaaa.Ai
