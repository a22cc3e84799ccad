/- Symbolic runs, part 5: operations that write, or make memory. -/
import Derived.Test.YtlmejcmnmdleaaaSy4
namespace Go.Proofs.Ytlmejcmnmdleaaa.Ai
open Go
set_option linter.unusedSectionVars false
set_option linter.unusedSimpArgs false

theorem nEq_std (a b : Nat) : std.nEq a b = (a == b) := rfl
def conv1B (M : MB) (F : SF) (a : B) (q : SP) : R (W × Option SP) :=
  match a with
  | .fz .nilsl => R.ok (.onil, none)
  | .fz .un => none
  | .fz d => R.ok (.fz d, none)
  | .rf p _ off len => (F.atR M p).bd fun o => (match o with
    | .osl x => (match nq p.1 q.1 with
      | false => some ([M.pEqN off 0, M.pEqN len (x.len M)], (.osl x, some p))
      | true => none)
    | .onil => (match nq p.1 q.1 with
      | false => some ([M.pEqN off 0, M.pEqN len 0], (.onil, some p))
      | true => none)
    | _ => none)
  | .pp p i j => (F.atR M p).bd fun o => (match o with
    | .obx cs => (match i with
      | (true, 0) => (match j with
        | 0 => (match nq p.1 q.1 with
          | false => R.ok (.obx cs, some p)
          | true => none)
        | _ + 1 => none)
      | _ => none)
    | _ => none)
  | _ => none
theorem conv1B_sim (F : SF) (a : B) (q : SP) : (conv1B stdB F a q).Sim fun r => conv1 std false F.er a.er q.er = some (r.1.er, r.2.map SP.er) := by
  unfold conv1B
  split
  · exact R.Sim.ok rfl
  · exact R.Sim.none'
  · rename_i d h1 h2
    refine R.Sim.ok ?_
    cases d <;> first | rfl | exact (h1 rfl).elim | exact (h2 rfl).elim
  · rename_i p w off len
    refine R.Sim.bd (F.atR_sim p) fun o ho => ?_
    split
    · rename_i x
      split
      · rename_i hne
        refine R.Sim.mk fun hp => ?_
        obtain ⟨h1, h2⟩ := hp.two
        have h1 : off = 0 := h1
        have h2 : len = x.len stdB := h2
        subst h1 h2
        have hne' : nq p.er.1 q.er.1 = false := hne
        have hl : std.oLen x.ro = x.len stdB := LL.len_ro x
        simp only [B.er, conv1, ho, W.er, nEq_std, hne', hl]
        simp
      · exact R.Sim.none'
    · split
      · rename_i hne
        refine R.Sim.mk fun hp => ?_
        obtain ⟨h1, h2⟩ := hp.two
        have h1 : off = 0 := h1
        have h2 : len = 0 := h2
        subst h1 h2
        have hne' : nq p.er.1 q.er.1 = false := hne
        have hl : std.oLen [] = 0 := rfl
        simp only [B.er, conv1, ho, W.er, nEq_std, hne', hl]
        simp
      · exact R.Sim.none'
    · exact R.Sim.none'
  · rename_i p i j
    refine R.Sim.bd (F.atR_sim p) fun o ho => ?_
    split
    · rename_i cs
      split
      · split
        · split
          · rename_i hne
            refine R.Sim.ok ?_
            have hne' : nq p.er.1 q.er.1 = false := hne
            simp only [B.er, conv1, ho, W.er, hne']
            rfl
          · exact R.Sim.none'
        · exact R.Sim.none'
      · exact R.Sim.none'
    · exact R.Sim.none'
  · exact R.Sim.none'
/-- The cells of a value on their way into memory: n of them. -/
def convNB (M : MB) (q : Nat → SP) : Nat → Nat → SF → List B → R (List W × SF)
  | _, 0, F, [] => R.ok ([], F)
  | j, n + 1, F, a :: rest => (conv1B M F a (q j)).bd fun r => (match r.2 with
    | none => (convNB M q (j + 1) n F rest).bd fun s => R.ok (r.1 :: s.1, s.2)
    | some p => (F.liftR M p (q j)).bd fun F1 => (match B.trL (moveR p (q j)) rest with
      | some l => (convNB M q (j + 1) n F1 l).bd fun s => R.ok (r.1 :: s.1, s.2)
      | none => none))
  | _, _, _, _ => none
theorem trL_map (τ' : Path → Option Path) (l : List A) : A.trL τ' l = l.map (A.tr τ') := trL_eq τ' l
theorem convNB_sim (q : Nat → SP) : ∀ (n j : Nat) (F : SF) (as : List B), (convNB stdB q j n F as).Sim fun r => ∀ (f : A → A) (l : List A), l.map f = B.erL as → convL std false (fun j => (q j).er) j F.er f l = some (W.erL r.1, r.2.er)
  | 0, j, F, [] => R.Sim.ok fun f l hl => by
    cases l with
    | nil => rfl
    | cons a l => simp [B.erL] at hl
  | 0, j, F, _ :: _ => R.Sim.none'
  | n + 1, j, F, [] => R.Sim.none'
  | n + 1, j, F, a :: rest => by
    simp only [convNB]
    refine R.Sim.bd (conv1B_sim F a (q j)) fun r hr => ?_
    split
    · rename_i hr2
      rw [hr2] at hr
      refine R.Sim.bd (convNB_sim q n (j + 1) F rest) fun s hs => R.Sim.ok fun f l hl => ?_
      cases l with
      | nil => simp [B.erL] at hl
      | cons b l =>
        simp only [List.map_cons, B.erL, List.cons.injEq] at hl
        simp only [convL, hl.1, hr, Option.map_none, hs f l hl.2]
        rfl
    · rename_i p hr2
      rw [hr2] at hr
      refine R.Sim.bd (F.liftR_sim p (q j)) fun F1 hF1 => ?_
      split
      · rename_i rest' hrest
        refine R.Sim.bd (convNB_sim q n (j + 1) F1 rest') fun s hs => R.Sim.ok fun f l hl => ?_
        cases l with
        | nil => simp [B.erL] at hl
        | cons b l =>
          simp only [List.map_cons, B.erL, List.cons.injEq] at hl
          have h1 : l.map (fun x => (f x).tr (moveP std p.er (q j).er)) = B.erL rest' := by
            rw [← B.trL_sound (fun x r => moveR_sound) rest hrest, trL_map, ← hl.2, List.map_map]
            rfl
          have h2 := hs _ l h1
          simp only [convL, hl.1, hr, Option.map_some, hF1, h2]
          rfl
      · exact R.Sim.none'
def qB (r : Nat) (s : SPath) (i : Bool × Nat) (j : Nat) : SP := (r, s ++ [(i, j)])
theorem qB_er (r : Nat) (s : SPath) (i : Bool × Nat) (j : Nat) : (qB r s i j).er = qAt r (ixs s) i.2 j := by simp only [qB, SP.er, ixs_append, qAt]; rfl
theorem convNB_at (r : Nat) (s : SPath) (i : Bool × Nat) (n : Nat) (F : SF) (as : List B) : (convNB stdB (qB r s i) 0 n F as).Sim fun x => convL std false (qAt r (ixs s) i.2) 0 F.er idA (B.erL as) = some (W.erL x.1, x.2.er) := by
  refine (convNB_sim (qB r s i) n 0 F as).mono fun x hx => ?_
  have := hx idA (B.erL as) (by show List.map (fun a => a) _ = _; simp)
  have hq : (fun j => (qB r s i j).er) = qAt r (ixs s) i.2 := by funext j; exact qB_er r s i j
  rw [hq] at this
  exact this
theorem convNB_atj (r : Nat) (s : SPath) (i : Bool × Nat) (j n : Nat) (F : SF) (as : List B) : (convNB stdB (qB r s i) j n F as).Sim fun x => convL std false (qAt r (ixs s) i.2) j F.er idA (B.erL as) = some (W.erL x.1, x.2.er) := by
  refine (convNB_sim (qB r s i) n j F as).mono fun x hx => ?_
  have := hx idA (B.erL as) (by show List.map (fun a => a) _ = _; simp)
  have hq : (fun j => (qB r s i j).er) = qAt r (ixs s) i.2 := by funext j; exact qB_er r s i j
  rw [hq] at this
  exact this
def cellsTV : TV B → Option (List B)
  | .v (_, as) => some as
  | .tup _ => none
def ppB (r : Nat) : TV B := .v (false, [.pp (r, []) (true, 0) 0])
def rfB (r len : Nat) : TV B := .v (false, [.rf (r, []) true 0 len])
def boxB (M : MB) (F : SF) (d : Nat) (x : Operand) : R SF :=
  match cellsTV (evB F x) with
  | some as => (convNB M (qB (rid d 0 0) [] (true, 0)) 0 (cnt as) F as).bd fun s => R.ok ((s.2.root (rid d 0 0) (.obx s.1)).put d (ppB (rid d 0 0)))
  | none => none
theorem boxB_sim (F : SF) (d : Nat) (x : Operand) : (boxB stdB F d x).Sim fun G => boxW std false F.er d x = some G.er := by
  unfold boxB
  split
  · rename_i as has
    have hx : (ev F.er x).cells = some (B.erL as) := by
      rw [← evB_er]
      unfold cellsTV at has
      split at has
      · rename_i g as' he
        simp only [Option.some.injEq] at has
        subst has
        rw [he]
        rfl
      · cases has
    refine R.Sim.bd (convNB_at _ _ _ _ F as) fun s hs => R.Sim.ok ?_
    unfold boxW
    rw [hx]
    dsimp only
    rw [show qAt (rid d 0 0) [] 0 = qAt (rid d 0 0) (ixs []) (true, 0).2 from rfl, hs]
    rfl
  · exact R.Sim.none'
def zW : C → Option W
  | .int k n => some (.fz (.int k n))
  | .bool b => some (.fz (.bool true b))
  | .str s => some (.fz (.str s))
  | .nilsl => some .onil
  | _ => none
def zWL : List C → Option (List W)
  | [] => some []
  | c :: r => match zW c, zWL r with | some d, some l => some (d :: l) | _, _ => none
theorem zWL_er : ∀ (l : List C) {r : List W}, zWL l = some r → W.erL r = zeroO false l ∧ noUnL l = true
  | [], r, h => by simp only [zWL, Option.some.injEq] at h; subst h; exact ⟨rfl, rfl⟩
  | c :: l, r, h => by
    simp only [zWL] at h
    split at h
    · rename_i d l' hd hl
      simp only [Option.some.injEq] at h
      subst h
      obtain ⟨h1, h2⟩ := zWL_er l hl
      cases c <;> simp only [zW] at hd <;> first | (cases hd; done) | (injection hd with hd; subst hd; exact ⟨by simp only [W.erL, W.er, D.er, zeroO, h1], by simp only [noUnL, h2]⟩)
    · cases h
def allocB (M : MB) (T : Nat → Option Ty) (F : SF) (d : Nat) (e : Nat) : R SF :=
  match T e with
  | some ty => (match zWL ty.zero with
    | some zs => (F.clearR M (rid d 0 0)).bd fun G => R.ok ((G.root (rid d 0 0) (.obx zs)).put d (ppB (rid d 0 0)))
    | none => none)
  | none => none
def LL.cons1 : LL → LL → Option LL
  | .i [x1], .i l => some (.i (x1 :: l))
  | .u [x1], .u l => some (.u (x1 :: l))
  | .b [x1], .b l => some (.b (x1 :: l))
  | .s [x1], .s l => some (.s (x1 :: l))
  | .cue [x1], .cue l => some (.cue (x1 :: l))
  | .tie [x1], .tie l => some (.tie (x1 :: l))
  | .edge [x1], .edge l => some (.edge (x1 :: l))
  | .link [x1], .link l => some (.link (x1 :: l))
  | .node true none [x1], .node true none l => some (.node true none (x1 :: l))
  | .node false none [x1], .node false none l => some (.node false none (x1 :: l))
  | .ii true none [x1], .ii true none l => some (.ii true none (x1 :: l))
  | .ii false none [x1], .ii false none l => some (.ii false none (x1 :: l))
  | _, _ => none
theorem LL.cons1_ro {x y z : LL} (h : x.cons1 y = some z) : z.ro = x.ro ++ y.ro := by
  unfold LL.cons1 at h
  split at h <;> first | (simp only [Option.some.injEq] at h; subst h; rfl) | cases h
def LL.many (k : EK) : List (List W) → Option W
  | [] => some .onil
  | [c] => (match LL.one k c with | some x => some (.osl x) | none => none)
  | c :: r => (match LL.one k c, LL.many k r with
    | some x, some (.osl y) => (match x.cons1 y with | some z => some (.osl z) | none => none)
    | _, _ => none)
theorem LL.many_er (k : EK) : ∀ (l : List (List W)) {w : W}, LL.many k l = some w → w.er = .osl (l.map W.erL)
  | [], w, h => by simp only [LL.many, Option.some.injEq] at h; subst h; rfl
  | [c], w, h => by
    simp only [LL.many] at h
    split at h
    · rename_i x hx
      simp only [Option.some.injEq] at h
      subst h
      simp only [W.er, LL.one_ro hx, List.map_cons, List.map_nil, W.erL_eq]
    · cases h
  | c :: c' :: r, w, h => by
    simp only [LL.many] at h
    split at h
    · rename_i x y hx hy
      split at h
      · rename_i z hz
        simp only [Option.some.injEq] at h
        subst h
        have := LL.many_er k (c' :: r) hy
        simp only [W.er, O.osl.injEq] at this ⊢
        rw [LL.cons1_ro hz, LL.one_ro hx, this]
        simp [W.erL_eq]
      · cases h
    · cases h
def partsB (M : MB) (r size : Nat) : Nat → SF → List (Nat × Operand) → R (List (List W) × SF)
  | _, F, [] => R.ok ([], F)
  | i, F, (i', x) :: rest => (match nq i' i with
    | true => (match evB F x with
      | .v (_, as) => (match nq (cnt as) size with
        | true => (convNB M (qB r [] (true, i)) 0 (cnt as) F as).bd fun s => (partsB M r size (i + 1) s.2 rest).bd fun t => R.ok (s.1 :: t.1, t.2)
        | false => none)
      | .tup _ => none)
    | false => none)
theorem partsB_sim (r size : Nat) : ∀ (l : List (Nat × Operand)) (i : Nat) (F : SF), (partsB stdB r size i F l).Sim fun t => buildW std false r size i F.er l = some (t.1.map W.erL, t.2.er)
  | [], i, F => R.Sim.ok rfl
  | (i', x) :: l, i, F => by
    simp only [partsB]
    split
    · rename_i hi
      split
      · rename_i g as hx
        split
        · rename_i hsz
          refine R.Sim.bd (convNB_at r [] (true, i) _ F as) fun s hs => R.Sim.bd (partsB_sim r size l (i + 1) s.2) fun t ht => R.Sim.ok ?_
          have hs' : convL std false (qAt r [] i) 0 F.er idA (B.erL as) = some (W.erL s.1, s.2.er) := hs
          simp only [buildW, hi, ← evB_er, hx, TV.er, v1er, cnt_erL, hsz, hs', ht]
          rfl
        · exact R.Sim.none'
      · exact R.Sim.none'
    · exact R.Sim.none'
def baseB (M : MB) (F : SF) : B → R (Option LL × SF)
  | .fz .nilsl => R.ok (none, F)
  | .rf p _ off len => (F.atR M p).bd fun o => (match o with
    | .osl x => (F.dropR M p).bd fun G => some ([M.pEqN off 0, M.pEqN len (x.len M)], (some x, G))
    | .onil => (F.dropR M p).bd fun G => some ([M.pEqN off 0, M.pEqN len 0], (none, G))
    | _ => none)
  | _ => none
def oro : Option LL → List (List O)
  | none => []
  | some x => x.ro
theorem baseB_sim (F : SF) (x : B) : (baseB stdB F x).Sim fun r => baseW std F.er x.er = some (oro r.1, r.2.er) := by
  unfold baseB
  split
  · exact R.Sim.ok rfl
  · rename_i p w off len
    refine R.Sim.bd (F.atR_sim p) fun o ho => ?_
    split
    · rename_i x
      refine R.Sim.bd (F.dropR_sim p) fun G hG => R.Sim.mk fun hp => ?_
      obtain ⟨h1, h2⟩ := hp.two
      have h1 : off = 0 := h1
      have h2 : len = x.len stdB := h2
      subst h1 h2
      have hl : std.oLen x.ro = x.len stdB := LL.len_ro x
      simp only [B.er, baseW, ho, W.er, nEq_std, hl, hG]
      simp [oro]
    · refine R.Sim.bd (F.dropR_sim p) fun G hG => R.Sim.mk fun hp => ?_
      obtain ⟨h1, h2⟩ := hp.two
      have h1 : off = 0 := h1
      have h2 : len = 0 := h2
      subst h1 h2
      have hl : std.oLen [] = 0 := rfl
      simp only [B.er, baseW, ho, W.er, nEq_std, hl, hG]
      simp [oro]
    · exact R.Sim.none'
  · exact R.Sim.none'
def isNil : SPath → Bool
  | [] => true
  | _ :: _ => false
def moreB (M : MB) (F : SF) : B → R (Option LL × Option SP)
  | .fz .nilsl => R.ok (none, none)
  | .fz (.sl zs) => R.ok (some zs.thaw, none)
  | .rf p w off len => (F.atR M p).bd fun o => (match o with
    | .osl x => (match x.here with
      | true => (match x.flat with
        | true => (match w with
          | true => some ([M.pEqN off 0, M.pEqN len (x.len M)], (some x, none))
          | false => (match x.cut M off len with
            | some y => some ([M.pLeN (M.nAdd off len) (x.len M)], (some y, none))
            | none => none))
        | false => (match x.some1 with
          | true => (match isNil p.2 with
            | true => some ([M.pEqN off 0, M.pEqN len (x.len M)], (some x, some p))
            | false => none)
          | false => none))
      | false => none)
    | .onil => some ([M.pEqN off 0, M.pEqN len 0], (none, none))
    | _ => none)
  | _ => none
theorem moreB_sim (F : SF) (x : B) : (moreB stdB F x).Sim fun r => moreW std F.er x.er = some (oro r.1, r.2.map SP.er) := by
  unfold moreB
  split
  · exact R.Sim.ok rfl
  · rename_i zs
    refine R.Sim.ok ?_
    simp only [B.er, D.er, moreW, oro, LL.thaw_ro]
    rfl
  · rename_i p w off len
    refine R.Sim.bd (F.atR_sim p) fun o ho => ?_
    split
    · rename_i x
      split
      · rename_i hh
        split
        · rename_i hf
          have hfl : std.oFlat x.ro = true := LL.flat_ro x hf hh
          split
          · refine R.Sim.mk fun hp => ?_
            obtain ⟨h1, h2⟩ := hp.two
            have h1 : off = 0 := h1
            have h2 : len = x.len stdB := h2
            subst h1 h2
            have hl : std.oLen x.ro = x.len stdB := LL.len_ro x
            have hn : std.nLe (std.nAdd 0 (x.len stdB)) (x.len stdB) = true := by show decide (0 + x.len stdB ≤ x.len stdB) = true; simp
            simp only [B.er, moreW, ho, W.er, hl, hn, hfl, nEq_std]
            simp [oro]
          · split
            · rename_i y hy
              refine R.Sim.mk fun hp => ?_
              have h1 : off + len ≤ x.len stdB := hp.one
              have hl : std.oLen x.ro = x.len stdB := LL.len_ro x
              have hn : std.nLe (std.nAdd off len) (x.len stdB) = true := by show decide (off + len ≤ x.len stdB) = true; simpa using h1
              have hc : std.oCut x.ro off len = y.ro := (LL.cut_ro hy).symm
              simp only [B.er, moreW, ho, W.er, hl, hn, hfl, nEq_std, hc]
              by_cases he : off = 0 ∧ len = x.len stdB
              · obtain ⟨rfl, rfl⟩ := he
                have : y.ro = x.ro := by
                  rw [LL.cut_ro hy, List.drop_zero, ← LL.len_ro]
                  simp
                simp [oro, this]
              · have : (off == 0 && len == x.len stdB) = false := by
                  cases hb : (off == 0 && len == x.len stdB) with
                  | false => rfl
                  | true => simp at hb; exact absurd hb he
                simp only [this, oro, Option.map_none]
            · exact R.Sim.none'
        · rename_i hf
          split
          · rename_i hs
            split
            · rename_i hn0
              refine R.Sim.mk fun hp => ?_
              obtain ⟨h1, h2⟩ := hp.two
              have h1 : off = 0 := h1
              have h2 : len = x.len stdB := h2
              subst h1 h2
              have hl : std.oLen x.ro = x.len stdB := LL.len_ro x
              have hfl : std.oFlat x.ro = false := LL.some1_ro x hs hf
              have hn : std.nLe (std.nAdd 0 (x.len stdB)) (x.len stdB) = true := by show decide (0 + x.len stdB ≤ x.len stdB) = true; simp
              obtain ⟨r, s⟩ := p
              cases s with
              | cons _ _ => simp [isNil] at hn0
              | nil =>
                simp only [B.er, moreW, ho, W.er, hl, hn, hfl, nEq_std]
                simp [oro, SP.er, ixs]
            · exact R.Sim.none'
          · exact R.Sim.none'
      · exact R.Sim.none'
    · refine R.Sim.mk fun hp => ?_
      obtain ⟨h1, h2⟩ := hp.two
      have h1 : off = 0 := h1
      have h2 : len = 0 := h2
      subst h1 h2
      simp only [B.er, moreW, ho, W.er]
      rfl
    · exact R.Sim.none'
  · exact R.Sim.none'
def goneB (M : MB) (F : SF) : Option SP → R SF
  | none => R.ok F
  | some p => F.dropR M p
def lenO (M : MB) : Option LL → Nat
  | none => 0
  | some x => x.len M
def catB (M : MB) : Option LL → Option LL → Option (Option LL)
  | none, y => some y
  | some x, none => some (some x)
  | some x, some y => (match x.app M y with | some z => some (some z) | none => none)
def szOk (n : Nat) : Option LL → Bool
  | none => true
  | some x => nq x.sz n
def oslB : Option LL → W
  | none => .onil
  | some x => .osl x
theorem oro_len (x : Option LL) : (oro x).length = lenO stdB x := by cases x with | none => rfl | some x => exact LL.len_ro x
theorem oslB_er (x : Option LL) : (oslB x).er = .osl (oro x) := by cases x <;> rfl
theorem catB_ro {x y z : Option LL} (h : catB stdB x y = some z) : oro z = oro x ++ oro y := by
  unfold catB at h
  split at h
  · simp only [Option.some.injEq] at h; subst h; rfl
  · simp only [Option.some.injEq] at h; subst h; simp [oro]
  · split at h
    · rename_i z' hz
      simp only [Option.some.injEq] at h
      subst h
      exact LL.app_ro hz
    · cases h
theorem szOk_ro {n : Nat} {x : Option LL} (h : szOk n x = true) : std.oSz n (oro x) = true := by
  cases x with
  | none => rfl
  | some x =>
    have := Nat.eq_of_beq_eq_true h
    exact all_len (by rw [← this]; exact x.ro_sz)
def appendB (M : MB) (ty : Ty) (d : Nat) (x y : Operand) (F : SF) : R SF :=
  (baseB M F (evB1 F x)).bd fun r => (moreB M r.2 (evB1 r.2 y)).bd fun s =>
    (match nle ty.bytes 4096 && nlt 0 ty.size && nq (cnt ty.zero) ty.size && szOk ty.size s.1 && szOk ty.size r.1 with
    | true => (match catB M r.1 s.1 with
      | some z => (goneB M r.2 s.2).bd fun G => some ([M.pLeLim (M.nAdd (lenO M r.1) (lenO M s.1))], (G.root (rid d 0 0) (oslB z)).put d (rfB (rid d 0 0) (lenO M z)))
      | none => none)
    | false => none)
theorem appendB_sim (ty : Ty) (d : Nat) (x y : Operand) (F : SF) : (appendB stdB ty d x y F).Sim fun G => appendW std ty d x y F.er = some G.er := by
  unfold appendB
  refine R.Sim.bd (baseB_sim F _) fun r hr => R.Sim.bd (moreB_sim r.2 _) fun s hs => ?_
  split
  · rename_i hc
    split
    · rename_i z hz
      have hg : (goneB stdB r.2 s.2).Sim fun G => goneO std r.2.er (s.2.map SP.er) = G.er := by
        cases s.2 with
        | none => exact R.Sim.ok rfl
        | some p => exact r.2.dropR_sim p
      refine R.Sim.bd hg fun G hG => R.Sim.mk fun hp => ?_
      rw [evB1_er] at hr hs
      unfold appendW
      simp only [hr, hs]
      simp only [Bool.and_eq_true] at hc
      obtain ⟨⟨⟨⟨h1, h2⟩, h3⟩, h4⟩, h5⟩ := hc
      have h6 : std.nLe (std.nAdd (std.oLen (oro r.1)) (std.oLen (oro s.1))) lim = true := by
        have : lenO stdB r.1 + lenO stdB s.1 ≤ lim := hp.one
        show decide ((oro r.1).length + (oro s.1).length ≤ lim) = true
        rw [oro_len, oro_len]
        simpa using this
      rw [h1, h2, h3, szOk_ro h4, szOk_ro h5, h6]
      have h7 : std.oCat (oro r.1) (oro s.1) = oro z := (catB_ro hz).symm
      simp only [Bool.and_self, hG, h7]
      have h8 : std.oLen (oro z) = lenO stdB z := oro_len z
      rw [h8, ← oslB_er]
      rfl
    · exact R.Sim.none'
  · exact R.Sim.none'
def assignB (M : MB) (F : SF) (d : Nat) (x : TV B) : R SF :=
  match x with
  | .v (false, [.fz .nilsl]) => (F.clearR M (rid d 0 0)).bd fun G => R.ok ((G.root (rid d 0 0) .onil).put d (rfB (rid d 0 0) 0))
  | .v (false, [.rf (id, []) w off len]) => (F.atR M (id, [])).bd fun o => (match w with
    | true => (match o with
      | .osl x => (match nq id (rid d 0 0) with
        | true => some ([M.pEqN off 0, M.pEqN len (x.len M)], F.put d (.v (false, [.rf (id, []) w off len])))
        | false => (F.clearR M (rid d 0 0)).bd fun G => (G.liftR M (id, []) (rid d 0 0, [])).bd fun H => some ([M.pEqN off 0, M.pEqN len (x.len M)], (H.root (rid d 0 0) (.osl x)).put d (rfB (rid d 0 0) len)))
      | .onil => (match nq id (rid d 0 0) with
        | true => some ([M.pEqN off 0, M.pEqN len 0], F.put d (.v (false, [.rf (id, []) w off len])))
        | false => (F.clearR M (rid d 0 0)).bd fun G => (G.liftR M (id, []) (rid d 0 0, [])).bd fun H => some ([M.pEqN off 0, M.pEqN len 0], (H.root (rid d 0 0) .onil).put d (rfB (rid d 0 0) len)))
      | _ => none)
    | false => none)
  | x => R.ok (F.put d x)
theorem er_rf1 (x : TV B) : (∃ id off len, x.er B.erL = TV.v (false, [A.rf (id, []) off len])) → ∃ id w off len, x = .v (false, [.rf (id, []) w off len]) := by
  rintro ⟨id, off, len, h⟩
  cases x with
  | tup xs => simp [TV.er] at h
  | v x =>
    obtain ⟨g, as⟩ := x
    simp only [TV.er, v1er, TV.v.injEq, Prod.mk.injEq] at h
    obtain ⟨rfl, h⟩ := h
    match as, h with
    | [a], h =>
      simp only [B.erL, List.cons.injEq, and_true] at h
      cases a with
      | rf p w off' len' =>
        obtain ⟨r, s⟩ := p
        cases s with
        | nil =>
          simp only [B.er, A.rf.injEq, SP.er, ixs, Prod.mk.injEq, and_true] at h
          obtain ⟨rfl, rfl, rfl⟩ := h
          exact ⟨_, _, _, _, rfl⟩
        | cons z s => obtain ⟨⟨k, i⟩, j⟩ := z; simp [B.er, SP.er, ixs] at h
      | _ => simp [B.er] at h
    | [], h => simp [B.erL] at h
    | _ :: _ :: _, h => simp [B.erL] at h
theorem er_nil1 (x : TV B) : x.er B.erL = TV.v (false, [A.fz .nilsl]) → x = .v (false, [.fz .nilsl]) := by
  intro h
  cases x with
  | tup xs => simp [TV.er] at h
  | v x =>
    obtain ⟨g, as⟩ := x
    simp only [TV.er, v1er, TV.v.injEq, Prod.mk.injEq] at h
    obtain ⟨rfl, h⟩ := h
    match as, h with
    | [a], h =>
      simp only [B.erL, List.cons.injEq, and_true] at h
      cases a with
      | fz d => cases d <;> simp [B.er, D.er] at h; rfl
      | _ => simp [B.er] at h
    | [], h => simp [B.erL] at h
    | _ :: _ :: _, h => simp [B.erL] at h
theorem assignB_sim (F : SF) (d : Nat) (x : TV B) : (assignB stdB F d x).Sim fun G => asgA std false F.er d (x.er B.erL) = some G.er := by
  unfold assignB
  split
  · refine R.Sim.bd (F.clearR_sim _) fun G hG => R.Sim.ok ?_
    show some (F.er.putQ std d .mt) = _
    simp only [Fr.putQ, hG]
    rfl
  · rename_i id w off len
    refine R.Sim.bd (F.atR_sim (id, [])) fun o ho0 => ?_
    have ho : F.er.at std (id, []) = o.er := ho0
    clear ho0
    have key : asgA std false F.er d ((TV.v (false, [B.rf (id, []) w off len])).er B.erL) = assignW std F.er d (.v (false, [.rf (id, []) off len])) := rfl
    rw [key]
    split
    · split
      · rename_i x
        have hl : std.oLen x.ro = x.len stdB := LL.len_ro x
        split
        · rename_i hid
          refine R.Sim.mk fun hp => ?_
          obtain ⟨h1, h2⟩ := hp.two
          have h1 : off = 0 := h1
          have h2 : len = x.len stdB := h2
          subst h1 h2
          simp only [assignW, hid, ho, W.er, nEq_std, hl]
          simp [SF.put_er, TV.er, v1er, B.erL, B.er, SP.er, ixs]
        · rename_i hid
          refine R.Sim.bd (F.clearR_sim _) fun G hG => R.Sim.bd (G.liftR_sim _ _) fun H hH0 => R.Sim.mk fun hp => ?_
          obtain ⟨h1, h2⟩ := hp.two
          have h1 : off = 0 := h1
          have h2 : len = x.len stdB := h2
          subst h1 h2
          have hH : G.er.lift std (id, []) (rid d 0 0, []) = H.er := hH0
          simp only [assignW, hid, ho, W.er, nEq_std, hl, hG, hH]
          simp [SF.put_er, SF.root_er, TV.er, v1er, B.erL, B.er, SP.er, ixs, rfB, rfV, W.er]
      · have hl : std.oLen [] = 0 := rfl
        split
        · rename_i hid
          refine R.Sim.mk fun hp => ?_
          obtain ⟨h1, h2⟩ := hp.two
          have h1 : off = 0 := h1
          have h2 : len = 0 := h2
          subst h1 h2
          simp only [assignW, hid, ho, W.er, nEq_std, hl]
          simp [SF.put_er, TV.er, v1er, B.erL, B.er, SP.er, ixs]
        · rename_i hid
          refine R.Sim.bd (F.clearR_sim _) fun G hG => R.Sim.bd (G.liftR_sim _ _) fun H hH0 => R.Sim.mk fun hp => ?_
          obtain ⟨h1, h2⟩ := hp.two
          have h1 : off = 0 := h1
          have h2 : len = 0 := h2
          subst h1 h2
          have hH : G.er.lift std (id, []) (rid d 0 0, []) = H.er := hH0
          simp only [assignW, hid, ho, W.er, nEq_std, hl, hG, hH]
          simp [SF.put_er, SF.root_er, TV.er, v1er, B.erL, B.er, SP.er, ixs, rfB, rfV, W.er]
      · exact R.Sim.none'
    · exact R.Sim.none'
  · rename_i h1 h2
    refine R.Sim.ok ?_
    rw [SF.put_er]
    generalize he : x.er B.erL = y
    unfold asgA
    split
    · exact (h1 (er_nil1 x he)).elim
    · unfold assignW
      split
      · rename_i id off len h3
        obtain ⟨id, w, off, len, rfl⟩ := er_rf1 x ⟨_, _, _, he⟩
        exact (h2 _ _ _ _ rfl).elim
      · rfl
end Go.Proofs.Ytlmejcmnmdleaaa.Ai
