/- The abstract interpreter, part 9: an operation that reads alone puts what the interpreter says. -/
import Derived.Test.YtlmejcmnmdleaaaAi8
namespace Go.Proofs.Ytlmejcmnmdleaaa.Ai
open Go
set_option linter.unusedSectionVars false
set_option linter.unusedSimpArgs false
section
variable [Fence] {P : Program} {T : Nat → Option Ty} {F : Fr} {σ : Gh} {w : World} {a : Act}

theorem val_sound {x : A} {v : Value} (h : RepA w σ x v) : QRep w σ (.val (.v (false, [x]))) v := h
theorem bytes_sound {xs : List (List C)} {l : List UInt8} (h : bytesL xs = some l) : ∃ ns : List Int, xs = ns.map (fun n => [C.int .u8 n]) ∧ l = ns.map (fun n => UInt8.ofNat n.toNat) := by
  induction xs generalizing l with
  | nil => simp [bytesL] at h; subst h; exact ⟨[], rfl, rfl⟩
  | cons x r ih =>
    unfold bytesL at h
    split at h
    · cases ‹_ :: _ = []›
    · rename_i n r' heq
      injection heq with h1 h2
      subst h1 h2
      cases hb : bytesL r with
      | none => rw [hb] at h; simp at h
      | some l' =>
        rw [hb] at h
        simp at h
        subst h
        obtain ⟨ns, rfl, rfl⟩ := ih hb
        exact ⟨n :: ns, rfl, rfl⟩
    · cases h
theorem push_fold (ns : List Int) (s : ByteArray) : ns.foldl (fun r n => r.push (UInt8.ofNat n.toNat)) s = ⟨s.data ++ (ns.map fun n => UInt8.ofNat n.toNat).toArray⟩ := by
  induction ns generalizing s with
  | nil => simp
  | cons n ns ih =>
    simp only [List.foldl_cons, ih]
    congr 1
    simp [ByteArray.push]
theorem mx_sound {f : Int → Int → Int} {g : Value → Value → Sem Value} (hg : ∀ k x y, (g (.int k x) (.int k y)).run P w = .ok (.int k (f x y)) w) (hF : FR F σ w (valT a)) :
    ∀ (l : List Operand) (x c : C) (v : Value), RepC w σ x v → fold1 (mxA f) (some x) (evC F l) = some c → ∃ u, ((l.map a.eval).foldlM g v).run P w = .ok u w ∧ RepC w σ c u := by
  intro l
  induction l with
  | nil => intro x c v hx h; simp [evC, fold1] at h; subst h; exact ⟨v, rfl, hx⟩
  | cons o l ih =>
    intro x c v hx h
    simp only [evC, fold1] at h
    cases ho : mxA f (some x) (C? (ev1 F o)) with
    | none =>
      rw [ho] at h
      exfalso
      generalize evC F l = l' at h
      induction l' with
      | nil => simp [fold1] at h
      | cons y l' ih' => simp only [fold1, mxA] at h; exact ih' h
    | some d =>
      rw [ho] at h
      unfold mxA at ho
      split at ho
      · rename_i k p k' q h1 h2
        split at ho
        · rename_i hk
          obtain rfl := kindEq_eq hk
          simp at ho h1
          subst ho h1
          obtain rfl := hx.int_inv
          have hq := ev1_sound hF o
          unfold C? at h2
          split at h2
          · rename_i c' hc'
            simp at h2
            subst h2
            rw [hc'] at hq
            have hq := hq.fz_inv.int_inv
            obtain ⟨u, hu, hr⟩ := ih (.int k (f p q)) c (.int k (f p q)) (.int _ _) h
            refine ⟨u, ?_, hr⟩
            simp only [List.map_cons, List.foldlM_cons, Sem.run_bind, hq, hg, Result.andThen]
            exact hu
          · cases h2
        · cases ho
      · cases ho
theorem mxOp_sound {f : Int → Int → Int} {g : Value → Value → Sem Value} (hg : ∀ k x y, (g (.int k x) (.int k y)).run P w = .ok (.int k (f x y)) w) (hF : FR F σ w (valT a)) {l : List Operand} {q : QR} (h : mxOp F f l = some q) :
    ∃ x r v, l.map a.eval = x :: r ∧ (r.foldlM g x).run P w = .ok v w ∧ QRep w σ q v := by
  unfold mxOp at h
  cases l with
  | nil => simp [evC] at h
  | cons o l =>
    simp only [evC] at h
    split at h
    · rename_i c hc
      simp at h
      subst h
      unfold C? at hc
      split at hc
      · rename_i c' hc'
        have hx := ev1_sound hF o
        rw [hc'] at hx
        obtain ⟨u, hu, hr⟩ := mx_sound hg hF l c' c _ hx.fz_inv hc
        exact ⟨a.eval o, l.map a.eval, u, rfl, hu, .fz _ _ hr⟩
      · exfalso
        generalize evC F l = l' at hc
        induction l' with
        | nil => simp [fold1] at hc
        | cons y l' ih' => simp only [fold1, mxA] at hc; exact ih' hc
    · cases h

/-- The cells of an aggregate, as the interpreter has them. -/
def AggRep (w : World) (σ : Gh) (as : List A) (cs : Array Value) : Prop := cs.size = as.length ∧ ∀ (j : Nat) (x : A), as[j]? = some x → ∃ u, cs[j]? = some u ∧ RepA w σ x u
theorem putCells_get : ∀ {as : List A} {off : Nat} {cs as' : List A}, putCells as off cs = some as' → off + cs.length ≤ as.length ∧ as'.length = as.length ∧ ∀ j : Nat, as'[j]? = if off ≤ j ∧ j < off + cs.length then cs[j - off]? else as[j]? := by
  intro as
  induction as with
  | nil =>
    intro off cs as' h
    cases off <;> cases cs <;> simp [putCells] at h
    subst h; simp
  | cons x as ih =>
    intro off cs as' h
    cases off with
    | zero =>
      cases cs with
      | nil => simp [putCells] at h; subst h; simp
      | cons c cs =>
        simp only [putCells] at h
        cases h1 : putCells as 0 cs with
        | none => rw [h1] at h; simp at h
        | some l =>
          rw [h1] at h
          simp at h
          subst h
          obtain ⟨h2, h3, h4⟩ := ih h1
          refine ⟨by simp at h2 ⊢; omega, by simp [h3], fun j => ?_⟩
          cases j with
          | zero => simp
          | succ j =>
            simp only [List.getElem?_cons_succ, h4]
            by_cases hj : j < cs.length
            · rw [if_pos (by omega), if_pos (by simp; omega)]; simp
            · rw [if_neg (by omega), if_neg (by simp; omega)]
    | succ off =>
      simp only [putCells] at h
      cases h1 : putCells as off cs with
      | none => rw [h1] at h; simp at h
      | some l =>
        rw [h1] at h
        simp at h
        subst h
        obtain ⟨h2, h3, h4⟩ := ih h1
        refine ⟨by simp; omega, by simp [h3], fun j => ?_⟩
        cases j with
        | zero => simp
        | succ j =>
          simp only [List.getElem?_cons_succ, h4]
          by_cases hj : off ≤ j ∧ j < off + cs.length
          · rw [if_pos hj, if_pos (by omega)]; congr 1; omega
          · rw [if_neg hj, if_neg (by omega)]
theorem A.ok_one {x : A} {v : Value} (h : RepA w σ x v) (hk : x.ok = true) : v.oneCell' = true := by
  cases h with
  | un => simp [A.ok] at hk
  | ud => simp [A.ok] at hk
  | fz c _ h => exact h.one
  | _ => rfl
theorem cells_sound {x : V1 A} {v : Value} (h : RepV (fun _ => RepA w σ) x v) (hk : okL x.2 = true) : AggRep w σ x.2 v.cells := by
  obtain ⟨g, as⟩ := x
  cases g with
  | true =>
    obtain ⟨cs, rfl, h1, h2⟩ := h
    exact ⟨h1, h2⟩
  | false =>
    match as, h with
    | [x], h =>
      have h1 : v.oneCell' = true := A.ok_one h (by simp [okL_eq] at hk; exact hk)
      have : v.cells = #[v] := by cases v <;> first | rfl | simp [Value.oneCell'] at h1
      rw [this]
      refine ⟨rfl, fun j y hj => ?_⟩
      cases j with
      | zero => simp at hj; subst hj; exact ⟨v, rfl, h⟩
      | succ j => simp at hj
theorem foldl_set (l : List (Value × Nat)) (off : Nat) (cs : Array Value) : (l.foldl (fun cs (x : Value × Nat) => cs.setIfInBounds (off + x.2) x.1) cs).size = cs.size := by
  induction l generalizing cs with
  | nil => rfl
  | cons x l ih => simp [ih]
theorem fold_put (off : Nat) : ∀ (vs : List Value) (k : Nat) (cs : Array Value), off + k + vs.length ≤ cs.size → ∀ j : Nat,
    ((vs.zipIdx k).foldl (fun cs (x : Value × Nat) => cs.setIfInBounds (off + x.2) x.1) cs)[j]? = if off + k ≤ j ∧ j < off + k + vs.length then vs[j - (off + k)]? else cs[j]? := by
  intro vs
  induction vs with
  | nil => intro k cs _ j; simp; intro h1 h2; omega
  | cons v vs ih =>
    intro k cs hb j
    simp only [List.zipIdx_cons, List.foldl_cons]
    rw [ih (k + 1) _ (by simp at hb ⊢; omega) j]
    simp only [List.length_cons] at hb ⊢
    by_cases h1 : off + (k + 1) ≤ j ∧ j < off + (k + 1) + vs.length
    · rw [if_pos h1, if_pos (by omega)]
      have : j - (off + k) = (j - (off + (k + 1))) + 1 := by omega
      rw [this, List.getElem?_cons_succ]
    · rw [if_neg h1]
      by_cases h2 : j = off + k
      · subst h2
        rw [if_pos (by omega), Nat.sub_self]
        simp [Array.getElem?_setIfInBounds_self]
        omega
      · rw [if_neg (by omega), Array.getElem?_setIfInBounds_ne (by omega)]
theorem build_sound (hF : FR F σ w (valT a)) (fs : List (Nat × Nat × Bool)) : ∀ (parts : List (Nat × Operand)) (as as' : List A) (cs : Array Value), AggRep w σ as cs → buildA F fs as parts = some as' →
    ∀ places : Nat → Option (Nat × Nat), (∀ i x, nth fs i = some x → places i = some (x.1, x.2.1)) → ∃ cs', Instr.fill places cs (parts.map fun x => (x.1, a.eval x.2)) = some cs' ∧ AggRep w σ as' cs' := by
  intro parts
  induction parts with
  | nil => intro as as' cs h hb places hp; simp [buildA] at hb; subst hb; exact ⟨cs, rfl, h⟩
  | cons part parts ih =>
    intro as as' cs h hb places hp
    obtain ⟨i, x⟩ := part
    simp only [buildA] at hb
    split at hb
    · rename_i off size agg hn
      have hx := ev_sound hF x
      split at hb
      · rename_i g xs hev
        rw [hev] at hx
        split at hb
        · rename_i hok
          simp only [Bool.and_eq_true] at hok
          obtain ⟨hok, hsz⟩ := hok
          have hsz : xs.length = size := by simpa [cnt_eq] using hsz
          split at hb
          · rename_i as1 hput
            obtain ⟨h1, h2, h3⟩ := putCells_get hput
            have hc := cells_sound (x := (g, xs)) hx hok
            obtain ⟨hc1, hc2⟩ := hc
            dsimp only at hc1 hc2
            simp only [List.map_cons, Instr.fill, hp i _ hn]
            have hne : ¬ ((a.eval x).cells.size ≠ size ∨ off + (a.eval x).cells.size > cs.size) := by
              have e1 := h.1
              rw [hc1]
              omega
            rw [if_neg (by simpa using hne)]
            refine ih as1 as' _ ?_ hb places hp
            have e : ∀ j : Nat, ((a.eval x).cells.zipIdx.foldl (fun cs (x : Value × Nat) => cs.setIfInBounds (off + x.2) x.1) cs)[j]? = if off ≤ j ∧ j < off + xs.length then (a.eval x).cells[j - off]? else cs[j]? := by
              intro j
              have := fold_put off (a.eval x).cells.toList 0 cs (by have e1 := h.1; simp only [Array.length_toList, Nat.add_zero, hc1]; omega) j
              simp [hc1] at this
              rw [← Array.foldl_toList, Array.toList_zipIdx]
              simpa using this
            refine ⟨?_, fun j y hj => ?_⟩
            · rw [h2, ← h.1, ← Array.foldl_toList, foldl_set]
            · rw [h3] at hj
              rw [e]
              split at hj
              · rename_i hh
                rw [if_pos hh]
                exact hc2 _ _ hj
              · rename_i hh
                rw [if_neg hh]
                exact h.2 _ _ hj
          · cases hb
        · cases hb
      · cases hb
    · cases hb
theorem noUnL_get {l : List C} (h : noUnL l = true) : ∀ c ∈ l, c ≠ .un := by
  induction l with
  | nil => simp
  | cons x l ih =>
    intro c hc
    cases x <;> simp [noUnL] at h <;> (rcases List.mem_cons.1 hc with rfl | hc; · simp) <;> exact ih h c hc
theorem zeroC_sound (v : Value) : RepA w σ (.fz (zeroC v)) v ∨ zeroC v = .un := by
  unfold zeroC
  split
  · exact .inl (.fz _ _ (.int _ _))
  · exact .inl (.fz _ _ (.bool _))
  · exact .inl (.fz _ _ (.str _))
  · exact .inl (.fz _ _ .nilsl)
  · exact .inr rfl
theorem valO_sound {x : Option A} {q : QR} (h : valO x = some q) : ∃ y, x = some y ∧ q = .val (.v (false, [y])) := by
  cases x with
  | none => simp [valO] at h
  | some y => simp [valO] at h; exact ⟨y, rfl, h.symm⟩
theorem run_val {s : Sem Value} {v : Value} (h : s.run P w = .ok v w) : (do pure (.value (← s)) : Sem Next).run P w = .ok (.value v) w := by
  simp only [Sem.run_bind, h, Result.andThen, Sem.run_pure]

/-- Frozen, whoever asks. -/
abbrev RepN (w : World) (c : C) (v : Value) : Prop := @RepC noFence w (fun _ => none) c v
theorem RepN.un {w : World} (v : Value) (h : v.oneCell' = true) : RepN w .un v := @RepC.un noFence w _ v h
theorem RepN.int {w : World} (k : IntKind) (n : Int) : RepN w (.int k n) (.int k n) := @RepC.int noFence w _ k n
theorem RepN.bool {w : World} (b : Bool) : RepN w (.bool b) (.bool b) := @RepC.bool noFence w _ b
theorem RepN.str {w : World} (s : ByteArray) : RepN w (.str s) (.string s) := @RepC.str noFence w _ s
theorem RepN.nilsl {w : World} : RepN w .nilsl (.slice none 0 0) := @RepC.nilsl noFence w _
theorem RepN.sl {w : World} (xs : List (List C)) (sz : Nat) (a : Option Addr) (cap : Nat) (us : Nat → Nat → Value) (hc : xs.length ≤ cap) (hs : ∀ y ∈ xs, y.length = sz)
      (ha : xs ≠ [] → ∃ ad, a = some ad ∧ ad.spot = none ∧ ad.block < w.heap.size ∧ @Free noFence (fun _ => none) ad.block)
      (hm : ∀ ad, a = some ad → ∀ i j y c, xs[i]? = some y → y[j]? = some c → w.cell? (ad.add (i * sz + j)) = some (us i j))
      (hr : ∀ i j y c, xs[i]? = some y → y[j]? = some c → RepN w c (us i j)) : RepN w (.sl xs) (.slice a xs.length cap) := @RepC.sl noFence w _ xs sz a cap us hc hs ha hm hr
theorem RepN.ptr {w : World} (cs : List C) (ad : Addr) (us : Nat → Value) (hp : ad.spot = none) (hlt : ad.block < w.heap.size) (hb : @Free noFence (fun _ => none) ad.block)
      (hm : ∀ j c, cs[j]? = some c → w.cell? (ad.add j) = some (us j)) (hr : ∀ j c, cs[j]? = some c → RepN w c (us j)) : RepN w (.ptr cs) (.pointer (some ad)) := @RepC.ptr noFence w _ cs ad us hp hlt hb hm hr
theorem RepN.fn {w : World} (f : FuncId) (caps : List C) (vs : Array Value) (us : Nat → Value) (hl : vs.size = caps.length) (hm : ∀ j c, caps[j]? = some c → vs[j]? = some (us j))
      (hr : ∀ j c, caps[j]? = some c → RepN w c (us j)) : RepN w (.fn f caps) (.func (.func f) #[] vs) := @RepC.fn noFence w _ f caps vs us hl hm hr
theorem free_none (b : Nat) : @Free noFence (fun _ => none) b := ⟨rfl, fun h => h⟩
theorem stays_none (w : World) (σ : Gh) : Stays w σ w (fun _ => none) := ⟨fun _ _ _ => rfl, fun _ _ _ => rfl⟩
theorem RepC.free {c : C} {v : Value} (h : RepC w σ c v) : RepN w c v := by
  induction h with
  | un v h => exact .un v h
  | int k n => exact .int k n
  | bool b => exact .bool b
  | str s => exact .str s
  | nilsl => exact .nilsl
  | sl xs sz a cap us hc hs ha hm hr ih =>
    refine .sl xs sz a cap us hc hs (fun hne => ?_) hm ih
    obtain ⟨ad, h1, h2, h3, _⟩ := ha hne
    exact ⟨ad, h1, h2, h3, free_none _⟩
  | ptr cs ad us hp hlt hb hm hr ih => exact .ptr cs ad us hp hlt (free_none _) hm ih
  | fn f caps vs us hl hm hr ih => exact .fn f caps vs us hl hm ih
theorem frz_sound {p : Path} {o : O} {v : Value} (h : RepO w σ p o v) : RepN w o.frz v := by
  induction h with
  | un p v hv => exact .un v hv
  | fz p c v h => exact h.free
  | oslz p b => exact .sl [] 0 b 0 (fun _ _ => undef) (Nat.le_refl _) (by simp) (by simp) (by simp) (by simp)
  | osl p xs e sz g cap cur us hh hc hcm hl hs hg hm hr ih =>
    have hlen : (O.frzLL xs).length = xs.length := by simp [O.frzLL_eq]
    show RepN w (.sl (O.frzLL xs)) _
    rw [← hlen]
    have hget : ∀ (i j : Nat) (y : List C) (c : C), (O.frzLL xs)[i]? = some y → y[j]? = some c → ∃ y' o, xs[i]? = some y' ∧ y'[j]? = some o ∧ c = o.frz := by
      intro i j y c hi hj
      rw [O.frzLL_eq, List.getElem?_map] at hi
      cases hx : xs[i]? with
      | none => rw [hx] at hi; simp at hi
      | some y' =>
        rw [hx] at hi
        simp at hi
        subst hi
        rw [List.getElem?_map] at hj
        cases ho : y'[j]? with
        | none => rw [ho] at hj; simp at hj
        | some o => rw [ho] at hj; simp at hj; exact ⟨y', o, rfl, ho, hj.symm⟩
    refine .sl _ sz _ cap us (by omega) ?_ (fun _ => ⟨_, rfl, rfl, heap_lt hh, free_none _⟩) ?_ ?_
    · intro y hy
      rw [O.frzLL_eq] at hy
      obtain ⟨y', hy', rfl⟩ := List.mem_map.1 hy
      simpa using hs y' hy'
    · intro ad e i j y c hi hj
      injection e with e
      subst e
      obtain ⟨y', o, h1, h2, rfl⟩ := hget i j y c hi hj
      rw [addr_add]
      simp only [World.cell?, hh]
      simpa using hm i j y' o h1 h2
    · intro i j y c hi hj
      obtain ⟨y', o, h1, h2, rfl⟩ := hget i j y c hi hj
      exact ih i j y' o h1 h2
  | obx p cs g e cells us n cap sz hh hl hg hm hr ih =>
    show RepN w (.ptr (O.frzL cs)) _
    have hget : ∀ (j : Nat) (c : C), (O.frzL cs)[j]? = some c → ∃ o, cs[j]? = some o ∧ c = o.frz := by
      intro j c hj
      rw [O.frzL_eq, List.getElem?_map] at hj
      cases ho : cs[j]? with
      | none => rw [ho] at hj; simp at hj
      | some o => rw [ho] at hj; simp at hj; exact ⟨o, rfl, hj.symm⟩
    refine .ptr _ _ us rfl (heap_lt hh) (free_none _) ?_ ?_
    · intro j c hj
      obtain ⟨o, h1, rfl⟩ := hget j c hj
      rw [addr_add]
      simp only [World.cell?, hh]
      simpa using hm j o h1
    · intro j c hj
      obtain ⟨o, h1, rfl⟩ := hget j c hj
      exact ih j o h1
theorem frzLL_cut (xs : List (List O)) (off len : Nat) : O.frzLL ((xs.drop off).take len) = ((O.frzLL xs).drop off).take len := by simp [O.frzLL_eq, List.map_take, List.map_drop]
/-- A reference's elements, frozen. -/
theorem rf_frz {vt : Nat → Value} (hF : FR F σ w vt) {p : Path} {off len : Nat} {xs : List (List O)} (hp : F.at std p = .osl xs) (hl : off + len ≤ xs.length) {v : Value} (hx : RepA w σ (.rf p off len) v) :
    RepN w (.sl (O.frzLL ((xs.drop off).take len))) v := by
  obtain ⟨u, hu⟩ := at_sound hF p
  rw [hp] at hu
  have hlen : (O.frzLL ((xs.drop off).take len)).length = len := by simp [O.frzLL_eq]; omega
  cases hx with
  | rz _ _ b =>
    have : O.frzLL ((xs.drop off).take 0) = [] := by simp [O.frzLL]
    rw [this]
    exact .sl [] 0 b 0 (fun _ _ => undef) (Nat.le_refl _) (by simp) (by simp) (by simp) (by simp)
  | rf _ _ _ g n cap sz hg hl' hn =>
    have hfz := frz_sound hu
    cases hu with
    | oslz =>
      simp at hl
      obtain ⟨rfl, rfl⟩ := hl
      have : O.frzLL (([] : List (List O)).drop 0 |>.take 0) = [] := by simp [O.frzLL]
      rw [this]
      exact .sl [] 0 _ _ (fun _ _ => undef) (Nat.zero_le _) (by simp) (by simp) (by simp) (by simp)
    | osl _ _ e sz' g' cap' cur us hh hc' hcm hl2 hs' hg' hm hr =>
      obtain rfl := hF.inj _ _ _ _ hg hg' rfl
      rw [hg] at hg'
      simp only [Option.some.injEq, Own.mk.injEq] at hg'
      obtain ⟨_, rfl, rfl, rfl⟩ := hg'
      have hz : ∀ y ∈ O.frzLL xs, y.length = sz := by
        intro y hy
        rw [O.frzLL_eq] at hy
        obtain ⟨y', hy', rfl⟩ := List.mem_map.1 hy
        simpa using hs' y' hy'
      have hL : (O.frzLL xs).length = xs.length := by simp [O.frzLL_eq]
      have hfz' : RepN w (.sl (O.frzLL xs)) (.slice (some ⟨g, 0, none⟩) (O.frzLL xs).length cap) := by rw [hL]; exact hfz
      have := cutN (l := off) (h := off + len) hfz' (by omega) (by rw [hL]; omega) hz
      rw [show off + len - off = len by omega] at this
      rw [frzLL_cut]
      unfold sliced at this
      by_cases he : cap = off
      · have h0 : len = 0 := by omega
        subst h0
        rw [show (List.take 0 (List.drop off (O.frzLL xs))) = [] by simp]
        exact .sl [] 0 _ _ (fun _ _ => undef) (Nat.zero_le _) (by simp) (by simp) (by simp) (by simp)
      · rw [if_neg he] at this
        simpa [addr_add] using this
theorem RepN.elems {xs : List (List C)} {v : Value} (h : RepN w (.sl xs) v) :
    ∃ (_ : Unit) (b : Option Addr) (cap : Nat), v = .slice b xs.length cap ∧ ∀ (i j : Nat) (y : List C) (c : C), xs[i]? = some y → y[j]? = some c →
      ∃ ad, b = some ad ∧ ∃ sz, y.length = sz ∧ ∃ u, w.cell? (ad.add (i * sz + j)) = some u ∧ RepN w c u := by
  obtain ⟨sz, b, cap, us, rfl, hc, hs, ha, hm, hr⟩ := slice_invN h
  refine ⟨(), b, cap, rfl, fun i j y c hi hj => ?_⟩
  obtain ⟨ad, rfl, _⟩ := ha (by intro e; subst e; simp at hi)
  exact ⟨ad, rfl, sz, hs y (List.mem_of_getElem? hi), _, hm ad rfl i j y c hi hj, hr i j y c hi hj⟩
/-- The elements of a slice, where they lie. -/
theorem elems_sound {vt : Nat → Value} (hF : FR F σ w vt) {x : A} {xs : List (List C)} (h : elemsC std F x = some xs) {v : Value} (hx : RepA w σ x v) :
    ∃ (_ : Unit) (b : Option Addr) (cap : Nat), v = .slice b xs.length cap ∧ ∀ (i j : Nat) (y : List C) (c : C), xs[i]? = some y → y[j]? = some c →
      ∃ ad, b = some ad ∧ ∃ sz, y.length = sz ∧ ∃ u, w.cell? (ad.add (i * sz + j)) = some u ∧ RepN w c u := by
  unfold elemsC at h
  split at h
  · simp at h
    subst h
    obtain rfl := hx.fz_inv.nil_inv
    exact ⟨(), none, 0, rfl, fun i j y c hi => by simp at hi⟩
  · simp at h
    subst h
    exact RepN.elems hx.fz_inv.free
  · split at h
    · rename_i ys hys
      split at h
      · rename_i hle
        simp at h
        subst h
        exact RepN.elems (rf_frz hF hys (by simpa [std] using hle) hx)
      · cases h
    · cases h
  · cases h
theorem frzA_sound {vt : Nat → Value} (hF : FR F σ w vt) {x : A} {v : Value} (hx : RepA w σ x v) (hk : x.ok = true) : RepN w (frzA std F x) v := by
  induction hx with
  | un v => simp [A.ok] at hk
  | ud => simp [A.ok] at hk
  | fz c v h => exact h.free
  | rf p off len g n cap sz hg hl hn =>
    have hx := RepA.rf (w := w) p off len g n cap sz hg hl hn
    simp only [frzA]
    split
    · rename_i xs hxs
      split
      · rename_i hle
        exact rf_frz hF hxs (by simpa [std] using hle) hx
      · exact .un _ rfl
    · exact .un _ rfl
  | rz p off b =>
    have hx := RepA.rz (w := w) (σ := σ) p off b
    simp only [frzA]
    split
    · rename_i xs hxs
      split
      · rename_i hle
        exact rf_frz hF hxs (by simpa [std] using hle) hx
      · exact .un _ rfl
    · exact .un _ rfl
  | pp p i j g n cap sz hg =>
    obtain ⟨u, hu⟩ := at_sound hF p
    simp only [frzA]
    split
    · rename_i xs hxs
      rw [hxs] at hu
      split
      · rename_i y hy
        simp only [std] at hy
        cases hu with
        | oslz => simp at hy
        | osl _ _ e sz' g' cap' cur us hh hc' hcm hl2 hs' hg' hm hr =>
          obtain rfl := hF.inj _ _ _ _ hg hg' rfl
          rw [hg] at hg'
          simp only [Option.some.injEq, Own.mk.injEq] at hg'
          obtain ⟨_, rfl, rfl, rfl⟩ := hg'
          have hget : ∀ (k : Nat) (c : C), (O.frzL (dropN y j))[k]? = some c → ∃ o, y[j + k]? = some o ∧ c = o.frz := by
            intro k c hk
            rw [O.frzL_eq, List.getElem?_map, dropN_eq, List.getElem?_drop] at hk
            cases ho : y[j + k]? with
            | none => rw [ho] at hk; simp at hk
            | some o => rw [ho] at hk; simp at hk; exact ⟨o, rfl, hk.symm⟩
          refine .ptr _ _ (fun k => us i (j + k)) rfl (heap_lt hh) (free_none _) ?_ ?_
          · intro k c hk
            obtain ⟨o, h1, rfl⟩ := hget k c hk
            rw [addr_add, Nat.add_assoc]
            simp only [World.cell?, hh]
            simpa using hm i (j + k) y o hy h1
          · intro k c hk
            obtain ⟨o, h1, rfl⟩ := hget k c hk
            exact frz_sound (hr i (j + k) y o hy h1)
      · exact .un _ rfl
    · rename_i cs hcs
      rw [hcs] at hu
      split
      · cases hu with
        | obx _ _ g' e cells us n' cap' sz' hh hl' hg' hm hr =>
          obtain rfl := hF.inj _ _ _ _ hg hg' rfl
          have hget : ∀ (k : Nat) (c : C), (O.frzL (dropN cs j))[k]? = some c → ∃ o, cs[j + k]? = some o ∧ c = o.frz := by
            intro k c hk
            rw [O.frzL_eq, List.getElem?_map, dropN_eq, List.getElem?_drop] at hk
            cases ho : cs[j + k]? with
            | none => rw [ho] at hk; simp at hk
            | some o => rw [ho] at hk; simp at hk; exact ⟨o, rfl, hk.symm⟩
          refine .ptr _ _ (fun k => us (j + k)) rfl (heap_lt hh) (free_none _) ?_ ?_
          · intro k c hk
            obtain ⟨o, h1, rfl⟩ := hget k c hk
            rw [addr_add]
            simp only [World.cell?, hh]
            simpa using hm (j + k) o h1
          · intro k c hk
            obtain ⟨o, h1, rfl⟩ := hget k c hk
            exact frz_sound (hr (j + k) o h1)
      · exact .un _ rfl
    · exact .un _ rfl
  | clo f caps vs us hl hm hr ih =>
    simp only [A.ok, okL_eq, List.all_eq_true] at hk
    simp only [frzA, frzAL_eq]
    refine .fn f _ vs us (by simpa using hl) ?_ ?_
    · intro j c hj
      rw [List.getElem?_map] at hj
      cases h : caps[j]? with
      | none => rw [h] at hj; simp at hj
      | some x => exact hm j x h
    · intro j c hj
      rw [List.getElem?_map] at hj
      cases h : caps[j]? with
      | none => rw [h] at hj; simp at hj
      | some x =>
        rw [h] at hj
        simp at hj
        subst hj
        exact ih j x h (hk x (List.mem_of_getElem? h))
theorem lenA_sound {x : A} {n : Int} {v : Value} (hx : RepA w σ x v) (h : lenA std x = some n) : ∃ b len cap, v = .slice b len cap ∧ (len : Int) = n := by
  unfold lenA at h
  split at h
  · obtain ⟨sz, b, cap, us, rfl, _⟩ := hx.fz_inv.slice_inv
    simp [std] at h
    exact ⟨_, _, _, rfl, h⟩
  · obtain rfl := hx.fz_inv.nil_inv
    simp at h
    exact ⟨_, _, _, rfl, by simp [← h]⟩
  · simp [std] at h
    cases hx with
    | rz => exact ⟨_, _, _, rfl, h⟩
    | rf => exact ⟨_, _, _, rfl, h⟩
  · cases h
theorem qop_sound (hT : TyOK P T) (hF : FR F σ w (valT a)) {o : Oper} {q : QR} (hq : qop std T F o.op = some q) :
    ∃ v, (execOp a.eval o).run P w = .ok (.value v) w ∧ QRep w σ q v := by
  obtain ⟨dst, op, type, pos, after, guard⟩ := o
  dsimp only at hq
  unfold qop at hq
  split at hq
  · -- move
    simp at hq; subst hq
    exact ⟨_, by simp [execOp], ev_sound hF _⟩
  · -- pick
    rename_i c x y
    split at hq
    · rename_i b hb
      simp at hq; subst hq
      have hc := ev1_sound hF c
      rw [hb] at hc
      have hc := hc.fz_inv.bool_inv
      refine ⟨if b then a.eval x else a.eval y, by simp [execOp, hc, asBool], ?_⟩
      cases b
      · exact ev_sound hF y
      · exact ev_sound hF x
    · cases hq
  · -- binOp
    rename_i op t x y t'
    split at hq
    · rename_i ty ht
      split at hq
      · rename_i c hc
        simp at hq; subst hq
        obtain ⟨u, hu, hr⟩ := binA_sound hT ht hc x y (ev1_sound hF x) (ev1_sound hF y)
        exact ⟨u, by simp only [execOp]; exact run_val hu, .fz _ _ hr⟩
      · cases hq
    · cases hq
  · -- unOp
    rename_i op t x
    split at hq
    · rename_i c hc
      simp at hq; subst hq
      obtain ⟨u, hu, hr⟩ := unC_sound (P := P) hc (ev1_sound hF x)
      exact ⟨u, by simp only [execOp]; exact run_val hu, .fz _ _ hr⟩
    · cases hq
  · -- load
    rename_i t x
    split at hq
    · rename_i ty ht
      split at hq
      · rename_i as hc
        split at hq
        · rename_i tv hm
          simp at hq; subst hq
          obtain ⟨hl, ad, hv, hcs⟩ := cellsAt_sound hF hc (ev1_sound hF x)
          obtain ⟨u, hu, hr⟩ := load_sound (hT _ _ ht) hcs hl hm
          refine ⟨u, ?_, hr⟩
          simp only [execOp]
          refine run_val ?_
          simp [Instr.loadAt, hv, Instr.sureAddr, hu]
        · cases hq
      · cases hq
    · cases hq
  · -- fieldAddr
    rename_i t x f
    split at hq
    · rename_i fs g1 g2 g3 g4 ht
      obtain ⟨i, u, z, hi, hu, hz', e⟩ := tyOf_inv (hT _ _ ht)
      injection e with e1 _ _ _ _
      obtain ⟨gs, rfl, rfl, hfl⟩ := kind_st e1.symm
      split at hq
      · cases hq
      · rename_i off n agg hn
        obtain ⟨y, hy, rfl⟩ := valO_sound hq
        obtain ⟨ad, hv, hr⟩ := fieldA_sound hy (ev1_sound hF x)
        rw [nth_eq, List.getElem?_map] at hn
        cases hg : gs.toList[f]? with
        | none => rw [hg] at hn; simp at hn
        | some fd =>
          rw [hg] at hn
          simp at hn
          obtain ⟨rfl, h2, rfl⟩ := hn
          have hg' : gs[f]? = some fd := by simpa using hg
          obtain ⟨_, inf, _, hinf⟩ := hfl fd (List.mem_of_getElem? hg)
          refine ⟨_, ?_, val_sound hr⟩
          simp only [execOp]
          refine run_val ?_
          simp [Instr.fieldAt, run_underlying hu, hg', hv, Instr.sureAddr, fieldPlace, run_sizeOf w hinf, h2]
      · cases hq
    · cases hq
  · -- field
    rename_i t x f
    split at hq
    · rename_i fs g1 g2 g3 g4 ht
      obtain ⟨i, u, z, hi, hu, hz', e⟩ := tyOf_inv (hT _ _ ht)
      injection e with e1 _ _ _ _
      obtain ⟨gs, rfl, rfl, hfl⟩ := kind_st e1.symm
      split at hq
      · rename_i off size agg as hn hev
        split at hq
        · rename_i l hl
          split at hq
          · rename_i tv hm
            simp at hq; subst hq
            obtain ⟨hlen, rfl⟩ := cut_eq _ _ _ _ hl
            have hx := ev_sound hF x
            rw [hev] at hx
            obtain ⟨cs, hv, h1, h2⟩ := hx
            rw [nth_eq, List.getElem?_map] at hn
            cases hg : gs.toList[f]? with
            | none => rw [hg] at hn; simp at hn
            | some fd =>
              rw [hg] at hn
              simp at hn
              obtain ⟨rfl, rfl, rfl⟩ := hn
              have hg' : gs[f]? = some fd := by simpa using hg
              obtain ⟨ud, inf, hud, hinf⟩ := hfl fd (List.mem_of_getElem? hg)
              · rw [hud] at hm
                have hvs : ((cs.toList.drop fd.offset).take (P.cellsOf fd.type)).length = ((as.drop fd.offset).take (P.cellsOf fd.type)).length := by simp [h1]
                obtain ⟨hr, h3⟩ := mkV_sound (w := w) (σ := σ) hm hvs (fun k x hk => by
                  obtain ⟨hk1, hk2⟩ := get_drop_take hk
                  obtain ⟨u, hu1, hu2⟩ := h2 _ _ hk1
                  refine ⟨u, ?_, hu2⟩
                  rw [List.getElem?_take, if_pos hk2, List.getElem?_drop]
                  simpa using hu1)
                refine ⟨_, ?_, hr⟩
                simp only [execOp]
                refine run_val ?_
                have hagg := run_isAgg' (w := w) hud
                cases hb : isAggD (some ud) with
                | true =>
                  simp only [Instr.field, run_underlying hu, Sem.run_bind, Result.andThen, hg', hv, asAgg, Sem.run_pure, part, hagg, hb, if_true, run_sizeOf w hinf]
                  congr 2
                  apply Array.ext'
                  simp [Array.toList_extract, List.extract_eq_take_drop]
                | false =>
                  obtain ⟨x1, v1, h4, h5⟩ := h3 hb
                  have h6 : cs[fd.offset]? = some v1 := by
                    have := congrArg (fun l => l[0]?) h5
                    simp only [List.getElem?_take, List.getElem?_drop] at this
                    split at this
                    · simpa using this
                    · simp at this
                  simp only [Instr.field, run_underlying hu, Sem.run_bind, Result.andThen, hg', hv, asAgg, Sem.run_pure, part, hagg, hb, h6]
                  simp [h5]
          · cases hq
        · cases hq
      · cases hq
    · cases hq
  · -- indexAddr
    rename_i t x i
    split at hq
    · rename_i e g1 g2 g3 g4 ht
      obtain ⟨inf, u, z, hi, hu, hz', ee⟩ := tyOf_inv (hT _ _ ht)
      injection ee with e1 _ _ _ _
      obtain rfl := kind_sl e1.symm
      split at hq
      · rename_i ty ht'
        split at hq
        · rename_i y hy
          split at hq
          · rename_i hok
            simp at hq; subst hq
            obtain ⟨inf', u', z', hi', hu', _, rfl⟩ := tyOf_inv (hT _ _ ht')
            obtain ⟨k, n, len, cap, ad, h1, h2, h3, h4, h5⟩ := index_sound hF hy hok (ev1_sound hF x) (ev1_sound hF i)
            refine ⟨_, ?_, val_sound h5⟩
            simp only [execOp]
            refine run_val ?_
            have hel : P.elem t = e := by simp [Program.elem, hu]
            rw [h1, h2, run_indexAt_slice (P := P) w t ad len cap k n (by rw [hel]; exact hu), if_pos ⟨h3, h4⟩, hel, run_sizeOf w hi']
            simp [Result.andThen, Program.cellsOf, hi']
          · cases hq
        · cases hq
      · cases hq
    · cases hq
  · -- index
    rename_i t x i
    split at hq
    · rename_i g1 g2 g3 g4 ht
      obtain ⟨inf, u, z, hi, hu, hz', ee⟩ := tyOf_inv (hT _ _ ht)
      injection ee with e1 _ _ _ _
      obtain rfl := kind_str e1.symm
      obtain ⟨y, hy, rfl⟩ := valO_sound hq
      unfold indexS at hy
      split at hy
      · rename_i s k n hs hn
        have hx := ev1_sound hF x
        have hi' := ev1_sound hF i
        rw [hs] at hx
        rw [hn] at hi'
        have hx := hx.fz_inv.str_inv
        have hi' := hi'.fz_inv.int_inv
        simp only [std] at hy
        split at hy
        · rename_i b hb
          simp at hy; subst hy
          split at hb
          · rename_i h0
            cases hg : s[n.toNat]? with
            | none => rw [hg] at hb; simp at hb
            | some byte =>
              rw [hg] at hb
              simp at hb
              subst hb
              refine ⟨.int .u8 byte.toNat, ?_, .fz _ _ (.int _ _)⟩
              simp only [execOp]
              refine run_val ?_
              simp [Instr.index, hx, hi', asIntOf, run_underlying hu, h0, hg]
          · cases hb
        · cases hy
      · cases hy
    · cases hq
  · -- slice
    rename_i t x lo hi mx
    split at hq
    · rename_i g1 g2 g3 g4 ht
      obtain ⟨v, hv, hr⟩ := slice_sound (x := x) (lo := lo) (hi := hi) (mx := mx) (q := q) hT hF ht (by dsimp only; exact hq)
      exact ⟨v, by simp only [execOp]; exact run_val hv, hr⟩
    · rename_i e g1 g2 g3 g4 ht
      obtain ⟨v, hv, hr⟩ := slice_sound (x := x) (lo := lo) (hi := hi) (mx := mx) (q := q) hT hF ht (by dsimp only; exact hq)
      exact ⟨v, by simp only [execOp]; exact run_val hv, hr⟩
    · cases hq
  · -- convert
    rename_i s t x
    split at hq
    · rename_i ks g1 g2 g3 g4 k g5 g6 g7 g8 hs ht
      obtain ⟨_, us, _, _, hus, _, es⟩ := tyOf_inv (hT _ _ hs)
      obtain ⟨_, ut, _, _, hut, _, et⟩ := tyOf_inv (hT _ _ ht)
      injection et with et1 _ _ _ _
      obtain rfl := kind_int et1.symm
      split at hq
      · rename_i k' n hn
        split at hq
        · simp at hq; subst hq
          have hx := ev1_sound hF x
          rw [hn] at hx
          have hx := hx.fz_inv.int_inv
          refine ⟨.int k (k.wrap n), ?_, .fz _ _ (.int _ _)⟩
          simp only [execOp]
          refine run_val ?_
          simp [convert, run_underlying hus, run_underlying hut, hx, Conv.intToInt]
        · cases hq
      · cases hq
    · rename_i g1 g2 g3 g4 g5 g6 g7 g8 hs ht
      obtain ⟨_, us, _, _, hus, _, es⟩ := tyOf_inv (hT _ _ hs)
      obtain ⟨_, ut, _, _, hut, _, et⟩ := tyOf_inv (hT _ _ ht)
      injection et with et1 _ _ _ _
      injection es with es1 _ _ _ _
      obtain rfl := kind_str et1.symm
      obtain rfl := kind_str es1.symm
      split at hq
      · rename_i str hn
        simp at hq; subst hq
        have hx := ev1_sound hF x
        rw [hn] at hx
        have hx := hx.fz_inv.str_inv
        refine ⟨.string str, ?_, .fz _ _ (.str _)⟩
        simp only [execOp]
        refine run_val ?_
        simp [convert, run_underlying hus, run_underlying hut, hx]
      · cases hq
    · rename_i e g1 g2 g3 g4 g5 g6 g7 g8 hs ht
      obtain ⟨_, us, _, _, hus, _, es⟩ := tyOf_inv (hT _ _ hs)
      obtain ⟨_, ut, _, _, hut, _, et⟩ := tyOf_inv (hT _ _ ht)
      injection et with et1 _ _ _ _
      injection es with es1 _ _ _ _
      obtain rfl := kind_str et1.symm
      obtain rfl := kind_sl es1.symm
      split at hq
      · rename_i g1 g2 g3 g4 xs he hxs
        obtain ⟨_, ue, _, _, hue, _, ee⟩ := tyOf_inv (hT _ _ he)
        injection ee with ee1 _ _ _ _
        obtain rfl := kind_int ee1.symm
        split at hq
        · rename_i str hstr
          simp at hq; subst hq
          simp only [std] at hstr
          cases hb : bytesL xs with
          | none => rw [hb] at hstr; simp at hstr
          | some l =>
            rw [hb] at hstr
            simp at hstr
            subst hstr
            obtain ⟨ns, rfl, rfl⟩ := bytes_sound hb
            refine ⟨_, ?_, .fz _ _ (.str _)⟩
            simp only [execOp]
            refine run_val ?_
            obtain ⟨vx, b, cap, hev, hcell⟩ := elems_sound hF hxs (ev1_sound hF x)
            rw [hev]
            cases b with
            | none =>
              have : ns = [] := by
                cases ns with
                | nil => rfl
                | cons n ns => obtain ⟨ad, h, _⟩ := hcell 0 0 [C.int .u8 n] (.int .u8 n) (by simp) (by simp); cases h
              subst this
              simp [convert, run_underlying hus, run_underlying hut, run_underlying hue, Conv.bytesToString]
              rfl
            | some ad =>
              have hload : (loadCells ad (ns.map fun n => [C.int .u8 n]).length).run P w = .ok (ns.map (Value.int .u8)).toArray w := by
                have := run_loadCells_list (P := P) w ad (ns.map (Value.int .u8)) (fun j v hj => by
                  rw [List.getElem?_map] at hj
                  cases hn : ns[j]? with
                  | none => rw [hn] at hj; simp at hj
                  | some n =>
                    rw [hn] at hj
                    simp at hj
                    subst hj
                    obtain ⟨ad', h, sz, hs1, hc1⟩ := hcell j 0 [C.int .u8 n] (.int .u8 n) (by simp [hn]) (by simp)
                    injection h with h
                    subst h
                    obtain ⟨u, hc2, hc3⟩ := hc1
                    have : sz = 1 := by simpa using hs1.symm
                    subst this
                    have := @RepC.int_inv noFence _ _ _ _ _ hc3
                    subst this
                    simpa using hc2)
                simpa using this
              have hbs := run_bytesToString (P := P) w ad _ cap ns hload
              simp only [convert, run_underlying hus, run_underlying hut, run_underlying hue, Sem.run_bind, Result.andThen, hbs]
              rw [push_fold]
              simp [ByteArray.empty, ByteArray.emptyWithCapacity]
              rfl
        · cases hq
      · cases hq
    · cases hq
  · -- extract
    rename_i x i
    split at hq
    · rename_i xs hxs
      split at hq
      · rename_i y hy
        simp at hq; subst hq
        have hx := ev_sound hF x
        rw [hxs] at hx
        obtain ⟨vs, hv, h1, h2⟩ := hx
        rw [nth_eq] at hy
        obtain ⟨u, hu, hr⟩ := h2 _ _ hy
        exact ⟨u, by simp only [execOp]; exact run_val (by simp [Instr.extract, hv, hu]), hr⟩
      · cases hq
    · cases hq
  · -- makeFunc
    rename_i f caps
    simp at hq; subst hq
    have hl : ∀ l : List Operand, ev1L F l = l.map (ev1 F) := by intro l; induction l with | nil => rfl | cons x r ih => simp [ev1L, ih]
    refine ⟨.func (.func f) #[] (caps.map a.eval).toArray, ?_, ?_⟩
    · simp only [execOp]
      refine run_val ?_
      simp [Instr.makeFunc]
    · refine RepA.clo f _ _ (fun j => ((caps.map a.eval)[j]?).getD undef) (by simp [hl]) ?_ ?_
      · intro j c hj
        rw [hl, List.getElem?_map] at hj
        cases h : caps[j]? with
        | none => rw [h] at hj; simp at hj
        | some x => simp [h]
      · intro j c hj
        rw [hl, List.getElem?_map] at hj
        cases h : caps[j]? with
        | none => rw [h] at hj; simp at hj
        | some x =>
          rw [h] at hj
          simp at hj
          subst hj
          simpa [h] using ev1_sound hF x
  · -- build
    rename_i t parts
    split at hq
    · rename_i fs g1 g2 g3 z ht
      obtain ⟨inf, u, zv, hi, hu, hz', e⟩ := tyOf_inv (hT _ _ ht)
      injection e with e1 _ _ _ e5
      obtain ⟨gs, rfl, rfl, hfl⟩ := kind_st e1.symm
      split at hq
      · rename_i as hun hb
        simp at hq; subst hq
        have h0 : AggRep w σ (fzL z) zv.cells := by
          subst e5
          refine ⟨by simp [fzL_eq], fun j x hj => ?_⟩
          rw [fzL_eq, List.getElem?_map, List.getElem?_map] at hj
          cases hc : zv.cells.toList[j]? with
          | none => rw [hc] at hj; simp at hj
          | some v =>
            rw [hc] at hj
            simp at hj
            subst hj
            refine ⟨v, by simpa using hc, ?_⟩
            rcases zeroC_sound (w := w) (σ := σ) v with h | h
            · exact h
            · exact absurd h (noUnL_get hun _ (List.mem_map.2 ⟨v, List.mem_of_getElem? hc, rfl⟩))
        have hsz : ∀ f ∈ gs.toList, ∃ inf, P.info? f.type = some inf := fun f hf => let ⟨_, inf, _, h⟩ := hfl f hf; ⟨inf, h⟩
        · have hplaces : (gs.mapM fun f => do pure (f.offset, ← sizeOf f.type) : Sem (Array (Nat × Nat))).run P w = .ok (gs.map fun f => (f.offset, P.cellsOf f.type)) w := by
            have : ∀ l : List Field, (∀ f ∈ l, ∃ inf, P.info? f.type = some inf) → (l.mapM fun f => do pure (f.offset, ← sizeOf f.type) : Sem (List (Nat × Nat))).run P w = .ok (l.map fun f => (f.offset, P.cellsOf f.type)) w := by
              intro l
              induction l with
              | nil => intro _; rfl
              | cons f l ih =>
                intro h
                obtain ⟨inf, hf⟩ := h f (by simp)
                simp only [List.mapM_cons, Sem.run_bind, run_sizeOf w hf, Result.andThen, Sem.run_pure, ih fun g hg => h g (List.mem_cons_of_mem _ hg), List.map_cons]
            have h1 := this gs.toList hsz
            rw [Array.mapM_eq_mapM_toList]
            simp only [Sem.run_map, h1]
            simp [Result.andThen]
            apply Array.ext'
            simp
          obtain ⟨cs', h1, h2⟩ := build_sound hF _ parts _ _ _ h0 hb (fun i => (gs.map fun f => (f.offset, P.cellsOf f.type))[i]?) (by
            intro i x hx
            rw [nth_eq, List.getElem?_map] at hx
            cases hg : gs.toList[i]? with
            | none => rw [hg] at hx; simp at hx
            | some fd =>
              rw [hg] at hx
              simp at hx
              subst hx
              have hg' : gs[i]? = some fd := by simpa using hg
              obtain ⟨inf, hinf⟩ := hsz fd (List.mem_of_getElem? hg)
              simp [hg'])
          refine ⟨.agg cs', ?_, cs', rfl, h2.1, h2.2⟩
          simp only [execOp]
          refine run_val ?_
          have hz2 : (zeroValue t).run P w = .ok zv w := by simp [zeroValue, run_typeInfo w hi, hz']
          simp only [Instr.build, Sem.run_bind, hz2, Result.andThen, run_underlying hu, hplaces]
          have : (List.map (fun x => (x.1, a.eval x.2)) parts) = ((⟨parts⟩ : Array (Nat × Operand)).map fun x => (x.1, a.eval x.2)).toList := by simp
          rw [this] at h1
          simp only [h1]
          simp
      · cases hq
    · cases hq
  · -- len
    rename_i x t
    split at hq
    · rename_i g1 g2 g3 g4 ht
      obtain ⟨inf, u, z, hi, hu, hz', ee⟩ := tyOf_inv (hT _ _ ht)
      injection ee with e1 _ _ _ _
      obtain rfl := kind_str e1.symm
      split at hq
      · rename_i s hs
        simp at hq; subst hq
        have hx := ev1_sound hF x
        rw [hs] at hx
        have hx := hx.fz_inv.str_inv
        refine ⟨.int .i64 s.size, ?_, .fz _ _ (.int _ _)⟩
        simp only [execOp, resolve, Sem.run_bind, Sem.run_pure, Result.andThen, invoke, builtin, List.map_toArray, List.map_cons, List.map_nil, hx]
        simp [Builtin.len_, run_underlying hu, goInt]
      · cases hq
    · rename_i e g1 g2 g3 g4 ht
      obtain ⟨inf, u, z, hi, hu, hz', ee⟩ := tyOf_inv (hT _ _ ht)
      injection ee with e1 _ _ _ _
      obtain rfl := kind_sl e1.symm
      split at hq
      · rename_i n hn
        simp at hq; subst hq
        obtain ⟨b, len, cap, hv, hl⟩ := lenA_sound (ev1_sound hF x) hn
        refine ⟨.int .i64 n, ?_, .fz _ _ (.int _ _)⟩
        simp only [execOp, resolve, Sem.run_bind, Sem.run_pure, Result.andThen, invoke, builtin, List.map_toArray, List.map_cons, List.map_nil, hv]
        simp [Builtin.len_, run_underlying hu, goInt, hl]
      · cases hq
    · cases hq
  · -- cap
    rename_i x t
    split at hq
    · rename_i e g1 g2 g3 g4 ht hn
      obtain ⟨inf, u, z, hi, hu, hz', ee⟩ := tyOf_inv (hT _ _ ht)
      injection ee with e1 _ _ _ _
      obtain rfl := kind_sl e1.symm
      simp at hq; subst hq
      have hx := ev1_sound hF x
      rw [hn] at hx
      have hx := hx.fz_inv.nil_inv
      refine ⟨.int .i64 0, ?_, .fz _ _ (.int _ _)⟩
      simp only [execOp, resolve, Sem.run_bind, Sem.run_pure, Result.andThen, invoke, builtin, List.map_toArray, List.map_cons, List.map_nil, hx]
      simp [Builtin.cap_, run_underlying hu, goInt]
    · cases hq
  · -- max
    rename_i args ats
    obtain ⟨x, r, v, h1, h2, h3⟩ := mxOp_sound (P := P) (w := w) (f := std.iMax) (g := Builtin.max2) (fun k x y => by simp [Builtin.max2, std]) hF hq
    refine ⟨v, ?_, h3⟩
    simp only [execOp, resolve, Sem.run_bind, Sem.run_pure, Result.andThen, invoke, builtin, List.map_toArray, h1]
    simp [Builtin.max_, h2]
  · -- min
    rename_i args ats
    obtain ⟨x, r, v, h1, h2, h3⟩ := mxOp_sound (P := P) (w := w) (f := std.iMin) (g := Builtin.min2) (fun k x y => by simp [Builtin.min2, std]) hF hq
    refine ⟨v, ?_, h3⟩
    simp only [execOp, resolve, Sem.run_bind, Sem.run_pure, Result.andThen, invoke, builtin, List.map_toArray, h1]
    simp [Builtin.min_, h2]
  · cases hq
end
end Go.Proofs.Ytlmejcmnmdleaaa.Ai
