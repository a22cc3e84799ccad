/- The abstract interpreter, part 16: what an append takes. -/
import Derived.Test.YtlmejcmnmdleaaaAi15
import Derived.Deep.AppendSrc
namespace Go.Proofs.Ytlmejcmnmdleaaa.Ai
open Go Go.RowKit
set_option linter.unusedSectionVars false
set_option linter.unusedSimpArgs false
section
variable [Fence] {P : Program} {T : Nat → Option Ty} {w w' : World} {σ σ' : Gh} {F : Fr} {vt : Nat → Value} {a : Act}

def flatN (us : Nat → Nat → Value) (len sz : Nat) : List Value := (List.range (len * sz)).map fun m => us (m / sz) (m % sz)
theorem flatN_length (us : Nat → Nat → Value) (len sz : Nat) : (flatN us len sz).length = len * sz := by simp [flatN]
theorem flatN_get (us : Nat → Nat → Value) {len sz i j : Nat} (hi : i < len) (hj : j < sz) : (flatN us len sz)[i * sz + j]? = some (us i j) := by
  have hlt : i * sz + j < len * sz := by
    have : (i + 1) * sz ≤ len * sz := Nat.mul_le_mul_right _ hi
    rw [Nat.add_mul] at this; omega
  have h1 : (i * sz + j) / sz = i := by
    rw [Nat.add_comm, Nat.add_mul_div_right _ _ (by omega), Nat.div_eq_of_lt hj]; omega
  have h2 : (i * sz + j) % sz = j := by rw [Nat.add_comm, Nat.add_mul_mod_self_right, Nat.mod_eq_of_lt hj]
  simp [flatN, hlt, h1, h2]
theorem flatN_inv (us : Nat → Nat → Value) {len sz m : Nat} {u : Value} (h : (flatN us len sz)[m]? = some u) : ∃ i j, i < len ∧ j < sz ∧ m = i * sz + j ∧ u = us i j := by
  have hlt : m < len * sz := by
    rcases Nat.lt_or_ge m (len * sz) with h' | h'
    · exact h'
    · rw [List.getElem?_eq_none (by rw [flatN_length]; exact h')] at h; cases h
  have hsz : 0 < sz := by
    rcases Nat.eq_zero_or_pos sz with h' | h'
    · subst h'; simp at hlt
    · exact h'
  refine ⟨m / sz, m % sz, ?_, Nat.mod_lt _ hsz, ?_, ?_⟩
  · exact (Nat.div_lt_iff_lt_mul hsz).2 hlt
  · rw [Nat.mul_comm]; exact (Nat.div_add_mod m sz).symm
  · simp [flatN, hlt] at h
    exact h.symm
theorem getD_len {α : Type} {l : List α} {i : Nat} (h : i < l.length) : ∃ y, l[i]? = some y := ⟨l[i], List.getElem?_eq_getElem h⟩

theorem c_src {xs : List (List C)} {v : Value} (hx : RepC w σ (.sl xs) v) {size : Nat} (hs : ∀ y ∈ xs, y.length = size) {t e : TypeId} (ht : P.underlying t = some (.slice e)) :
    ∃ news, Src P size t v xs.length news w ∧ ∀ (i j : Nat) (y : List C) (c : C), xs[i]? = some y → y[j]? = some c → ∃ u, news[i * size + j]? = some u ∧ RepC w σ c u := by
  obtain ⟨us, b, cap, rfl, h1, h2, h3⟩ : ∃ (us : Nat → Nat → Value) (b : Option Addr) (cap : Nat), v = .slice b xs.length cap ∧ (xs ≠ [] → ∃ ad, b = some ad ∧ ad.spot = none) ∧
      (∀ ad, b = some ad → ∀ i j y c, xs[i]? = some y → y[j]? = some c → w.cell? (ad.add (i * size + j)) = some (us i j)) ∧ (∀ i j y c, xs[i]? = some y → y[j]? = some c → RepC w σ c (us i j)) := by
    cases hx with
    | sl _ sz b cap us hc hs' ha hm hr =>
      refine ⟨us, b, cap, rfl, fun hne => ?_, ?_, hr⟩
      · obtain ⟨ad, h1, h2, _⟩ := ha hne
        exact ⟨ad, h1, h2⟩
      · intro ad hb i j y c hi hj
        have hy := List.mem_of_getElem? hi
        have : sz = size := by rw [← hs' y hy, hs y hy]
        subst this
        exact hm ad hb i j y c hi hj
  refine ⟨flatN us xs.length size, ?_, ?_⟩
  · by_cases hne : xs = []
    · subst hne
      cases b with
      | none => simpa [flatN] using Src.ofNil (size := size) w ht cap
      | some ad => exact Src.ofSlice w ht ad 0 cap _ (by simp [flatN]) (fun j u h => by simp [flatN] at h) (fun u h => by simp [flatN] at h)
    · obtain ⟨ad, rfl, _⟩ := h1 hne
      refine Src.ofSlice w ht ad xs.length cap _ (flatN_length _ _ _) ?_ ?_
      · intro m u hm
        obtain ⟨i, j, hi, hj, rfl, rfl⟩ := flatN_inv us hm
        obtain ⟨y, hy⟩ := getD_len hi
        obtain ⟨c, hc⟩ := getD_len (l := y) (i := j) (by rw [hs y (List.mem_of_getElem? hy)]; exact hj)
        exact h2 ad rfl i j y c hy hc
      · intro u hu
        obtain ⟨m, hm⟩ := List.mem_iff_getElem?.1 hu
        obtain ⟨i, j, hi, hj, rfl, rfl⟩ := flatN_inv us hm
        obtain ⟨y, hy⟩ := getD_len hi
        obtain ⟨c, hc⟩ := getD_len (l := y) (i := j) (by rw [hs y (List.mem_of_getElem? hy)]; exact hj)
        exact (h3 i j y c hy hc).one
  · intro i j y c hi hj
    have hi' : i < xs.length := by
      rcases Nat.lt_or_ge i xs.length with h | h
      · exact h
      · rw [List.getElem?_eq_none h] at hi; cases hi
    have hj' : j < size := by
      rw [← hs y (List.mem_of_getElem? hi)]
      rcases Nat.lt_or_ge j y.length with h | h
      · exact h
      · rw [List.getElem?_eq_none h] at hj; cases hj
    exact ⟨_, flatN_get us hi' hj', h3 i j y c hi hj⟩

theorem row_src (hF : FR F σ w vt) {p : Path} {off len : Nat} {xs : List (List O)} (hp : F.at std p = .osl xs) (hl : off + len ≤ xs.length) {v : Value} (hx : RepA w σ (.rf p off len) v) {size : Nat} (hs : ∀ y ∈ xs, y.length = size)
    {t e : TypeId} (ht : P.underlying t = some (.slice e)) :
    ∃ news, Src P size t v len news w ∧ ∀ (i j : Nat) (y : List O) (o : O), i < len → xs[off + i]? = some y → y[j]? = some o → ∃ u, news[i * size + j]? = some u ∧ RepO w σ (p.1, p.2 ++ [(off + i, j)]) o u := by
  obtain ⟨u, hu⟩ := at_sound hF p
  rw [hp] at hu
  cases hx with
  | rz _ _ b =>
    refine ⟨[], ?_, fun i j y o h => by omega⟩
    cases b with
    | none => exact Src.ofNil w ht 0
    | some ad => exact Src.ofSlice w ht ad 0 0 _ (by simp) (fun j u h => by simp at h) (fun u h => by simp at h)
  | rf _ _ _ g n cap sz hg hl' hn =>
    cases hu with
    | oslz =>
      simp at hl
      obtain ⟨rfl, rfl⟩ := hl
      exact ⟨[], Src.ofSlice w ht _ 0 _ _ (by simp) (fun j u h => by simp at h) (fun u h => by simp at h), fun i j y o h => by omega⟩
    | osl _ _ e' sz' g' cap' cur us hh hc' hcm hl2 hs' hg' hm hr =>
      obtain rfl := hF.inj _ _ _ _ hg hg' rfl
      rw [hg] at hg'
      simp only [Option.some.injEq, Own.mk.injEq] at hg'
      obtain ⟨_, rfl, rfl, rfl⟩ := hg'
      have hz : sz = size := by
        cases xs with
        | nil => simp at hc'
        | cons y r => rw [← hs' y List.mem_cons_self, hs y List.mem_cons_self]
      subst hz
      have hcell : ∀ i j, i < len → j < sz → ∃ y o, xs[off + i]? = some y ∧ y[j]? = some o ∧ w.cell? ⟨g, off * sz + (i * sz + j), none⟩ = some (us (off + i) j) := by
        intro i j hi hj
        obtain ⟨y, hy⟩ := getD_len (l := xs) (i := off + i) (by omega)
        obtain ⟨o, ho⟩ := getD_len (l := y) (i := j) (by rw [hs y (List.mem_of_getElem? hy)]; exact hj)
        refine ⟨y, o, hy, ho, ?_⟩
        rw [cell_of_row w g _ cur e' (0, 0) hh]
        have := hm (off + i) j y o hy ho
        rw [Nat.add_mul] at this
        rw [← Nat.add_assoc, this]
      refine ⟨flatN (fun i j => us (off + i) j) len sz, Src.ofSlice w ht _ len _ _ (flatN_length _ _ _) ?_ ?_, ?_⟩
      · intro m u hm'
        obtain ⟨i, j, hi, hj, rfl, rfl⟩ := flatN_inv _ hm'
        obtain ⟨y, o, h1, h2, h3⟩ := hcell i j hi hj
        rw [addr_add]
        exact h3
      · intro u hu
        obtain ⟨m, hm'⟩ := List.mem_iff_getElem?.1 hu
        obtain ⟨i, j, hi, hj, rfl, rfl⟩ := flatN_inv _ hm'
        obtain ⟨y, o, h1, h2, h3⟩ := hcell i j hi hj
        exact (hr _ _ y o h1 h2).one
      · intro i j y o hi hy ho
        have hj' : j < sz := by
          rw [← hs y (List.mem_of_getElem? hy)]
          rcases Nat.lt_or_ge j y.length with h | h
          · exact h
          · rw [List.getElem?_eq_none h] at ho; cases ho
        exact ⟨_, flatN_get _ hi hj', hr _ _ y o hy ho⟩
end
end Go.Proofs.Ytlmejcmnmdleaaa.Ai
