/- The abstract interpreter, part 15: made slices. -/
import Derived.Test.YtlmejcmnmdleaaaAi14
namespace Go.Proofs.Ytlmejcmnmdleaaa.Ai
open Go Go.RowKit
set_option linter.unusedSectionVars false
set_option linter.unusedSimpArgs false
section
variable [Fence] {P : Program} {T : Nat → Option Ty} {w w' : World} {σ σ' : Gh} {F : Fr} {vt : Nat → Value} {a : Act}

/-- A root whose row is new, or that has no element. -/
theorem row_root (hF : FR F σ w (valT a)) {pend : List (Path × O)} (hd : Dom F σ pend) {id : Nat} (hun : look .un F.tb id = .un) {d : Nat} {ys : List (List O)} {sz cap : Nat} {e : TypeId} {cells : Array Value}
    (hcap : ys.length ≤ cap) (hmax : cap ≤ maxLen) (hsz : cells.size = cap * sz) (hys : ∀ y ∈ ys, y.length = sz) (hc0 : ys.length = 0 → cap = 0)
    (hp : ∀ q' o', (q', o') ∈ pend → ∃ (k j : Nat) (y : List O), ys[k]? = some y ∧ y[j]? = some o' ∧ q' = (id, [(k, j)]))
    (hrep : ∀ (k : Nat) (y : List O) (j : Nat) (o : O), ys[k]? = some y → y[j]? = some o → ∃ u, cells[k * sz + j]? = some u ∧ RepO w σ (id, [(k, j)]) o u) {s : Sem Next} {w0 : World} {σ0 : Gh} (hg : Goes w0 σ0 w σ)
    (hs : s.run P w0 = .ok (.value (.slice (some ⟨w.heap.size, 0, none⟩) ys.length cap)) (w.alloc (.cells cells e))) {n : Nat} (hn : F.n = n) {F0 : Fr} (hn0 : n = F0.n) :
    ∃ v w' σ', Made P F0 σ0 w0 a d s ((F.root id (.osl ys)).put d (rfV id ys.length)) v w' σ' := by
  cases hys' : ys with
  | nil =>
    subst hys'
    obtain rfl := hc0 rfl
    have hd2 : Dom F σ [] := by
      intro g x hx
      rcases hd g x hx with h | ⟨q', o', s, h, _⟩
      · exact .inl h
      · obtain ⟨k, j, y, h, _⟩ := hp q' o' h
        simp at h
    obtain ⟨hF3, hg3⟩ := grow_alloc hF (.cells cells e)
    have hbare : Bare σ (id, []) := by
      rintro g x hx ⟨h7, _⟩
      rcases hd2 g x hx with h | ⟨_, _, _, h, _⟩
      · unfold Fr.at at h
        rw [h7] at h
        dsimp only at h
        rw [hun, at_un] at h
        exact h
      · cases h
    obtain ⟨h7, h8⟩ := mtRoot hF3 hd2 hbare
    exact ⟨_, _, σ, hs, h7.put (show RepT _ _ _ from RepA.rz _ _ _), h8, hg.trans hg3, hn.trans hn0⟩
  | cons y0 ys0 =>
    rw [← hys']
    obtain ⟨hr, h7, h8, h9⟩ := row_made (e := e) (cells := cells) (cap := cap) (sz := sz) hF hd hun (by rw [hys']; simp) hcap hmax hsz hys hp hrep
    exact ⟨_, _, _, hs, h7.put (rfV_sound hr), h8, hg.trans h9, hn.trans hn0⟩

theorem make_made (hT : TyOK P T) (hF : FR F σ w (valT a)) (hd : Dom F σ []) {kn : Bool} {d t e : Nat} {ty : Ty} {g1 : Bool} {g2 g3 : Nat} {g4 : List C} (ht : T t = some ⟨.sl e, g1, g2, g3, g4⟩) (hte : T e = some ty) {l c : Operand} {k1 k2 : IntKind} {n m : Int}
    (hl : ev1 F l = .fz (.int k1 n)) (hc : ev1 F c = .fz (.int k2 m)) (hnm : n = m) (hby : ty.bytes ≤ 4096) (hz0 : 0 < ty.size) (hzl : ty.zero.length = ty.size) (hnu : noUnL ty.zero = true) {ys : List (List O)} (hr : std.oRep n (zeroO kn ty.zero) = some ys)
    {o : Oper} (ho : o.op = .makeSlice t l c) :
    ∃ v w' σ', Made P F σ w a d (execOp a.eval o) (((F.clear std (rid d 0 0)).root (rid d 0 0) (.osl ys)).put d (rfV (rid d 0 0) ys.length)) v w' σ' := by
  subst hnm
  obtain ⟨i, u, z, hi, hu, hz, hty⟩ := tyOf_inv (hT _ _ ht)
  injection hty with hk _ _ _ _
  have hu' := kind_sl hk.symm
  subst hu'
  obtain ⟨i', u', z', hi', hu', hz', rfl⟩ := tyOf_inv (hT _ _ hte)
  dsimp only at hz0 hby hr hnu hzl ⊢
  have hvl := ev1_sound hF l
  have hvc := ev1_sound hF c
  rw [hl] at hvl
  rw [hc] at hvc
  have hvl := hvl.fz_inv.int_inv
  have hvc := hvc.fz_inv.int_inv
  obtain ⟨h0, h1, rfl⟩ : 0 ≤ n ∧ n ≤ (lim : Int) ∧ ys = List.replicate n.toNat (zeroO kn (z'.cells.toList.map zeroC)) := by
    simp only [std] at hr
    split at hr
    · rename_i h; simp at hr; exact ⟨h.1, h.2, hr.symm⟩
    · cases hr
  have hlim : (lim : Int) = 34359738368 := rfl
  have hrun := run_make (P := P) w t e i' z' hu hi' hz' k1 k2 n n h0 (Int.le_refl _) (by
    have : (i'.bytes : Int) * n ≤ 4096 * 34359738368 := Int.mul_le_mul (by omega) (by omega) h0 (by omega)
    omega) (by omega)
  obtain ⟨σ1, hF1, hd1, hb1, hg1⟩ := hF.clear hd (rid d 0 0)
  have hzs : z'.cells.size = i'.size := by simpa using hzl
  have := row_root (P := P) (F := F.clear std (rid d 0 0)) (d := d) (ys := List.replicate n.toNat (zeroO kn (z'.cells.toList.map zeroC))) (sz := i'.size) (cap := n.toNat) (e := e) (cells := madeCells z'.cells (n.toNat * i'.size)) hF1 hd1 clear_look
    (by simp) (by simp only [maxLen]; omega) (size_madeCells _ _) (by
      intro y hy
      rw [(List.mem_replicate.1 hy).2, zeroO_length]
      simp [hzs]) (by simp) (fun _ _ h => by cases h) (by
      intro k y j o hk hj
      obtain ⟨hk1, hk2⟩ : k < n.toNat ∧ y = zeroO kn (z'.cells.toList.map zeroC) := by
        rw [List.getElem?_replicate] at hk
        split at hk
        · rename_i h; simp at hk; exact ⟨h, hk.symm⟩
        · cases hk
      subst hk2
      obtain ⟨u, h2, h3⟩ := zeroO_rep hnu hj w σ1 (rid d 0 0, [(k, j)])
      refine ⟨u, ?_, h3⟩
      have hj' : j < i'.size := by
        rcases Nat.lt_or_ge j z'.cells.size with h | h
        · omega
        · simp [Array.getElem?_eq_none h] at h2
      have hlt : k * i'.size + j < n.toNat * i'.size := by
        have : (k + 1) * i'.size ≤ n.toNat * i'.size := Nat.mul_le_mul_right _ hk1
        rw [Nat.add_mul] at this; omega
      have hmod : (k * i'.size + j) % i'.size = j := by
        rw [Nat.add_comm, Nat.add_mul_mod_self_right, Nat.mod_eq_of_lt hj']
      have hj2 : j < z'.cells.size := by omega
      have h2' : z'.cells[j]? = some u := by simpa using h2
      simp [madeCells, hlt, hzs, hmod, Array.getElem!_eq_getD, hj2, h2']) (w0 := w) (σ0 := σ) hg1 (s := execOp a.eval o) (by
      simp only [execOp, ho, hvl, hvc]
      refine run_valW ?_
      simpa using hrun) (n := F.n) clear_n (F0 := F) rfl
  exact this
end
end Go.Proofs.Ytlmejcmnmdleaaa.Ai
