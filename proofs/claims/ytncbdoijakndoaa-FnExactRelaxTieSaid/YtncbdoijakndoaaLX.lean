/- Marks of shows that are held. -/
import Derived.Test.YtncbdoijakndoaaTy
import Derived.Test.YtncbdoijakndoaaU
import Derived.Test.YtncbdoijakndoaaMK
import Derived.Test.YtncbdoijakndoaaMT
namespace Go.Proofs.Ytncbdoijakndoaa.Ai
open Go
set_option maxRecDepth 100000
set_option linter.unusedVariables false
set_option linter.unusedSimpArgs false
theorem markTi_getD {k : Int} {n i : Nat} (h : i < n) : (markTi k n).getD i Tie.z = mTie (k + 5 * (i : Nat)) := by
  rw [getD_get (by rw [markTi_len]; exact h)]; simp [markTi]
theorem heldTieS_ok (k : Int) (n : Nat) (h1 : n ≤ maxLen) (hk : 0 < k ∧ k + 5 * n ≤ 4611686018427387904) : SCall Try.prog 34 [aTies (markTi k n), aI k] (rI (addT k n)) := by
  refine SCall.of X34_ok (fn := Try.f34) (c := Try.f34.body.getD .skip) (dr := fun n => look 0 [] n) Try.func34 rfl (by kernel_rfl) (by kernel_rfl) (by kernel_rfl) ?_
  obtain ⟨c, hc⟩ : ∃ c, c = markTi k n := ⟨_, rfl⟩
  have hcl : c.length = n := by rw [hc, markTi_len]
  rw [← hc]
  refine SEx.go (X := X34) X34_ok (fun n => look [] [(2, [0, 1, 5])] n) (fun _ => none) oraL_nil 60 ?_
  intro M R L N hM hAnd hImp hR hL hN
  cases M
  cbv
  repeat' first | (refine hAnd _ _ ?_ ?_) | (refine hImp _ _ (fun h => ?_)) | (refine hR _ ?_) | (refine hL _ _ (Hd.out ?_); generalize hks : (List.cons _ _ : List K) = ks) | (refine hN _ _ ?_; cbv)
  all_goals (clear hAnd hImp hR hL hN)
  all_goals (cases hM; try dsimp only)
  all_goals (try simp only [Bool.not_eq_true', Bool.not_eq_false', decide_eq_true_eq, decide_eq_false_iff_not, Int.not_le, Int.not_lt, beq_iff_eq, beq_eq_false_iff_ne, ne_eq, Int.ofNat_eq_natCast, Int.toNat_natCast, List.length_replicate, ncast, Nat.sub_zero, List.drop_zero, Cue.eta, Tie.eta, Edge.eta, Link.eta, Node.eta] at *)
  refine ⟨SEx.same (SEx.idx n (fun i => ⟨60, [(0, bL (.tie c)), (1, bI (k + 5 * i)), (5, bI i)], []⟩) (fun _ => rI (addT k n)) ?_) (by rw [show k + 5 * ((0 : Nat) : Int) = k by omega]; rfl) rfl⟩
  intro i hi ih
  rw [← hks]
  obtain ⟨q, hq⟩ : ∃ q, q = k + 5 * (i : Int) := ⟨_, rfl⟩
  have hg : i < n → c.getD i Tie.z = mTie q := fun h => by rw [hc, hq, markTi_getD h]
  rw [← hq]
  have e1 : i < n → IntKind.i64.wrap (q + 1) = q + 1 := fun h => by rw [wrap_i64 (by omega) (by omega)]
  have e2 : i < n → IntKind.i64.wrap (q + 1 + 1) = q + 2 := fun h => by rw [wrap_i64 (by omega) (by omega)]; omega
  have e3 : i < n → IntKind.i64.wrap (q + 2 + 1) = q + 3 := fun h => by rw [wrap_i64 (by omega) (by omega)]; omega
  have e4 : i < n → IntKind.i64.wrap (q + 3 + 1) = q + 4 := fun h => by rw [wrap_i64 (by omega) (by omega)]; omega
  have e5 : i < n → IntKind.i64.wrap (q + 4 + 1) = q + 5 := fun h => by rw [wrap_i64 (by omega) (by omega)]; omega
  unfold maxLen at h1
  refine SEx.go (X := X34) X34_ok (fun n => look [] [(2, [0, 1, 5])] n) (fun _ => none) oraL_nil 90 ?_
  intro M R L N hM hAnd hImp hR hL hN
  cases M
  cbv
  repeat' first | (refine hAnd _ _ ?_ ?_) | (refine hImp _ _ (fun h => ?_)) | (refine hR _ ?_) | (refine hL _ _ (Hd.out ?_); try first | rw [hks] | rw [hk2] | rw [hk3]) | (refine hN _ _ ?_; cbv)
  all_goals (clear hAnd hImp hR hL hN; try clear hks; try clear hk2; try clear hk3)
  all_goals (cases hM; try dsimp only)
  all_goals (try simp only [Bool.not_eq_true', Bool.not_eq_false', decide_eq_true_eq, decide_eq_false_iff_not, Int.not_le, Int.not_lt, beq_iff_eq, beq_eq_false_iff_ne, ne_eq, Int.ofNat_eq_natCast, Int.toNat_natCast, List.length_replicate, ncast, Nat.sub_zero, List.drop_zero, Cue.eta, Tie.eta, Edge.eta, Link.eta, Node.eta] at *)
  all_goals first
    | omega
    | (obtain rfl : i = n := by omega
       subst hq; rfl)
    | skip
  all_goals (have hin : i < n := by omega)
  all_goals (have a1 := e1 hin; have a2 := e2 hin; have a3 := e3 hin; have a4 := e4 hin; have a5 := e5 hin; have hgi := hg hin)
  all_goals (simp only [hgi, mTie, a1, a2, a3, a4, a5] at *)
  all_goals first
    | omega
    | contradiction
    | (exfalso; simp_all; done)
    | (simp only [wrap_succ (show i < 9223372036854775807 by omega)]
       refine ⟨(ih hin).same ?_ rfl⟩
       rw [hq, show k + 5 * ((i + 1 : Nat) : Int) = k + 5 * (i : Int) + 5 by omega]
       rfl)
    | skip
theorem kN_map (k : Int) (l : List Node) (i : Nat) : kN k l i = k + ((((l.map nLen).take i).sum : Nat) : Int) := by
  unfold kN
  rw [List.map_take]
theorem fN_getD {k : Int} {l : List Node} {i : Nat} (h : i < l.length) : (fN k l).getD i Node.z = mNd (kN k l i) (l.getD i Node.z).label.length := by
  rw [getD_get (by rw [fN_len]; exact h)]; simp [fN, mNS]
theorem fN_nLen (k : Int) (l : List Node) : (fN k l).map nLen = l.map nLen := by
  apply List.ext_getElem
  · simp [fN_len]
  · intro i h1 h2
    have h3 : i < l.length := by simpa using h2
    have h4 : i < (fN k l).length := by rw [fN_len]; exact h3
    rw [List.getElem_map, List.getElem_map, ← getD_get (z := Node.z) h4, ← getD_get (z := Node.z) h3, fN_getD h3]
    unfold nLen mNd
    dsimp only
    rw [markI_len]
theorem gN_fN (k : Int) (l : List Node) : gN k (fN k l) = gN k l := by
  unfold gN
  rw [kN_map, kN_map, fN_nLen, fN_len]
theorem fN_fN (k : Int) (l : List Node) : fN k (fN k l) = fN k l := by
  apply List.ext_getElem
  · simp [fN_len]
  · intro i h1 h2
    have h3 : i < l.length := by simpa [fN_len] using h2
    have h4 : i < (fN k l).length := by rw [fN_len]; exact h3
    rw [← getD_get (z := Node.z) h1, ← getD_get (z := Node.z) h2, fN_getD h4, fN_getD h3, kN_map, kN_map, fN_nLen]
    unfold mNd
    dsimp only
    rw [markI_len]
theorem heldNodeS_ok (k : Int) (l : List Node) (h1 : l.length ≤ maxLen) (hx : ∀ q ∈ l, q.label.length ≤ maxLen) (hk : 0 < k ∧ gN k l ≤ 4611686018427387904) : SCall Try.prog 33 [aNodes (fN k l), aI k] (rI (gN k l)) := by
  refine SCall.of X33_ok (fn := Try.f33) (c := Try.f33.body.getD .skip) (dr := fun n => look 0 [(4, 7)] n) Try.func33 rfl (by kernel_rfl) (by kernel_rfl) (by kernel_rfl) ?_
  obtain ⟨n, hn⟩ : ∃ n, n = l.length := ⟨_, rfl⟩
  obtain ⟨c, hc⟩ : ∃ c, c = fN k l := ⟨_, rfl⟩
  have hcl : c.length = n := by rw [hc, fN_len, hn]
  obtain ⟨r, hr⟩ : ∃ r, r = gN k l := ⟨_, rfl⟩
  rw [← hc, ← hr]
  obtain ⟨f, hf⟩ : ∃ f, f = mT := ⟨_, rfl⟩
  obtain ⟨f2, hf2⟩ : ∃ f, f = markI := ⟨_, rfl⟩
  obtain ⟨g2, hg2⟩ : ∃ f, f = addI := ⟨_, rfl⟩
  obtain ⟨ln, hln⟩ : ∃ f, f = @List.length Int := ⟨_, rfl⟩
  have hO : SOraOK Try.prog (oraL [(60, wMarkT f), (61, wHeldI g2 f2 ln)]) := by subst hf hf2 hg2 hln; exact oraL_cons (w1_ok fun q h => markText_ok q (h _ (.head _)).out) (oraL_cons wHeldI_ok oraL_nil)
  refine SEx.go (X := X33) X33_ok (fun n => look [] [(2, [0, 1, 5])] n) (fun _ => none) hO 60 ?_
  intro M R L N hM hAnd hImp hR hL hN
  cases M
  cbv
  repeat' first | (refine hAnd _ _ ?_ ?_) | (refine hImp _ _ (fun h => ?_)) | (refine hR _ ?_) | (refine hL _ _ (Hd.out ?_); generalize hks : (List.cons _ _ : List K) = ks) | (refine hN _ _ ?_; cbv)
  all_goals (clear hAnd hImp hR hL hN)
  all_goals (cases hM; try dsimp only)
  all_goals (try simp only [Bool.not_eq_true', Bool.not_eq_false', decide_eq_true_eq, decide_eq_false_iff_not, Int.not_le, Int.not_lt, beq_iff_eq, beq_eq_false_iff_ne, ne_eq, Int.ofNat_eq_natCast, Int.toNat_natCast, List.length_replicate, ncast, Nat.sub_zero, List.drop_zero, Cue.eta, Tie.eta, Edge.eta, Link.eta, Node.eta] at *)
  refine ⟨SEx.same (SEx.idx n (fun i => ⟨41, [(0, .v (false, [.fz (.sl (.node false none c))])), (1, bI (kN k l i)), (5, bI i)], []⟩) (fun _ => rI r) ?_) (by rw [kN_zero]; rfl) rfl⟩
  intro i hi ih
  rw [← hks]
  obtain ⟨q, hq⟩ : ∃ q, q = kN k l i := ⟨_, rfl⟩
  have h5 := kN_mono k l 0 i
  rw [Nat.zero_add, kN_zero, ← hq] at h5
  rw [← hq]
  obtain ⟨u, hL⟩ : ∃ u, u = (l.getD i Node.z).label.length := ⟨_, rfl⟩
  have hE : i < n → c.getD i Node.z = ⟨f q, f2 (q + 1) u, q + 1 + u⟩ := fun h => by rw [hc, hf2, hf, hq, hL, fN_getD (by omega)]; rfl
  have hN : i < n → kN k l (i + 1) = q + u + 2 := fun h => by rw [kN_succ (by omega), hq, hL]
  have hM : i < n → kN k l (i + 1) ≤ 4611686018427387904 := fun h => by
    have h4 := kN_mono k l (i + 1) (n - (i + 1))
    rw [show i + 1 + (n - (i + 1)) = l.length by omega] at h4
    have := hk.2
    unfold gN at this
    omega
  have hX : i < n → u ≤ maxLen := fun h => by rw [hL]; exact hx _ (mem_getD (z := Node.z) (by omega)).out
  have hLn : ln (f2 (q + 1) u) = u := by rw [hln, hf2, markI_len]
  have hGn : g2 (q + 1) u = q + 1 + u := by rw [hg2]; rfl
  unfold maxLen at h1
  refine SEx.go (X := X33) X33_ok (fun n => look [] [(2, [0, 1, 5])] n) (fun _ => none) hO 90 ?_
  intro M R L N hM hAnd hImp hR hL hN
  cases M
  cbv
  repeat' first | (refine hAnd _ _ ?_ ?_) | (refine hImp _ _ (fun h => ?_)) | (refine hR _ ?_) | (refine hL _ _ (Hd.out ?_); try first | rw [hks] | rw [hk2] | rw [hk3]) | (refine hN _ _ ?_; cbv)
  all_goals (clear hAnd hImp hR hL hN; try clear hks; try clear hk2; try clear hk3)
  all_goals (cases hM; try dsimp only)
  all_goals (try simp only [Bool.not_eq_true', Bool.not_eq_false', decide_eq_true_eq, decide_eq_false_iff_not, Int.not_le, Int.not_lt, beq_iff_eq, beq_eq_false_iff_ne, ne_eq, Int.ofNat_eq_natCast, Int.toNat_natCast, List.length_replicate, ncast, Nat.sub_zero, List.drop_zero, Cue.eta, Tie.eta, Edge.eta, Link.eta, Node.eta] at *)
  all_goals (clear hO)
  all_goals first
    | omega
    | (have hin : i = n := by omega
       subst hin
       subst hr hq
       rw [hn]; rfl)
    | skip
  all_goals (have hin : i < n := by omega)
  all_goals (have b1 := hE hin; have b2 := hN hin; have b3 := hM hin; have b4 := hX hin)
  all_goals (have a1 : IntKind.i64.wrap (q + 1) = q + 1 := wrap_i64 (by omega) (by omega))
  all_goals (have a2 : IntKind.i64.wrap (q + 1 + u + 1) = q + u + 2 := by rw [wrap_i64 (by omega) (by omega)]; omega)
  all_goals (simp only [b1, a1, hLn, hGn, a2] at *)
  all_goals first
    | omega
    | contradiction
    | exact ⟨⟨by omega, by omega⟩⟩
    | exact ⟨by omega⟩
    | exact ⟨by rw [hf2, markI_len]; exact b4⟩
    | exact ⟨rfl⟩
    | exact ⟨⟨by omega, by omega⟩⟩
    | (exfalso; omega)
    | (exfalso; simp_all; done)
    | (simp only [wrap_succ (show i < 9223372036854775807 by omega)]
       refine ⟨(ih hin).same ?_ rfl⟩
       rw [b2]
       rfl)
    | skip
end Go.Proofs.Ytncbdoijakndoaa.Ai
