/- HurryTie and RelaxTie: the laws. -/
import Derived.Test.YtncbdoijakndoaaTy
import Derived.Test.YtncbdoijakndoaaU
import Derived.Test.YtncbdoijakndoaaMK
import Derived.Test.YtncbdoijakndoaaTB
import Derived.Test.YtncbdoijakndoaaTC
import Derived.Test.YtncbdoijakndoaaLI
import Derived.Test.YtncbdoijakndoaaLP
import Derived.Test.YtncbdoijakndoaaMT
import Derived.Test.YtncbdoijakndoaaLT
import Derived.Test.YtncbdoijakndoaaLU
import Derived.Test.YtncbdoijakndoaaLV
import Derived.Test.YtncbdoijakndoaaLW
import Derived.Test.YtncbdoijakndoaaLX
namespace Go.Proofs.Ytncbdoijakndoaa.Ai
open Go
set_option maxRecDepth 100000
set_option linter.unusedVariables false
set_option linter.unusedSimpArgs false
theorem fN_labs {k : Int} {l : List Node} {n : Nat} (h : ∀ q ∈ l, q.label.length ≤ n) : ∀ q ∈ fN k l, q.label.length ≤ n := by
  intro q hq
  obtain ⟨i, hi, rfl⟩ := List.mem_iff_getElem.1 hq
  have h3 : i < l.length := by rw [fN_len] at hi; exact hi
  rw [← getD_get (z := Node.z) hi, fN_getD h3]
  unfold mNd
  dsimp only
  rw [markI_len]
  exact h _ (mem_getD (z := Node.z) h3).out
theorem shT_len (k : Int) (l : List Node) (m : Nat) : (shT k l m).length = m := markTi_len _ _
theorem shG_fN (k : Int) (l : List Node) (m : Nat) : shG k (fN k l) m = shG k l m := by unfold shG; rw [gN_fN]
theorem shT_fN (k : Int) (l : List Node) (m : Nat) : shT k (fN k l) m = shT k l m := by unfold shT; rw [gN_fN]
structure HTi (k : Int) (n : Nat) : Prop where out : n ≤ maxLen ∧ 0 < k ∧ k + 5 * n ≤ 4611686018427387904
def wHeldTi (g : Int → Nat → Int) (f : Int → Nat → List Tie) (ln : List Tie → Nat) : Wr := w2 dcTies dcI (fun l k => rI (g k (ln l))) (fun l k => [Same l (f k (ln l)), HTi k (ln l)])
theorem wHeldTi_ok : WrOK Try.prog 34 (wHeldTi addT markTi List.length) := w2_ok fun l k h => by
  have e := (h _ (.head _)).out
  obtain ⟨h1, h2⟩ := (h _ (.tail _ (.head _))).out
  have := heldTieS_ok k l.length h1 h2
  rwa [← e] at this
structure HN (l : List Node) (k b : Int) : Prop where out : l.length ≤ maxLen ∧ (∀ q ∈ l, q.label.length ≤ maxLen) ∧ 0 < k ∧ b ≤ 4611686018427387904
def wHeldN (g : Int → List Node → Int) (f : Int → List Node → List Node) : Wr := w2 dcNodes dcI (fun l k => rI (g k l)) (fun l k => [Same l (f k l), HN l k (g k l)])
theorem wHeldN_ok : WrOK Try.prog 33 (wHeldN gN fN) := w2_ok fun l k h => by
  have e := (h _ (.head _)).out
  obtain ⟨h1, h2, h3⟩ := (h _ (.tail _ (.head _))).out
  have := heldNodeS_ok k l h1 h2 h3
  rwa [← e] at this
theorem heldShow_ok (hr k : Int) (l : List Node) (m : Nat) (h1 : l.length ≤ maxLen) (h2 : ∀ q ∈ l, q.label.length ≤ maxLen) (h3 : m ≤ maxLen) (hk : 0 < k ∧ shG k l m ≤ 4611686018427387904) : SCall Try.prog 12 [aShow ⟨fN k l, shT k l m, hr⟩, aI k] (rI (shG k l m)) := by
  refine SCall.of X12_ok (fn := Try.f12) (c := Try.f12.body.getD .skip) (dr := fun n => look 0 [] n) Try.func12 rfl (by kernel_rfl) (by kernel_rfl) (by kernel_rfl) ?_
  obtain ⟨a, ha⟩ : ∃ a, a = fN k l := ⟨_, rfl⟩
  obtain ⟨b, hb⟩ : ∃ b, b = shT k l m := ⟨_, rfl⟩
  obtain ⟨r, hr0⟩ : ∃ r, r = shG k l m := ⟨_, rfl⟩
  obtain ⟨g1, hg1⟩ : ∃ f, f = gN := ⟨_, rfl⟩
  obtain ⟨g2, hg2⟩ : ∃ f, f = addT := ⟨_, rfl⟩
  obtain ⟨f1, hf1⟩ : ∃ f, f = fN := ⟨_, rfl⟩
  obtain ⟨f2, hf2⟩ : ∃ f, f = markTi := ⟨_, rfl⟩
  obtain ⟨ln, hln⟩ : ∃ f, f = @List.length Tie := ⟨_, rfl⟩
  have hO : SOraOK Try.prog (oraL [(33, wHeldN g1 f1), (34, wHeldTi g2 f2 ln)]) := by subst hg1 hg2 hf1 hf2 hln; exact oraL_cons wHeldN_ok (oraL_cons wHeldTi_ok oraL_nil)
  have hp := kN_mono k l 0 l.length
  rw [kN_zero, Nat.zero_add] at hp
  have hp1 : 0 < g1 k a := by rw [hg1, ha, gN_fN]; unfold gN; omega
  have e1 : ln b = m := by rw [hln, hb, shT_len]
  have e2 : g2 (g1 k a) m = r := by rw [hg2, hg1, ha, gN_fN, hr0]; rfl
  have e3 : r = g1 k a + 5 * m := by rw [← e2, hg2]; rfl
  have q1 : a = f1 k a := by rw [ha, hf1, fN_fN]
  have q2 : b = f2 (g1 k a) m := by rw [hb, hf2, hg1, ha, gN_fN]; rfl
  have q3 : a.length ≤ maxLen := by rw [ha, fN_len]; exact h1
  have q4 : ∀ q ∈ a, q.label.length ≤ maxLen := by rw [ha]; exact fN_labs h2
  have hk2 := hk.2
  rw [← ha, ← hb, ← hr0]
  rw [← hr0] at hk2
  refine SEx.go (X := X12) X12_ok (fun n => look [] [] n) (fun _ => none) hO 60 ?_
  intro M R L N hM hAnd hImp hR hL hN
  cases M
  cbv
  repeat' first | (refine hAnd _ _ ?_ ?_) | (refine hImp _ _ (fun h => ?_)) | (refine hR _ ?_) | (refine hL _ _ (Hd.out ?_); try first | rw [hks] | rw [hk2] | rw [hk3]) | (refine hN _ _ ?_; cbv)
  all_goals (clear hAnd hImp hR hL hN; try clear hks; try clear hk2; try clear hk3)
  all_goals (cases hM; try dsimp only)
  all_goals (try simp only [Bool.not_eq_true', Bool.not_eq_false', decide_eq_true_eq, decide_eq_false_iff_not, Int.not_le, Int.not_lt, beq_iff_eq, beq_eq_false_iff_ne, ne_eq, Int.ofNat_eq_natCast, Int.toNat_natCast, List.length_replicate, ncast, Nat.sub_zero, List.drop_zero, Cue.eta, Tie.eta, Edge.eta, Link.eta, Node.eta] at *)
  all_goals (clear hO)
  all_goals (simp only [e1, e2] at *)
  all_goals first
    | omega
    | rfl
    | exact ⟨q1⟩
    | exact ⟨q2⟩
    | exact ⟨q3, q4, hk.1, by omega⟩
    | exact ⟨h3, hp1, by omega⟩
    | (exfalso; omega)
    | skip
structure HSh (t : Show) (k : Int) (n : Nat) (b : Int) : Prop where out : t.nodes = fN k t.nodes ∧ t.ties = shT k t.nodes n ∧ n = t.ties.length ∧ t.nodes.length ≤ maxLen ∧ (∀ q ∈ t.nodes, q.label.length ≤ maxLen) ∧ n ≤ maxLen ∧ 0 < k ∧ b ≤ 4611686018427387904
def wHeldShow (g : Int → List Node → Nat → Int) (ln : List Tie → Nat) : Wr := w2 dcShow dcI (fun t k => rI (g k t.nodes (ln t.ties))) (fun t k => [HSh t k (ln t.ties) (g k t.nodes (ln t.ties))])
theorem wHeldShow_ok : WrOK Try.prog 12 (wHeldShow shG List.length) := w2_ok fun t k h => by
  obtain ⟨e1, e2, _, h1, h2, h3, h4⟩ := (h _ (.head _)).out
  have := heldShow_ok t.hor k t.nodes t.ties.length h1 h2 h3 h4
  rw [← e1, ← e2] at this
  exact this
theorem shG_of {l : List Node} {m : Nat} (h1 : l.length ≤ 1048576) (h2 : ∀ q ∈ l, q.label.length ≤ 1048576) (h3 : m ≤ 1048576) : 0 < shG 1 l m ∧ shG 1 l m ≤ 4000000000000 := by
  have a := kN_le 1 h2 l.length (Nat.le_refl _)
  have b := kN_mono 1 l 0 l.length
  rw [kN_zero, Nat.zero_add] at b
  unfold shG addT gN
  omega
theorem shx_MkSh (s : Show) (h : ShowMem s) : MkSh (lrt 0, []) (lrt 1, []) s.nodes.length s.nodes.length s.ties.length s.ties.length s.nodes s.ties 1 (shG 1 s.nodes s.ties.length) := by
  have := shG_of h.len h.labs h.tlen
  exact ⟨⟨rfl, rfl, rfl, rfl⟩, rfl, rfl, Nat.le_trans h.len (by decide), Nat.le_trans h.tlen (by decide), fun q hq => Nat.le_trans (h.labs q hq) (by decide), by decide, by omega⟩
theorem shx_HSh (s : Show) (h : ShowMem s) : HSh ⟨fN 1 s.nodes, shT 1 s.nodes s.ties.length, s.hor⟩ 1 s.ties.length (shG 1 s.nodes s.ties.length) := by
  have := shG_of h.len h.labs h.tlen
  exact ⟨(fN_fN _ _).symm, (shT_fN _ _ _).symm, (shT_len _ _ _).symm, by dsimp only; rw [fN_len]; exact Nat.le_trans h.len (by decide), fun q hq => Nat.le_trans (fN_labs h.labs q hq) (by decide), Nat.le_trans h.tlen (by decide), by decide, by omega⟩
theorem tieX_or (fr : Bool) (t : Show) (k y : Int) : tieX fr t k y = wideS t k (sgB fr y) ∨ tieX fr t k y = ⟨[], [], 0⟩ := by
  unfold tieX
  cases tieOk fr t k y
  · exact .inr rfl
  · exact .inl rfl
theorem tieX_mem {fr : Bool} {t : Show} {k y : Int} (h : ShowMem t) : ShowMem (tieX fr t k y) := by
  rcases tieX_or fr t k y with e | e <;> rw [e]
  · exact ⟨h.len, by unfold wideS; rw [modL_length]; exact h.tlen, h.labs⟩
  · exact ⟨Nat.zero_le _, Nat.zero_le _, fun q hq => by cases hq⟩
theorem tieX_le {fr : Bool} {t : Show} {k y : Int} (h : ShowLe t) : ShowLe (tieX fr t k y) := by
  rcases tieX_or fr t k y with e | e <;> rw [e]
  · exact wideS_le h _ _
  · exact ⟨Nat.zero_le _, Nat.zero_le _, fun q hq => by cases hq⟩
theorem ShowSz.mem {t : Show} {n : Int} (h : ShowSz t n) : ShowMem t := ⟨h.len, h.tlen, h.labs⟩
set_option maxHeartbeats 8000000 in
theorem lawHurryTie_ok (t : Show) (k y : Int) (ht : ShowIn t) (hk : inI k) (hy : inI y) : SCall Try.prog 3 [aShow t, aI k, aI y] (rB true) := by
  refine SCall.of X3_ok (fn := Try.f3) (c := Try.f3.body.getD .skip) (dr := fun n => look 0 [(10, 3)] n) Try.func3 rfl (by kernel_rfl) (by kernel_rfl) (by kernel_rfl) ?_
  obtain ⟨fs, hfs⟩ : ∃ f, f = tieX true := ⟨_, rfl⟩
  obtain ⟨f, hf⟩ : ∃ f, f = tieOk true := ⟨_, rfl⟩
  obtain ⟨g, hg⟩ : ∃ g, g = szShowI := ⟨_, rfl⟩
  obtain ⟨f1, hf1⟩ : ∃ f, f = fN := ⟨_, rfl⟩
  obtain ⟨f2, hf2⟩ : ∃ f, f = shT := ⟨_, rfl⟩
  obtain ⟨g1, hg1⟩ : ∃ f, f = shG := ⟨_, rfl⟩
  obtain ⟨ln, hln⟩ : ∃ f, f = @List.length Tie := ⟨_, rfl⟩
  have hO : SOraOK Try.prog (oraL [(6, wSzShow g), (8, wToShow), (7, wTieX fs f), (9, wTieX fs f), (10, wEqShow), (12, wHeldShow g1 ln)]) := by
    subst hfs hf hg hg1 hln
    exact oraL_cons wSzShow_ok (oraL_cons wToShow_ok (oraL_cons wHurryTieS_ok (oraL_cons wHurryTieI_ok (oraL_cons wEqShow_ok (oraL_cons wHeldShow_ok oraL_nil)))))
  have hW : SOraWOK Try.prog (X3.withW [(11, [(0, 0), (0, 1)])] (oraWL [(11, wMarkShow f1 f2 g1)])) := by
    subst hf1 hf2 hg1
    exact SX.withW_ok (oraWL_cons wMarkShow_ok oraWL_nil)
  have hA : 0 ≤ g t 1048576 → ShowSz t (g t 1048576) := fun h => by rw [hg] at h ⊢; exact showSz h
  have h1 := ht.le
  have hQ : ShowLe (fs t k y) := by rw [hfs]; exact tieX_le h1
  have hM : 0 ≤ g t 1048576 → ShowMem (fs t k y) := fun h => by rw [hfs]; exact tieX_mem (hA h).mem
  have hn : ∀ q ∈ t.nodes, NodeLe q maxLen := fun q hq => ⟨(ht.nodes q hq).name, (ht.nodes q hq).len⟩
  have hn2 : ∀ q ∈ (fs t k y).nodes, NodeLe q maxLen := fun q hq => ⟨(hQ.nodes q hq).name, (hQ.nodes q hq).len⟩
  clear ht hfs hf hg
  obtain ⟨ns, ts, hr⟩ := t
  refine SEx.go (X := (X3.withW [(11, [(0, 0), (0, 1)])] (oraWL [(11, wMarkShow f1 f2 g1)]))) X3_ok (fun n => look [] [] n) (fun _ => none) hO 120 ?_ hW
  intro M R L N hM hAnd hImp hR hL hN
  cases M
  cbv
  repeat' first | (refine hAnd _ _ ?_ ?_) | (refine hImp _ _ (fun h => ?_)) | (refine hR _ ?_) | (refine hL _ _ (Hd.out ?_); try first | rw [hks] | rw [hk2] | rw [hk3]) | (refine hN _ _ ?_; cbv)
  all_goals (clear hAnd hImp hR hL hN; try clear hks; try clear hk2; try clear hk3)
  all_goals (cases hM; try dsimp only)
  all_goals (try simp only [Bool.not_eq_true', Bool.not_eq_false', decide_eq_true_eq, decide_eq_false_iff_not, Int.not_le, Int.not_lt, beq_iff_eq, beq_eq_false_iff_ne, ne_eq, Int.ofNat_eq_natCast, Int.toNat_natCast, List.length_replicate, ncast, Nat.sub_zero, List.drop_zero, Cue.eta, Tie.eta, Edge.eta, Link.eta, Node.eta] at *)
  all_goals (clear hO hW; subst hf1 hf2 hg1 hln)
  all_goals (try simp only [fN_len, shT_len, shG_fN] at *)
  all_goals (try (have hC := hA (by assumption); have hD := hM (by assumption)))
  all_goals (try (have hE := shG_of hC.len hC.labs hC.tlen; have hF := shG_of hD.len hD.labs hD.tlen))
  all_goals first
    | rfl
    | contradiction
    | exact ⟨h1.len⟩
    | exact ⟨h1.tlen⟩
    | exact ⟨hn⟩
    | exact ⟨hQ.len⟩
    | exact ⟨hQ.tlen⟩
    | exact ⟨hn2⟩
    | exact ⟨⟨by decide, by decide⟩⟩
    | exact ⟨hC.len⟩
    | exact ⟨hC.tlen⟩
    | exact ⟨hC.labs⟩
    | exact ⟨hD.len⟩
    | exact ⟨hD.tlen⟩
    | exact ⟨hD.labs⟩
    | exact ⟨h1, hC.mem, hk, hy⟩
    | exact ⟨rfl⟩
    | exact ⟨fun q hq => (h1.nodes q hq).len⟩
    | exact ⟨fun q hq => (hQ.nodes q hq).len⟩
    | exact absurd trivial (by assumption)
    | exact absurd rfl (by assumption)
    | exact shx_MkSh ⟨ns, ts, hr⟩ hC.mem
    | exact shx_MkSh (fs ⟨ns, ts, hr⟩ k y) hD
    | exact shx_HSh (fs ⟨ns, ts, hr⟩ k y) hD
    | exact (fN_len _ _).symm
    | exact (shT_len _ _ _).symm
    | (exfalso; omega)
    | skip
set_option maxHeartbeats 8000000 in
theorem lawRelaxTie_ok (t : Show) (k y : Int) (ht : ShowIn t) (hk : inI k) (hy : inI y) : SCall Try.prog 4 [aShow t, aI k, aI y] (rB true) := by
  refine SCall.of X4_ok (fn := Try.f4) (c := Try.f4.body.getD .skip) (dr := fun n => look 0 [(10, 3)] n) Try.func4 rfl (by kernel_rfl) (by kernel_rfl) (by kernel_rfl) ?_
  obtain ⟨fs, hfs⟩ : ∃ f, f = tieX false := ⟨_, rfl⟩
  obtain ⟨f, hf⟩ : ∃ f, f = tieOk false := ⟨_, rfl⟩
  obtain ⟨g, hg⟩ : ∃ g, g = szShowI := ⟨_, rfl⟩
  obtain ⟨f1, hf1⟩ : ∃ f, f = fN := ⟨_, rfl⟩
  obtain ⟨f2, hf2⟩ : ∃ f, f = shT := ⟨_, rfl⟩
  obtain ⟨g1, hg1⟩ : ∃ f, f = shG := ⟨_, rfl⟩
  obtain ⟨ln, hln⟩ : ∃ f, f = @List.length Tie := ⟨_, rfl⟩
  have hO : SOraOK Try.prog (oraL [(6, wSzShow g), (8, wToShow), (13, wTieX fs f), (14, wTieX fs f), (10, wEqShow), (12, wHeldShow g1 ln)]) := by
    subst hfs hf hg hg1 hln
    exact oraL_cons wSzShow_ok (oraL_cons wToShow_ok (oraL_cons wRelaxTieS_ok (oraL_cons wRelaxTieI_ok (oraL_cons wEqShow_ok (oraL_cons wHeldShow_ok oraL_nil)))))
  have hW : SOraWOK Try.prog (X4.withW [(11, [(0, 0), (0, 1)])] (oraWL [(11, wMarkShow f1 f2 g1)])) := by
    subst hf1 hf2 hg1
    exact SX.withW_ok (oraWL_cons wMarkShow_ok oraWL_nil)
  have hA : 0 ≤ g t 1048576 → ShowSz t (g t 1048576) := fun h => by rw [hg] at h ⊢; exact showSz h
  have h1 := ht.le
  have hQ : ShowLe (fs t k y) := by rw [hfs]; exact tieX_le h1
  have hM : 0 ≤ g t 1048576 → ShowMem (fs t k y) := fun h => by rw [hfs]; exact tieX_mem (hA h).mem
  have hn : ∀ q ∈ t.nodes, NodeLe q maxLen := fun q hq => ⟨(ht.nodes q hq).name, (ht.nodes q hq).len⟩
  have hn2 : ∀ q ∈ (fs t k y).nodes, NodeLe q maxLen := fun q hq => ⟨(hQ.nodes q hq).name, (hQ.nodes q hq).len⟩
  clear ht hfs hf hg
  obtain ⟨ns, ts, hr⟩ := t
  refine SEx.go (X := (X4.withW [(11, [(0, 0), (0, 1)])] (oraWL [(11, wMarkShow f1 f2 g1)]))) X4_ok (fun n => look [] [] n) (fun _ => none) hO 120 ?_ hW
  intro M R L N hM hAnd hImp hR hL hN
  cases M
  cbv
  repeat' first | (refine hAnd _ _ ?_ ?_) | (refine hImp _ _ (fun h => ?_)) | (refine hR _ ?_) | (refine hL _ _ (Hd.out ?_); try first | rw [hks] | rw [hk2] | rw [hk3]) | (refine hN _ _ ?_; cbv)
  all_goals (clear hAnd hImp hR hL hN; try clear hks; try clear hk2; try clear hk3)
  all_goals (cases hM; try dsimp only)
  all_goals (try simp only [Bool.not_eq_true', Bool.not_eq_false', decide_eq_true_eq, decide_eq_false_iff_not, Int.not_le, Int.not_lt, beq_iff_eq, beq_eq_false_iff_ne, ne_eq, Int.ofNat_eq_natCast, Int.toNat_natCast, List.length_replicate, ncast, Nat.sub_zero, List.drop_zero, Cue.eta, Tie.eta, Edge.eta, Link.eta, Node.eta] at *)
  all_goals (clear hO hW; subst hf1 hf2 hg1 hln)
  all_goals (try simp only [fN_len, shT_len, shG_fN] at *)
  all_goals (try (have hC := hA (by assumption); have hD := hM (by assumption)))
  all_goals (try (have hE := shG_of hC.len hC.labs hC.tlen; have hF := shG_of hD.len hD.labs hD.tlen))
  all_goals first
    | rfl
    | contradiction
    | exact ⟨h1.len⟩
    | exact ⟨h1.tlen⟩
    | exact ⟨hn⟩
    | exact ⟨hQ.len⟩
    | exact ⟨hQ.tlen⟩
    | exact ⟨hn2⟩
    | exact ⟨⟨by decide, by decide⟩⟩
    | exact ⟨hC.len⟩
    | exact ⟨hC.tlen⟩
    | exact ⟨hC.labs⟩
    | exact ⟨hD.len⟩
    | exact ⟨hD.tlen⟩
    | exact ⟨hD.labs⟩
    | exact ⟨h1, hC.mem, hk, hy⟩
    | exact ⟨rfl⟩
    | exact ⟨fun q hq => (h1.nodes q hq).len⟩
    | exact ⟨fun q hq => (hQ.nodes q hq).len⟩
    | exact absurd trivial (by assumption)
    | exact absurd rfl (by assumption)
    | exact shx_MkSh ⟨ns, ts, hr⟩ hC.mem
    | exact shx_MkSh (fs ⟨ns, ts, hr⟩ k y) hD
    | exact shx_HSh (fs ⟨ns, ts, hr⟩ k y) hD
    | exact (fN_len _ _).symm
    | exact (shT_len _ _ _).symm
    | (exfalso; omega)
    | skip
end Go.Proofs.Ytncbdoijakndoaa.Ai
