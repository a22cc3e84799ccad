/- Elements are deleted from a slice that is lent. -/
import Derived.Test.YtececadpjelanaaTy
import Derived.Test.YtececadpjelanaaLZ
namespace Go.Proofs.Ytececadpjelanaa.Ai
open Go
set_option maxRecDepth 100000
set_option linter.unusedVariables false
set_option linter.unusedSimpArgs false
def keepL (p : Int → Bool) (l : List Int) : List Int := l.filter fun x => !p x
def delL (p : Int → Bool) (l : List Int) : List Int := keepL p l ++ List.replicate (l.length - (keepL p l).length) 0
/-- A predicate that came in as a closure, and what else is called. -/
def oraPI (g : FuncId) (caps : List D) (l : List Int) (p : Int → Bool) (L : List (Nat × Wr)) : SOra := fun g' as' => match as' with
  | (false, [.int .i64 q]) :: r => some ([IsCall g' g r caps, Mem q l], rB (p q))
  | xs => oraL L g' xs
theorem oraPI_ok {P : Program} {g : FuncId} {caps : List D} {l : List Int} {p : Int → Bool} {L : List (Nat × Wr)} (hp : ∀ q ∈ l, SCall P g (aI q :: capsD caps) (rB (p q))) (hL : SOraOK P (oraL L)) : SOraOK P (oraPI g caps l p L) := by
  intro g' as'
  unfold oraPI
  split
  · refine R.Sim.mk fun hq => ?_
    obtain ⟨rfl, rfl⟩ := hq _ (.head _)
    exact hp _ (hq _ (.tail _ (.head _))).out
  · exact hL _ _
theorem idxF_cases {α : Type} (p : α → Bool) (z : α) : ∀ (l : List α) (n : Nat), (idxF p l n = -1 ∧ ∀ q ∈ l, p q = false) ∨ ∃ i, i < l.length ∧ idxF p l n = ((n + i : Nat) : Int) ∧ p (l.getD i z) = true ∧ ∀ q ∈ l.take i, p q = false
  | [], n => .inl ⟨rfl, fun q h => by cases h⟩
  | a :: r, n => by
    unfold idxF
    cases h : p a with
    | true => exact .inr ⟨0, by simp, by simp, by simpa using h, fun q h => by simp at h⟩
    | false =>
      rw [if_neg (by simp)]
      rcases idxF_cases p z r (n + 1) with ⟨h1, h2⟩ | ⟨i, h1, h2, h3, h4⟩
      · exact .inl ⟨h1, fun q hq => (List.mem_cons.1 hq).elim (fun e => e ▸ h) (h2 q)⟩
      · refine .inr ⟨i + 1, by simpa using h1, by rw [h2]; congr 1; omega, by simpa using h3, fun q hq => ?_⟩
        rw [List.take_succ_cons] at hq
        exact (List.mem_cons.1 hq).elim (fun e => e ▸ h) (h4 q)
theorem keepL_all {p : Int → Bool} {l : List Int} (h : ∀ q ∈ l, p q = false) : keepL p l = l := by
  unfold keepL
  rw [List.filter_eq_self]
  intro q hq
  rw [h q hq]; rfl
theorem keepL_succ {p : Int → Bool} {l : List Int} {j : Nat} (h : j < l.length) : keepL p (l.take (j + 1)) = keepL p (l.take j) ++ (if p (l.getD j 0) = true then [] else [l.getD j 0]) := by
  unfold keepL
  rw [List.take_add_one, List.filter_append, getD_get h, List.getElem?_eq_getElem h, Option.toList_some, List.filter_cons, List.filter_nil]
  cases p l[j] <;> rfl
theorem zapL_tail {c : List Int} {i n : Nat} (hn : c.length = n) (hi : i ≤ n) : zapL c i (n - i) 0 = c.take i ++ List.replicate (n - i) 0 := by
  apply List.ext_getElem?
  intro j
  rw [zapL_get, List.getElem?_append, List.length_take, hn, Nat.min_eq_left hi, List.getElem?_take, List.getElem?_replicate]
  by_cases h1 : j < i
  · rw [if_neg (by omega), if_pos h1, if_pos h1]
  · rw [if_neg h1]
    by_cases h2 : j < n
    · rw [if_pos (by omega), if_pos (by omega)]
    · rw [if_neg (by omega), if_neg (by omega), List.getElem?_eq_none (by omega)]
theorem set_take {c : List Int} {i : Nat} (v : Int) (h : i < c.length) : (c.set i v).take (i + 1) = c.take i ++ [v] := by
  rw [List.take_add_one, List.take_set_of_le (Nat.le_refl i), List.getElem?_set_self h]; rfl
theorem drop_one {c l : List Int} {j : Nat} (h : c.drop j = l.drop j) : c.drop (j + 1) = l.drop (j + 1) := by
  have := congrArg (List.drop 1) h
  rwa [List.drop_drop, List.drop_drop] at this
theorem delFuncI_ok (l : List Int) (g : FuncId) (a b : List D) (p : Int → Bool) (hp : ∀ q ∈ l, SCall Try.prog g [aI q, (false, [.ptr a]), (false, [.ptr b])] (rB (p q))) (h1 : l.length ≤ maxLen) :
    SCallW Try.prog 52 [wR l.length, (false, [.clo g [.fz (.ptr a), .fz (.ptr b)]])] [(lrt 0, .osl (.i l))] [.rf (lrt 0, []) true 0 l.length]
      (.v (false, [.rf (lrt 0, []) false 0 (keepL p l).length])) [(lrt 0, .osl (.i (delL p l)))] [.rf (lrt 0, []) true 0 l.length] := by
  refine SCallW.of X52_ok (fn := Try.f52) (c := Try.f52.body.getD .skip) (dr := fun n => look 0 [] n) (r := (_, _, _)) Try.func52 rfl (by kernel_rfl) (by kernel_rfl) (by kernel_rfl) ?_
  obtain ⟨f, hf⟩ : ∃ f : List Int → Int, f = fun l => idxF p l 0 := ⟨_, rfl⟩
  have hO : SOraOK Try.prog (oraPI g [.ptr a, .ptr b] l p [(72, wCl dcIs g [.ptr a, .ptr b] (fun l => rI (f l)) (fun m => [Same m l]))]) := by
    subst hf
    exact oraPI_ok hp (oraL_cons (wCl_ok fun m h => by obtain rfl := (h _ (.head _)).out; exact idxFuncI_ok m g [.ptr a, .ptr b] p hp h1) oraL_nil)
  unfold maxLen at h1
  have hc := idxF_cases p 0 l 0
  rw [show idxF p l 0 = f l by rw [hf]] at hc
  have hkl : (keepL p l).length ≤ l.length := List.length_filter_le _ _
  have hka := keepL_all (p := p) (l := l)
  have hks' : ∀ j, j < l.length → keepL p (l.take (j + 1)) = keepL p (l.take j) ++ (if p (l.getD j 0) = true then [] else [l.getD j 0]) := fun j h => keepL_succ h
  have hkt : keepL p (l.take l.length) = keepL p l := by rw [List.take_length]
  obtain ⟨kl, hkl0⟩ : ∃ kl, kl = keepL p l := ⟨_, rfl⟩
  obtain ⟨m, hm⟩ : ∃ m, m = kl.length := ⟨_, rfl⟩
  obtain ⟨dl, hdl⟩ : ∃ dl, dl = delL p l := ⟨_, rfl⟩
  rw [← hkl0, ← hm, ← hdl]
  unfold delL at hdl
  rw [← hkl0, ← hm] at hdl
  rw [← hkl0] at hkl hka hkt
  generalize hn : l.length = n at *
  obtain ⟨tt, htt⟩ : ∃ t : Nat → List Int, t = fun j => keepL p (l.take j) := ⟨_, rfl⟩
  rw [show keepL p (l.take n) = tt n by rw [htt]] at hkt
  have hst : ∀ j, j < n → tt (j + 1) = tt j ++ (if p (l.getD j 0) = true then [] else [l.getD j 0]) := fun j h => by rw [htt]; exact hks' j h
  clear hks'
  refine SExW.go (X := (X52.withF [4])) X52_ok (fun n => look [] [(5, [0, 1, 5, 6, 4294967296])] n) (fun _ => none) hO 60 1 ?_
  intro M R L N hM hAnd hImp hR hL hN
  cases M
  cbv
  repeat' first | (refine hAnd _ _ ?_ ?_) | (refine hImp _ _ (fun h => ?_)) | (refine hR _ ?_) | (refine hL _ _ (Hd.out ?_); generalize hks : (List.cons _ _ : List K) = ks) | (refine hN _ _ ?_; cbv)
  all_goals (clear hAnd hImp hR hL hN)
  all_goals (cases hM; try dsimp only)
  all_goals (try simp only [Bool.not_eq_true', Bool.not_eq_false', decide_eq_true_eq, decide_eq_false_iff_not, Int.not_le, Int.not_lt, beq_iff_eq, beq_eq_false_iff_ne, ne_eq, Int.ofNat_eq_natCast, Int.toNat_natCast, List.length_replicate, ncast, Nat.sub_zero, List.drop_zero, Cue.eta, Tie.eta, Edge.eta, Link.eta, Node.eta] at *)
  all_goals first
    | exact hn.symm
    | exact ⟨rfl⟩
    | exact ⟨rfl, rfl⟩
    | (have e : kl = l := by
         rcases hc with ⟨_, h2⟩ | ⟨i, _, h2, _⟩
         · exact hka h2
         · omega
       have e2 : m = n := by rw [hm, e, hn]
       subst e2
       rw [Nat.sub_self, List.replicate_zero, List.append_nil, e] at hdl
       subst hdl
       refine ⟨?_, ?_, ?_⟩ <;> rfl)
    | skip
  obtain ⟨i0, hi0, hfi, hpi, hbe⟩ : ∃ i, i < n ∧ f l = (i : Int) ∧ p (l.getD i 0) = true ∧ ∀ q ∈ l.take i, p q = false := by
    rcases hc with ⟨h2, _⟩ | ⟨i, h2, h3, h4, h5⟩
    · contradiction
    · exact ⟨i, h2, by rw [h3, Nat.zero_add], h4, h5⟩
  rw [hfi, wrap_succ (show i0 < 9223372036854775807 by omega)]
  have htl : ∀ j, (tt j).length ≤ j := fun j => by
    rw [htt]
    show (keepL p (l.take j)).length ≤ j
    unfold keepL
    exact Nat.le_trans (List.length_filter_le _ _) (by rw [List.length_take]; omega)
  have ht0 : tt (i0 + 1) = l.take i0 := by
    rw [hst i0 hi0, hpi, if_pos rfl, List.append_nil, htt]
    exact keepL_all hbe
  have htn : ∀ j, j ≤ n → (tt j).length ≤ m := fun j hj => by
    have key : ∀ d, j + d ≤ n → (tt j).length ≤ (tt (j + d)).length := by
      intro d
      induction d with
      | zero => intro _; exact Nat.le_refl _
      | succ d ih =>
        intro h
        have := ih (by omega)
        rw [← Nat.add_assoc, hst (j + d) (by omega), List.length_append]
        omega
    have := key (n - j) (by omega)
    rw [show j + (n - j) = n by omega, hkt, ← hm] at this
    exact this
  clear hf hka hc hbe hkl0 htt
  refine ⟨SExW.same (SExW.ind (α := Nat × List Int × Nat) (fun x => ⟨42, [(0, bR 41000000 n), (1, .v (false, [.clo g [.fz (.ptr a), .fz (.ptr b)]])), (5, bI x.2.2), (6, bI x.1), (4294967296, bR 41000000 n)], [(41000000, .osl (.i x.2.1))]⟩) (fun _ => (.v (false, [.rf (lrt 0, []) false 0 m]), [(lrt 0, .osl (.i dl))], [.rf (lrt 0, []) true 0 n])) (fun x => x.1 ≤ n ∧ x.2.2 < x.1 ∧ x.2.1.length = n ∧ x.2.1.take x.2.2 = tt x.1 ∧ x.2.1.drop x.1 = l.drop x.1) (fun x => n - x.1) (i0 + 1, l, i0) ⟨by show i0 + 1 ≤ n; omega, Nat.lt_succ_self i0, hn, ht0.symm, rfl⟩ ?_) rfl ⟨rfl, rfl, rfl⟩⟩
  rintro ⟨j, c, i⟩ ⟨hj, hij, hcl, hct, hcd⟩ ih
  dsimp only at hj hij hcl hct hcd ih ⊢
  rw [← hks]
  have hcj : j < n → c.getD j 0 = l.getD j 0 := fun h => by
    have := congrArg (fun x : List Int => x[0]?) hcd
    simp only [List.getElem?_drop, Nat.add_zero] at this
    rw [List.getD_eq_getElem?_getD, List.getD_eq_getElem?_getD, this]
  have hil : i = (tt j).length := by rw [← hct, List.length_take]; omega
  refine SExW.go (X := (X52.withF [4])) X52_ok (fun n => look [] [(5, [0, 1, 5, 6, 4294967296])] n) (fun _ => none) hO 60 1 ?_
  intro M R L N hM hAnd hImp hR hL hN
  cases M
  cbv
  repeat' first | (refine hAnd _ _ ?_ ?_) | (refine hImp _ _ (fun h => ?_)) | (refine hR _ ?_) | (refine hL _ _ (Hd.out ?_); try rw [hks]) | (refine hN _ _ ?_; cbv)
  all_goals (clear hAnd hImp hR hL hN; try clear hks)
  all_goals (cases hM; try dsimp only)
  all_goals (try simp only [Bool.not_eq_true', Bool.not_eq_false', decide_eq_true_eq, decide_eq_false_iff_not, Int.not_le, Int.not_lt, beq_iff_eq, beq_eq_false_iff_ne, ne_eq, Int.ofNat_eq_natCast, Int.toNat_natCast, List.length_replicate, ncast, Nat.sub_zero, List.drop_zero, Cue.eta, Tie.eta, Edge.eta, Link.eta, Node.eta] at *)
  all_goals (try simp only [Nat.zero_add] at *)
  all_goals (try simp only [hcj (by omega), wrap_succ (show j < 9223372036854775807 by omega), wrap_succ (show i < 9223372036854775807 by omega)] at *)
  all_goals first
    | exact hn.symm
    | omega
    | (rw [zapL_length]; omega)
    | exact ⟨rfl, rfl⟩
    | exact mem_getD (z := (0 : Int)) (by omega)
    | (have hpj : p (l.getD j 0) = false := by assumption
       refine ⟨(ih (j + 1, c.set i (l.getD j 0), i + 1) ⟨by show j + 1 ≤ n; omega, by show i + 1 < j + 1; omega, by show (c.set i (l.getD j 0)).length = n; rw [List.length_set]; exact hcl, ?_, ?_⟩ (by show n - (j + 1) < n - j; omega)).same rfl ⟨rfl, rfl, rfl⟩⟩
       · show (c.set i (l.getD j 0)).take (i + 1) = tt (j + 1)
         rw [set_take _ (by omega), hct, hst j (by omega), hpj]; rfl
       · show (c.set i (l.getD j 0)).drop (j + 1) = l.drop (j + 1)
         rw [List.drop_set_of_lt (by omega), drop_one hcd])
    | (have hpj : p (l.getD j 0) = true := by assumption
       refine ⟨(ih (j + 1, c, i) ⟨by show j + 1 ≤ n; omega, by show i < j + 1; omega, hcl, ?_, ?_⟩ (by show n - (j + 1) < n - j; omega)).same rfl ⟨rfl, rfl, rfl⟩⟩
       · show c.take i = tt (j + 1)
         rw [hct, hst j (by omega), hpj, if_pos rfl, List.append_nil]
       · show c.drop (j + 1) = l.drop (j + 1)
         exact drop_one hcd)
    | (have e : j = n := by omega
       subst e
       have hmi : m = i := by rw [hm, ← hkt, ← hil]
       have e2 : dl = zapL c i (j - i) 0 := by rw [zapL_tail hcl (by omega), hct, hkt, hdl, hmi]
       subst hmi
       rw [e2]
       refine ⟨?_, ?_, ?_⟩ <;> rfl)
    | skip
def selL (q : Nat → Bool) (i : Nat) : List Int := ((List.range i).filter q).map fun (j : Nat) => (j : Int)
theorem selL_yes {q : Nat → Bool} {i : Nat} (h : q i = true) : selL q (i + 1) = selL q i ++ [(i : Int)] := by
  simp only [selL, List.range_succ, List.filter_append, List.map_append, List.filter_cons, List.filter_nil, h, if_true, List.map_cons, List.map_nil]
theorem selL_no {q : Nat → Bool} {i : Nat} (h : q i = false) : selL q (i + 1) = selL q i := by
  simp only [selL, List.range_succ, List.filter_append, List.map_append, List.filter_cons, List.filter_nil, h, Bool.false_eq_true, if_false, List.map_nil, List.append_nil]
theorem selL_len (q : Nat → Bool) (i : Nat) : (selL q i).length ≤ i := by
  simp only [selL, List.length_map]
  exact Nat.le_trans (List.length_filter_le _ _) (by simp)
theorem selL_mem {q : Nat → Bool} {n : Nat} {x : Int} (h : x ∈ selL q n) : 0 ≤ x ∧ x < n ∧ q x.toNat = true := by
  simp only [selL, List.mem_map, List.mem_filter, List.mem_range] at h
  obtain ⟨j, ⟨h1, h2⟩, rfl⟩ := h
  exact ⟨by omega, by omega, by simpa using h2⟩
theorem selL_filter (q : Nat → Bool) (p : Int → Bool) (n : Nat) : (selL q n).filter p = selL (fun j => q j && p j) n := by
  simp only [selL, List.filter_map, List.filter_filter]
  congr 1
  congr 1
  funext j
  simp [Function.comp, Bool.and_comm]
def chQ (ts : List Tie) (i : Nat) : Bool := decide (0 < i) && decide (freeI ts i < 0)
def chL (t : Show) : List Int := selL (chQ t.ties) t.nodes.length
def enP (t : Show) (x : State) (i : Int) : Bool := decide (x.times.getD i.toNat 0 = -1) && decide (nsI t x i = 1)
def enL (t : Show) (x : State) : List Int := (chL t).filter (enP t x)
theorem freeTie1_ok (q : Tie) (x : Int) : SCall Try.prog 93 [aTie q, (false, [.ptr [.int .i64 x]])] (rB (q.free && q.dst == x)) := by
  refine SCall.of X93_ok (fn := Try.f93) (c := Try.f93.body.getD .skip) (dr := fun n => look 0 [] n) Try.func93 rfl (by kernel_rfl) (by kernel_rfl) (by kernel_rfl) ?_
  obtain ⟨x1, x2, x3, x4, x5⟩ := q
  refine SEx.go (X := X93) X93_ok (fun n => look [] [] n) (fun _ => none) oraL_nil 60 ?_
  intro M R L N hM hAnd hImp hR hL hN
  cases M
  cbv
  repeat' first | (refine hAnd _ _ ?_ ?_) | (refine hImp _ _ (fun h => ?_)) | (refine hR _ ?_) | (refine hL _ _ (Hd.out ?_); try first | rw [hks] | rw [hk2] | rw [hk3]) | (refine hN _ _ ?_; cbv)
  all_goals (clear hAnd hImp hR hL hN; try clear hks; try clear hk2; try clear hk3)
  all_goals (cases hM; try dsimp only)
  all_goals (try simp only [Bool.not_eq_true', Bool.not_eq_false', decide_eq_true_eq, decide_eq_false_iff_not, Int.not_le, Int.not_lt, beq_iff_eq, beq_eq_false_iff_ne, ne_eq, Int.ofNat_eq_natCast, Int.toNat_natCast, List.length_replicate, ncast, Nat.sub_zero, List.drop_zero, Cue.eta, Tie.eta, Edge.eta, Link.eta, Node.eta] at *)
  all_goals (refine er_via ?_ _; simp_all; done)
theorem freeTie_ok (t : Show) (x : Int) (h1 : t.ties.length ≤ maxLen) : SCall Try.prog 73 [aShow t, aI x] (rI (freeI t.ties x)) := by
  refine SCall.of X73_ok (fn := Try.f73) (c := Try.f73.body.getD .skip) (dr := fun n => look 0 [] n) Try.func73 rfl (by kernel_rfl) (by kernel_rfl) (by kernel_rfl) ?_
  obtain ⟨f, hf⟩ : ∃ f, f = freeI := ⟨_, rfl⟩
  have hO : SOraOK Try.prog (oraL [(92, w2 dcTies (dcC1 93 false dcI fun _ => rfl) (fun l x => rI (f l x)) (fun l x => [LLe l maxLen]))]) := by
    subst hf
    exact oraL_cons (w2_ok fun l x h => idxFuncTie_ok l 93 [.ptr [.int .i64 x]] (fun q => q.free && q.dst == x) (fun q _ => freeTie1_ok q x) (h _ (.head _)).out) oraL_nil
  obtain ⟨ns, ts, hr⟩ := t
  rw [← hf]
  refine SEx.go (X := X73) X73_ok (fun n => look [] [] n) (fun _ => none) hO 60 ?_
  intro M R L N hM hAnd hImp hR hL hN
  cases M
  cbv
  repeat' first | (refine hAnd _ _ ?_ ?_) | (refine hImp _ _ (fun h => ?_)) | (refine hR _ ?_) | (refine hL _ _ (Hd.out ?_); try first | rw [hks] | rw [hk2] | rw [hk3]) | (refine hN _ _ ?_; cbv)
  all_goals (clear hAnd hImp hR hL hN; try clear hks; try clear hk2; try clear hk3)
  all_goals (cases hM; try dsimp only)
  all_goals (try simp only [Bool.not_eq_true', Bool.not_eq_false', decide_eq_true_eq, decide_eq_false_iff_not, Int.not_le, Int.not_lt, beq_iff_eq, beq_eq_false_iff_ne, ne_eq, Int.ofNat_eq_natCast, Int.toNat_natCast, List.length_replicate, ncast, Nat.sub_zero, List.drop_zero, Cue.eta, Tie.eta, Edge.eta, Link.eta, Node.eta] at *)
  all_goals first
    | exact ⟨h1⟩
    | rfl
    | skip
structure IdxT (i : Int) (t : Show) : Prop where out : inI i
theorem wFreeI_ok : WrOK Try.prog 73 (wFree freeI) := w2_ok fun t x h => freeTie_ok t x (h _ (.head _)).out
theorem chosen_ok (t : Show) (h1 : t.ties.length ≤ maxLen) (h2 : 1 ≤ t.nodes.length ∧ t.nodes.length ≤ 7) : SCall Try.prog 53 [aShow t] (rUs (chL t)) := by
  refine SCall.of X53_ok (fn := Try.f53) (c := Try.f53.body.getD .skip) (dr := fun n => look 0 [] n) Try.func53 rfl (by kernel_rfl) (by kernel_rfl) (by kernel_rfl) ?_
  obtain ⟨f, hf⟩ : ∃ f, f = freeI := ⟨_, rfl⟩
  have hO : SOraOK Try.prog (oraL [(73, wFree f)]) := by subst hf; exact oraL_cons wFreeI_ok oraL_nil
  obtain ⟨ns, ts, hr⟩ := t
  dsimp only at h1 h2
  obtain ⟨q, hq⟩ : ∃ q, q = chQ ts := ⟨_, rfl⟩
  obtain ⟨r, hrr⟩ : ∃ r, r = chL ⟨ns, ts, hr⟩ := ⟨_, rfl⟩
  rw [← hrr]
  have hrr : r = selL q ns.length := by rw [hrr, hq]; rfl
  have hq0 : q 0 = false := by rw [hq]; rfl
  have hqs : ∀ j : Nat, q (j + 1) = decide (f ts ((j + 1 : Nat) : Int) < 0) := fun j => by rw [hq, hf]; unfold chQ; rw [decide_eq_true (Nat.succ_pos j), Bool.true_and]
  clear hq
  obtain ⟨m, hm⟩ : ∃ m, m = ns.length := ⟨_, rfl⟩
  rw [← hm] at h2 hrr
  refine SEx.go (X := X53) X53_ok (fun n => look [] [(3, [1, 3, 4])] n) (fun _ => none) hO 60 ?_
  intro M R L N hM hAnd hImp hR hL hN
  cases M
  cbv
  repeat' first | (refine hAnd _ _ ?_ ?_) | (refine hImp _ _ (fun h => ?_)) | (refine hR _ ?_) | (refine hL _ _ (Hd.out ?_); generalize hks : (List.cons _ _ : List K) = ks) | (refine hN _ _ ?_; cbv)
  all_goals (clear hAnd hImp hR hL hN)
  all_goals (cases hM; try dsimp only)
  all_goals (try simp only [Bool.not_eq_true', Bool.not_eq_false', decide_eq_true_eq, decide_eq_false_iff_not, Int.not_le, Int.not_lt, beq_iff_eq, beq_eq_false_iff_ne, ne_eq, Int.ofNat_eq_natCast, Int.toNat_natCast, List.length_replicate, ncast, Nat.sub_zero, List.drop_zero, Cue.eta, Tie.eta, Edge.eta, Link.eta, Node.eta] at *)
  refine ⟨SEx.same (SEx.idx (m - 1) (fun j => ⟨21, [(1, bP 4096), (3, bR 12288 (selL q (j + 1)).length), (4, bI (j + 1 : Nat))], [(4096, .obx [.fz (.sl (.node false none ns)), .fz (.sl (.tie ts)), .fz (.int .i64 hr)]), (12288, .osl (.i (selL q (j + 1))))]⟩) (fun _ => rUs r) ?_) (by rw [selL_no hq0]; rfl) rfl⟩
  intro j hj ih
  rw [← hks]
  obtain ⟨u, hu⟩ : ∃ u, u = selL q (j + 1) := ⟨_, rfl⟩
  have hul : u.length ≤ j + 1 := by rw [hu]; exact selL_len _ _
  rw [← hu]
  obtain ⟨n, hn⟩ : ∃ n, n = u.length := ⟨_, rfl⟩
  rw [← hn] at hul ⊢
  obtain ⟨k, hk⟩ : ∃ k, k = j + 1 := ⟨_, rfl⟩
  have hqk : q k = decide (f ts (k : Int) < 0) := by rw [hk]; exact hqs j
  rw [← hk] at hul hu ih ⊢
  refine SEx.go (X := X53) X53_ok (fun n => look [] [(3, [1, 3, 4])] n) (fun _ => none) hO 60 ?_
  intro M R L N hM hAnd hImp hR hL hN
  cases M
  cbv
  repeat' first | (refine hAnd _ _ ?_ ?_) | (refine hImp _ _ (fun h => ?_)) | (refine hR _ ?_) | (refine hL _ _ (Hd.out ?_); try first | rw [hks] | rw [hk2] | rw [hk3]) | (refine hN _ _ ?_; cbv)
  all_goals (clear hAnd hImp hR hL hN; try clear hks; try clear hk2; try clear hk3)
  all_goals (cases hM; try dsimp only)
  all_goals (try simp only [Bool.not_eq_true', Bool.not_eq_false', decide_eq_true_eq, decide_eq_false_iff_not, Int.not_le, Int.not_lt, beq_iff_eq, beq_eq_false_iff_ne, ne_eq, Int.ofNat_eq_natCast, Int.toNat_natCast, List.length_replicate, ncast, Nat.sub_zero, List.drop_zero, Cue.eta, Tie.eta, Edge.eta, Link.eta, Node.eta] at *)
  all_goals try simp only [List.length_append, List.length_cons, List.length_nil, List.length_set] at *
  all_goals (try omega)
  all_goals (try (have := lim_ge; omega))
  all_goals (try simp only [wrap_succ (show k < 9223372036854775807 by omega)])
  all_goals first
    | exact ⟨h1⟩
    | (have ih' := ih (by omega)
       rw [selL_yes (by rw [hqk]; exact decide_eq_true (by assumption)), ← hu, List.length_append] at ih'
       exact ⟨ih'.same rfl rfl⟩)
    | (have ih' := ih (by omega)
       rw [selL_no (by rw [hqk]; exact decide_eq_false (by omega)), ← hu, ← hn] at ih'
       exact ⟨ih'.same rfl rfl⟩)
    | (have e : k = m := by omega
       rw [hrr, ← e, hu]; rfl)
    | skip
/-- What the nodes' states need of a state. -/
structure StV (t : Show) (x : State) : Prop where
  sh : showB t = true
  vals : valuesB x.vals = true
theorem StT.v {t : Show} {x : State} (h : StT t x) : StV t x := ⟨h.sh, h.vals⟩
theorem nodeStateV_ok (t : Show) (x : State) (i : Int) (hs : StLe t x) (h : StV t x) (hi : 0 ≤ i ∧ i < t.nodes.length) : SCall Try.prog 55 [aShow t, aState x, aI i] (rI (nsI t x i)) := by
  refine SCall.of X55_ok (fn := Try.f55) (c := Try.f55.body.getD .skip) (dr := fun n => look 0 [(1, 8)] n) Try.func55 rfl (by kernel_rfl) (by kernel_rfl) (by kernel_rfl) ?_
  have h1 := showB_label h.sh (mem_getD (z := Node.z) (show i.toNat < t.nodes.length by omega)).out
  have h2 := h.vals
  have h3 := hs.sh.nodes _ (mem_getD (z := Node.z) (show i.toNat < t.nodes.length by omega)).out
  have h4 := hs.st.vlen
  unfold nsI nd
  obtain ⟨f, hf⟩ : ∃ f : List Int → List Int → Int, f = fun l v => if labelB l = true ∧ valuesB v = true then labF v l 1 else -1 := ⟨_, rfl⟩
  have hO : SOraOK Try.prog (oraL [(74, w2 dcIs dcIs (fun l v => rI (f l v)) (fun l v => [LsOk l, LLe v maxLen]))]) := by
    subst hf
    exact oraL_cons (w2_ok fun l v h => implLabState_ok l v (h _ (.head _)) (h _ (.tail _ (.head _))).out) oraL_nil
  have he : f (t.nodes.getD i.toNat Node.z).label x.vals = labF x.vals (t.nodes.getD i.toNat Node.z).label 1 := by rw [hf]; exact if_pos ⟨h1, h2⟩
  rw [← he]
  clear hs h hf he
  obtain ⟨ns, ts, hr⟩ := t
  obtain ⟨now, times, vals⟩ := x
  dsimp only at hi h1 h2 h3 h4
  refine SEx.go (X := X55) X55_ok (fun n => look [] [] n) (fun _ => none) hO 60 ?_
  intro M R L N hM hAnd hImp hR hL hN
  cases M
  cbv
  repeat' first | (refine hAnd _ _ ?_ ?_) | (refine hImp _ _ (fun h => ?_)) | (refine hR _ ?_) | (refine hL _ _ (Hd.out ?_); try first | rw [hks] | rw [hk2] | rw [hk3]) | (refine hN _ _ ?_; cbv)
  all_goals (clear hAnd hImp hR hL hN; try clear hks; try clear hk2; try clear hk3)
  all_goals (cases hM; try dsimp only)
  all_goals (try simp only [Bool.not_eq_true', Bool.not_eq_false', decide_eq_true_eq, decide_eq_false_iff_not, Int.not_le, Int.not_lt, beq_iff_eq, beq_eq_false_iff_ne, ne_eq, Int.ofNat_eq_natCast, Int.toNat_natCast, List.length_replicate, ncast, Nat.sub_zero, List.drop_zero, Cue.eta, Tie.eta, Edge.eta, Link.eta, Node.eta] at *)
  all_goals first
    | omega
    | exact ⟨h3.len, h3.all⟩
    | exact ⟨h4⟩
    | rfl
    | skip
def wNodeStV (f : Show → State → Int → Int) : Wr := w3 dcShow dcState dcI (fun t x i => rI (f t x i)) (fun t x i => [StLe t x, StV t x, InX i t.nodes])
theorem wNodeStV_ok : WrOK Try.prog 55 (wNodeStV nsI) := w3_ok fun t x i h => nodeStateV_ok t x i (h _ (.head _)) (h _ (.tail _ (.head _))) (h _ (.tail _ (.tail _ (.head _)))).out
theorem enabled1_ok (i : Int) (t : Show) (x : State) (hs : StLe t x) (h : StV t x) (hl : x.times.length = t.nodes.length) (hi : 0 ≤ i ∧ i < t.nodes.length) : SCall Try.prog 54 [aI i, (false, [.ptr x.d]), (false, [.ptr t.d])] (rB (!enP t x i)) := by
  refine SCall.of X54_ok (fn := Try.f54) (c := Try.f54.body.getD .skip) (dr := fun n => look 0 [] n) Try.func54 rfl (by kernel_rfl) (by kernel_rfl) (by kernel_rfl) ?_
  obtain ⟨f, hf⟩ : ∃ f, f = nsI := ⟨_, rfl⟩
  have hO : SOraOK Try.prog (oraL [(55, wNodeStV f)]) := by subst hf; exact oraL_cons wNodeStV_ok oraL_nil
  unfold enP
  rw [← hf]
  clear hf
  obtain ⟨ns, ts, hr⟩ := t
  obtain ⟨now, times, vals⟩ := x
  dsimp only at hl hi
  refine SEx.go (X := X54) X54_ok (fun n => look [] [] n) (fun _ => none) hO 60 ?_
  intro M R L N hM hAnd hImp hR hL hN
  cases M
  cbv
  repeat' first | (refine hAnd _ _ ?_ ?_) | (refine hImp _ _ (fun h => ?_)) | (refine hR _ ?_) | (refine hL _ _ (Hd.out ?_); try first | rw [hks] | rw [hk2] | rw [hk3]) | (refine hN _ _ ?_; cbv)
  all_goals (clear hAnd hImp hR hL hN; try clear hks; try clear hk2; try clear hk3)
  all_goals (cases hM; try dsimp only)
  all_goals (try simp only [Bool.not_eq_true', Bool.not_eq_false', decide_eq_true_eq, decide_eq_false_iff_not, Int.not_le, Int.not_lt, beq_iff_eq, beq_eq_false_iff_ne, ne_eq, Int.ofNat_eq_natCast, Int.toNat_natCast, List.length_replicate, ncast, Nat.sub_zero, List.drop_zero, Cue.eta, Tie.eta, Edge.eta, Link.eta, Node.eta] at *)
  all_goals first
    | omega
    | exact hs
    | exact h
    | exact ⟨hi⟩
    | (refine er_via ?_ _; rw [decide_eq_false (by assumption)]; rfl)
    | (refine er_via ?_ _; rw [decide_eq_true (by assumption), Bool.true_and]; generalize f _ _ i = v; by_cases hv : v = 1 <;> simp [hv]; done)
    | skip
structure ChT (t : Show) : Prop where
  len : t.ties.length ≤ maxLen
  nod : 1 ≤ t.nodes.length ∧ t.nodes.length ≤ 7
def wChosen (f : Show → List Int) : Wr := w1 dcShow (fun t => rUs (f t)) (fun t => [ChT t])
theorem wChosen_ok : WrOK Try.prog 53 (wChosen chL) := w1_ok fun t h => chosen_ok t (h _ (.head _)).len (h _ (.head _)).nod
structure DelT (p : SP) (n m : Nat) (l l0 : List Int) (g' g : Nat) (a' a b' b : List D) : Prop where out : p = (lrt 0, []) ∧ m = n ∧ l.length = n ∧ l = l0 ∧ g' = g ∧ a' = a ∧ b' = b
def wDel (g : Nat) (a b : List D) (l0 : List Int) (k d : List Int → List Int) (ln : List Int → Nat) : WrW
  | [(false, [.rf p true 0 n]), (false, [.clo g' [.fz (.ptr a'), .fz (.ptr b')]])], [(.sl m, .osl (.i l))] => some ([DelT p n m l l0 g' g a' a b' b], (.v (false, [.rf (lrt 0, []) false 0 (ln (k l))]), [(lrt 0, .osl (.i (d l)))], [.rf (lrt 0, []) true 0 n]))
  | _, _ => none
theorem wDel_ok {g : Nat} {a b : List D} {l0 : List Int} {p : Int → Bool} (hp : ∀ q ∈ l0, SCall Try.prog g [aI q, (false, [.ptr a]), (false, [.ptr b])] (rB (p q))) (h1 : l0.length ≤ maxLen) :
    WrWOK Try.prog 52 (wDel g a b l0 (keepL p) (delL p) List.length) := by
  intro xs ls
  unfold wDel
  split
  · refine R.Sim.mk fun hq => ?_
    obtain ⟨rfl, rfl, rfl, rfl, rfl, rfl, rfl⟩ := (hq _ (.head _)).out
    exact delFuncI_ok _ _ _ _ p hp h1
  · exact R.Sim.none'
theorem delL_len (p : Int → Bool) (l : List Int) : (delL p l).length = l.length := by
  have : (keepL p l).length ≤ l.length := List.length_filter_le _ _
  unfold delL
  rw [List.length_append, List.length_replicate]
  omega
theorem delL_take (p : Int → Bool) (l : List Int) : ((delL p l).drop 0).take (keepL p l).length = keepL p l := by
  rw [List.drop_zero]
  unfold delL
  rw [List.take_left]
theorem keepL_not (p : Int → Bool) (l : List Int) : keepL (fun i => !p i) l = l.filter p := by
  unfold keepL
  congr 1
  funext x
  simp
theorem callW_front {P : Program} {g : FuncId} {args : List (V1 A)} {tb tb' : List (Nat × O)} {ph ph' : List A} {p : Path} {off : Nat} (h : CallW P g args tb ph (.v (false, [.rf p off 0])) tb' ph') : CallW P g args tb ph (.v (false, [.fz (.sl [])])) tb' ph' := by
  refine ⟨h.1, fun J w σ vals hold hsz ha hin => (h.2 J w σ vals hold hsz ha hin).mono ?_⟩
  rintro e w' ⟨v, σ', he, ho⟩
  letI := J
  refine ⟨v, σ', he, ho.goes, ho.back, ?_⟩
  have hr : RepA w' σ' (.rf p off 0) v := ho.res
  show RepA w' σ' (.fz (.sl [])) v
  cases hr with
  | rz _ _ b => exact .fz _ _ (.sl [] 0 b 0 (fun _ _ => undef) (Nat.le_refl _) (by simp) (by simp) (by simp) (by simp))
  | rf _ _ _ g n cap sz hg hl hn => exact .fz _ _ (.sl [] 0 _ _ (fun _ _ => undef) (Nat.zero_le _) (by simp) (by simp) (by simp) (by simp))
theorem delFuncI0_ok (l : List Int) (g : FuncId) (a b : List D) (p : Int → Bool) (hp : ∀ q ∈ l, SCall Try.prog g [aI q, (false, [.ptr a]), (false, [.ptr b])] (rB (p q))) (h1 : l.length ≤ maxLen) (h0 : keepL p l = []) :
    SCallW Try.prog 52 [wR l.length, (false, [.clo g [.fz (.ptr a), .fz (.ptr b)]])] [(lrt 0, .osl (.i l))] [.rf (lrt 0, []) true 0 l.length]
      (.v (false, [.fz (.sl (.i []))])) [(lrt 0, .osl (.i (delL p l)))] [.rf (lrt 0, []) true 0 l.length] := by
  have := delFuncI_ok l g a b p hp h1
  rw [h0] at this
  exact callW_front this
def wDel0 (g : Nat) (a b : List D) (l0 : List Int) (d : List Int → List Int) : WrW
  | [(false, [.rf p true 0 n]), (false, [.clo g' [.fz (.ptr a'), .fz (.ptr b')]])], [(.sl m, .osl (.i l))] => some ([DelT p n m l l0 g' g a' a b' b], (.v (false, [.fz (.sl (.i []))]), [(lrt 0, .osl (.i (d l)))], [.rf (lrt 0, []) true 0 n]))
  | _, _ => none
theorem wDel0_ok {g : Nat} {a b : List D} {l0 : List Int} {p : Int → Bool} (hp : ∀ q ∈ l0, SCall Try.prog g [aI q, (false, [.ptr a]), (false, [.ptr b])] (rB (p q))) (h1 : l0.length ≤ maxLen) (h0 : keepL p l0 = []) :
    WrWOK Try.prog 52 (wDel0 g a b l0 (delL p)) := by
  intro xs ls
  unfold wDel0
  split
  · refine R.Sim.mk fun hq => ?_
    obtain ⟨rfl, rfl, rfl, rfl, rfl, rfl, rfl⟩ := (hq _ (.head _)).out
    exact delFuncI0_ok _ _ _ _ p hp h1 h0
  · exact R.Sim.none'
def rE : TV W := .v (false, [.fz (.sl (.i []))])
def rEn : List Int → TV W
  | [] => rE
  | a :: l => rUs (a :: l)
theorem enabled_ok (t : Show) (x : State) (hs : StLe t x) (h : StV t x) (hl : x.times.length = t.nodes.length) : SCall Try.prog 32 [aShow t, aState x] (rEn (enL t x)) := by
  refine SCall.of X32_ok (fn := Try.f32) (c := Try.f32.body.getD .skip) (dr := fun n => look 0 [] n) Try.func32 rfl (by kernel_rfl) (by kernel_rfl) (by kernel_rfl) ?_
  have hn := showB_len h.sh
  have htl := hs.sh.tlen
  obtain ⟨f0, hf0⟩ : ∃ f, f = chL := ⟨_, rfl⟩
  have hO : SOraOK Try.prog (oraL [(53, wChosen f0)]) := by subst hf0; exact oraL_cons wChosen_ok oraL_nil
  obtain ⟨l0, hl0⟩ : ∃ l, l = f0 t := ⟨_, rfl⟩
  have hmem : ∀ q ∈ l0, 0 ≤ q ∧ q < t.nodes.length := fun q hq => by
    rw [hl0, hf0] at hq
    have := selL_mem hq
    exact ⟨this.1, this.2.1⟩
  have hl7 : l0.length ≤ maxLen := by
    have : l0.length ≤ t.nodes.length := by rw [hl0, hf0]; exact selL_len _ _
    unfold maxLen
    omega
  have he : enL t x = keepL (fun i => !enP t x i) l0 := by rw [keepL_not, hl0, hf0]; rfl
  have hc := fun q hq => enabled1_ok q t x hs h hl (hmem q hq)
  obtain ⟨p, hp⟩ : ∃ p, p = fun i => !enP t x i := ⟨_, rfl⟩
  rw [← hp] at he
  have hc : ∀ q ∈ l0, SCall Try.prog 54 [aI q, (false, [.ptr x.d]), (false, [.ptr t.d])] (rB (p q)) := fun q hq => by rw [hp]; exact hc q hq
  rw [he]
  clear he hp hmem
  have hDl := delL_len p l0
  have hDt := delL_take p l0
  obtain ⟨ns, ts, hr⟩ := t
  obtain ⟨now, times, vals⟩ := x
  obtain ⟨d, hd⟩ : ∃ d, d = delL p := ⟨_, rfl⟩
  cases hkp : keepL p l0 with
  | nil =>
    have hW : SOraWOK Try.prog ((X32.withF [2, 3, 4]).withW [(52, [(0, 0)])] (oraWL [(52, wDel0 54 [.int .i64 now, .sl (.i times), .sl (.i vals)] [.sl (.node false none ns), .sl (.tie ts), .int .i64 hr] l0 d)])) := by
      subst hd
      exact SX.withW_ok (oraWL_cons (wDel0_ok hc hl7 hkp) oraWL_nil)
    rw [← hd] at hDl
    refine SEx.go (X := ((X32.withF [2, 3, 4]).withW [(52, [(0, 0)])] (oraWL [(52, wDel0 54 [.int .i64 now, .sl (.i times), .sl (.i vals)] [.sl (.node false none ns), .sl (.tie ts), .int .i64 hr] l0 d)]))) X32_ok (fun n => look [] [] n) (fun _ => none) hO 60 ?_ hW
    intro M R L N hM hAnd hImp hR hL hN
    cases M
    cbv
    repeat' first | (refine hAnd _ _ ?_ ?_) | (refine hImp _ _ (fun h => ?_)) | (refine hR _ ?_) | (refine hL _ _ (Hd.out ?_); try first | rw [hks] | rw [hk2] | rw [hk3]) | (refine hN _ _ ?_; cbv)
    all_goals (clear hAnd hImp hR hL hN; try clear hks; try clear hk2; try clear hk3)
    all_goals (cases hM; try dsimp only)
    all_goals (try simp only [Bool.not_eq_true', Bool.not_eq_false', decide_eq_true_eq, decide_eq_false_iff_not, Int.not_le, Int.not_lt, beq_iff_eq, beq_eq_false_iff_ne, ne_eq, Int.ofNat_eq_natCast, Int.toNat_natCast, List.length_replicate, ncast, Nat.sub_zero, List.drop_zero, Cue.eta, Tie.eta, Edge.eta, Link.eta, Node.eta] at *)
    all_goals (clear hW hO)
    all_goals first
      | exact ⟨htl, hn⟩
      | rfl
      | exact ⟨⟨rfl, rfl, rfl, hl0.symm, rfl, rfl, rfl⟩⟩
      | (rw [← hl0]; exact hDl.symm)
      | skip
  | cons k0 kr =>
    rw [hkp] at hDt
    obtain ⟨k, hk⟩ : ∃ k, k = keepL p := ⟨_, rfl⟩
    rw [← hk] at hkp
    obtain ⟨ln, hln⟩ : ∃ f : List Int → Nat, f = List.length := ⟨_, rfl⟩
    have hlk : ln (k l0) = (k0 :: kr).length := by rw [hln, hkp]
    have hkl : (k0 :: kr).length ≤ l0.length := by rw [← hkp, hk]; exact List.length_filter_le _ _
    have hW : SOraWOK Try.prog ((X32.withF [2, 3, 4]).withW [(52, [(0, 0)])] (oraWL [(52, wDel 54 [.int .i64 now, .sl (.i times), .sl (.i vals)] [.sl (.node false none ns), .sl (.tie ts), .int .i64 hr] l0 k d ln)])) := by
      subst hk hd hln
      exact SX.withW_ok (oraWL_cons (wDel_ok hc hl7) oraWL_nil)
    rw [← hd] at hDt hDl
    clear hk hln
    refine SEx.go (X := ((X32.withF [2, 3, 4]).withW [(52, [(0, 0)])] (oraWL [(52, wDel 54 [.int .i64 now, .sl (.i times), .sl (.i vals)] [.sl (.node false none ns), .sl (.tie ts), .int .i64 hr] l0 k d ln)]))) X32_ok (fun n => look [] [] n) (fun _ => none) hO 60 ?_ hW
    intro M R L N hM hAnd hImp hR hL hN
    cases M
    cbv
    repeat' first | (refine hAnd _ _ ?_ ?_) | (refine hImp _ _ (fun h => ?_)) | (refine hR _ ?_) | (refine hL _ _ (Hd.out ?_); try first | rw [hks] | rw [hk2] | rw [hk3]) | (refine hN _ _ ?_; cbv)
    all_goals (clear hAnd hImp hR hL hN; try clear hks; try clear hk2; try clear hk3)
    all_goals (cases hM; try dsimp only)
    all_goals (try simp only [Bool.not_eq_true', Bool.not_eq_false', decide_eq_true_eq, decide_eq_false_iff_not, Int.not_le, Int.not_lt, beq_iff_eq, beq_eq_false_iff_ne, ne_eq, Int.ofNat_eq_natCast, Int.toNat_natCast, List.length_replicate, ncast, Nat.sub_zero, List.drop_zero, Cue.eta, Tie.eta, Edge.eta, Link.eta, Node.eta] at *)
    all_goals (clear hW hO)
    all_goals (try simp only [← hl0, hlk, hDl, Nat.zero_add])
    all_goals first
      | exact ⟨htl, hn⟩
      | exact ⟨⟨rfl, rfl, rfl, rfl, rfl, rfl, rfl⟩⟩
      | exact hkl
      | (simp; done)
      | (rw [hDt]; done)
      | (rw [hDt]; rfl)
      | skip
theorem specEnabled_ok (t : Show) (x : State) (hs : StLe t x) (h : StV t x) (hl : x.times.length = t.nodes.length) : SCall Try.prog 27 [aShow t, aState x] (rUs (enL t x)) := by
  refine SCall.of X27_ok (fn := Try.f27) (c := Try.f27.body.getD .skip) (dr := fun n => look 0 [] n) Try.func27 rfl (by kernel_rfl) (by kernel_rfl) (by kernel_rfl) ?_
  have hn := showB_len h.sh
  have htl := hs.sh.tlen
  obtain ⟨f1, hf1⟩ : ∃ f, f = labI := ⟨_, rfl⟩
  obtain ⟨f2, hf2⟩ : ∃ f, f = freeI := ⟨_, rfl⟩
  have hO : SOraOK Try.prog (oraL [(47, wLabState f1), (46, wFree f2)]) := by
    subst hf1 hf2
    exact oraL_cons wLabState_ok (oraL_cons wFreeS_ok oraL_nil)
  have hv := h.vals
  have hlb : ∀ n ∈ t.nodes, labelB n.label = true := fun n hn => showB_label h.sh hn
  have he : enL t x = selL (fun j => chQ t.ties j && enP t x j) t.nodes.length := by unfold enL chL; rw [selL_filter]
  rw [he]
  obtain ⟨ns, ts, hr⟩ := t
  obtain ⟨now, times, vals⟩ := x
  dsimp only at hl hn htl hv hlb ⊢
  obtain ⟨q, hq⟩ : ∃ q, q = fun j : Nat => chQ ts j && enP ⟨ns, ts, hr⟩ ⟨now, times, vals⟩ j := ⟨_, rfl⟩
  have hqd : ∀ j : Nat, q j = (decide (0 < j) && decide (f2 ts (j : Int) < 0) && (decide (times.getD j 0 = -1) && decide (f1 (ns.getD j Node.z).label vals = 1))) := fun j => by rw [hq, hf1, hf2]; rfl
  rw [show selL (fun j : Nat => chQ ts j && enP ⟨ns, ts, hr⟩ ⟨now, times, vals⟩ j) ns.length = selL q ns.length by rw [hq]]
  clear hq he hs h
  obtain ⟨m, hm⟩ : ∃ m, m = ns.length := ⟨_, rfl⟩
  rw [← hm] at hl hn ⊢
  refine SEx.go (X := X27) X27_ok (fun n => look [] [(3, [2, 3, 5, 10, 11, 12])] n) (fun _ => none) hO 60 ?_
  intro M R L N hM hAnd hImp hR hL hN
  cases M
  cbv
  repeat' first | (refine hAnd _ _ ?_ ?_) | (refine hImp _ _ (fun h => ?_)) | (refine hR _ ?_) | (refine hL _ _ (Hd.out ?_); generalize hks : (List.cons _ _ : List K) = ks) | (refine hN _ _ ?_; cbv)
  all_goals (clear hAnd hImp hR hL hN)
  all_goals (cases hM; try dsimp only)
  all_goals (try simp only [Bool.not_eq_true', Bool.not_eq_false', decide_eq_true_eq, decide_eq_false_iff_not, Int.not_le, Int.not_lt, beq_iff_eq, beq_eq_false_iff_ne, ne_eq, Int.ofNat_eq_natCast, Int.toNat_natCast, List.length_replicate, ncast, Nat.sub_zero, List.drop_zero, Cue.eta, Tie.eta, Edge.eta, Link.eta, Node.eta] at *)
  refine ⟨SEx.same (SEx.idx m (fun i => ⟨47, [(2, bP 8192), (3, bP 12288), (5, bR 20480 (selL q i).length), (10, bL (.node false none ns)), (11, bI m), (12, bI i)], [(8192, .obx [.fz (.sl (.node false none ns)), .fz (.sl (.tie ts)), .fz (.int .i64 hr)]), (12288, .obx [.fz (.int .i64 now), .fz (.sl (.i times)), .fz (.sl (.i vals))]), (20480, .osl (.i (selL q i)))]⟩) (fun _ => rUs (selL q m)) ?_) (by rw [hm]; rfl) rfl⟩
  intro i hi ih
  rw [← hks]
  obtain ⟨u, hu⟩ : ∃ u, u = selL q i := ⟨_, rfl⟩
  have hul : u.length ≤ i := by rw [hu]; exact selL_len _ _
  rw [← hu]
  obtain ⟨n, hnn⟩ : ∃ n, n = u.length := ⟨_, rfl⟩
  rw [← hnn] at hul ⊢
  have hyes : 0 < i → f2 ts (i : Int) < 0 → times.getD i 0 = -1 → f1 (ns.getD i Node.z).label vals = 1 → q i = true := fun a b c d => by rw [hqd, decide_eq_true a, decide_eq_true b, decide_eq_true c, decide_eq_true d]; rfl
  have hno : (¬ 0 < i ∨ ¬ f2 ts (i : Int) < 0 ∨ ¬ times.getD i 0 = -1 ∨ ¬ f1 (ns.getD i Node.z).label vals = 1) → q i = false := fun h => by
    rw [hqd]
    rcases h with h | h | h | h <;> rw [decide_eq_false h] <;> simp
  clear hqd
  refine SEx.go (X := X27) X27_ok (fun n => look [] [(3, [2, 3, 5, 10, 11, 12])] n) (fun _ => none) hO 60 ?_
  intro M R L N hM hAnd hImp hR hL hN
  cases M
  cbv
  repeat' first | (refine hAnd _ _ ?_ ?_) | (refine hImp _ _ (fun h => ?_)) | (refine hR _ ?_) | (refine hL _ _ (Hd.out ?_); try first | rw [hks] | rw [hk2] | rw [hk3]) | (refine hN _ _ ?_; cbv)
  all_goals (clear hAnd hImp hR hL hN; try clear hks; try clear hk2; try clear hk3)
  all_goals (cases hM; try dsimp only)
  all_goals (try simp only [Bool.not_eq_true', Bool.not_eq_false', decide_eq_true_eq, decide_eq_false_iff_not, Int.not_le, Int.not_lt, beq_iff_eq, beq_eq_false_iff_ne, ne_eq, Int.ofNat_eq_natCast, Int.toNat_natCast, List.length_replicate, ncast, Nat.sub_zero, List.drop_zero, Cue.eta, Tie.eta, Edge.eta, Link.eta, Node.eta] at *)
  all_goals try simp only [List.length_append, List.length_cons, List.length_nil, List.length_set] at *
  all_goals (try omega)
  all_goals (try (have := lim_ge; omega))
  all_goals (try simp only [wrap_succ (show i < 9223372036854775807 by omega)])
  all_goals first
    | exact ⟨htl⟩
    | exact ⟨hv⟩
    | exact ⟨hlb _ (mem_getD (z := Node.z) (by omega)).out⟩
    | (have ih' := ih (by omega)
       rw [selL_yes (hyes (by omega) (by assumption) (by assumption) (by assumption)), ← hu, List.length_append] at ih'
       exact ⟨ih'.same rfl rfl⟩)
    | (have ih' := ih (by omega)
       rw [selL_no (hno (by first | (left; omega) | (right; left; assumption) | (right; left; omega) | (right; right; left; assumption) | (right; right; right; assumption))), ← hu, ← hnn] at ih'
       exact ⟨ih'.same rfl rfl⟩)
    | (obtain rfl : i = m := by omega
       rw [hu]; rfl)
    | skip
end Go.Proofs.Ytececadpjelanaa.Ai
