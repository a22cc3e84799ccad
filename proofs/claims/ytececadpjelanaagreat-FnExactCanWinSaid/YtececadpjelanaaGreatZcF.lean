/- The law's proof, part 6 of 10: what of its author's texts it needs; no condition. -/
import Derived.Test.YtececadpjelanaaGreatZcE
set_option linter.unusedSectionVars false
set_option linter.unusedSimpArgs false
set_option linter.unusedVariables false
namespace Go.Proofs.YtececadpjelanaaGreat.Ai
open Go
set_option maxRecDepth 100000
variable [qh]
theorem WL (l : List Int) (g : FuncId) (a b : List D) (p : Int → Bool) (hp : ∀ q ∈ l, qe Tryz.prog g [aI q, (false, [.ptr a]), (false, [.ptr b])] (rB (p q))) (h1 : l.length ≤ maxLen) :
 Qd Tryz.prog 159 [wR l.length, (false, [.clo g [.fz (.ptr a), .fz (.ptr b)]])] [(lrt 0, .osl (.i l))] [.rf (lrt 0, []) true 0 l.length]
  (.v (false, [.rf (lrt 0, []) false 0 (zX p l).length])) [(lrt 0, .osl (.i (Ya p l)))] [.rf (lrt 0, []) true 0 l.length] := by
 refine Qd.of qc (fn := Tryz.f159) (c := Tryz.f159.body.getD .skip) (dr := fun n => qa 0 [] n) (r := (_, _, _)) Tryz.func159 rfl (by kernel_rfl) (by kernel_rfl) (by kernel_rfl) ?_
 obtain ⟨f, hf⟩ : ∃ f : List Int → Int, f = fun l => zR p l 0 := ⟨_, rfl⟩
 have hO : qp Tryz.prog (qlf g [.ptr a, .ptr b] l p [(141, wCl kw g [.ptr a, .ptr b] (fun l => rI (f l)) (fun m => [Vb m l]))]) := by
  subst hf
  exact qmh hp (qb (qco fun m h => by obtain rfl := (h _ (.head _)).out; exact WF m g [.ptr a, .ptr b] p hp h1) qd)
 unfold maxLen at h1
 have hc := JV p 0 l 0
 rw [show zR p l 0 = f l by rw [hf]] at hc
 have hkl : (zX p l).length ≤ l.length := List.length_filter_le _ _
 have hka := qa3 (p := p) (l := l)
 have hks' : ∀ j, j < l.length → zX p (l.take (j + 1)) = zX p (l.take j) ++ (if p (l.getD j 0) = true then [] else [l.getD j 0]) := fun j h => qf7 h
 have hkt : zX p (l.take l.length) = zX p l := by rw [List.take_length]
 obtain ⟨kl, hkl0⟩ : ∃ kl, kl = zX p l := ⟨_, rfl⟩
 obtain ⟨m, hm⟩ : ∃ m, m = kl.length := ⟨_, rfl⟩
 obtain ⟨dl, hdl⟩ : ∃ dl, dl = Ya p l := ⟨_, rfl⟩
 rw [← hkl0, ← hm, ← hdl]
 unfold Ya at hdl
 rw [← hkl0, ← hm] at hdl
 rw [← hkl0] at hkl hka hkt
 generalize hn : l.length = n at *
 obtain ⟨tt, htt⟩ : ∃ t : Nat → List Int, t = fun j => zX p (l.take j) := ⟨_, rfl⟩
 rw [show zX p (l.take n) = tt n by rw [htt]] at hkt
 have hst : ∀ j, j < n → tt (j + 1) = tt j ++ (if p (l.getD j 0) = true then [] else [l.getD j 0]) := fun j h => by rw [htt]; exact hks' j h
 clear hks'
 refine jn.go (X := (XX.withF [4])) qc (fun n => qa [] [(5, [0, 1, 5, 6, 4294967296])] n) (fun _ => none) hO 60 1 ?_
 intro M R L N m0 m1 m2 m3 m4 m5
 cases M
 cbv
 repeat' first | refine m1 _ _ ?_ ?_ | refine m2 _ _ fun h => ?_ | refine m3 _ ?_ | (refine m4 _ _ (Hd.out ?_); generalize hks : (List.cons _ _ : List K) = ks) | (refine m5 _ _ ?_; cbv)
 all_goals (clear m1 m2 m3 m4 m5; cases m0; try dsimp only)
 all_goals try simp only [sm] at *
 all_goals first
  | exact hn.symm
  | exact ⟨rfl⟩
  | exact ⟨rfl, rfl⟩
  | (have e : kl = l := by
      rcases hc with ⟨_, h2⟩ | ⟨i, _, h2, _⟩
      · exact hka h2
      · omega
     have e2 : m = n := by rw [hm, e, hn]
     subst e2
     rw [Nat.sub_self, List.replicate_zero, List.append_nil, e] at hdl
     subst hdl
     refine ⟨?_, ?_, ?_⟩ <;> rfl)
  | skip
 obtain ⟨i0, hi0, hfi, hpi, hbe⟩ : ∃ i, i < n ∧ f l = (i : Int) ∧ p (l.getD i 0) = true ∧ ∀ q ∈ l.take i, p q = false := by
  rcases hc with ⟨h2, _⟩ | ⟨i, h2, h3, h4, h5⟩
  · contradiction
  · exact ⟨i, h2, by rw [h3, Nat.zero_add], h4, h5⟩
 rw [hfi, qg (show i0 < 9223372036854775807 by omega)]
 have htl : ∀ j, (tt j).length ≤ j := fun j => by
  rw [htt]
  show (zX p (l.take j)).length ≤ j
  unfold zX
  exact Nat.le_trans (List.length_filter_le _ _) (by rw [List.length_take]; omega)
 have ht0 : tt (i0 + 1) = l.take i0 := by
  rw [hst i0 hi0, hpi, if_pos rfl, List.append_nil, htt]
  exact qa3 hbe
 have htn : ∀ j, j ≤ n → (tt j).length ≤ m := fun j hj => by
  have key : ∀ d, j + d ≤ n → (tt j).length ≤ (tt (j + d)).length := by
   intro d
   induction d with
   | zero => intro _; exact Nat.le_refl _
   | succ d ih =>
     intro h
     have := ih (by omega)
     rw [← Nat.add_assoc, hst (j + d) (by omega), List.length_append]
     omega
  have := key (n - j) (by omega)
  rw [show j + (n - j) = n by omega, hkt, ← hm] at this
  exact this
 clear hf hka hc hbe hkl0 htt
 refine ⟨jn.same (jn.ind (α := Nat × List Int × Nat) (fun x => ⟨42, [(0, bR 41000000 n), (1, .v (false, [.clo g [.fz (.ptr a), .fz (.ptr b)]])), (5, bI x.2.2), (6, bI x.1), (4294967296, bR 41000000 n)], [(41000000, .osl (.i x.2.1))]⟩) (fun _ => (.v (false, [.rf (lrt 0, []) false 0 m]), [(lrt 0, .osl (.i dl))], [.rf (lrt 0, []) true 0 n])) (fun x => x.1 ≤ n ∧ x.2.2 < x.1 ∧ x.2.1.length = n ∧ x.2.1.take x.2.2 = tt x.1 ∧ x.2.1.drop x.1 = l.drop x.1) (fun x => n - x.1) (i0 + 1, l, i0) ⟨by show i0 + 1 ≤ n; omega, Nat.lt_succ_self i0, hn, ht0.symm, rfl⟩ ?_) rfl ⟨rfl, rfl, rfl⟩⟩
 rintro ⟨j, c, i⟩ ⟨hj, hij, hcl, hct, hcd⟩ ih
 dsimp only at hj hij hcl hct hcd ih ⊢
 rw [← hks]
 have hcj : j < n → c.getD j 0 = l.getD j 0 := fun h => by
  have := congrArg (fun x : List Int => x[0]?) hcd
  simp only [List.getElem?_drop, Nat.add_zero] at this
  rw [List.getD_eq_getElem?_getD, List.getD_eq_getElem?_getD, this]
 have hil : i = (tt j).length := by rw [← hct, List.length_take]; omega
 refine jn.go (X := (XX.withF [4])) qc (fun n => qa [] [(5, [0, 1, 5, 6, 4294967296])] n) (fun _ => none) hO 60 1 ?_
 intro M R L N m0 m1 m2 m3 m4 m5
 cases M
 cbv
 repeat' first | refine m1 _ _ ?_ ?_ | refine m2 _ _ fun h => ?_ | refine m3 _ ?_ | (refine m4 _ _ (Hd.out ?_); try rw [hks]) | (refine m5 _ _ ?_; cbv)
 all_goals (clear m1 m2 m3 m4 m5; cases m0; (try clear hks); try dsimp only)
 all_goals try simp only [sm] at *
 all_goals (try simp only [Nat.zero_add] at *)
 all_goals (try simp only [hcj (by omega), qg (show j < 9223372036854775807 by omega), qg (show i < 9223372036854775807 by omega)] at *)
 all_goals first
  | exact hn.symm
  | omega
  | (rw [jc]; omega)
  | exact ⟨rfl, rfl⟩
  | exact qo (z := (0 : Int)) (by omega)
  | (have hpj : p (l.getD j 0) = false := by assumption
     refine ⟨(ih (j + 1, c.set i (l.getD j 0), i + 1) ⟨by show j + 1 ≤ n; omega, by show i + 1 < j + 1; omega, by show (c.set i (l.getD j 0)).length = n; rw [List.length_set]; exact hcl, ?_, ?_⟩ (by show n - (j + 1) < n - j; omega)).same rfl ⟨rfl, rfl, rfl⟩⟩
     · show (c.set i (l.getD j 0)).take (i + 1) = tt (j + 1)
       rw [qlB _ (by omega), hct, hst j (by omega), hpj]; rfl
     · show (c.set i (l.getD j 0)).drop (j + 1) = l.drop (j + 1)
       rw [List.drop_set_of_lt (by omega), qdF hcd])
  | (have hpj : p (l.getD j 0) = true := by assumption
     refine ⟨(ih (j + 1, c, i) ⟨by show j + 1 ≤ n; omega, by show i < j + 1; omega, hcl, ?_, ?_⟩ (by show n - (j + 1) < n - j; omega)).same rfl ⟨rfl, rfl, rfl⟩⟩
     · show c.take i = tt (j + 1)
       rw [hct, hst j (by omega), hpj, if_pos rfl, List.append_nil]
     · show c.drop (j + 1) = l.drop (j + 1)
       exact qdF hcd)
  | (have e : j = n := by omega
     subst e
     have hmi : m = i := by rw [hm, ← hkt, ← hil]
     have e2 : dl = kS c i (j - i) 0 := by rw [qjJ hcl (by omega), hct, hkt, hdl, hmi]
     subst hmi
     rw [e2]
     refine ⟨?_, ?_, ?_⟩ <;> rfl)
  | skip
def ko (q : Nat → Bool) (i : Nat) : List Int := ((List.range i).filter q).map fun (j : Nat) => (j : Int)
theorem wz {q : Nat → Bool} {i : Nat} (h : q i = true) : ko q (i + 1) = ko q i ++ [(i : Int)] := by
 simp only [ko, List.range_succ, List.filter_append, List.map_append, List.filter_cons, List.filter_nil, h, if_true, List.map_cons, List.map_nil]
theorem wl {q : Nat → Bool} {i : Nat} (h : q i = false) : ko q (i + 1) = ko q i := by
 simp only [ko, List.range_succ, List.filter_append, List.map_append, List.filter_cons, List.filter_nil, h, Bool.false_eq_true, if_false, List.map_nil, List.append_nil]
theorem QP (q : Nat → Bool) (i : Nat) : (ko q i).length ≤ i := by
 simp only [ko, List.length_map]
 exact Nat.le_trans (List.length_filter_le _ _) (by simp)
theorem w6 {q : Nat → Bool} {n : Nat} {x : Int} (h : x ∈ ko q n) : 0 ≤ x ∧ x < n ∧ q x.toNat = true := by
 simp only [ko, List.mem_map, List.mem_filter, List.mem_range] at h
 obtain ⟨j, ⟨h1, h2⟩, rfl⟩ := h
 exact ⟨by omega, by omega, by simpa using h2⟩
theorem qfl (q : Nat → Bool) (p : Int → Bool) (n : Nat) : (ko q n).filter p = ko (fun j => q j && p j) n := by
 simp only [ko, List.filter_map, List.filter_filter]
 congr 1
 congr 1
 funext j
 simp [Function.comp, Bool.and_comm]
def chQ (ts : List Tie) (i : Nat) : Bool := decide (0 < i) && decide (Kn ts i < 0)
def chL (t : qn) : List Int := ko (chQ t.ties) t.nodes.length
def enP (t : qn) (x : qf) (i : Int) : Bool := decide (x.times.getD i.toNat 0 = -1) && decide (nsI t x i = 1)
def enL (t : qn) (x : qf) : List Int := (chL t).filter (enP t x)
theorem qfo (q : Tie) (x : Int) : qe Tryz.prog 181 [YM q, (false, [.ptr [.int .i64 x]])] (rB (q.free && q.dst == x)) := by
 refine qe.of qc (fn := Tryz.f181) (c := Tryz.f181.body.getD .skip) (dr := fun n => qa 0 [] n) Tryz.func181 rfl (by kernel_rfl) (by kernel_rfl) (by kernel_rfl) ?_
 obtain ⟨x1, x2, x3, x4, x5⟩ := q
 refine SEx.go (X := XX) qc (fun n => qa [] [] n) (fun _ => none) qd 60 ?_
 intro M R L N m0 m1 m2 m3 m4 m5
 cases M
 cbv
 repeat' first | refine m1 _ _ ?_ ?_ | refine m2 _ _ fun h => ?_ | refine m3 _ ?_ | (refine m4 _ _ (Hd.out ?_); try first | rw [hks] | rw [hk2] | rw [hk3]) | (refine m5 _ _ ?_; cbv)
 all_goals (clear m1 m2 m3 m4 m5; cases m0; (try clear hks; try clear hk2; try clear hk3); try dsimp only)
 all_goals try simp only [sm] at *
 all_goals (refine qO ?_ _; simp_all; done)
theorem qhB (t : qn) (x : Int) (h1 : t.ties.length ≤ maxLen) : qe Tryz.prog 178 [qR t, aI x] (rI (Kn t.ties x)) := by
 refine qe.of qc (fn := Tryz.f178) (c := Tryz.f178.body.getD .skip) (dr := fun n => qa 0 [] n) Tryz.func178 rfl (by kernel_rfl) (by kernel_rfl) (by kernel_rfl) ?_
 obtain ⟨f, hf⟩ : ∃ f, f = Kn := ⟨_, rfl⟩
 have hO : qp Tryz.prog (qN [(162, w2 Kr (qqP 181 false dcI fun _ => rfl) (fun l x => rI (f l x)) (fun l x => [LLe l maxLen]))]) := by
  subst hf
  exact qb (qE fun l x h => JG l 181 [.ptr [.int .i64 x]] (fun q => q.free && q.dst == x) (fun q _ => qfo q x) (h _ (.head _)).out) qd
 obtain ⟨ns, ts, hr⟩ := t
 rw [← hf]
 refine SEx.go (X := XX) qc (fun n => qa [] [] n) (fun _ => none) hO 60 ?_
 intro M R L N m0 m1 m2 m3 m4 m5
 cases M
 cbv
 repeat' first | refine m1 _ _ ?_ ?_ | refine m2 _ _ fun h => ?_ | refine m3 _ ?_ | (refine m4 _ _ (Hd.out ?_); try first | rw [hks] | rw [hk2] | rw [hk3]) | (refine m5 _ _ ?_; cbv)
 all_goals (clear m1 m2 m3 m4 m5; cases m0; (try clear hks; try clear hk2; try clear hk3); try dsimp only)
 all_goals try simp only [sm] at *
 all_goals first
  | exact ⟨h1⟩
  | rfl
  | skip
theorem qkY : qC Tryz.prog 178 (qeF Kn) := qE fun t x h => qhB t x (h _ (.head _)).out
theorem qkw (t : qn) (h1 : t.ties.length ≤ maxLen) (h2 : 1 ≤ t.nodes.length ∧ t.nodes.length ≤ 7) : qe Tryz.prog 160 [qR t] (rUs (chL t)) := by
 refine qe.of qc (fn := Tryz.f160) (c := Tryz.f160.body.getD .skip) (dr := fun n => qa 0 [] n) Tryz.func160 rfl (by kernel_rfl) (by kernel_rfl) (by kernel_rfl) ?_
 obtain ⟨f, hf⟩ : ∃ f, f = Kn := ⟨_, rfl⟩
 have hO : qp Tryz.prog (qN [(178, qeF f)]) := by subst hf; exact qb qkY qd
 obtain ⟨ns, ts, hr⟩ := t
 dsimp only at h1 h2
 obtain ⟨q, hq⟩ : ∃ q, q = chQ ts := ⟨_, rfl⟩
 obtain ⟨r, hrr⟩ : ∃ r, r = chL ⟨ns, ts, hr⟩ := ⟨_, rfl⟩
 rw [← hrr]
 have hrr : r = ko q ns.length := by rw [hrr, hq]; rfl
 have hq0 : q 0 = false := by rw [hq]; rfl
 have hqs : ∀ j : Nat, q (j + 1) = decide (f ts ((j + 1 : Nat) : Int) < 0) := fun j => by rw [hq, hf]; unfold chQ; rw [decide_eq_true (Nat.succ_pos j), Bool.true_and]
 clear hq
 obtain ⟨m, hm⟩ : ∃ m, m = ns.length := ⟨_, rfl⟩
 rw [← hm] at h2 hrr
 refine SEx.go (X := XX) qc (fun n => qa [] [(3, [1, 3, 4])] n) (fun _ => none) hO 60 ?_
 intro M R L N m0 m1 m2 m3 m4 m5
 cases M
 cbv
 repeat' first | refine m1 _ _ ?_ ?_ | refine m2 _ _ fun h => ?_ | refine m3 _ ?_ | (refine m4 _ _ (Hd.out ?_); generalize hks : (List.cons _ _ : List K) = ks) | (refine m5 _ _ ?_; cbv)
 all_goals (clear m1 m2 m3 m4 m5; cases m0; try dsimp only)
 all_goals try simp only [sm] at *
 refine ⟨SEx.same (SEx.idx (m - 1) (fun j => ⟨21, [(1, bP 4096), (3, bR 12288 (ko q (j + 1)).length), (4, bI (j + 1 : Nat))], [(4096, .obx [.fz (.sl (.node false none ns)), .fz (.sl (.tie ts)), .fz (.int .i64 hr)]), (12288, .osl (.i (ko q (j + 1))))]⟩) (fun _ => rUs r) ?_) (by rw [wl hq0]; rfl) rfl⟩
 intro j hj ih
 rw [← hks]
 obtain ⟨u, hu⟩ : ∃ u, u = ko q (j + 1) := ⟨_, rfl⟩
 have hul : u.length ≤ j + 1 := by rw [hu]; exact QP _ _
 rw [← hu]
 obtain ⟨n, hn⟩ : ∃ n, n = u.length := ⟨_, rfl⟩
 rw [← hn] at hul ⊢
 obtain ⟨k, hk⟩ : ∃ k, k = j + 1 := ⟨_, rfl⟩
 have hqk : q k = decide (f ts (k : Int) < 0) := by rw [hk]; exact hqs j
 rw [← hk] at hul hu ih ⊢
 refine SEx.go (X := XX) qc (fun n => qa [] [(3, [1, 3, 4])] n) (fun _ => none) hO 60 ?_
 intro M R L N m0 m1 m2 m3 m4 m5
 cases M
 cbv
 repeat' first | refine m1 _ _ ?_ ?_ | refine m2 _ _ fun h => ?_ | refine m3 _ ?_ | (refine m4 _ _ (Hd.out ?_); try first | rw [hks] | rw [hk2] | rw [hk3]) | (refine m5 _ _ ?_; cbv)
 all_goals (clear m1 m2 m3 m4 m5; cases m0; (try clear hks; try clear hk2; try clear hk3); try dsimp only)
 all_goals try simp only [sm] at *
 all_goals try simp only [List.length_append, List.length_cons, List.length_nil, List.length_set] at *
 all_goals (try omega)
 all_goals (try (have := zI; omega))
 all_goals (try simp only [qg (show k < 9223372036854775807 by omega)])
 all_goals first
  | exact ⟨h1⟩
  | (have ih' := ih (by omega)
     rw [wz (by rw [hqk]; exact decide_eq_true (by assumption)), ← hu, List.length_append] at ih'
     exact ⟨ih'.same rfl rfl⟩)
  | (have ih' := ih (by omega)
     rw [wl (by rw [hqk]; exact decide_eq_false (by omega)), ← hu, ← hn] at ih'
     exact ⟨ih'.same rfl rfl⟩)
  | (have e : k = m := by omega
     rw [hrr, ← e, hu]; rfl)
  | skip
structure StV (t : qn) (x : qf) : Prop where
 sh : zb t = true
 vals : qP x.vals = true
theorem YZ (t : qn) (x : qf) (i : Int) (hs : kP t x) (h : StV t x) (hi : 0 ≤ i ∧ i < t.nodes.length) : qe Tryz.prog 129 [qR t, qL x, aI i] (rI (nsI t x i)) := by
 refine qe.of qc (fn := Tryz.f129) (c := Tryz.f129.body.getD .skip) (dr := fun n => qa 0 [(1, 8)] n) Tryz.func129 rfl (by kernel_rfl) (by kernel_rfl) (by kernel_rfl) ?_
 have h1 := kG h.sh (qo (z := qi.z) (show i.toNat < t.nodes.length by omega)).out
 have h2 := h.vals
 have h3 := hs.sh.nodes _ (qo (z := qi.z) (show i.toNat < t.nodes.length by omega)).out
 have h4 := hs.st.vlen
 unfold nsI nd
 obtain ⟨f, hf⟩ : ∃ f : List Int → List Int → Int, f = fun l v => if qX l = true ∧ qP v = true then Zt v l 1 else -1 := ⟨_, rfl⟩
 have hO : qp Tryz.prog (qN [(163, w2 kw kw (fun l v => rI (f l v)) (fun l v => [ZV l, LLe v maxLen]))]) := by
  subst hf
  exact qb (qE fun l v h => Z9 l v (h _ (.head _)) (h _ (.tail _ (.head _))).out) qd
 have he : f (t.nodes.getD i.toNat qi.z).label x.vals = Zt x.vals (t.nodes.getD i.toNat qi.z).label 1 := by rw [hf]; exact if_pos ⟨h1, h2⟩
 rw [← he]
 clear hs h hf he
 obtain ⟨ns, ts, hr⟩ := t
 obtain ⟨now, times, vals⟩ := x
 dsimp only at hi h1 h2 h3 h4
 refine SEx.go (X := XX) qc (fun n => qa [] [] n) (fun _ => none) hO 60 ?_
 intro M R L N m0 m1 m2 m3 m4 m5
 cases M
 cbv
 repeat' first | refine m1 _ _ ?_ ?_ | refine m2 _ _ fun h => ?_ | refine m3 _ ?_ | (refine m4 _ _ (Hd.out ?_); try first | rw [hks] | rw [hk2] | rw [hk3]) | (refine m5 _ _ ?_; cbv)
 all_goals (clear m1 m2 m3 m4 m5; cases m0; (try clear hks; try clear hk2; try clear hk3); try dsimp only)
 all_goals try simp only [sm] at *
 all_goals first
  | omega
  | exact ⟨h3.len, h3.all⟩
  | exact ⟨h4⟩
  | rfl
  | skip
def qdE (f : qn → qf → Int → Int) : Wr := w3 qQ qM dcI (fun t x i => rI (f t x i)) (fun t x i => [kP t x, StV t x, InX i t.nodes])
theorem qeE : qC Tryz.prog 129 (qdE nsI) := QS fun t x i h => YZ t x i (h _ (.head _)) (h _ (.tail _ (.head _))) (h _ (.tail _ (.tail _ (.head _)))).out
theorem qd0 (i : Int) (t : qn) (x : qf) (hs : kP t x) (h : StV t x) (hl : x.times.length = t.nodes.length) (hi : 0 ≤ i ∧ i < t.nodes.length) : qe Tryz.prog 161 [aI i, (false, [.ptr x.d]), (false, [.ptr t.d])] (rB (!enP t x i)) := by
 refine qe.of qc (fn := Tryz.f161) (c := Tryz.f161.body.getD .skip) (dr := fun n => qa 0 [] n) Tryz.func161 rfl (by kernel_rfl) (by kernel_rfl) (by kernel_rfl) ?_
 obtain ⟨f, hf⟩ : ∃ f, f = nsI := ⟨_, rfl⟩
 have hO : qp Tryz.prog (qN [(129, qdE f)]) := by subst hf; exact qb qeE qd
 unfold enP
 rw [← hf]
 clear hf
 obtain ⟨ns, ts, hr⟩ := t
 obtain ⟨now, times, vals⟩ := x
 dsimp only at hl hi
 refine SEx.go (X := XX) qc (fun n => qa [] [] n) (fun _ => none) hO 60 ?_
 intro M R L N m0 m1 m2 m3 m4 m5
 cases M
 cbv
 repeat' first | refine m1 _ _ ?_ ?_ | refine m2 _ _ fun h => ?_ | refine m3 _ ?_ | (refine m4 _ _ (Hd.out ?_); try first | rw [hks] | rw [hk2] | rw [hk3]) | (refine m5 _ _ ?_; cbv)
 all_goals (clear m1 m2 m3 m4 m5; cases m0; (try clear hks; try clear hk2; try clear hk3); try dsimp only)
 all_goals try simp only [sm] at *
 all_goals first
  | omega
  | exact hs
  | exact h
  | exact ⟨hi⟩
  | (refine qO ?_ _; rw [decide_eq_false (by assumption)]; rfl)
  | (refine qO ?_ _; rw [decide_eq_true (by assumption), Bool.true_and]; generalize f _ _ i = v; by_cases hv : v = 1 <;> simp [hv]; done)
  | skip
structure ChT (t : qn) : Prop where
 len : t.ties.length ≤ maxLen
 nod : 1 ≤ t.nodes.length ∧ t.nodes.length ≤ 7
def qio (f : qn → List Int) : Wr := w1 qQ (fun t => rUs (f t)) (fun t => [ChT t])
theorem qgP : qC Tryz.prog 160 (qio chL) := zJ fun t h => qkw t (h _ (.head _)).len (h _ (.head _)).nod
structure qqH (p : SP) (n m : Nat) (l l0 : List Int) (g' g : Nat) (a' a b' b : List D) : Prop where out : p = (lrt 0, []) ∧ m = n ∧ l.length = n ∧ l = l0 ∧ g' = g ∧ a' = a ∧ b' = b
def qnK (g : Nat) (a b : List D) (l0 : List Int) (k d : List Int → List Int) (ln : List Int → Nat) : WrW
 | [(false, [.rf p true 0 n]), (false, [.clo g' [.fz (.ptr a'), .fz (.ptr b')]])], [(.sl m, .osl (.i l))] => some ([qqH p n m l l0 g' g a' a b' b], (.v (false, [.rf (lrt 0, []) false 0 (ln (k l))]), [(lrt 0, .osl (.i (d l)))], [.rf (lrt 0, []) true 0 n]))
 | _, _ => none
theorem qo6 {g : Nat} {a b : List D} {l0 : List Int} {p : Int → Bool} (hp : ∀ q ∈ l0, qe Tryz.prog g [aI q, (false, [.ptr a]), (false, [.ptr b])] (rB (p q))) (h1 : l0.length ≤ maxLen) :
 qik Tryz.prog 159 (qnK g a b l0 (zX p) (Ya p) List.length) := by
 intro xs ls
 unfold qnK
 split
 · refine R.Sim.mk fun hq => ?_
   obtain ⟨rfl, rfl, rfl, rfl, rfl, rfl, rfl⟩ := (hq _ (.head _)).out
   exact WL _ _ _ _ p hp h1
 · exact R.Sim.none'
theorem qnB (p : Int → Bool) (l : List Int) : (Ya p l).length = l.length := by
 have : (zX p l).length ≤ l.length := List.length_filter_le _ _
 unfold Ya
 rw [List.length_append, List.length_replicate]
 omega
theorem qkG (p : Int → Bool) (l : List Int) : ((Ya p l).drop 0).take (zX p l).length = zX p l := by
 rw [List.drop_zero]
 unfold Ya
 rw [List.take_left]
theorem qkO (p : Int → Bool) (l : List Int) : zX (fun i => !p i) l = l.filter p := by
 unfold zX
 congr 1
 funext x
 simp
theorem qcX {P : Program} {g : FuncId} {args : List (V1 A)} {tb tb' : List (Nat × O)} {ph ph' : List A} {p : qj} {off : Nat} (h : W0 P g args tb ph (.v (false, [.rf p off 0])) tb' ph') : W0 P g args tb ph (.v (false, [.fz (.sl [])])) tb' ph' := by
 refine ⟨h.1, fun J w σ vals hfut hold hsz ha hin => (h.2 J w σ vals hfut hold hsz ha hin).mono ?_⟩
 rintro e w' ⟨v, σ', he, ho⟩
 letI := J
 refine ⟨v, σ', he, ho.goes, ho.back, ?_⟩
 have hr : ql w' σ' (.rf p off 0) v := ho.res
 show ql w' σ' (.fz (.sl [])) v
 cases hr with
 | rz _ _ b => exact .fz _ _ (.sl [] 0 b 0 (fun _ _ => undef) (Nat.le_refl _) (by simp) (by simp) (by simp) (by simp))
 | rf _ _ _ g n cap sz hg hl hn => exact .fz _ _ (.sl [] 0 _ _ (fun _ _ => undef) (Nat.zero_le _) (by simp) (by simp) (by simp) (by simp))
theorem qct (l : List Int) (g : FuncId) (a b : List D) (p : Int → Bool) (hp : ∀ q ∈ l, qe Tryz.prog g [aI q, (false, [.ptr a]), (false, [.ptr b])] (rB (p q))) (h1 : l.length ≤ maxLen) (h0 : zX p l = []) :
 Qd Tryz.prog 159 [wR l.length, (false, [.clo g [.fz (.ptr a), .fz (.ptr b)]])] [(lrt 0, .osl (.i l))] [.rf (lrt 0, []) true 0 l.length]
  (.v (false, [.fz (.sl (.i []))])) [(lrt 0, .osl (.i (Ya p l)))] [.rf (lrt 0, []) true 0 l.length] := by
 have := WL l g a b p hp h1
 rw [h0] at this
 exact qcX this
def qiv (g : Nat) (a b : List D) (l0 : List Int) (d : List Int → List Int) : WrW
 | [(false, [.rf p true 0 n]), (false, [.clo g' [.fz (.ptr a'), .fz (.ptr b')]])], [(.sl m, .osl (.i l))] => some ([qqH p n m l l0 g' g a' a b' b], (.v (false, [.fz (.sl (.i []))]), [(lrt 0, .osl (.i (d l)))], [.rf (lrt 0, []) true 0 n]))
 | _, _ => none
theorem qlJ {g : Nat} {a b : List D} {l0 : List Int} {p : Int → Bool} (hp : ∀ q ∈ l0, qe Tryz.prog g [aI q, (false, [.ptr a]), (false, [.ptr b])] (rB (p q))) (h1 : l0.length ≤ maxLen) (h0 : zX p l0 = []) :
 qik Tryz.prog 159 (qiv g a b l0 (Ya p)) := by
 intro xs ls
 unfold qiv
 split
 · refine R.Sim.mk fun hq => ?_
   obtain ⟨rfl, rfl, rfl, rfl, rfl, rfl, rfl⟩ := (hq _ (.head _)).out
   exact qct _ _ _ _ p hp h1 h0
 · exact R.Sim.none'
def rE : TV W := .v (false, [.fz (.sl (.i []))])
def rEn : List Int → TV W
 | [] => rE
 | a :: l => rUs (a :: l)
theorem yQ (t : qn) (x : qf) (hs : kP t x) (h : StV t x) (hl : x.times.length = t.nodes.length) : qe Tryz.prog 123 [qR t, qL x] (rEn (enL t x)) := by
 refine qe.of qc (fn := Tryz.f123) (c := Tryz.f123.body.getD .skip) (dr := fun n => qa 0 [] n) Tryz.func123 rfl (by kernel_rfl) (by kernel_rfl) (by kernel_rfl) ?_
 have hn := qI h.sh
 have htl := hs.sh.tlen
 obtain ⟨f0, hf0⟩ : ∃ f, f = chL := ⟨_, rfl⟩
 have hO : qp Tryz.prog (qN [(160, qio f0)]) := by subst hf0; exact qb qgP qd
 obtain ⟨l0, hl0⟩ : ∃ l, l = f0 t := ⟨_, rfl⟩
 have hmem : ∀ q ∈ l0, 0 ≤ q ∧ q < t.nodes.length := fun q hq => by
  rw [hl0, hf0] at hq
  have := w6 hq
  exact ⟨this.1, this.2.1⟩
 have hl7 : l0.length ≤ maxLen := by
  have : l0.length ≤ t.nodes.length := by rw [hl0, hf0]; exact QP _ _
  unfold maxLen
  omega
 have he : enL t x = zX (fun i => !enP t x i) l0 := by rw [qkO, hl0, hf0]; rfl
 have hc := fun q hq => qd0 q t x hs h hl (hmem q hq)
 obtain ⟨p, hp⟩ : ∃ p, p = fun i => !enP t x i := ⟨_, rfl⟩
 rw [← hp] at he
 have hc : ∀ q ∈ l0, qe Tryz.prog 161 [aI q, (false, [.ptr x.d]), (false, [.ptr t.d])] (rB (p q)) := fun q hq => by rw [hp]; exact hc q hq
 rw [he]
 clear he hp hmem
 have hDl := qnB p l0
 have hDt := qkG p l0
 obtain ⟨ns, ts, hr⟩ := t
 obtain ⟨now, times, vals⟩ := x
 obtain ⟨d, hd⟩ : ∃ d, d = Ya p := ⟨_, rfl⟩
 cases hkp : zX p l0 with
 | nil =>
   have hW : zn Tryz.prog ((XX.withF [2, 3, 4]).withW [(159, [(0, 0)])] (Qi [(159, qiv 161 [.int .i64 now, .sl (.i times), .sl (.i vals)] [.sl (.node false none ns), .sl (.tie ts), .int .i64 hr] l0 d)])) := by
    subst hd
    exact SX.withW_ok (ZI (qlJ hc hl7 hkp) Jh)
   rw [← hd] at hDl
   refine SEx.go (X := ((XX.withF [2, 3, 4]).withW [(159, [(0, 0)])] (Qi [(159, qiv 161 [.int .i64 now, .sl (.i times), .sl (.i vals)] [.sl (.node false none ns), .sl (.tie ts), .int .i64 hr] l0 d)]))) qc (fun n => qa [] [] n) (fun _ => none) hO 60 ?_ hW
   intro M R L N m0 m1 m2 m3 m4 m5
   cases M
   cbv
   repeat' first | refine m1 _ _ ?_ ?_ | refine m2 _ _ fun h => ?_ | refine m3 _ ?_ | (refine m4 _ _ (Hd.out ?_); try first | rw [hks] | rw [hk2] | rw [hk3]) | (refine m5 _ _ ?_; cbv)
   all_goals (clear m1 m2 m3 m4 m5; cases m0; (try clear hks; try clear hk2; try clear hk3); try dsimp only)
   all_goals try simp only [sm] at *
   all_goals (clear hW hO)
   all_goals first
    | exact ⟨htl, hn⟩
    | rfl
    | exact ⟨⟨rfl, rfl, rfl, hl0.symm, rfl, rfl, rfl⟩⟩
    | (rw [← hl0]; exact hDl.symm)
    | skip
 | cons k0 kr =>
   rw [hkp] at hDt
   obtain ⟨k, hk⟩ : ∃ k, k = zX p := ⟨_, rfl⟩
   rw [← hk] at hkp
   obtain ⟨ln, hln⟩ : ∃ f : List Int → Nat, f = List.length := ⟨_, rfl⟩
   have hlk : ln (k l0) = (k0 :: kr).length := by rw [hln, hkp]
   have hkl : (k0 :: kr).length ≤ l0.length := by rw [← hkp, hk]; exact List.length_filter_le _ _
   have hW : zn Tryz.prog ((XX.withF [2, 3, 4]).withW [(159, [(0, 0)])] (Qi [(159, qnK 161 [.int .i64 now, .sl (.i times), .sl (.i vals)] [.sl (.node false none ns), .sl (.tie ts), .int .i64 hr] l0 k d ln)])) := by
    subst hk hd hln
    exact SX.withW_ok (ZI (qo6 hc hl7) Jh)
   rw [← hd] at hDt hDl
   clear hk hln
   refine SEx.go (X := ((XX.withF [2, 3, 4]).withW [(159, [(0, 0)])] (Qi [(159, qnK 161 [.int .i64 now, .sl (.i times), .sl (.i vals)] [.sl (.node false none ns), .sl (.tie ts), .int .i64 hr] l0 k d ln)]))) qc (fun n => qa [] [] n) (fun _ => none) hO 60 ?_ hW
   intro M R L N m0 m1 m2 m3 m4 m5
   cases M
   cbv
   repeat' first | refine m1 _ _ ?_ ?_ | refine m2 _ _ fun h => ?_ | refine m3 _ ?_ | (refine m4 _ _ (Hd.out ?_); try first | rw [hks] | rw [hk2] | rw [hk3]) | (refine m5 _ _ ?_; cbv)
   all_goals (clear m1 m2 m3 m4 m5; cases m0; (try clear hks; try clear hk2; try clear hk3); try dsimp only)
   all_goals try simp only [sm] at *
   all_goals (clear hW hO)
   all_goals (try simp only [← hl0, hlk, hDl, Nat.zero_add])
   all_goals first
    | exact ⟨htl, hn⟩
    | exact ⟨⟨rfl, rfl, rfl, rfl, rfl, rfl, rfl⟩⟩
    | exact hkl
    | (simp; done)
    | (rw [hDt]; done)
    | (rw [hDt]; rfl)
    | skip
theorem Yn (t : qn) (x : qf) (hs : kP t x) (h : StV t x) (hl : x.times.length = t.nodes.length) : qe Tryz.prog 92 [qR t, qL x] (rUs (enL t x)) := by
 refine qe.of qc (fn := Tryz.f92) (c := Tryz.f92.body.getD .skip) (dr := fun n => qa 0 [] n) Tryz.func92 rfl (by kernel_rfl) (by kernel_rfl) (by kernel_rfl) ?_
 have hn := qI h.sh
 have htl := hs.sh.tlen
 obtain ⟨f1, hf1⟩ : ∃ f, f = qjr := ⟨_, rfl⟩
 obtain ⟨f2, hf2⟩ : ∃ f, f = Kn := ⟨_, rfl⟩
 have hO : qp Tryz.prog (qN [(122, Qw f1), (121, qeF f2)]) := by
  subst hf1 hf2
  exact qb jw (qb qa0 qd)
 have hv := h.vals
 have hlb : ∀ n ∈ t.nodes, qX n.label = true := fun n hn => kG h.sh hn
 have he : enL t x = ko (fun j => chQ t.ties j && enP t x j) t.nodes.length := by unfold enL chL; rw [qfl]
 rw [he]
 obtain ⟨ns, ts, hr⟩ := t
 obtain ⟨now, times, vals⟩ := x
 dsimp only at hl hn htl hv hlb ⊢
 obtain ⟨q, hq⟩ : ∃ q, q = fun j : Nat => chQ ts j && enP ⟨ns, ts, hr⟩ ⟨now, times, vals⟩ j := ⟨_, rfl⟩
 have hqd : ∀ j : Nat, q j = (decide (0 < j) && decide (f2 ts (j : Int) < 0) && (decide (times.getD j 0 = -1) && decide (f1 (ns.getD j qi.z).label vals = 1))) := fun j => by rw [hq, hf1, hf2]; rfl
 rw [show ko (fun j : Nat => chQ ts j && enP ⟨ns, ts, hr⟩ ⟨now, times, vals⟩ j) ns.length = ko q ns.length by rw [hq]]
 clear hq he hs h
 obtain ⟨m, hm⟩ : ∃ m, m = ns.length := ⟨_, rfl⟩
 rw [← hm] at hl hn ⊢
 refine SEx.go (X := XX) qc (fun n => qa [] [(3, [2, 3, 5, 10, 11, 12])] n) (fun _ => none) hO 60 ?_
 intro M R L N m0 m1 m2 m3 m4 m5
 cases M
 cbv
 repeat' first | refine m1 _ _ ?_ ?_ | refine m2 _ _ fun h => ?_ | refine m3 _ ?_ | (refine m4 _ _ (Hd.out ?_); generalize hks : (List.cons _ _ : List K) = ks) | (refine m5 _ _ ?_; cbv)
 all_goals (clear m1 m2 m3 m4 m5; cases m0; try dsimp only)
 all_goals try simp only [sm] at *
 refine ⟨SEx.same (SEx.idx m (fun i => ⟨47, [(2, bP 8192), (3, bP 12288), (5, bR 20480 (ko q i).length), (10, bL (.node false none ns)), (11, bI m), (12, bI i)], [(8192, .obx [.fz (.sl (.node false none ns)), .fz (.sl (.tie ts)), .fz (.int .i64 hr)]), (12288, .obx [.fz (.int .i64 now), .fz (.sl (.i times)), .fz (.sl (.i vals))]), (20480, .osl (.i (ko q i)))]⟩) (fun _ => rUs (ko q m)) ?_) (by rw [hm]; rfl) rfl⟩
 intro i hi ih
 rw [← hks]
 obtain ⟨u, hu⟩ : ∃ u, u = ko q i := ⟨_, rfl⟩
 have hul : u.length ≤ i := by rw [hu]; exact QP _ _
 rw [← hu]
 obtain ⟨n, hnn⟩ : ∃ n, n = u.length := ⟨_, rfl⟩
 rw [← hnn] at hul ⊢
 have hyes : 0 < i → f2 ts (i : Int) < 0 → times.getD i 0 = -1 → f1 (ns.getD i qi.z).label vals = 1 → q i = true := fun a b c d => by rw [hqd, decide_eq_true a, decide_eq_true b, decide_eq_true c, decide_eq_true d]; rfl
 have hno : (¬ 0 < i ∨ ¬ f2 ts (i : Int) < 0 ∨ ¬ times.getD i 0 = -1 ∨ ¬ f1 (ns.getD i qi.z).label vals = 1) → q i = false := fun h => by
  rw [hqd]
  rcases h with h | h | h | h <;> rw [decide_eq_false h] <;> simp
 clear hqd
 refine SEx.go (X := XX) qc (fun n => qa [] [(3, [2, 3, 5, 10, 11, 12])] n) (fun _ => none) hO 60 ?_
 intro M R L N m0 m1 m2 m3 m4 m5
 cases M
 cbv
 repeat' first | refine m1 _ _ ?_ ?_ | refine m2 _ _ fun h => ?_ | refine m3 _ ?_ | (refine m4 _ _ (Hd.out ?_); try first | rw [hks] | rw [hk2] | rw [hk3]) | (refine m5 _ _ ?_; cbv)
 all_goals (clear m1 m2 m3 m4 m5; cases m0; (try clear hks; try clear hk2; try clear hk3); try dsimp only)
 all_goals try simp only [sm] at *
 all_goals try simp only [List.length_append, List.length_cons, List.length_nil, List.length_set] at *
 all_goals (try omega)
 all_goals (try (have := zI; omega))
 all_goals (try simp only [qg (show i < 9223372036854775807 by omega)])
 all_goals first
  | exact ⟨htl⟩
  | exact ⟨hv⟩
  | exact ⟨hlb _ (qo (z := qi.z) (by omega)).out⟩
  | (have ih' := ih (by omega)
     rw [wz (hyes (by omega) (by assumption) (by assumption) (by assumption)), ← hu, List.length_append] at ih'
     exact ⟨ih'.same rfl rfl⟩)
  | (have ih' := ih (by omega)
     rw [wl (hno (by first | (left; omega) | (right; left; assumption) | (right; left; omega) | (right; right; left; assumption) | (right; right; right; assumption))), ← hu, ← hnn] at ih'
     exact ⟨ih'.same rfl rfl⟩)
  | (obtain rfl : i = m := by omega
     rw [hu]; rfl)
  | skip
end Go.Proofs.YtececadpjelanaaGreat.Ai
namespace Go.Proofs.YtececadpjelanaaGreat.Ai
open Go
set_option maxRecDepth 100000
variable [qh]
theorem qpN {l : List Int} (h : l ≠ []) : rEn l = rUs l := by cases l with | nil => exact absurd rfl h | cons a l => rfl
structure EnT (t : qn) (x : qf) : Prop where
 le : kP t x
 v : StV t x
 tl : x.times.length = t.nodes.length
structure qqC (t : qn) (x : qf) : Prop where
 e : EnT t x
 ne : enL t x ≠ []
structure qq1 (t : qn) (x : qf) : Prop where
 e : EnT t x
 no : enL t x = []
def qq4 (f : qn → qf → List Int) : Wr := w2 qQ qM (fun t x => rUs (f t x)) (fun t x => [qqC t x])
theorem qo1 : qC Tryz.prog 123 (qq4 enL) := qE fun t x h => by
 have h := h _ (.head _)
 rw [← qpN h.ne]
 exact yQ t x h.e.le h.e.v h.e.tl
def qqM : Wr := w2 qQ qM (fun t x => rE) (fun t x => [qq1 t x])
theorem qoO : qC Tryz.prog 123 qqM := qE fun t x h => by
 have h := h _ (.head _)
 have := yQ t x h.e.le h.e.v h.e.tl
 rw [h.no] at this
 exact this
def qqU (f : qn → qf → List Int) : Wr := w2 qQ qM (fun t x => rUs (f t x)) (fun t x => [EnT t x])
theorem qnQ : qC Tryz.prog 92 (qqU enL) := qE fun t x h => by
 have h := h _ (.head _)
 exact Yn t x h.le h.v h.tl
end Go.Proofs.YtececadpjelanaaGreat.Ai
namespace Go.Proofs.YtececadpjelanaaGreat.Ai
open Go
set_option maxRecDepth 100000
variable [qh]
def btS (s : Int) (i : Nat) : Bool := decide (IntKind.i64.wrap (((BitVec.ofInt IntKind.i64.bits (s.fdiv (2 ^ min i IntKind.i64.bits)) &&& BitVec.ofInt IntKind.i64.bits 1).toNat : Nat) : Int) = 1)
def ZC (l : List Int) (s : Int) (i : Nat) : List Int := ((List.range i).filter (btS s)).map fun j => l.getD j 0
def Qz (l : List Int) (s : Int) : List Int := ZC l s l.length
theorem qdN {l : List Int} {s : Int} {i : Nat} (h : btS s i = true) : ZC l s (i + 1) = ZC l s i ++ [l.getD i 0] := by
 simp only [ZC, List.range_succ, List.filter_append, List.map_append, List.filter_cons, List.filter_nil, h, if_true, List.map_cons, List.map_nil]
theorem qir {l : List Int} {s : Int} {i : Nat} (h : btS s i = false) : ZC l s (i + 1) = ZC l s i := by
 simp only [ZC, List.range_succ, List.filter_append, List.map_append, List.filter_cons, List.filter_nil, h, Bool.false_eq_true, if_false, List.map_nil, List.append_nil]
theorem vm (l : List Int) (s : Int) (i : Nat) : (ZC l s i).length ≤ i := by
 simp only [ZC, List.length_map]
 exact Nat.le_trans (List.length_filter_le _ _) (by simp)
theorem KH (l : List Int) (s : Int) (h1 : l.length ≤ 1048576) : qe Tryz.prog 80 [aIs l, aI s] (rUs (Qz l s)) := by
 refine qe.of qc (fn := Tryz.f80) (c := Tryz.f80.body.getD .skip) (dr := fun n => qa 0 [] n) Tryz.func80 rfl (by kernel_rfl) (by kernel_rfl) (by kernel_rfl) ?_
 refine SEx.go (X := XX) qc (fun n => qa [] [(3, [1, 5, 8, 9, 10])] n) (fun _ => none) qd 60 ?_
 intro M R L N m0 m1 m2 m3 m4 m5
 cases M
 cbv
 repeat' first | refine m1 _ _ ?_ ?_ | refine m2 _ _ fun h => ?_ | refine m3 _ ?_ | (refine m4 _ _ (Hd.out ?_); generalize hks : (List.cons _ _ : List K) = ks) | (refine m5 _ _ ?_; cbv)
 all_goals (clear m1 m2 m3 m4 m5; cases m0; try dsimp only)
 all_goals try simp only [sm] at *
 obtain ⟨m, hm⟩ : ∃ m, m = l.length := ⟨_, rfl⟩
 refine ⟨SEx.same (SEx.idx m (fun i => ⟨26, [(1, bI s), (5, bR 20480 (ZC l s i).length), (8, bL (.i l)), (9, bI m), (10, bI i)], [(20480, .osl (.i (ZC l s i)))]⟩) (fun _ => rUs (ZC l s m)) ?_) (by rw [hm]; rfl) (by rw [hm]; rfl)⟩
 intro i hi ih
 rw [← hks]
 obtain ⟨u, hu⟩ : ∃ u, u = ZC l s i := ⟨_, rfl⟩
 have hul : u.length ≤ i := by rw [hu]; exact vm _ _ _
 rw [← hu]
 obtain ⟨n, hn⟩ : ∃ n, n = u.length := ⟨_, rfl⟩
 rw [← hn] at hul ⊢
 refine SEx.go (X := XX) qc (fun n => qa [] [(3, [1, 5, 8, 9, 10])] n) (fun _ => none) qd 60 ?_
 intro M R L N m0 m1 m2 m3 m4 m5
 cases M
 cbv
 repeat' first | refine m1 _ _ ?_ ?_ | refine m2 _ _ fun h => ?_ | refine m3 _ ?_ | (refine m4 _ _ (Hd.out ?_); try first | rw [hks] | rw [hk2] | rw [hk3]) | (refine m5 _ _ ?_; cbv)
 all_goals (clear m1 m2 m3 m4 m5; cases m0; (try clear hks; try clear hk2; try clear hk3); try dsimp only)
 all_goals try simp only [sm] at *
 all_goals try simp only [List.length_append, List.length_cons, List.length_nil, List.length_set] at *
 all_goals (try omega)
 all_goals (try (have := zI; omega))
 all_goals (try simp only [qg (show i < 9223372036854775807 by omega)])
 all_goals first
  | (have ih' := ih (by omega)
     rw [qdN (show btS s i = true by unfold btS; exact decide_eq_true (by assumption)), ← hu, List.length_append] at ih'
     exact ⟨ih'.same rfl rfl⟩)
  | (have ih' := ih (by omega)
     rw [qir (show btS s i = false by unfold btS; exact decide_eq_false (by assumption)), ← hu, ← hn] at ih'
     exact ⟨ih'.same rfl rfl⟩)
  | (obtain rfl : i = m := by omega
     rw [hu]; rfl)
  | skip
theorem qff (l : List Int) (s : Int) (h1 : l.length ≤ 1048576) : qe Tryz.prog 43 [aIs l, aI s] (rUs (Qz l s)) := by
 refine qe.of qc (fn := Tryz.f43) (c := Tryz.f43.body.getD .skip) (dr := fun n => qa 0 [] n) Tryz.func43 rfl (by kernel_rfl) (by kernel_rfl) (by kernel_rfl) ?_
 refine SEx.go (X := XX) qc (fun n => qa [] [(3, [1, 5, 9, 10, 11])] n) (fun _ => none) qd 60 ?_
 intro M R L N m0 m1 m2 m3 m4 m5
 cases M
 cbv
 repeat' first | refine m1 _ _ ?_ ?_ | refine m2 _ _ fun h => ?_ | refine m3 _ ?_ | (refine m4 _ _ (Hd.out ?_); generalize hks : (List.cons _ _ : List K) = ks) | (refine m5 _ _ ?_; cbv)
 all_goals (clear m1 m2 m3 m4 m5; cases m0; try dsimp only)
 all_goals try simp only [sm] at *
 obtain ⟨m, hm⟩ : ∃ m, m = l.length := ⟨_, rfl⟩
 refine ⟨SEx.same (SEx.idx m (fun i => ⟨28, [(1, bI s), (5, bR 20480 (ZC l s i).length), (9, bL (.i l)), (10, bI m), (11, bI i)], [(20480, .osl (.i (ZC l s i)))]⟩) (fun _ => rUs (ZC l s m)) ?_) (by rw [hm]; rfl) (by rw [hm]; rfl)⟩
 intro i hi ih
 rw [← hks]
 obtain ⟨u, hu⟩ : ∃ u, u = ZC l s i := ⟨_, rfl⟩
 have hul : u.length ≤ i := by rw [hu]; exact vm _ _ _
 rw [← hu]
 obtain ⟨n, hn⟩ : ∃ n, n = u.length := ⟨_, rfl⟩
 rw [← hn] at hul ⊢
 have hwu : IntKind.u64.wrap (i : Int) = (i : Int) := Zx (by omega)
 refine SEx.go (X := XX) qc (fun n => qa [] [(3, [1, 5, 9, 10, 11])] n) (fun _ => none) qd 60 ?_
 intro M R L N m0 m1 m2 m3 m4 m5
 cases M
 cbv
 repeat' first | refine m1 _ _ ?_ ?_ | refine m2 _ _ fun h => ?_ | refine m3 _ ?_ | (refine m4 _ _ (Hd.out ?_); try first | rw [hks] | rw [hk2] | rw [hk3]) | (refine m5 _ _ ?_; cbv)
 all_goals (clear m1 m2 m3 m4 m5; cases m0; (try clear hks; try clear hk2; try clear hk3); try dsimp only)
 all_goals try simp only [sm] at *
 all_goals (try simp only [hwu, Int.toNat_natCast] at *)
 all_goals try simp only [List.length_append, List.length_cons, List.length_nil, List.length_set] at *
 all_goals (try omega)
 all_goals (try (have := zI; omega))
 all_goals (try simp only [qg (show i < 9223372036854775807 by omega)])
 all_goals first
  | (have ih' := ih (by omega)
     rw [qdN (show btS s i = true by unfold btS; exact decide_eq_true (by assumption)), ← hu, List.length_append] at ih'
     exact ⟨ih'.same rfl rfl⟩)
  | (have ih' := ih (by omega)
     rw [qir (show btS s i = false by unfold btS; exact decide_eq_false (by assumption)), ← hu, ← hn] at ih'
     exact ⟨ih'.same rfl rfl⟩)
  | (obtain rfl : i = m := by omega
     rw [hu]; rfl)
  | skip
def qk5 (f : List Int → Int → List Int) : Wr := w2 kw dcI (fun l s => rUs (f l s)) (fun l _ => [LLe l 1048576])
theorem qdD : qC Tryz.prog 80 (qk5 Qz) := qE fun l s h => KH l s (h _ (.head _)).out
theorem qfr : qC Tryz.prog 43 (qk5 Qz) := qE fun l s h => qff l s (h _ (.head _)).out
theorem qdQ {m : Nat} (h : m ≤ 7) : IntKind.i64.wrap (1 * 2 ^ min m IntKind.i64.bits) = ((2 ^ m : Nat) : Int) := by
 have : m = 0 ∨ m = 1 ∨ m = 2 ∨ m = 3 ∨ m = 4 ∨ m = 5 ∨ m = 6 ∨ m = 7 := by omega
 rcases this with rfl | rfl | rfl | rfl | rfl | rfl | rfl | rfl <;> decide
theorem Wm {m : Nat} (h : m ≤ 7) : 1 ≤ 2 ^ m ∧ 2 ^ m ≤ 128 := by
 have : m = 0 ∨ m = 1 ∨ m = 2 ∨ m = 3 ∨ m = 4 ∨ m = 5 ∨ m = 6 ∨ m = 7 := by omega
 rcases this with rfl | rfl | rfl | rfl | rfl | rfl | rfl | rfl <;> decide
def J5 (l : List Int) (N k : Nat) : List (List Int) := (List.range k).map fun j => Qz l ((N : Int) - 1 - (j : Nat))
theorem qaw (l : List Int) (N k : Nat) : J5 l N (k + 1) = J5 l N k ++ [Qz l ((N : Int) - 1 - k)] := by simp [J5, List.range_succ]
theorem yk (l : List Int) (N k : Nat) : (J5 l N k).length = k := by simp [J5]
def qkR (l : List Int) : List (List Int) := J5 l (2 ^ l.length) (2 ^ l.length)
theorem wS {t : qn} {x : qf} (h : StV t x) : (enL t x).length ≤ 7 := by
 have h1 := (qI h.sh).2
 have h2 : (enL t x).length ≤ t.nodes.length := Nat.le_trans (List.length_filter_le _ _) (QP _ _)
 omega
theorem qbG (t : qn) (x : qf) (h : EnT t x) : qe Tryz.prog 94 [qR t, qL x] (Ki (qkR (enL t x))) := by
 refine qe.of qc (fn := Tryz.f94) (c := Tryz.f94.body.getD .skip) (dr := fun n => qa 0 [] n) Tryz.func94 rfl (by kernel_rfl) (by kernel_rfl) (by kernel_rfl) ?_
 obtain ⟨f1, hf1⟩ : ∃ f, f = enL := ⟨_, rfl⟩
 obtain ⟨f2, hf2⟩ : ∃ f, f = Qz := ⟨_, rfl⟩
 obtain ⟨l, hl⟩ : ∃ l, l = f1 t x := ⟨_, rfl⟩
 have hl7 : l.length ≤ 7 := by rw [hl, hf1]; exact wS h.v
 obtain ⟨NN, hN⟩ : ∃ NN, NN = 2 ^ l.length := ⟨_, rfl⟩
 have hNb := Wm hl7
 have hs := qdQ hl7
 rw [← hN] at hNb hs
 have hs1 : IntKind.i64.wrap ((NN : Int) - 1) = (NN : Int) - 1 := qx (by omega) (by omega)
 rw [show qkR (enL t x) = J5 l NN NN by rw [hN, hl, hf1]; rfl]
 by_cases hne : enL t x = []
 · have hO : qp Tryz.prog (qN [(123, qqM), (80, qk5 f2)]) := by
    subst hf2
    exact qb qoO (qb qdD qd)
   have hl0 : l = [] := by rw [hl, hf1]; exact hne
   have hN1 : NN = 1 := by rw [hN, hl0]; rfl
   have h0 : qq1 t x := ⟨h, hne⟩
   clear hN hl hs hs1
   subst hl0 hN1
   obtain ⟨ns, ts, hr⟩ := t
   obtain ⟨now, times, vals⟩ := x
   refine SEx.go (X := XX) qc (fun n => qa [] [(4, [5, 6, 7])] n) (fun _ => none) hO 60 ?_
   intro M R L N m0 m1 m2 m3 m4 m5
   cases M
   cbv
   repeat' first | refine m1 _ _ ?_ ?_ | refine m2 _ _ fun h => ?_ | refine m3 _ ?_ | (refine m4 _ _ (Hd.out ?_); generalize hks : (List.cons _ _ : List K) = ks) | (refine m5 _ _ ?_; cbv)
   all_goals (clear m1 m2 m3 m4 m5; cases m0; try dsimp only)
   all_goals try simp only [sm] at *
   all_goals first
    | exact h0
    | omega
    | skip
   refine ⟨SEx.same (SEx.idx 1 (fun k => ⟨26, [(5, bL (.i [])), (6, bR 24576 k), (7, bI ((1 : Nat) - 1 - (k : Nat)))], [(24576, .osl (.ii true none (J5 [] 1 k)))]⟩) (fun _ => Ki (J5 [] 1 1)) ?_) rfl rfl⟩
   intro k hk ih
   rw [← hks]
   obtain ⟨o, ho⟩ : ∃ o, o = J5 [] 1 k := ⟨_, rfl⟩
   have hol : o.length = k := by rw [ho, yk]
   obtain ⟨q, hq⟩ : ∃ q : Int, q = ((1 : Nat) : Int) - 1 - (k : Nat) := ⟨_, rfl⟩
   rw [← ho, ← hq]
   refine SEx.go (X := XX) qc (fun n => qa [] [(4, [5, 6, 7])] n) (fun _ => none) hO 60 ?_
   intro M R L N m0 m1 m2 m3 m4 m5
   cases M
   cbv
   repeat' first | refine m1 _ _ ?_ ?_ | refine m2 _ _ fun h => ?_ | refine m3 _ ?_ | (refine m4 _ _ (Hd.out ?_); try first | rw [hks] | rw [hk2] | rw [hk3]) | (refine m5 _ _ ?_; cbv)
   all_goals (clear m1 m2 m3 m4 m5; cases m0; (try clear hks; try clear hk2; try clear hk3); try dsimp only)
   all_goals try simp only [sm] at *
   all_goals (try rw [qx (n := q - 1) (by omega) (by omega)])
   all_goals first
    | omega
    | rfl
    | exact ⟨by decide⟩
    | (have := zI; simp only [List.length_cons, List.length_nil]; omega)
    | (have ih' := ih (by omega)
       rw [qaw, ← ho, ← hq, show ((1 : Nat) : Int) - 1 - ((k + 1 : Nat) : Int) = q - 1 by omega] at ih'
       simp only [List.length_append, List.length_cons, List.length_nil, hol, hf2]
       exact ⟨ih'.same rfl rfl⟩)
    | (have e : k = 1 := by omega
       subst e
       rw [ho]; rfl)
    | skip
 · have hO : qp Tryz.prog (qN [(123, qq4 f1), (80, qk5 f2)]) := by
    subst hf1 hf2
    exact qb qo1 (qb qdD qd)
   have h0 : qqC t x := ⟨h, hne⟩
   clear hN
   obtain ⟨ns, ts, hr⟩ := t
   obtain ⟨now, times, vals⟩ := x
   refine SEx.go (X := XX) qc (fun n => qa [] [(4, [5, 6, 7])] n) (fun _ => none) hO 60 ?_
   intro M R L N m0 m1 m2 m3 m4 m5
   cases M
   cbv
   repeat' first | refine m1 _ _ ?_ ?_ | refine m2 _ _ fun h => ?_ | refine m3 _ ?_ | (refine m4 _ _ (Hd.out ?_); generalize hks : (List.cons _ _ : List K) = ks) | (refine m5 _ _ ?_; cbv)
   all_goals (clear m1 m2 m3 m4 m5; cases m0; try dsimp only)
   all_goals try simp only [sm] at *
   all_goals first
    | exact h0
    | omega
    | skip
   rw [← hl, hs, hs1]
   obtain ⟨n, hn⟩ : ∃ n, n = l.length := ⟨_, rfl⟩
   refine ⟨SEx.same (SEx.idx NN (fun k => ⟨26, [(5, bR 20480 n), (6, bR 24576 k), (7, bI ((NN : Int) - 1 - (k : Nat)))], [(20480, .osl (.i l)), (24576, .osl (.ii true none (J5 l NN k)))]⟩) (fun _ => Ki (J5 l NN NN)) ?_) (by rw [hn, show (NN : Int) - 1 - ((0 : Nat) : Int) = (NN : Int) - 1 by omega]; rfl) rfl⟩
   intro k hk ih
   rw [← hks]
   obtain ⟨o, ho⟩ : ∃ o, o = J5 l NN k := ⟨_, rfl⟩
   have hol : o.length = k := by rw [ho, yk]
   obtain ⟨q, hq⟩ : ∃ q : Int, q = (NN : Int) - 1 - (k : Nat) := ⟨_, rfl⟩
   rw [← ho, ← hq]
   refine SEx.go (X := XX) qc (fun n => qa [] [(4, [5, 6, 7])] n) (fun _ => none) hO 60 ?_
   intro M R L N m0 m1 m2 m3 m4 m5
   cases M
   cbv
   repeat' first | refine m1 _ _ ?_ ?_ | refine m2 _ _ fun h => ?_ | refine m3 _ ?_ | (refine m4 _ _ (Hd.out ?_); try first | rw [hks] | rw [hk2] | rw [hk3]) | (refine m5 _ _ ?_; cbv)
   all_goals (clear m1 m2 m3 m4 m5; cases m0; (try clear hks; try clear hk2; try clear hk3); try dsimp only)
   all_goals try simp only [sm] at *
   all_goals (try rw [qx (n := q - 1) (by omega) (by omega)])
   all_goals first
    | omega
    | rfl
    | exact ⟨by omega⟩
    | (have := zI; simp only [List.length_cons, List.length_nil]; omega)
    | (have ih' := ih (by omega)
       rw [qaw, ← ho, ← hq, show (NN : Int) - 1 - ((k + 1 : Nat) : Int) = q - 1 by omega] at ih'
       simp only [List.length_append, List.length_cons, List.length_nil, hol, hf2]
       exact ⟨ih'.same rfl rfl⟩)
    | (have e : k = NN := by omega
       subst e
       rw [ho]; rfl)
    | skip
end Go.Proofs.YtececadpjelanaaGreat.Ai
namespace Go.Proofs.YtececadpjelanaaGreat.Ai
open Go
set_option maxRecDepth 100000
variable [qh]
def qpg (f : qn → qf → List (List Int)) : Wr := w2 qQ qM (fun t x => Ki (f t x)) (fun t x => [EnT t x])
def Vd (t : qn) (x : qf) : List (List Int) := qkR (enL t x)
theorem qly : qC Tryz.prog 94 (qpg Vd) := qE fun t x h => qbG t x (h _ (.head _))
end Go.Proofs.YtececadpjelanaaGreat.Ai
