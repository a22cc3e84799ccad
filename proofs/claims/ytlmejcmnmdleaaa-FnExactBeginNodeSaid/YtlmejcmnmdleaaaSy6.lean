/- Symbolic runs, part 6: stores, new slices, calls, results. -/
import Derived.Test.YtlmejcmnmdleaaaSy5
namespace Go.Proofs.Ytlmejcmnmdleaaa.Ai
open Go
set_option linter.unusedSectionVars false
set_option linter.unusedSimpArgs false

def W.isFz : W → Bool
  | .fz _ => true
  | _ => false
theorem W.isFz_er (o : W) : o.er.isFz = o.isFz := by cases o <;> rfl
def dropLB (M : MB) (r : Nat) (s : SPath) (i : Bool × Nat) : Nat → Nat → SF → R SF
  | _, 0, F => R.ok F
  | j, n + 1, F => (F.atR M (qB r s i j)).bd fun o => (match o.isFz with
    | true => dropLB M r s i (j + 1) n F
    | false => (F.dropR M (qB r s i j)).bd fun G => dropLB M r s i (j + 1) n G)
theorem dropLB_sim (r : Nat) (s : SPath) (i : Bool × Nat) : ∀ (n j : Nat) (F : SF), (dropLB stdB r s i j n F).Sim fun G => dropL std r (ixs s) i.2 j n F.er = G.er
  | 0, j, F => R.Sim.ok rfl
  | n + 1, j, F => by
    simp only [dropLB]
    refine R.Sim.bd (F.atR_sim _) fun o ho => ?_
    rw [qB_er] at ho
    split
    · rename_i hz
      refine (dropLB_sim r s i n (j + 1) F).mono fun G hG => ?_
      simp only [dropL, ho, W.isFz_er, hz, hG]
    · rename_i hz
      refine R.Sim.bd (F.dropR_sim _) fun G hG => (dropLB_sim r s i n (j + 1) G).mono fun H hH => ?_
      rw [qB_er] at hG
      simp only [dropL, ho, W.isFz_er, hz, hG, hH]
def setLB (M : MB) (r : Nat) (s : SPath) (i : Bool × Nat) : Nat → SF → List W → R SF
  | _, F, [] => R.ok F
  | j, F, o :: os => (F.setR M (qB r s i j) o).bd fun G => setLB M r s i (j + 1) G os
theorem setLB_sim (r : Nat) (s : SPath) (i : Bool × Nat) : ∀ (os : List W) (j : Nat) (F : SF), (setLB stdB r s i j F os).Sim fun G => setL std r (ixs s) i.2 j F.er (W.erL os) = G.er
  | [], j, F => R.Sim.ok rfl
  | o :: os, j, F => by
    simp only [setLB]
    refine R.Sim.bd (F.setR_sim _ o) fun G hG => (setLB_sim r s i os (j + 1) G).mono fun H hH => ?_
    rw [qB_er] at hG
    simp only [W.erL, setL, hG, hH]
theorem cut_some {α : Type} : ∀ (l : List α) (j n : Nat), j + n ≤ l.length → ∃ r, cut l j n = some r
  | l, 0, 0, _ => ⟨[], by cases l <;> rfl⟩
  | [], 0, n + 1, h => by simp at h
  | [], j + 1, n, h => by simp at h
  | a :: l, j + 1, n, h => by
    obtain ⟨r, hr⟩ := cut_some l j n (by simp at h; omega)
    exact ⟨r, by cases n <;> exact hr⟩
  | a :: l, 0, n + 1, h => by
    obtain ⟨r, hr⟩ := cut_some l 0 n (by simp at h; omega)
    exact ⟨a :: r, by simp only [cut, hr]⟩
/-- There are cells to be written. -/
def roomB (M : MB) (F : SF) (p : SP) (i : Bool × Nat) (m : Nat) : R Unit :=
  (F.atR M p).bd fun o => (match o with
    | .osl x => (match nle m x.sz with
      | true => some ([M.pLtN i.2 (x.len M)], ())
      | false => none)
    | .obx cs => (match i with
      | (true, 0) => (match nle m (cnt cs) with | true => R.ok () | false => none)
      | _ => none)
    | _ => none)
theorem roomB_sim (F : SF) (p : SP) (i : Bool × Nat) (j n : Nat) : (roomB stdB F p i (j + n)).Sim fun _ => ∃ l, cellsAt std F.er n (.pp p.er i.2 j) = some l := by
  unfold roomB
  refine R.Sim.bd (F.atR_sim p) fun o ho => ?_
  simp only [cellsAt, ho]
  split
  · rename_i x
    split
    · rename_i hm
      refine R.Sim.mk fun hp => ?_
      have h1 : i.2 < x.len stdB := hp.one
      have h2 : i.2 < x.ro.length := by rw [LL.len_ro]; exact h1
      have h3 : std.oGet x.ro i.2 = some x.ro[i.2] := List.getElem?_eq_getElem h2
      have h4 := x.ro_sz _ (List.getElem_mem h2)
      obtain ⟨r, hr⟩ := cut_some x.ro[i.2] j n (by rw [h4]; exact le_of_nle hm)
      simp only [W.er, h3, hr]
      exact ⟨_, rfl⟩
    · exact R.Sim.none'
  · rename_i cs
    split
    · split
      · rename_i hm
        refine R.Sim.ok ?_
        rw [cnt_eq] at hm
        obtain ⟨r, hr⟩ := cut_some (W.erL cs) j n (by rw [W.erL_eq, List.length_map]; exact le_of_nle hm)
        simp only [W.er, hr]
        exact ⟨_, rfl⟩
      · exact R.Sim.none'
    · exact R.Sim.none'
  · exact R.Sim.none'
def storeB (M : MB) (F : SF) (size : Nat) (a x : Operand) : R SF :=
  match evB1 F a with
  | .pp p i j => (dropLB M p.1 p.2 i j size F).bd fun F1 => (match evB F1 x with
    | .v (_, as) => (match nq (cnt as) size && nlt 0 size with
      | true => (convNB M (qB p.1 p.2 i) j (cnt as) F1 as).bd fun s => (roomB M s.2 p i (j + size)).bd fun _ => setLB M p.1 p.2 i j s.2 s.1
      | false => none)
    | .tup _ => none)
  | _ => none
theorem storeB_sim (F : SF) (size : Nat) (a x : Operand) : (storeB stdB F size a x).Sim fun G => storeW std false F.er size a x = some G.er := by
  unfold storeB
  split
  · rename_i p i j ha
    refine R.Sim.bd (dropLB_sim p.1 p.2 i size j F) fun F1 hF1 => ?_
    split
    · rename_i g as hx
      split
      · rename_i hc
        refine R.Sim.bd (convNB_atj p.1 p.2 i j _ F1 as) fun s hs => R.Sim.bd (roomB_sim s.2 p i j size) fun _ ⟨l, hl⟩ => (setLB_sim p.1 p.2 i s.1 j s.2).mono fun G hG => ?_
        have ha' : ev1 F.er a = .pp p.er i.2 j := by rw [← evB1_er, ha]; rfl
        have hx' : ev F1.er x = .v (g, B.erL as) := by rw [← evB_er, hx]; rfl
        unfold storeW
        rw [ha']
        dsimp only
        rw [show p.er.1 = p.1 from rfl, show p.er.2 = ixs p.2 from rfl, hF1, hx']
        dsimp only
        rw [cnt_erL, hc]
        dsimp only
        rw [hs]
        dsimp only
        rw [hl]
        dsimp only
        rw [hG]
      · exact R.Sim.none'
    · exact R.Sim.none'
  · exact R.Sim.none'
/-- What is chosen for a function: kinds of elements by type. -/
structure SX where
  T : Nat → Option Ty
  K : Nat → Option EK
def makeB (M : MB) (X : SX) (F : SF) (d : Nat) (t : Nat) (l c : Operand) : R SF :=
  match X.T t with
  | some ⟨.sl e, _, _, _, _⟩ => (match X.T e, X.K e with
    | some ty, some k => (match evB1 F l, evB1 F c with
      | .fz (.int _ n), .fz (.int _ m) => (match nle ty.bytes 4096 && nlt 0 ty.size && nq (cnt ty.zero) ty.size with
        | true => (match zWL ty.zero with
          | some zs => (match LL.one k zs with
            | some x => (match x.rep M (M.toN n) with
              | some y => (F.clearR M (rid d 0 0)).bd fun G => some ([M.pEqI n m, M.pRep n], (G.root (rid d 0 0) (.osl y)).put d (rfB (rid d 0 0) (y.len M)))
              | none => none)
            | none => none)
          | none => none)
        | false => none)
      | _, _ => none)
    | _, _ => none)
  | _ => none
def buildSB (M : MB) (X : SX) (F : SF) (d : Nat) (t len : Nat) (parts : List (Nat × Operand)) : R SF :=
  match X.T t with
  | some ⟨.sl e, _, _, _, _⟩ => (match X.T e, X.K e with
    | some ty, some k => (match nq (cnt parts) len && nle len 4096 && nlt 0 ty.size && nle ty.size 4096 with
      | true => (F.clearR M (rid d 0 0)).bd fun G => (partsB M (rid d 0 0) ty.size 0 G parts).bd fun s => (match LL.many k s.1 with
        | some w => R.ok ((s.2.root (rid d 0 0) w).put d (rfB (rid d 0 0) len))
        | none => none)
      | false => none)
    | _, _ => none)
  | _ => none
def wopB (M : MB) (X : SX) (F : SF) (d : Nat) : Op → R SF
  | .assign x => assignB M F d (evB F x)
  | .box _ x => (F.clearR M (rid d 0 0)).bd fun G => boxB M G d x
  | .alloc e => allocB M X.T F d e
  | .buildSlice t len ⟨parts⟩ => buildSB M X F d t len parts
  | .makeSlice t l c => makeB M X F d t l c
  | .call ⟨.builtin .append, ⟨[x, y]⟩, ⟨[t, t']⟩⟩ => (match nq t t', X.T t with
    | true, some ⟨.sl e, _, _, _, _⟩ => (match X.T e with
      | some ty => (F.dropR M (rid d 0 0, [])).bd fun G => appendB M ty d x y G
      | none => none)
    | _, _ => none)
  | o => (qopB M X.T F o).bd fun v => R.ok (F.put d v)
theorem wopB_sim (X : SX) (F : SF) (d : Nat) (op : Op) : (wopB stdB X F d op).Sim fun G => wop std X.T false F.er d op = some G.er := by
  unfold wopB
  split
  · rename_i x
    refine (assignB_sim F d _).mono fun G hG => ?_
    rw [evB_er] at hG
    exact hG
  · refine R.Sim.bd (F.clearR_sim _) fun G hG => (boxB_sim G d _).mono fun H hH => ?_
    simp only [wop, hG, hH]
  · rename_i e
    unfold allocB
    split
    · rename_i ty ht
      split
      · rename_i zs hz
        obtain ⟨h1, h2⟩ := zWL_er _ hz
        refine R.Sim.bd (F.clearR_sim _) fun G hG => R.Sim.ok ?_
        simp only [wop, ht, h2, hG, ← h1]
        rfl
      · exact R.Sim.none'
    · exact R.Sim.none'
  · rename_i t len parts
    unfold buildSB
    split
    · rename_i e _ _ _ _ ht
      split
      · rename_i ty k hte hk
        split
        · rename_i hc
          refine R.Sim.bd (F.clearR_sim _) fun G hG => R.Sim.bd (partsB_sim _ _ _ _ G) fun s hs => ?_
          split
          · rename_i w hw
            refine R.Sim.ok ?_
            have := LL.many_er k _ hw
            simp only [wop, ht, hte, hc, hG, hs, SF.put_er, SF.root_er, this]
            rfl
          · exact R.Sim.none'
        · exact R.Sim.none'
      · exact R.Sim.none'
    · exact R.Sim.none'
  · rename_i t l c
    unfold makeB
    split
    · rename_i e _ _ _ _ ht
      split
      · rename_i ty k hte hk
        split
        · rename_i k1 n k2 m hl hm
          split
          · rename_i hc
            split
            · rename_i zs hz
              obtain ⟨h1, h2⟩ := zWL_er _ hz
              split
              · rename_i x hx
                split
                · rename_i y hy
                  refine R.Sim.bd (F.clearR_sim _) fun G hG => R.Sim.mk fun hp => ?_
                  obtain ⟨h3, h4, h5⟩ := hp.two
                  have h3 : n = m := h3
                  subst h3
                  obtain ⟨z, hz1, hz2⟩ := LL.rep_ro hy
                  have hxo := LL.one_ro hx
                  rw [hz1] at hxo
                  injection hxo with hxo
                  have hzz : z = zeroO false ty.zero := by rw [hxo, ← W.erL_eq, h1]
                  have hl' : ev1 F.er l = .fz (.int k1 n) := by rw [← evB1_er, hl]; rfl
                  have hm' : ev1 F.er c = .fz (.int k2 n) := by rw [← evB1_er, hm]; rfl
                  have hr : std.oRep n (zeroO false ty.zero) = some y.ro := by
                    show (if 0 ≤ n ∧ n ≤ (lim : Int) then some (List.replicate n.toNat (zeroO false ty.zero)) else none) = _
                    rw [if_pos ⟨h4, h5⟩, hz2, hzz]
                    rfl
                  have hb : std.bEq n n = true := by show (n == n) = true; simp
                  have hlen : std.oLen y.ro = y.len stdB := LL.len_ro y
                  simp only [wop, ht, hte, hl', hm', hb, hc, h2, hr, hG, hlen, Bool.and_self, Bool.true_and, Bool.and_true]
                  rfl
                · exact R.Sim.none'
              · exact R.Sim.none'
            · exact R.Sim.none'
          · exact R.Sim.none'
        · exact R.Sim.none'
      · exact R.Sim.none'
    · exact R.Sim.none'
  · rename_i x y t t'
    split
    · rename_i e _ _ _ _ htt ht
      split
      · rename_i ty hte
        refine R.Sim.bd (F.dropR_sim _) fun G hG => (appendB_sim ty d x y G).mono fun H hH => ?_
        have hG : F.er.drop std (rid d 0 0, []) = G.er := hG
        simp only [wop, htt, ht, hte, hG, hH]
      · exact R.Sim.none'
    · exact R.Sim.none'
  · rename_i h1 h2 h3 h4 h5 h6
    refine R.Sim.bd (qopB_sim X.T F op) fun v hv => R.Sim.ok ?_
    have : wop std X.T false F.er d op = putQO std F.er d (qop std X.T F.er op) := by
      unfold wop
      split <;> first
        | rfl
        | exact (h1 _ rfl).elim
        | exact (h2 _ _ rfl).elim
        | exact (h3 _ rfl).elim
        | exact (h4 _ _ _ rfl).elim
        | exact (h5 _ _ _ rfl).elim
        | exact (h6 _ _ _ _ rfl).elim
    rw [this, hv]
    rfl

/-! ### calls -/
def frzVB (M : MB) (F : SF) : TV B → R (V1 D)
  | .v (g, as) => (match okBL as with
    | true => (frzBL M F as).bd fun l => R.ok (g, l)
    | false => none)
  | .tup _ => none
theorem frzVB_sim (F : SF) (x : TV B) : (frzVB stdB F x).Sim fun y => frzV std F.er (x.er B.erL) = some (v1er D.erL y) := by
  unfold frzVB
  split
  · rename_i g as
    split
    · rename_i hok
      refine R.Sim.bd (frzBL_sim F as) fun l hl => R.Sim.ok ?_
      simp only [TV.er, v1er, frzV, okBL_er, hok, hl]
    · exact R.Sim.none'
  · exact R.Sim.none'
def argsB (M : MB) (F : SF) : List Operand → R (List (V1 D))
  | [] => R.ok []
  | x :: r => (frzVB M F (evB F x)).bd fun y => (argsB M F r).bd fun ys => R.ok (y :: ys)
theorem argsB_sim (F : SF) : ∀ (l : List Operand), (argsB stdB F l).Sim fun ys => argsC std F.er l = some (vserL D.erL ys)
  | [] => R.Sim.ok rfl
  | x :: r => by
    simp only [argsB]
    refine R.Sim.bd (frzVB_sim F _) fun y hy => R.Sim.bd (argsB_sim F r) fun ys hys => R.Sim.ok ?_
    rw [evB_er] at hy
    simp only [argsC, hy, hys]
    rfl
mutual
def B.isFzB : B → Bool
  | .fz _ => true
  | .clo _ caps => allFzB caps
  | _ => false
def allFzB : List B → Bool
  | [] => true
  | a :: r => match a.isFzB with | true => allFzB r | false => false
end
mutual
theorem isFzB_er : (x : B) → x.er.isFz = x.isFzB
  | .un => rfl
  | .ud => rfl
  | .fz d => rfl
  | .rf .. => rfl
  | .pp .. => rfl
  | .clo f caps => by simp only [B.er, A.isFz, B.isFzB, allFzB_er caps]
theorem allFzB_er : (l : List B) → allFz (B.erL l) = allFzB l
  | [] => rfl
  | a :: r => by simp only [B.erL, allFz, allFzB, isFzB_er a, allFzB_er r]; cases a.isFzB <;> rfl
end
def tvFz : TV B → Bool
  | .v (_, as) => allFzB as
  | .tup _ => false
theorem tvFz_er (x : TV B) : (x.er B.erL).isFz = tvFz x := by
  cases x with
  | v x => exact allFzB_er x.2
  | tup xs => rfl
def lendB (F : SF) : List Operand → Bool
  | [] => true
  | x :: r => match tvFz (evB F x) with | true => lendB F r | false => false
theorem lendB_er (F : SF) : ∀ l, lend F.er l = lendB F l
  | [] => rfl
  | x :: r => by simp only [lend, lendB, ← evB_er, tvFz_er, lendB_er F r]; cases tvFz (evB F x) <;> rfl
def calleeB (M : MB) (F : SF) (f : Operand) : R (FuncId × List D) :=
  match evB1 F f with
  | .fz (.fn g caps) => R.ok (g, caps)
  | .clo g caps => (match okBL caps with
    | true => (frzBL M F caps).bd fun l => R.ok (g, l)
    | false => none)
  | _ => none
theorem calleeB_sim (F : SF) (f : Operand) : (calleeB stdB F f).Sim fun r => callee std F.er f = some (r.1, D.erL r.2) := by
  unfold calleeB
  split
  · rename_i g caps h
    refine R.Sim.ok ?_
    have : ev1 F.er f = .fz (.fn g (D.erL caps)) := by rw [← evB1_er, h]; rfl
    simp only [callee, this]
  · rename_i g caps h
    split
    · rename_i hok
      refine R.Sim.bd (frzBL_sim F caps) fun l hl => R.Sim.ok ?_
      have : ev1 F.er f = .clo g (B.erL caps) := by rw [← evB1_er, h]; rfl
      simp only [callee, this, okBL_er, hok, hl]
    · exact R.Sim.none'
  · exact R.Sim.none'
def capsD : List D → List (V1 D)
  | [] => []
  | c :: r => (false, [c]) :: capsD r
theorem capsD_er (l : List D) : vserL D.erL (capsD l) = capsV (D.erL l) := by induction l with | nil => rfl | cons a r ih => simp only [capsD, vserL, D.erL, capsV, ih]; rfl
theorem vserL_append {α β : Type} (f : List α → List β) (l r : List (V1 α)) : vserL f (l ++ r) = vserL f l ++ vserL f r := by induction l with | nil => rfl | cons a l ih => simp [vserL, ih]
mutual
def W.cleanB : W → Bool
  | .un => false
  | .fz d => (match d with | .un | .sl _ | .ptr _ => false | .fn _ caps => (match caps with | [] => true | _ :: _ => false) | _ => true)
  | .osl x => x.clean
  | .onil => true
  | .obx cs => cleanBL cs
def cleanBL : List W → Bool
  | [] => true
  | a :: r => match a.cleanB with | true => cleanBL r | false => false
end
mutual
theorem cleanB_er : (o : W) → o.cleanB = true → o.er.cleanM std = true
  | .un, h => by simp [W.cleanB] at h
  | .fz d, h => by
    cases d <;> simp only [W.cleanB] at h <;> first | rfl | (cases h; done) | skip
    case fn f caps => cases caps with | nil => rfl | cons _ _ => simp at h
  | .osl x, h => LL.clean_ro x h
  | .onil, _ => rfl
  | .obx cs, h => cleanBL_er cs h
theorem cleanBL_er : (l : List W) → cleanBL l = true → O.cleanML std (W.erL l) = true
  | [], _ => rfl
  | a :: r, h => by
    simp only [cleanBL] at h
    split at h
    · rename_i ha
      simp only [W.erL, O.cleanML, cleanB_er a ha, cleanBL_er r h]
    · cases h
end
def cleanBVs : List (V1 W) → Bool
  | [] => true
  | x :: r => match cleanBL x.2 with | true => cleanBVs r | false => false
def tvClean : TV W → Bool
  | .v x => cleanBL x.2
  | .tup xs => cleanBVs xs
theorem tvClean_er {r : TV W} (h : tvClean r = true) : (r.er W.erL).cleanM std = true := by
  cases r with
  | v x => exact cleanBL_er x.2 h
  | tup xs =>
    have key : ∀ l : List (V1 W), cleanBVs l = true → cleanVs std (vserL W.erL l) = true := by
      intro l
      induction l with
      | nil => intro _; rfl
      | cons x l ih =>
        intro h
        simp only [cleanBVs] at h
        split at h
        · rename_i hx
          simp only [vserL, cleanVs, v1er, cleanBL_er x.2 hx, ih h]
        · cases h
    exact key xs h
def impBL (M : MB) (d k : Nat) : Nat → List W → List B
  | _, [] => []
  | j, o :: r => refW M (rid d k j, []) o :: impBL M d k (j + 1) r
def rootsBL (d k : Nat) : Nat → List W → List (Nat × W)
  | _, [] => []
  | j, o :: r => match o.isFz with
    | true => rootsBL d k (j + 1) r
    | false => (rid d k j, o) :: rootsBL d k (j + 1) r
def impBVs (M : MB) (d : Nat) : Nat → List (V1 W) → List (V1 B)
  | _, [] => []
  | k, x :: r => (x.1, impBL M d k 0 x.2) :: impBVs M d (k + 1) r
def appB {α : Type} : List α → List α → List α
  | [], r => r
  | a :: l, r => a :: appB l r
theorem appB_eq {α : Type} (l r : List α) : appB l r = l ++ r := by induction l with | nil => rfl | cons a l ih => simp [appB, ih]
def rootsBVs (d : Nat) : Nat → List (V1 W) → List (Nat × W)
  | _, [] => []
  | k, x :: r => appB (rootsBL d k 0 x.2) (rootsBVs d (k + 1) r)
def impTB (M : MB) (d : Nat) : TV W → TV B
  | .v (g, os) => .v (g, impBL M d 0 0 os)
  | .tup xs => .tup (impBVs M d 0 xs)
def rootsTB (d : Nat) : TV W → List (Nat × W)
  | .v (_, os) => rootsBL d 0 0 os
  | .tup xs => rootsBVs d 0 xs
theorem impBL_er (d k : Nat) : ∀ (l : List W) (j : Nat), B.erL (impBL stdB d k j l) = impL std d k j (W.erL l)
  | [], j => rfl
  | o :: r, j => by simp only [impBL, B.erL, W.erL, impL, refW_er, impBL_er d k r]; rfl
theorem rootsBL_er (d k : Nat) : ∀ (l : List W) (j : Nat), tbEr (rootsBL d k j l) = rootsL d k j (W.erL l)
  | [], j => rfl
  | o :: r, j => by
    simp only [rootsBL, W.erL, rootsL, W.isFz_er]
    cases o.isFz with
    | true => exact rootsBL_er d k r (j + 1)
    | false => simp only [tbEr, rootsBL_er d k r]
theorem tbEr_append (l r : List (Nat × W)) : tbEr (l ++ r) = tbEr l ++ tbEr r := by induction l with | nil => rfl | cons a l ih => obtain ⟨i, o⟩ := a; simp [tbEr, ih]
theorem impTB_er (d : Nat) (r : TV W) : (impTB stdB d r).er B.erL = impT std d (r.er W.erL) := by
  cases r with
  | v x => obtain ⟨g, os⟩ := x; simp only [impTB, TV.er, v1er, impT, impBL_er]
  | tup xs =>
    have key : ∀ (l : List (V1 W)) (k : Nat), vserL B.erL (impBVs stdB d k l) = impVs std d k (vserL W.erL l) := by
      intro l
      induction l with
      | nil => intro k; rfl
      | cons x l ih => intro k; simp only [impBVs, vserL, v1er, impVs, impBL_er, ih]
    simp only [impTB, TV.er, impT, key]
theorem rootsTB_er (d : Nat) (r : TV W) : tbEr (rootsTB d r) = rootsT d (r.er W.erL) := by
  cases r with
  | v x => obtain ⟨g, os⟩ := x; exact rootsBL_er d 0 os 0
  | tup xs =>
    have key : ∀ (l : List (V1 W)) (k : Nat), tbEr (rootsBVs d k l) = rootsVs d k (vserL W.erL l) := by
      intro l
      induction l with
      | nil => intro k; rfl
      | cons x l ih => intro k; simp only [rootsBVs, appB_eq, tbEr_append, vserL, v1er, rootsVs, rootsBL_er, ih]
    exact key xs 0
def SF.clearsR (M : MB) (F : SF) : List (Nat × W) → R SF
  | [] => R.ok F
  | (id, _) :: r => (F.clearR M id).bd fun G => G.clearsR M r
def SF.addsB (F : SF) : List (Nat × W) → SF
  | [] => F
  | (id, o) :: r => (F.root id o).addsB r
theorem clearsR_sim : ∀ (l : List (Nat × W)) (F : SF), (F.clearsR stdB l).Sim fun G => F.er.clears std (tbEr l) = G.er
  | [], F => R.Sim.ok rfl
  | (id, o) :: r, F => by
    simp only [SF.clearsR]
    exact R.Sim.bd (F.clearR_sim id) fun G hG => (clearsR_sim r G).mono fun H hH => by simp only [tbEr, Fr.clears, hG, hH]
theorem addsB_er : ∀ (l : List (Nat × W)) (F : SF), (F.addsB l).er = F.er.adds (tbEr l)
  | [], F => rfl
  | (id, o) :: r, F => by simp only [SF.addsB, addsB_er r, tbEr, Fr.adds, SF.root_er]
def fitsB.fitsVs : List (V1 W) → Bool
  | [] => true
  | x :: r => match nle (cnt x.2) 64 with | true => fitsB.fitsVs r | false => false
def fitsB : TV W → Bool
  | .v (_, os) => nle (cnt os) 64
  | .tup xs => match nle (cnt xs) 64 with | true => fitsB.fitsVs xs | false => false
theorem cnt_map' {α β : Type} (f : α → β) (l : List α) : cnt (l.map f) = cnt l := by simp [cnt_eq]
theorem fitsB_er {r : TV W} (h : fitsB r = true) : TV.fits (r.er W.erL) = true := by
  cases r with
  | v x =>
    obtain ⟨g, os⟩ := x
    have h' : nle (cnt os) 64 = true := h
    simpa only [TV.er, v1er, TV.fits, W.erL_eq, cnt_map'] using h'
  | tup xs =>
    have key : ∀ l : List (V1 W), fitsB.fitsVs l = true → allLe (vserL W.erL l) = true := by
      intro l
      induction l with
      | nil => intro _; rfl
      | cons x l ih =>
        intro h
        simp only [fitsB.fitsVs] at h
        split at h
        · rename_i hx
          simp only [vserL, allLe, v1er, W.erL_eq, cnt_map', hx]
          exact ih h
        · cases h
    have hl : ∀ l : List (V1 W), cnt (vserL W.erL l) = cnt l := by intro l; induction l with | nil => rfl | cons x l ih => simp [vserL, cnt, ih]
    simp only [fitsB] at h
    split at h
    · rename_i hx
      simp only [TV.er, TV.fits, hl, hx, key xs h, Bool.and_self]
    · cases h
def SF.importB (M : MB) (F : SF) (d : Nat) (r : TV W) : R SF := match fitsB r with
  | true => (F.clearsR M (rootsTB d r)).bd fun G => R.ok ((G.addsB (rootsTB d r)).put d (impTB M d r))
  | false => none
theorem importB_sim (F : SF) (d : Nat) (r : TV W) : (F.importB stdB d r).Sim fun G => F.er.import std d (r.er W.erL) = some G.er := by
  unfold SF.importB
  split
  · rename_i hf
    refine R.Sim.bd (clearsR_sim _ F) fun G hG => R.Sim.ok ?_
    unfold Fr.import
    rw [fitsB_er hf]
    dsimp only
    rw [← rootsTB_er, hG, SF.put_er, addsB_er, impTB_er]
  · exact R.Sim.none'
/-- What is known of callees: under conditions, a result. -/
abbrev SOra := FuncId → List (V1 D) → R (TV W)
def SOraOK (P : Program) (ora : SOra) : Prop := ∀ g as, R.Sim (ora g as) fun r => CallOK P g (vserL D.erL as) (r.er W.erL)
def callB (M : MB) (ora : SOra) (F : SF) (d : Nat) (f : Operand) (args : List Operand) : R SF :=
  (calleeB M F f).bd fun g => (argsB M F args).bd fun as => (ora g.1 (appB as (capsD g.2))).bd fun r => (match lendB F (f :: args) with
    | true => F.importB M d r
    | false => (match tvClean r with
      | true => F.importB M d r
      | false => none))
open Classical in
/-- An oracle for one call. -/
noncomputable def ora1 (g : FuncId) (as : List (V1 C)) (r : TV O) : Ora := fun g' as' => if g' = g ∧ as' = as then some r else none
theorem callB_sim {P : Program} {ora : SOra} (hO : SOraOK P ora) (F : SF) (d : Nat) (f : Operand) (args : List Operand) : (callB stdB ora F d f args).Sim fun G => ∃ g as r, CallOK P g as r ∧ callW std (ora1 g as r) F.er d f args = some G.er := by
  unfold callB
  refine R.Sim.bd (calleeB_sim F f) fun g hg => R.Sim.bd (argsB_sim F args) fun as has => R.Sim.bd (hO g.1 _) fun r hr => ?_
  have key : ∀ G : SF, F.er.import std d (r.er W.erL) = some G.er → (lendB F (f :: args) = true ∨ tvClean r = true) → ∃ g as r, CallOK P g as r ∧ callW std (ora1 g as r) F.er d f args = some G.er := by
    intro G hG hc
    refine ⟨_, _, _, hr, ?_⟩
    unfold callW askO
    simp only [hg, has]
    have h1 : ora1 g.1 (vserL D.erL (appB as (capsD g.2))) (r.er W.erL) g.1 (vserL D.erL as ++ capsV (D.erL g.2)) = some (r.er W.erL) := by
      unfold ora1
      rw [if_pos ⟨rfl, by rw [appB_eq, vserL_append, capsD_er]⟩]
    simp only [h1, lendB_er]
    rcases hc with hc | hc
    · simp only [hc, hG]
    · cases hl : lendB F (f :: args) with
      | true => simp only [hG]
      | false => simp only [tvClean_er hc, hG]
  split
  · rename_i hl
    exact (importB_sim F d r).mono fun G hG => key G hG (.inl hl)
  · split
    · rename_i hc
      exact (importB_sim F d r).mono fun G hG => key G hG (.inr hc)
    · exact R.Sim.none'
end Go.Proofs.Ytlmejcmnmdleaaa.Ai
