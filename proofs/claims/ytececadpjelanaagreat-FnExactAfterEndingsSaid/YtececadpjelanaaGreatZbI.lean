/- The law's proof, part 9 of 10: what of its author's texts it needs; no condition. -/
import Derived.Shelf.Sort.Plain
import Derived.Shelf.Slices.In.SortNone
import Derived.Shelf.Spec.SlicesGrow
import Derived.Test.YtececadpjelanaaGreatZbH
namespace Go.Proofs.YtececadpjelanaaGreat.Ai
open Go
set_option maxRecDepth 100000
set_option linter.unusedVariables false
set_option linter.unusedSimpArgs false
set_option linter.unusedSectionVars false
variable [MemoCtx]
def sl_laysSortR : Go.Shelf.Ren := ⟨fun | 189 => 81 | 125 => 118 | 257 => 117 | 128 => 157 | 129 => 158 | 294 => 148 | 295 => 149 | 296 => 150 | 297 => 151 | 298 => 152 | 299 => 153 | 216 => 154 | 300 => 155 | 301 => 156 | 328 => 172 | 329 => 173 | 330 => 174 | 331 => 175 | 332 => 176 | 215 => 177 | 343 => 180 | n => n, fun | 28 => 26 | 3 => 3 | 46 => 64 | 0 => 0 | 51 => 144 | 53 => 146 | 4 => 4 | 183 => 137 | 182 => 136 | 131 => 141 | 5 => 5 | 9 => 9 | 218 => 155 | 222 => 159 | 228 => 162 | 229 => 163 | n => n, fun n => n⟩ -- 81
theorem sl_laysSortL : Go.Proofs.Lays.n189 Tryz.prog sl_laysSortR := { mixed := Eq.refl true, f125 := Eq.trans Tryz.func118 (congrArg some ((by kernel_rfl))), f128 := Eq.trans Tryz.func157 (congrArg some ((by kernel_rfl))), f129 := Eq.trans Tryz.func158 (congrArg some ((by kernel_rfl))), f189 := Eq.trans Tryz.func81 (congrArg some ((by kernel_rfl))), f215 := Eq.trans Tryz.func177 (congrArg some ((by kernel_rfl))), f216 := Eq.trans Tryz.func154 (congrArg some ((by kernel_rfl))), f257 := Eq.trans Tryz.func117 (congrArg some ((by kernel_rfl))), f294 := Eq.trans Tryz.func148 (congrArg some ((by kernel_rfl))), f295 := Eq.trans Tryz.func149 (congrArg some ((by kernel_rfl))), f296 := Eq.trans Tryz.func150 (congrArg some ((by kernel_rfl))), f297 := Eq.trans Tryz.func151 (congrArg some ((by kernel_rfl))), f298 := Eq.trans Tryz.func152 (congrArg some ((by kernel_rfl))), f299 := Eq.trans Tryz.func153 (congrArg some ((by kernel_rfl))), f300 := Eq.trans Tryz.func155 (congrArg some ((by kernel_rfl))), f301 := Eq.trans Tryz.func156 (congrArg some ((by kernel_rfl))), f328 := Eq.trans Tryz.func172 (congrArg some ((by kernel_rfl))), f329 := Eq.trans Tryz.func173 (congrArg some ((by kernel_rfl))), f330 := Eq.trans Tryz.func174 (congrArg some ((by kernel_rfl))), f331 := Eq.trans Tryz.func175 (congrArg some ((by kernel_rfl))), f332 := Eq.trans Tryz.func176 (congrArg some ((by kernel_rfl))), f343 := Eq.trans Tryz.func180 (congrArg some ((by kernel_rfl))), t0 := Tryz.underlying0, a0 := Tryz.isAgg0, z0 := Tryz.sizeOf0, v0 := Tryz.zeroValue0, t3 := Tryz.underlying3, a3 := Tryz.isAgg3, z3 := Tryz.sizeOf3, v3 := Tryz.zeroValue3, t4 := Tryz.underlying4, a4 := Tryz.isAgg4, z4 := Tryz.sizeOf4, v4 := Tryz.zeroValue4, t5 := Tryz.underlying5, a5 := Tryz.isAgg5, z5 := Tryz.sizeOf5, v5 := Tryz.zeroValue5, t9 := Tryz.underlying9, a9 := Tryz.isAgg9, z9 := Tryz.sizeOf9, v9 := Tryz.zeroValue9, t28 := Tryz.underlying26, a28 := Tryz.isAgg26, z28 := Tryz.sizeOf26, v28 := Tryz.zeroValue26, t46 := Tryz.underlying64, a46 := Tryz.isAgg64, z46 := Tryz.sizeOf64, v46 := Tryz.zeroValue64, t51 := Tryz.underlying144, a51 := Tryz.isAgg144, z51 := Tryz.sizeOf144, v51 := Tryz.zeroValue144, t53 := Tryz.underlying146, a53 := Tryz.isAgg146, z53 := Tryz.sizeOf146, v53 := Tryz.zeroValue146, t131 := Tryz.underlying141, a131 := Tryz.isAgg141, z131 := Tryz.sizeOf141, v131 := Tryz.zeroValue141, t182 := Tryz.underlying136, a182 := Tryz.isAgg136, z182 := Tryz.sizeOf136, v182 := Tryz.zeroValue136, t183 := Tryz.underlying137, a183 := Tryz.isAgg137, z183 := Tryz.sizeOf137, v183 := Tryz.zeroValue137, t218 := Tryz.underlying155, a218 := Tryz.isAgg155, z218 := Tryz.sizeOf155, v218 := Tryz.zeroValue155, t222 := Tryz.underlying159, a222 := Tryz.isAgg159, z222 := Tryz.sizeOf159, v222 := Tryz.zeroValue159, t228 := Tryz.underlying162, a228 := Tryz.isAgg162, z228 := Tryz.sizeOf162, v228 := Tryz.zeroValue162, t229 := Tryz.underlying163, a229 := Tryz.isAgg163, z229 := Tryz.sizeOf163, v229 := Tryz.zeroValue163  } -- 81
def sl_laysGrowR : Go.Shelf.Ren := ⟨fun | 4 => 116 | n => n, fun | 22 => 26 | 25 => 3 | 3 => 3 | 4 => 4 | 9 => 9 | 20 => 20 | 0 => 0 | n => n, fun n => n⟩ -- 116
theorem sl_laysGrowL : Go.Proofs.Lays8.n4 Tryz.prog sl_laysGrowR := { mixed := Eq.refl true, f4 := ⟨Tryz.f116.name, by decide, Eq.trans Tryz.func116 (congrArg some (by kernel_rfl))⟩, t0 := Tryz.underlying0, a0 := Tryz.isAgg0, z0 := Tryz.sizeOf0, v0 := Tryz.zeroValue0, t3 := Tryz.underlying3, a3 := Tryz.isAgg3, z3 := Tryz.sizeOf3, v3 := Tryz.zeroValue3, t4 := Tryz.underlying4, a4 := Tryz.isAgg4, z4 := Tryz.sizeOf4, v4 := Tryz.zeroValue4, t9 := Tryz.underlying9, a9 := Tryz.isAgg9, z9 := Tryz.sizeOf9, v9 := Tryz.zeroValue9, t20 := Tryz.underlying20, a20 := Tryz.isAgg20, z20 := Tryz.sizeOf20, v20 := Tryz.zeroValue20, t22 := Tryz.underlying26, a22 := Tryz.isAgg26, z22 := Tryz.sizeOf26, v22 := Tryz.zeroValue26  } -- 116
end Go.Proofs.YtececadpjelanaaGreat.Ai
namespace Go.Proofs.YtececadpjelanaaGreat.Ai
open Go Go.RowKit
set_option maxRecDepth 100000
set_option linter.unusedVariables false
set_option linter.unusedSimpArgs false
set_option linter.unusedSectionVars false
variable [MemoCtx]
theorem sort_ok (l : List Int) (h : l.length < 4611686018427387904) : SCallW Tryz.prog 81 [wR l.length] [(lrt 0, .osl (.i l))] [.rf (lrt 0, []) true 0 l.length] (.tup []) [(lrt 0, .osl (.i (sortL l)))] [.rf (lrt 0, []) true 0 l.length] :=
  callW_sort ⟨_, _, Tryz.func81, rfl, by kernel_rfl⟩ (fun p cap w => Any.slices_Sort_int_none sl_laysSortL p cap w) (fun blk off cap zs w hH hb hs => Any.slices_Sort_int sl_laysSortL blk off cap zs w hH hb hs) l h
theorem grow_ok (w : World) (n : Nat) (hn : n ≤ 1000000) : ∃ ao b cap w1, (∀ m, m = n → Calls Tryz.prog 116 #[.slice none 0 0, .int .i64 m] w fun e w' => e = .returned (.slice ao 0 cap) ∧ w1 = w') ∧ Came w1 1 ao b 0 0 cap [] ∧ n ≤ cap ∧ cap ≤ maxLen ∧ Below w.heap.size w w1 ∧
    (0 < cap → w.heap.size ≤ b ∧ b < w1.heap.size ∧ ∃ cur, w1.heap[b]? = some (.cells cur 3 (0, 0)) ∧ cur.size = cap) ∧ (n = 0 → cap = 0) := by
  by_cases h0 : n = 0
  · subst h0
    refine ⟨none, 0, 0, w, fun m hm => ?_, ⟨Nat.le_refl _, fun h => by omega, fun h => by omega, rfl, fun j u h => by simp at h, fun j h => by omega⟩, Nat.le_refl _, by unfold maxLen; omega, Below.refl _ _, fun h => by omega, fun _ => rfl⟩
    subst hm
    exact (Any8.slices_Grow_room sl_laysGrowL none 0 0 0 w (by omega) (by omega) (by omega) (by omega)).mono fun e w' ⟨h1, h2⟩ => ⟨h1, h2.symm⟩
  · obtain ⟨i0, hi, hz0, hz1, hz2⟩ := info_parts infoI
    obtain ⟨cap, hcap⟩ : ∃ cap, cap = grownCap w (0 + n) 0 3 := ⟨_, rfl⟩
    have hge := grownCap_ge w (0 + n) 0 3
    have hle := grownCap_le_maxLen w (0 + n) 0 3 (by unfold maxLen; omega)
    rw [← hcap] at hge hle
    obtain ⟨cur, hcur⟩ : ∃ cur, cur = ([] : List Value).toArray ++ Builtin.zeroCells (Value.int .i64 0).cells (0 + n - 0) ++ Builtin.zeroCells (Value.int .i64 0).cells (cap - (0 + n)) := ⟨_, rfl⟩
    have hcs : cur.size = cap := by
      rw [hcur]
      simp only [Array.size_append, size_zeroCells, List.size_toArray, List.length_nil]
      show 0 + (0 + n - 0) * 1 + (cap - (0 + n)) * 1 = cap
      omega
    have hget : (w.drew.alloc (.cells cur 3)).heap[w.heap.size]? = some (.cells cur 3 (0, 0)) := by
      show (w.heap.push (.cells cur 3))[w.heap.size]? = _
      rw [Array.getElem?_push, if_pos rfl]
    refine ⟨some ⟨w.heap.size, 0, none⟩, w.heap.size, cap, w.drew.alloc (.cells cur 3), fun m hm => ?_, ⟨Nat.zero_le _, fun _ => rfl, fun _ => ?_, rfl, fun j u h => by simp at h, fun j hj => ⟨?_, ?_⟩⟩, by omega, hle, ?_, fun _ => ⟨Nat.le_refl _, ?_, cur, hget, hcs⟩, fun h => absurd h h0⟩
    · subst hm
      refine (Any8.slices_Grow_grow sl_laysGrowL i0 (.int .i64 0) hi hz0 (by rw [hz1]; decide) none 0 0 m [] w (Nat.le_refl _) (by omega) (by rw [hz2]; omega) (by omega) (by simp) (fun _ => rfl) (fun a h => by cases h)).mono fun e w' ⟨h1, h2⟩ => ⟨?_, ?_⟩
      · rw [h1, hcap]; rfl
      · rw [h2, hcur, hcap]; rfl
    · show w.heap.size < (w.heap.push (.cells cur 3)).size
      simp
    · unfold World.cell?
      dsimp only
      rw [hget]
      dsimp only
      rw [if_neg (by simp), Array.getElem?_eq_getElem (by omega)]
      rfl
    · unfold World.frozen?
      dsimp only
      rw [hget]
      simp
    · exact ⟨rfl, rfl, rfl, by show w.heap.size ≤ (w.heap.push (.cells cur 3)).size; simp, fun k hk => by show (w.heap.push (.cells cur 3))[k]? = _; rw [Array.getElem?_push, if_neg (by omega)]⟩
    · show w.heap.size < (w.heap.push (.cells cur 3)).size
      simp
theorem cellsI_get {l : List Int} {i j : Nat} {y : List O} {o : O} (hi : (cellsI l)[i]? = some y) (hj : y[j]? = some o) : ∃ x, l[i]? = some x ∧ j = 0 ∧ o = .fz (.int .i64 x) := by
  unfold cellsI at hi
  rw [List.getElem?_map] at hi
  cases hx : l[i]? with
  | none => rw [hx] at hi; cases hi
  | some x =>
    rw [hx] at hi
    injection hi with hi
    subst hi
    cases j with
    | zero => injection hj with hj; exact ⟨x, rfl, rfl, hj.symm⟩
    | succ j => cases hj
theorem rcI_get {l : List Int} {i : Nat} {x : Int} (hx : l[i]? = some x) : (rcI l)[i]? = some [.int .i64 x] := by
  have : ∀ l : List Int, rcI l = l.map fun x => [.int .i64 x] := by
    intro l
    induction l with
    | nil => rfl
    | cons a l ih => simp only [rcI, List.map_cons, ih]
  rw [this, List.getElem?_map, hx]; rfl
theorem holdV_of {J : Fence} {w : World} {v : Value} {l : List Int} (h : @RepC J w (fun _ => none) (.sl (rcI l)) v) : HoldV w v l := by
  have hl := rcI_len l
  have hg : ∀ (i : Nat) (x : Int), l[i]? = some x → (rcI l)[i]? = some [.int .i64 x] := fun i x h => rcI_get h
  generalize rcI l = xs at h hl hg
  cases h with
  | sl _ sz a cap us hc hs ha hm hr =>
    refine ⟨a, cap, by rw [hl], fun hne => ?_⟩
    have hx : xs ≠ [] := fun e => hne (List.length_eq_zero_iff.1 (by rw [← hl, e]; rfl))
    obtain ⟨⟨b, o, sp⟩, rfl, hsp, hb, _⟩ := ha hx
    have hsp : sp = none := hsp
    subst hsp
    refine ⟨b, o, rfl, hb, fun i hi => ?_⟩
    have h1 := hg i _ (List.getElem?_eq_getElem hi)
    have hsz : sz = 1 := (hs _ (List.mem_of_getElem? h1)).symm
    subst hsz
    have h2 := hm _ rfl i 0 _ _ h1 rfl
    have h3 := hr i 0 _ _ h1 rfl
    rw [Addr.add_lit, show o + (i * 1 + 0) = o + i by omega] at h2
    rw [h2, List.getD_eq_getElem?_getD, List.getElem?_eq_getElem hi]
    generalize us i 0 = q at h3 ⊢
    cases h3
    rfl
theorem concat_res {J : Fence} {w w1 w' : World} {ao : Option Addr} {b cap r : Nat} {v : Value} {l : List Int} (hc : Came w1 1 ao b 0 0 cap []) (hcap : l.length ≤ cap) (hcm : cap ≤ maxLen) (hb : Below w.heap.size w w1)
    (hown : 0 < cap → w.heap.size ≤ b ∧ b < w1.heap.size ∧ ∃ cur, w1.heap[b]? = some (.cells cur 3 (0, 0)) ∧ cur.size = cap) (h0 : l.length = 0 → cap = 0)
    (hup : Upon w1 3 1 ao b 0 0 cap [] w' v l.length (intsV l) r) (htp : w'.tape = w1.tape) : @CallRes J w (.v (false, [.osl (cellsI l)])) v w' := by
  letI := J
  have hbel : Below w.heap.size w w' := by
    refine ⟨hup.kept.1.trans hb.os, htp.trans hb.tape, hup.kept.2.1.trans hb.output, Nat.le_trans hb.size hup.kept.size, fun k hk => ?_⟩
    rw [hup.kept.block (Nat.lt_of_lt_of_le hk hb.size) (fun p hp e => ?_), hb.block k hk]
    obtain ⟨j, hj, rfl⟩ := hp
    have := (hown (hup.capPos hj)).1
    have e : b = k := e
    omega
  refine ⟨Keeps.of_below hbel, ?_⟩
  rcases hup.val with ⟨hle, rfl, hr⟩ | ⟨hlt, _⟩
  · by_cases hz : l.length = 0
    · obtain rfl : l = [] := List.length_eq_zero_iff.1 hz
      obtain rfl := h0 rfl
      exact ⟨fun _ => none, ⟨(fun _ _ h => by cases h), (fun _ _ _ _ h => by cases h), RepO.oslz _ _, (fun _ _ h => by cases h)⟩⟩
    · obtain ⟨hb1, hb2, cur, hcur, hcs⟩ := hown (by omega)
      have hao := hc.addr (by omega)
      subst hao
      have hk := hup.kept.2.2 b hb2
      rw [hcur] at hk
      obtain ⟨cur', hcur', hsz⟩ : ∃ cur', w'.heap[b]? = some (.cells cur' 3 (0, 0)) ∧ cur'.size = cap := by
        cases hw : w'.heap[b]? with
        | none => rw [hw] at hk; cases hk
        | some o =>
          rw [hw] at hk
          cases o with
          | cells c t f =>
            obtain ⟨rfl, rfl, h3, _⟩ := hk
            exact ⟨c, rfl, h3.trans hcs⟩
          | _ => cases hk
      have hcl : (cellsI l).length = l.length := by simp [cellsI]
      have hcell : ∀ (i : Nat) (x : Int), l[i]? = some x → cur'[i]? = some (Value.int .i64 x) := by
        intro i x hx
        have hi : i < l.length := (List.getElem?_eq_some_iff.1 hx).1
        have h4 := hup.written i (by rw [hr]; simpa [intsV] using hi)
        unfold World.cell? at h4
        dsimp only at h4
        rw [hcur'] at h4
        dsimp only at h4
        rw [if_neg (by simp), show 0 + 0 * 1 + i = i by omega] at h4
        rw [h4]
        unfold intsV
        rw [List.getElem?_map, hx]; rfl
      refine ⟨fun g => if g = b then some ⟨(resRoot, [(0, 0)]), l.length, cap, 1⟩ else none, fun g x hx => ?_, fun g g' x y hx hy _ => ?_, ?_, fun g x hx => ?_⟩
      · dsimp only at hx
        split at hx
        · rename_i e; subst e; exact ⟨hb1, Nat.lt_of_lt_of_le hb2 hup.kept.size⟩
        · cases hx
      · dsimp only at hx hy
        split at hx
        · split at hy
          · rename_i e1 e2; exact e1.trans e2.symm
          · cases hy
        · cases hx
      · have h9 : RepO w' (fun g => if g = b then some ⟨(resRoot, [(0, 0)]), l.length, cap, 1⟩ else none) (resRoot, [(0, 0)]) (.osl (cellsI l)) (.slice (some ⟨b, 0, none⟩) (cellsI l).length cap) := by
          refine RepO.osl _ (cellsI l) 3 1 b cap cur' (fun i _ => .int .i64 (l.getD i 0)) hcur' ⟨by omega, by omega⟩ hcm (by omega) (fun y hy => ?_) (by rw [if_pos rfl, hcl]) (fun i j y o hi hj => ?_) fun i j y o hi hj => ?_
          · obtain ⟨x, _, rfl⟩ := List.mem_map.1 hy; rfl
          · obtain ⟨x, hx, rfl, rfl⟩ := cellsI_get hi hj
            rw [show i * 1 + 0 = i by omega, hcell i x hx, List.getD_eq_getElem?_getD, hx]; rfl
          · obtain ⟨x, hx, rfl, rfl⟩ := cellsI_get hi hj
            dsimp only
            rw [List.getD_eq_getElem?_getD, hx]
            exact .fz _ _ _ (.int _ _)
        rw [hcl] at h9
        rw [show 0 + l.length = l.length by omega]
        exact h9
      · dsimp only at hx
        split at hx
        · injection hx with hx
          subst hx
          exact ⟨0, 0, .osl (cellsI l), [], rfl, by decide, by decide, rfl, ⟨hcl, by show 0 < l.length; omega⟩⟩
        · cases hx
  · omega
theorem concat_ok (ls : List (List Int)) (hne : ls ≠ []) (h1 : ls.length ≤ 1000000) (h2 : (flatL ls).length ≤ 1000000) : SCall Tryz.prog 79 [aIss ls] (rIs (flatL ls)) := by
  have key : CallOK Tryz.prog 79 [(false, [.sl (ls.map fun x => [.sl (rcI x)])])] (.v (false, [.osl (cellsI (flatL ls))])) := by
    refine ⟨⟨_, _, Tryz.func79, rfl, by kernel_rfl⟩, fun J w vals hfut hold hsz ha => ?_⟩
    letI := J
    obtain ⟨u, hu, hr⟩ := ha 0 _ rfl
    have hr : RepC w (fun _ => none) (.sl (ls.map fun x => [.sl (rcI x)])) u := hr
    obtain rfl : vals = #[u] := by
      apply Array.ext'
      have h2 : vals.toList.length = 1 := by simpa using hsz
      have h3 : vals.toList[0]? = some u := by simpa using hu
      generalize vals.toList = q at h2 h3
      match q, h2 with
      | [x], _ => simp at h3; simp [h3]
    have hxl : (ls.map fun x => [C.sl (rcI x)]).length = ls.length := by simp
    have hxg : ∀ j, j < ls.length → (ls.map fun x => [C.sl (rcI x)])[j]? = some [.sl (rcI (ls.getD j []))] := fun j hj => by
      rw [List.getElem?_map, List.getD_eq_getElem?_getD, List.getElem?_eq_getElem hj]; rfl
    generalize (ls.map fun x => [C.sl (rcI x)]) = xs at hr hxl hxg
    have hp : 0 < ls.length := List.length_pos_iff.2 hne
    cases hr with
    | sl _ sz a cap us hc hs ha2 hm hr8 =>
      obtain ⟨⟨xb, xo, sp⟩, rfl, hsp, hbl, _⟩ := ha2 (fun e => by rw [e] at hxl; simp at hxl; omega)
      have hsp : sp = none := hsp
      subst hsp
      have hsz1 : sz = 1 := (hs _ (List.mem_of_getElem? (hxg 0 hp))).symm
      subst hsz1
      obtain ⟨ao, b, cp, w1, hG, hC, hcp, hcm, hB, hown, h00⟩ := grow_ok w (flatL ls).length h2
      rw [hxl]
      refine (concat_walk xb xo cap (fun j => us j 0) ls w h2 h1 hbl (fun j hj => ?_) (fun j hj => holdV_of (hr8 j 0 _ _ (hxg j hj) rfl)) ao b cp w1 hG hC hcp (fun wr v m ks r hup => cS_old hB (fun h => (hown h).1) hup)).mono ?_
      · have h5 := hm _ rfl j 0 _ _ (hxg j hj) rfl
        rw [Addr.add_lit, show xo + (j * 1 + 0) = xo + j by omega] at h5
        exact h5
      · rintro e w' ⟨v, r, rfl, hup, htp⟩
        exact ⟨v, rfl, concat_res hC hcp hcm hB hown h00 hup htp⟩
  have e1 : (rIs (flatL ls)).er W.erL = .v (false, [.osl (cellsI (flatL ls))]) := by rw [← roI_cells]; rfl
  unfold SCall
  rw [e1]
  exact key
end Go.Proofs.YtececadpjelanaaGreat.Ai
namespace Go.Proofs.YtececadpjelanaaGreat.Ai
open Go
set_option maxRecDepth 100000
set_option linter.unusedVariables false
set_option linter.unusedSimpArgs false
set_option linter.unusedSectionVars false
variable [MemoCtx]
def acQ (ts : List Tie) (times : List Int) (i : Nat) : Bool := (ts.getD i Tie.z).free && (decide (times.getD (ts.getD i Tie.z).src.toNat 0 ≠ -1) && decide (times.getD (ts.getD i Tie.z).dst.toNat 0 = -1))
def acL (t : Show) (x : State) : List Int := selL (acQ t.ties x.times) t.ties.length
theorem specActive_ok (t : Show) (x : State) (hs : StLe t x) (h : showB t = true) (hl : x.times.length = t.nodes.length) : SCall Tryz.prog 73 [aShow t, aState x] (rUs (acL t x)) := by
  refine SCall.of X73_ok (fn := Tryz.f73) (c := Tryz.f73.body.getD .skip) (dr := fun n => look 0 [] n) Tryz.func73 rfl (by kernel_rfl) (by kernel_rfl) (by kernel_rfl) ?_
  have hn := showB_len h
  have htl := showB_ties h
  have hT : ∀ q ∈ t.ties, TieT t q := fun q hq => showB_tie h hq
  unfold acL
  obtain ⟨ns, ts, hr⟩ := t
  obtain ⟨now, times, vals⟩ := x
  dsimp only at hl hn htl ⊢
  obtain ⟨q, hq⟩ : ∃ q, q = acQ ts times := ⟨_, rfl⟩
  have hqd : ∀ j : Nat, q j = acQ ts times j := fun j => by rw [hq]
  rw [← hq]
  clear hq hs h
  unfold acQ at hqd
  obtain ⟨m, hm⟩ : ∃ m, m = ts.length := ⟨_, rfl⟩
  rw [← hm] at htl ⊢
  refine SEx.go (X := X73) X73_ok (fun n => look [] [(3, [3, 5, 10, 11, 12])] n) (fun _ => none) oraL_nil 60 ?_
  intro M R L N hM hAnd hImp hR hL hN
  cases M
  cbv
  repeat' first | (refine hAnd _ _ ?_ ?_) | (refine hImp _ _ (fun h => ?_)) | (refine hR _ ?_) | (refine hL _ _ (Hd.out ?_); generalize hks : (List.cons _ _ : List K) = ks) | (refine hN _ _ ?_; cbv)
  all_goals (clear hAnd hImp hR hL hN)
  all_goals (cases hM; try dsimp only)
  all_goals (try simp only [Bool.not_eq_true', Bool.not_eq_false', decide_eq_true_eq, decide_eq_false_iff_not, Int.not_le, Int.not_lt, beq_iff_eq, beq_eq_false_iff_ne, ne_eq, Int.ofNat_eq_natCast, Int.toNat_natCast, List.length_replicate, ncast, Nat.sub_zero, List.drop_zero, Cue.eta, Tie.eta, Edge.eta, Link.eta, Node.eta] at *)
  refine ⟨SEx.same (SEx.idx m (fun i => ⟨43, [(3, bP 12288), (5, bR 20480 (selL q i).length), (10, bL (.tie ts)), (11, bI m), (12, bI i)], [(12288, .obx [.fz (.int .i64 now), .fz (.sl (.i times)), .fz (.sl (.i vals))]), (20480, .osl (.i (selL q i)))]⟩) (fun _ => rUs (selL q m)) ?_) (by rw [hm]; rfl) rfl⟩
  intro i hi ih
  rw [← hks]
  obtain ⟨u, hu⟩ : ∃ u, u = selL q i := ⟨_, rfl⟩
  have hul : u.length ≤ i := by rw [hu]; exact selL_len _ _
  rw [← hu]
  obtain ⟨n, hnn⟩ : ∃ n, n = u.length := ⟨_, rfl⟩
  rw [← hnn] at hul ⊢
  have hTi : i < m → TieT ⟨ns, ts, hr⟩ (ts.getD i Tie.z) := fun hlt => hT _ (mem_getD (z := Tie.z) (by omega)).out
  have hqi := hqd i
  clear hqd hT
  refine SEx.go (X := X73) X73_ok (fun n => look [] [(3, [3, 5, 10, 11, 12])] n) (fun _ => none) oraL_nil 60 ?_
  intro M R L N hM hAnd hImp hR hL hN
  cases M
  cbv
  repeat' first | (refine hAnd _ _ ?_ ?_) | (refine hImp _ _ (fun h => ?_)) | (refine hR _ ?_) | (refine hL _ _ (Hd.out ?_); try first | rw [hks] | rw [hk2] | rw [hk3]) | (refine hN _ _ ?_; cbv)
  all_goals (clear hAnd hImp hR hL hN; try clear hks; try clear hk2; try clear hk3)
  all_goals (cases hM; try dsimp only)
  all_goals (try simp only [Bool.not_eq_true', Bool.not_eq_false', decide_eq_true_eq, decide_eq_false_iff_not, Int.not_le, Int.not_lt, beq_iff_eq, beq_eq_false_iff_ne, ne_eq, Int.ofNat_eq_natCast, Int.toNat_natCast, List.length_replicate, ncast, Nat.sub_zero, List.drop_zero, Cue.eta, Tie.eta, Edge.eta, Link.eta, Node.eta] at *)
  all_goals try simp only [List.length_append, List.length_cons, List.length_nil, List.length_set] at *
  all_goals (try omega)
  all_goals (try (have := lim_ge; omega))
  all_goals (try simp only [wrap_succ (show i < 9223372036854775807 by omega)])
  all_goals (try (have b1 := (hTi (by omega)).src; have b2 := (hTi (by omega)).dst; dsimp only at b1 b2))
  all_goals (generalize ts.getD i Tie.z = r at *; obtain ⟨x1, x2, x3, x4, x5⟩ := r; dsimp only at *)
  all_goals (try omega)
  all_goals first
    | (have ih' := ih (by omega)
       rw [selL_yes (by rw [hqi]; simp only [Bool.and_eq_true, decide_eq_true_eq]; exact ⟨by assumption, by assumption, by assumption⟩), ← hu, List.length_append] at ih'
       exact ⟨ih'.same rfl rfl⟩)
    | (have ih' := ih (by omega)
       rw [selL_no (by rw [hqi]; simp only [Bool.and_eq_false_iff, decide_eq_false_iff_not]; first | (left; assumption) | (right; left; assumption) | (right; right; assumption) | (right; left; omega)), ← hu, ← hnn] at ih'
       exact ⟨ih'.same rfl rfl⟩)
    | (obtain rfl : i = m := by omega
       rw [hu]; rfl)
    | skip
theorem implActive_ok (t : Show) (x : State) (hs : StLe t x) (h : showB t = true) (hl : x.times.length = t.nodes.length) : SCall Tryz.prog 78 [aShow t, aState x] (rUs (acL t x)) := by
  refine SCall.of X78_ok (fn := Tryz.f78) (c := Tryz.f78.body.getD .skip) (dr := fun n => look 0 [] n) Tryz.func78 rfl (by kernel_rfl) (by kernel_rfl) (by kernel_rfl) ?_
  have hn := showB_len h
  have htl := showB_ties h
  have hT : ∀ q ∈ t.ties, TieT t q := fun q hq => showB_tie h hq
  unfold acL
  obtain ⟨ns, ts, hr⟩ := t
  obtain ⟨now, times, vals⟩ := x
  dsimp only at hl hn htl ⊢
  obtain ⟨q, hq⟩ : ∃ q, q = acQ ts times := ⟨_, rfl⟩
  have hqd : ∀ j : Nat, q j = acQ ts times j := fun j => by rw [hq]
  rw [← hq]
  clear hq hs h
  unfold acQ at hqd
  obtain ⟨m, hm⟩ : ∃ m, m = ts.length := ⟨_, rfl⟩
  rw [← hm] at htl ⊢
  refine SEx.go (X := X78) X78_ok (fun n => look [] [(3, [3, 5, 9, 10, 11])] n) (fun _ => none) oraL_nil 60 ?_
  intro M R L N hM hAnd hImp hR hL hN
  cases M
  cbv
  repeat' first | (refine hAnd _ _ ?_ ?_) | (refine hImp _ _ (fun h => ?_)) | (refine hR _ ?_) | (refine hL _ _ (Hd.out ?_); generalize hks : (List.cons _ _ : List K) = ks) | (refine hN _ _ ?_; cbv)
  all_goals (clear hAnd hImp hR hL hN)
  all_goals (cases hM; try dsimp only)
  all_goals (try simp only [Bool.not_eq_true', Bool.not_eq_false', decide_eq_true_eq, decide_eq_false_iff_not, Int.not_le, Int.not_lt, beq_iff_eq, beq_eq_false_iff_ne, ne_eq, Int.ofNat_eq_natCast, Int.toNat_natCast, List.length_replicate, ncast, Nat.sub_zero, List.drop_zero, Cue.eta, Tie.eta, Edge.eta, Link.eta, Node.eta] at *)
  refine ⟨SEx.same (SEx.idx m (fun i => ⟨42, [(3, bP 12288), (5, bR 20480 (selL q i).length), (9, bL (.tie ts)), (10, bI m), (11, bI i)], [(12288, .obx [.fz (.int .i64 now), .fz (.sl (.i times)), .fz (.sl (.i vals))]), (20480, .osl (.i (selL q i)))]⟩) (fun _ => rUs (selL q m)) ?_) (by rw [hm]; rfl) rfl⟩
  intro i hi ih
  rw [← hks]
  obtain ⟨u, hu⟩ : ∃ u, u = selL q i := ⟨_, rfl⟩
  have hul : u.length ≤ i := by rw [hu]; exact selL_len _ _
  rw [← hu]
  obtain ⟨n, hnn⟩ : ∃ n, n = u.length := ⟨_, rfl⟩
  rw [← hnn] at hul ⊢
  have hTi : i < m → TieT ⟨ns, ts, hr⟩ (ts.getD i Tie.z) := fun hlt => hT _ (mem_getD (z := Tie.z) (by omega)).out
  have hqi := hqd i
  clear hqd hT
  refine SEx.go (X := X78) X78_ok (fun n => look [] [(3, [3, 5, 9, 10, 11])] n) (fun _ => none) oraL_nil 60 ?_
  intro M R L N hM hAnd hImp hR hL hN
  cases M
  cbv
  repeat' first | (refine hAnd _ _ ?_ ?_) | (refine hImp _ _ (fun h => ?_)) | (refine hR _ ?_) | (refine hL _ _ (Hd.out ?_); try first | rw [hks] | rw [hk2] | rw [hk3]) | (refine hN _ _ ?_; cbv)
  all_goals (clear hAnd hImp hR hL hN; try clear hks; try clear hk2; try clear hk3)
  all_goals (cases hM; try dsimp only)
  all_goals (try simp only [Bool.not_eq_true', Bool.not_eq_false', decide_eq_true_eq, decide_eq_false_iff_not, Int.not_le, Int.not_lt, beq_iff_eq, beq_eq_false_iff_ne, ne_eq, Int.ofNat_eq_natCast, Int.toNat_natCast, List.length_replicate, ncast, Nat.sub_zero, List.drop_zero, Cue.eta, Tie.eta, Edge.eta, Link.eta, Node.eta] at *)
  all_goals try simp only [List.length_append, List.length_cons, List.length_nil, List.length_set] at *
  all_goals (try omega)
  all_goals (try (have := lim_ge; omega))
  all_goals (try simp only [wrap_succ (show i < 9223372036854775807 by omega)])
  all_goals (try (have b1 := (hTi (by omega)).src; have b2 := (hTi (by omega)).dst; dsimp only at b1 b2))
  all_goals (generalize ts.getD i Tie.z = r at *; obtain ⟨x1, x2, x3, x4, x5⟩ := r; dsimp only at *)
  all_goals (try omega)
  all_goals first
    | (have ih' := ih (by omega)
       rw [selL_yes (by rw [hqi]; simp only [Bool.and_eq_true, decide_eq_true_eq]; exact ⟨by assumption, by assumption, by assumption⟩), ← hu, List.length_append] at ih'
       exact ⟨ih'.same rfl rfl⟩)
    | (have ih' := ih (by omega)
       rw [selL_no (by rw [hqi]; simp only [Bool.and_eq_false_iff, decide_eq_false_iff_not]; first | (left; assumption) | (right; left; assumption) | (right; right; assumption) | (right; left; omega)), ← hu, ← hnn] at ih'
       exact ⟨ih'.same rfl rfl⟩)
    | (obtain rfl : i = m := by omega
       rw [hu]; rfl)
    | skip
end Go.Proofs.YtececadpjelanaaGreat.Ai
namespace Go.Proofs.YtececadpjelanaaGreat.Ai
open Go
set_option maxRecDepth 100000
set_option linter.unusedVariables false
set_option linter.unusedSimpArgs false
set_option linter.unusedSectionVars false
variable [MemoCtx]
def wActive (f : Show → State → List Int) : Wr := w2 dcShow dcState (fun t x => rUs (f t x)) (fun t x => [StLe t x, StT t x])
theorem wActS_ok : WrOK Tryz.prog 73 (wActive acL) := w2_ok fun t x h => specActive_ok t x (h _ (.head _)) (h _ (.tail _ (.head _))).sh (h _ (.tail _ (.head _))).now.2.2
theorem wActI_ok : WrOK Tryz.prog 78 (wActive acL) := w2_ok fun t x h => implActive_ok t x (h _ (.head _)) (h _ (.tail _ (.head _))).sh (h _ (.tail _ (.head _))).now.2.2
def ageI (ts : List Tie) (now : Int) (times : List Int) (k : Int) : Int := now - times.getD (ts.getD k.toNat Tie.z).src.toNat 0
def mustB (ts : List Tie) (now : Int) (times : List Int) (k : Int) : Bool := decide ((ts.getD k.toNat Tie.z).high ≤ ageI ts now times k)
def mayB (ts : List Tie) (now : Int) (times : List Int) (k : Int) : Bool := decide (ageI ts now times k < (ts.getD k.toNat Tie.z).high) && decide ((ts.getD k.toNat Tie.z).low ≤ ageI ts now times k)
def muL (t : Show) (x : State) : List Int := (acL t x).filter (mustB t.ties x.now x.times)
def myL (t : Show) (x : State) : List Int := (acL t x).filter (mayB t.ties x.now x.times)
theorem filt_yes {p : Int → Bool} {l : List Int} {i : Nat} (h : i < l.length) (hp : p (l.getD i 0) = true) : (l.take (i + 1)).filter p = (l.take i).filter p ++ [l.getD i 0] := by
  rw [List.take_add_one, List.filter_append, getD_get h, List.getElem?_eq_getElem h, Option.toList_some, List.filter_cons, List.filter_nil]
  rw [getD_get h] at hp
  rw [if_pos hp]
theorem filt_no {p : Int → Bool} {l : List Int} {i : Nat} (h : i < l.length) (hp : p (l.getD i 0) = false) : (l.take (i + 1)).filter p = (l.take i).filter p := by
  rw [List.take_add_one, List.filter_append, List.getElem?_eq_getElem h, Option.toList_some, List.filter_cons, List.filter_nil]
  rw [getD_get h] at hp
  rw [if_neg (by rw [hp]; decide), List.append_nil]
theorem acL_mem {t : Show} {x : State} {k : Int} (h : k ∈ acL t x) : 0 ≤ k ∧ k < t.ties.length := by
  unfold acL selL at h
  obtain ⟨j, hj, rfl⟩ := List.mem_map.1 h
  have := List.mem_range.1 (List.mem_filter.1 hj).1
  omega
theorem acL_len (t : Show) (x : State) : (acL t x).length ≤ t.ties.length := selL_len _ _
theorem specEnds_ok (t : Show) (x : State) (hs : StLe t x) (h : StT t x) : SCall Tryz.prog 41 [aShow t, aState x] (.tup [(false, [.osl (.i (muL t x))]), (false, [.osl (.i (myL t x))])]) := by
  refine SCall.of X41_ok (fn := Tryz.f41) (c := Tryz.f41.body.getD .skip) (dr := fun n => look 0 [(6, 12)] n) Tryz.func41 rfl (by kernel_rfl) (by kernel_rfl) (by kernel_rfl) ?_
  have htl := showB_ties h.sh
  have hT : ∀ q ∈ t.ties, TieT t q := fun q hq => showB_tie h.sh hq
  have hnw := h.now
  have hh := showB_hor h.sh
  have htm := h.time
  have hk : ∀ k ∈ acL t x, 0 ≤ k ∧ k < t.ties.length := fun k hk => acL_mem hk
  have hll := acL_len t x
  unfold muL myL
  obtain ⟨f, hf⟩ : ∃ f, f = acL := ⟨_, rfl⟩
  have hO : SOraOK Tryz.prog (oraL [(73, wActive f)]) := by subst hf; exact oraL_cons wActS_ok oraL_nil
  rw [← hf] at hk hll ⊢
  have h0 := h
  clear hf
  obtain ⟨ns, ts, hr⟩ := t
  obtain ⟨now, times, vals⟩ := x
  dsimp only at hnw hh htl htm hk hll ⊢
  obtain ⟨p, hp⟩ : ∃ p, p = mustB ts now times := ⟨_, rfl⟩
  obtain ⟨r, hrr⟩ : ∃ r, r = mayB ts now times := ⟨_, rfl⟩
  rw [← hp, ← hrr]
  refine SEx.go (X := X41) X41_ok (fun n => look [] [(4, [2, 3, 6, 7, 15, 16, 17])] n) (fun _ => none) hO 60 ?_
  intro M R L N hM hAnd hImp hR hL hN
  cases M
  cbv
  repeat' first | (refine hAnd _ _ ?_ ?_) | (refine hImp _ _ (fun h => ?_)) | (refine hR _ ?_) | (refine hL _ _ (Hd.out ?_); generalize hks : (List.cons _ _ : List K) = ks) | (refine hN _ _ ?_; cbv)
  all_goals (clear hAnd hImp hR hL hN)
  all_goals (cases hM; try dsimp only)
  all_goals (try simp only [Bool.not_eq_true', Bool.not_eq_false', decide_eq_true_eq, decide_eq_false_iff_not, Int.not_le, Int.not_lt, beq_iff_eq, beq_eq_false_iff_ne, ne_eq, Int.ofNat_eq_natCast, Int.toNat_natCast, List.length_replicate, ncast, Nat.sub_zero, List.drop_zero, Cue.eta, Tie.eta, Edge.eta, Link.eta, Node.eta] at *)
  all_goals first
    | exact hs
    | exact h0
    | skip
  clear h0 h hs hO
  obtain ⟨l, hl⟩ : ∃ l, l = f ⟨ns, ts, hr⟩ ⟨now, times, vals⟩ := ⟨_, rfl⟩
  rw [← hl] at hk hll ⊢
  obtain ⟨m, hm⟩ : ∃ m, m = l.length := ⟨_, rfl⟩
  rw [← hm] at hll ⊢
  refine ⟨SEx.same (SEx.idx m (fun i => ⟨63, [(2, bP 8192), (3, bP 12288), (6, bR 24576 ((l.take i).filter p).length), (7, bR 28672 ((l.take i).filter r).length), (15, bR 61440 m), (16, bI m), (17, bI i)], [(8192, .obx [.fz (.sl (.node false none ns)), .fz (.sl (.tie ts)), .fz (.int .i64 hr)]), (12288, .obx [.fz (.int .i64 now), .fz (.sl (.i times)), .fz (.sl (.i vals))]), (24576, .osl (.i ((l.take i).filter p))), (28672, .osl (.i ((l.take i).filter r))), (61440, .osl (.i l))]⟩) (fun _ => .tup [(false, [.osl (.i (l.filter p))]), (false, [.osl (.i (l.filter r))])]) ?_) rfl rfl⟩
  intro i hi ih
  rw [← hks]
  obtain ⟨u, hu⟩ : ∃ u, u = (l.take i).filter p := ⟨_, rfl⟩
  obtain ⟨v, hv⟩ : ∃ v, v = (l.take i).filter r := ⟨_, rfl⟩
  have hul : u.length ≤ i := by rw [hu]; exact Nat.le_trans (List.length_filter_le _ _) (by rw [List.length_take]; omega)
  have hvl : v.length ≤ i := by rw [hv]; exact Nat.le_trans (List.length_filter_le _ _) (by rw [List.length_take]; omega)
  rw [← hu, ← hv]
  obtain ⟨n1, hn1⟩ : ∃ n, n = u.length := ⟨_, rfl⟩
  obtain ⟨n2, hn2⟩ : ∃ n, n = v.length := ⟨_, rfl⟩
  rw [← hn1] at hul ⊢
  rw [← hn2] at hvl ⊢
  have hki : i < m → 0 ≤ l.getD i 0 ∧ l.getD i 0 < ts.length := fun hlt => hk _ (mem_getD (z := (0 : Int)) (by omega)).out
  have hTi : i < m → TieT ⟨ns, ts, hr⟩ (ts.getD (l.getD i 0).toNat Tie.z) := fun hlt => hT _ (mem_getD (z := Tie.z) (by have := hki hlt; omega)).out
  have hpi : p (l.getD i 0) = decide ((ts.getD (l.getD i 0).toNat Tie.z).high ≤ ageI ts now times (l.getD i 0)) := by rw [hp]; rfl
  have hri : r (l.getD i 0) = (decide (ageI ts now times (l.getD i 0) < (ts.getD (l.getD i 0).toNat Tie.z).high) && decide ((ts.getD (l.getD i 0).toNat Tie.z).low ≤ ageI ts now times (l.getD i 0))) := by rw [hrr]; rfl
  have htk : l.take m = l := by rw [hm, List.take_length]
  have hag : IntKind.i64.wrap (now - times.getD (ts.getD (l.getD i 0).toNat Tie.z).src.toNat 0) = now - times.getD (ts.getD (l.getD i 0).toNat Tie.z).src.toNat 0 := by have := htm (ts.getD (l.getD i 0).toNat Tie.z).src.toNat; exact wrap_i64 (by omega) (by omega)
  unfold ageI at hpi hri
  clear hk hT hp hrr htm hl
  refine SEx.go (X := X41) X41_ok (fun n => look [] [(4, [2, 3, 6, 7, 15, 16, 17])] n) (fun _ => none) oraL_nil 60 ?_
  intro M R L N hM hAnd hImp hR hL hN
  cases M
  cbv
  repeat' first | (refine hAnd _ _ ?_ ?_) | (refine hImp _ _ (fun h => ?_)) | (refine hR _ ?_) | (refine hL _ _ (Hd.out ?_); try first | rw [hks] | rw [hk2] | rw [hk3]) | (refine hN _ _ ?_; cbv)
  all_goals (clear hAnd hImp hR hL hN; try clear hks; try clear hk2; try clear hk3)
  all_goals (cases hM; try dsimp only)
  all_goals (try simp only [Bool.not_eq_true', Bool.not_eq_false', decide_eq_true_eq, decide_eq_false_iff_not, Int.not_le, Int.not_lt, beq_iff_eq, beq_eq_false_iff_ne, ne_eq, Int.ofNat_eq_natCast, Int.toNat_natCast, List.length_replicate, ncast, Nat.sub_zero, List.drop_zero, Cue.eta, Tie.eta, Edge.eta, Link.eta, Node.eta] at *)
  all_goals (try simp only [hag] at *)
  all_goals try simp only [List.length_append, List.length_cons, List.length_nil, List.length_set] at *
  all_goals (try omega)
  all_goals (try (have := lim_ge; omega))
  all_goals (try simp only [wrap_succ (show i < 9223372036854775807 by omega)])
  all_goals (try (have b0 := hki (by omega); have b1 := (hTi (by omega)).src; dsimp only at b1))
  all_goals (generalize ts.getD (l.getD i 0).toNat Tie.z = y at *; obtain ⟨x1, x2, x3, x4, x5⟩ := y; dsimp only at *)
  all_goals (try subst hn1)
  all_goals (try subst hn2)
  all_goals (try omega)
  all_goals first
    | (have ih' := ih (by omega)
       rw [filt_yes (p := p) (l := l) (i := i) (by omega) (by rw [hpi]; exact decide_eq_true (by omega)), filt_no (p := r) (l := l) (i := i) (by omega) (by rw [hri, decide_eq_false (by omega)]; rfl), ← hu, ← hv, List.length_append] at ih'
       exact ⟨ih'.same rfl rfl⟩)
    | (have ih' := ih (by omega)
       rw [filt_no (p := p) (l := l) (i := i) (by omega) (by rw [hpi]; exact decide_eq_false (by omega)), filt_yes (p := r) (l := l) (i := i) (by omega) (by rw [hri, decide_eq_true (by omega), decide_eq_true (by omega)]; rfl), ← hu, ← hv, List.length_append] at ih'
       exact ⟨ih'.same rfl rfl⟩)
    | (have ih' := ih (by omega)
       rw [filt_no (p := p) (l := l) (i := i) (by omega) (by rw [hpi]; exact decide_eq_false (by omega)), filt_no (p := r) (l := l) (i := i) (by omega) (by rw [hri, decide_eq_false (show ¬ x3 ≤ _ by omega), Bool.and_false]), ← hu, ← hv] at ih'
       exact ⟨ih'.same rfl rfl⟩)
    | (obtain rfl : i = m := by omega
       rw [htk] at hu hv
       rw [hu, hv]; rfl)
    | (have e : i = m := by omega
       rw [e, htk] at hu hv
       rw [hu, hv])
    | (have e : i = m := by omega
       rw [e, htk] at hu hv
       rw [hu, hv]; rfl)
    | skip
end Go.Proofs.YtececadpjelanaaGreat.Ai
namespace Go.Proofs.YtececadpjelanaaGreat.Ai
open Go
set_option maxRecDepth 100000
set_option linter.unusedVariables false
set_option linter.unusedSimpArgs false
set_option linter.unusedSectionVars false
variable [MemoCtx]
def mergeI : List Int → List Int → List Int
  | [], b => b
  | a, [] => a
  | x :: a, y :: b => if x < y then x :: mergeI a (y :: b) else y :: mergeI (x :: a) b
termination_by a b => a.length + b.length
theorem mergeI_nil (a : List Int) : mergeI a [] = a := by cases a <;> simp [mergeI]
theorem mergeI_perm : ∀ a b : List Int, (mergeI a b).Perm (a ++ b)
  | [], b => by simp [mergeI]
  | x :: a, [] => by simp [mergeI]
  | x :: a, y :: b => by
    unfold mergeI
    split
    · exact (mergeI_perm a (y :: b)).cons x
    · exact ((mergeI_perm (x :: a) b).cons y).trans (List.perm_middle (l₁ := x :: a)).symm
termination_by a b => a.length + b.length
theorem mergeI_sorted : ∀ {a b : List Int}, a.Pairwise (· ≤ ·) → b.Pairwise (· ≤ ·) → (mergeI a b).Pairwise (· ≤ ·)
  | [], b, _, h => by simpa [mergeI] using h
  | x :: a, [], h, _ => by simpa [mergeI] using h
  | x :: a, y :: b, h1, h2 => by
    have h1' := List.pairwise_cons.1 h1
    have h2' := List.pairwise_cons.1 h2
    unfold mergeI
    split
    · rename_i hxy
      refine List.pairwise_cons.2 ⟨fun z hz => ?_, mergeI_sorted h1'.2 h2⟩
      have hz := (mergeI_perm a (y :: b)).mem_iff.1 hz
      rcases List.mem_append.1 hz with hz | hz
      · exact h1'.1 z hz
      · rcases List.mem_cons.1 hz with rfl | hz
        · omega
        · have := h2'.1 z hz; omega
    · rename_i hxy
      refine List.pairwise_cons.2 ⟨fun z hz => ?_, mergeI_sorted h1 h2'.2⟩
      have hz := (mergeI_perm (x :: a) b).mem_iff.1 hz
      rcases List.mem_append.1 hz with hz | hz
      · rcases List.mem_cons.1 hz with rfl | hz
        · omega
        · have := h1'.1 z hz; omega
      · exact h2'.1 z hz
termination_by a b => a.length + b.length
theorem sortL_merge {a b : List Int} (h1 : a.Pairwise (· ≤ ·)) (h2 : b.Pairwise (· ≤ ·)) : sortL (a ++ b) = mergeI a b := by
  have hs : (sortL (a ++ b)).Pairwise (· ≤ ·) := by
    have := List.pairwise_mergeSort (le := fun x y : Int => decide (x ≤ y)) (fun a b c h1 h2 => by simp only [decide_eq_true_eq] at *; omega) (fun a b => by simp only [Bool.or_eq_true, decide_eq_true_eq]; omega) (a ++ b)
    exact this.imp fun h => by simpa using h
  exact ((List.mergeSort_perm (a ++ b) _).trans (mergeI_perm a b).symm).eq_of_pairwise (fun x y _ _ h1 h2 => by omega) hs (mergeI_sorted h1 h2)
end Go.Proofs.YtececadpjelanaaGreat.Ai
namespace Go.Proofs.YtececadpjelanaaGreat.Ai
open Go
set_option maxRecDepth 100000
set_option linter.unusedVariables false
set_option linter.unusedSimpArgs false
set_option linter.unusedSectionVars false
variable [MemoCtx]
theorem drop_getD {l : List Int} {i : Nat} (h : i < l.length) : l.drop i = l.getD i 0 :: l.drop (i + 1) := by
  rw [List.drop_eq_getElem_cons h, getD_get h]
theorem mg1 {a b : List Int} {i k : Nat} (hi : i < a.length) (hk : k = b.length) : mergeI (a.drop i) (b.drop k) = a.getD i 0 :: mergeI (a.drop (i + 1)) (b.drop k) := by
  subst hk
  rw [List.drop_length, mergeI_nil, mergeI_nil, drop_getD hi]
theorem mg2 {a b : List Int} {i k : Nat} (hi : i < a.length) (hk : k < b.length) (h : a.getD i 0 < b.getD k 0) : mergeI (a.drop i) (b.drop k) = a.getD i 0 :: mergeI (a.drop (i + 1)) (b.drop k) := by
  rw [drop_getD hi, drop_getD hk]
  conv => lhs; unfold mergeI
  rw [if_pos h]
theorem mg3 {a b : List Int} {i k : Nat} (hk : k < b.length) (h : i = a.length ∨ i < a.length ∧ ¬ a.getD i 0 < b.getD k 0) : mergeI (a.drop i) (b.drop k) = b.getD k 0 :: mergeI (a.drop i) (b.drop (k + 1)) := by
  rcases h with rfl | ⟨hi, h⟩
  · rw [List.drop_length, drop_getD hk]; simp [mergeI]
  · rw [drop_getD hi, drop_getD hk]
    conv => lhs; unfold mergeI
    rw [if_neg h]
theorem mg4 {a b : List Int} {i k : Nat} (hi : i = a.length) (hk : k = b.length) : mergeI (a.drop i) (b.drop k) = [] := by
  subst hi hk
  rw [List.drop_length, List.drop_length, mergeI_nil]
structure MgI (a b : Nat) (x : Nat × Nat × List Int) : Prop where
  i : x.1 ≤ a
  k : x.2.1 ≤ b
  len : x.2.2.length = x.1 + x.2.1
theorem specMerge_ok (a b : List Int) (ha : a.length ≤ 1000) (hb : b.length ≤ 1000) : SCall Tryz.prog 42 [aIs a, aIs b] (rUs (mergeI a b)) := by
  refine SCall.of X42_ok (fn := Tryz.f42) (c := Tryz.f42.body.getD .skip) (dr := fun n => look 0 [(5, 18)] n) Tryz.func42 rfl (by kernel_rfl) (by kernel_rfl) (by kernel_rfl) ?_
  refine SEx.go (X := X42) X42_ok (fun n => look [] [(4, [0, 1, 5, 6, 7])] n) (fun _ => none) oraL_nil 60 ?_
  intro M R L N hM hAnd hImp hR hL hN
  cases M
  cbv
  repeat' first | (refine hAnd _ _ ?_ ?_) | (refine hImp _ _ (fun h => ?_)) | (refine hR _ ?_) | (refine hL _ _ (Hd.out ?_); generalize hks : (List.cons _ _ : List K) = ks) | (refine hN _ _ ?_; cbv)
  all_goals (clear hAnd hImp hR hL hN)
  all_goals (cases hM; try dsimp only)
  all_goals (try simp only [Bool.not_eq_true', Bool.not_eq_false', decide_eq_true_eq, decide_eq_false_iff_not, Int.not_le, Int.not_lt, beq_iff_eq, beq_eq_false_iff_ne, ne_eq, Int.ofNat_eq_natCast, Int.toNat_natCast, List.length_replicate, ncast, Nat.sub_zero, List.drop_zero, Cue.eta, Tie.eta, Edge.eta, Link.eta, Node.eta] at *)
  refine ⟨SEx.same (SEx.ind (α := Nat × Nat × List Int) (fun x => ⟨59, [(0, bL (.i a)), (1, bL (.i b)), (5, bR 20480 x.2.2.length), (6, bI x.1), (7, bI x.2.1)], [(20480, .osl (.i x.2.2))]⟩) (fun x => rUs (x.2.2 ++ mergeI (a.drop x.1) (b.drop x.2.1))) (MgI a.length b.length) (fun x => a.length + b.length - (x.1 + x.2.1)) (0, 0, []) ⟨Nat.zero_le _, Nat.zero_le _, rfl⟩ ?_) rfl rfl⟩
  rintro ⟨i, k, u⟩ ⟨h1, h2, h3⟩ ih
  dsimp only at h1 h2 h3 ih ⊢
  rw [← hks]
  obtain ⟨n, hn⟩ : ∃ n, n = u.length := ⟨_, rfl⟩
  rw [← hn] at h3 ⊢
  have ia : i < a.length → SEx _ _ _ _ _ _ _ := fun h => ih (i + 1, k, u ++ [a.getD i 0]) ⟨h, h2, by simp only [List.length_append, List.length_cons, List.length_nil]; omega⟩ (by dsimp only; omega)
  have ib : k < b.length → SEx _ _ _ _ _ _ _ := fun h => ih (i, k + 1, u ++ [b.getD k 0]) ⟨h1, h, by simp only [List.length_append, List.length_cons, List.length_nil]; omega⟩ (by dsimp only; omega)
  dsimp only at ia ib
  clear ih
  obtain ⟨m, hm⟩ : ∃ m, m = mergeI (a.drop i) (b.drop k) := ⟨_, rfl⟩
  rw [← hm]
  refine SEx.go (X := X42) X42_ok (fun n => look [] [(4, [0, 1, 5, 6, 7])] n) (fun _ => none) oraL_nil 60 ?_
  intro M R L N hM hAnd hImp hR hL hN
  cases M
  cbv
  repeat' first | (refine hAnd _ _ ?_ ?_) | (refine hImp _ _ (fun h => ?_)) | (refine hR _ ?_) | (refine hL _ _ (Hd.out ?_); try first | rw [hks] | rw [hk2] | rw [hk3]) | (refine hN _ _ ?_; cbv)
  all_goals (clear hAnd hImp hR hL hN; try clear hks; try clear hk2; try clear hk3)
  all_goals (cases hM; try dsimp only)
  all_goals (try simp only [Bool.not_eq_true', Bool.not_eq_false', decide_eq_true_eq, decide_eq_false_iff_not, Int.not_le, Int.not_lt, beq_iff_eq, beq_eq_false_iff_ne, ne_eq, Int.ofNat_eq_natCast, Int.toNat_natCast, List.length_replicate, ncast, Nat.sub_zero, List.drop_zero, Cue.eta, Tie.eta, Edge.eta, Link.eta, Node.eta] at *)
  all_goals try simp only [List.length_append, List.length_cons, List.length_nil, List.length_set] at *
  all_goals (try omega)
  all_goals (try (have := lim_ge; omega))
  all_goals (try simp only [wrap_succ (show i < 9223372036854775807 by omega), wrap_succ (show k < 9223372036854775807 by omega)])
  all_goals (try subst hn)
  all_goals first
    | (have e := hm.trans (mg1 (by omega) (by omega))
       have ih' := ia (by omega)
       rw [List.append_assoc, List.singleton_append, ← e] at ih'
       try rw [List.length_append] at ih'
       exact ⟨ih'.same rfl rfl⟩)
    | (have e := hm.trans (mg2 (by omega) (by omega) (by assumption))
       have ih' := ia (by omega)
       rw [List.append_assoc, List.singleton_append, ← e] at ih'
       try rw [List.length_append] at ih'
       exact ⟨ih'.same rfl rfl⟩)
    | (have e := hm.trans (mg3 (by omega) (by first | (left; omega) | (right; exact ⟨by omega, by omega⟩)))
       have ih' := ib (by omega)
       rw [List.append_assoc, List.singleton_append, ← e] at ih'
       try rw [List.length_append] at ih'
       exact ⟨ih'.same rfl rfl⟩)
    | (rw [hm, mg4 (by omega) (by omega), List.append_nil]; rfl)
    | skip
end Go.Proofs.YtececadpjelanaaGreat.Ai
namespace Go.Proofs.YtececadpjelanaaGreat.Ai
open Go
set_option maxRecDepth 100000
set_option linter.unusedVariables false
set_option linter.unusedSimpArgs false
set_option linter.unusedSectionVars false
variable [MemoCtx]
def endP (a b : List Int) (k : Nat) : List (List Int) := (List.range k).map fun (j : Nat) => mergeI a (memL b (j : Int))
theorem endP_succ (a b : List Int) (k : Nat) : endP a b (k + 1) = endP a b k ++ [mergeI a (memL b (k : Int))] := by simp [endP, List.range_succ]
theorem endP_len (a b : List Int) (k : Nat) : (endP a b k).length = k := by simp [endP]
def endF (t : Show) (x : State) : List (List Int) := if (stOkB t x && !decide (t.hor < x.now)) = true then endP (muL t x) (myL t x) (2 ^ (myL t x).length) else []
theorem sh_ft {m : Nat} (h : m ≤ 14) : IntKind.i64.wrap (1 * 2 ^ min m IntKind.i64.bits) = ((2 ^ m : Nat) : Int) := by
  have : m = 0 ∨ m = 1 ∨ m = 2 ∨ m = 3 ∨ m = 4 ∨ m = 5 ∨ m = 6 ∨ m = 7 ∨ m = 8 ∨ m = 9 ∨ m = 10 ∨ m = 11 ∨ m = 12 ∨ m = 13 ∨ m = 14 := by omega
  rcases this with rfl | rfl | rfl | rfl | rfl | rfl | rfl | rfl | rfl | rfl | rfl | rfl | rfl | rfl | rfl <;> decide
theorem pow_ft {m : Nat} (h : m ≤ 14) : 1 ≤ 2 ^ m ∧ 2 ^ m ≤ 16384 := by
  have : m = 0 ∨ m = 1 ∨ m = 2 ∨ m = 3 ∨ m = 4 ∨ m = 5 ∨ m = 6 ∨ m = 7 ∨ m = 8 ∨ m = 9 ∨ m = 10 ∨ m = 11 ∨ m = 12 ∨ m = 13 ∨ m = 14 := by omega
  rcases this with rfl | rfl | rfl | rfl | rfl | rfl | rfl | rfl | rfl | rfl | rfl | rfl | rfl | rfl | rfl <;> decide
theorem muL_len {t : Show} (x : State) (h : showB t = true) : (muL t x).length ≤ 14 := Nat.le_trans (List.length_filter_le _ _) (Nat.le_trans (acL_len t x) (showB_ties h))
theorem myL_len {t : Show} (x : State) (h : showB t = true) : (myL t x).length ≤ 14 := Nat.le_trans (List.length_filter_le _ _) (Nat.le_trans (acL_len t x) (showB_ties h))
def wEnds (f g : Show → State → List Int) : Wr := w2 dcShow dcState (fun t x => .tup [(false, [.osl (.i (f t x))]), (false, [.osl (.i (g t x))])]) (fun t x => [StLe t x, StT t x])
theorem wEndsS_ok : WrOK Tryz.prog 41 (wEnds muL myL) := w2_ok fun t x h => specEnds_ok t x (h _ (.head _)) (h _ (.tail _ (.head _)))
def wMerge (f : List Int → List Int → List Int) : Wr := w2 dcIs dcIs (fun a b => rUs (f a b)) (fun a b => [LLe a 1000, LLe b 1000])
theorem wMerge_ok : WrOK Tryz.prog 42 (wMerge mergeI) := w2_ok fun a b h => specMerge_ok a b (h _ (.head _)).out (h _ (.tail _ (.head _))).out
theorem specEndF_ok (t : Show) (x : State) (hs : StLe t x) : SCall Tryz.prog 11 [aShow t, aState x] (rIss (endF t x)) := by
  refine SCall.of X11_ok (fn := Tryz.f11) (c := Tryz.f11.body.getD .skip) (dr := fun n => look 0 [] n) Tryz.func11 rfl (by kernel_rfl) (by kernel_rfl) (by kernel_rfl) ?_
  obtain ⟨f0, hf0⟩ : ∃ f, f = stOkB := ⟨_, rfl⟩
  obtain ⟨f1, hf1⟩ : ∃ f, f = muL := ⟨_, rfl⟩
  obtain ⟨f2, hf2⟩ : ∃ f, f = myL := ⟨_, rfl⟩
  obtain ⟨f3, hf3⟩ : ∃ f, f = memL := ⟨_, rfl⟩
  obtain ⟨f4, hf4⟩ : ∃ f, f = mergeI := ⟨_, rfl⟩
  have hO : SOraOK Tryz.prog (oraL [(40, wStateOk f0), (41, wEnds f1 f2), (43, wMem f3), (42, wMerge f4)]) := by
    subst hf0 hf1 hf2 hf3 hf4
    exact oraL_cons wStateOkS_ok (oraL_cons wEndsS_ok (oraL_cons wMemS_ok (oraL_cons wMerge_ok oraL_nil)))
  have hv : f0 t x = true → StT t x := fun h => by rw [hf0] at h; unfold stOkB at h; rw [Bool.and_eq_true] at h; exact ⟨h.1, h.2⟩
  obtain ⟨a, ha⟩ : ∃ l, l = f1 t x := ⟨_, rfl⟩
  obtain ⟨b, hb⟩ : ∃ l, l = f2 t x := ⟨_, rfl⟩
  have ha7 : f0 t x = true → a.length ≤ 14 := fun h => by rw [ha, hf1]; exact muL_len x (hv h).sh
  have hb7 : f0 t x = true → b.length ≤ 14 := fun h => by rw [hb, hf2]; exact myL_len x (hv h).sh
  obtain ⟨NN, hN⟩ : ∃ n, n = 2 ^ b.length := ⟨_, rfl⟩
  have hE : endF t x = if (f0 t x && !decide (t.hor < x.now)) = true then endP a b NN else [] := by rw [hN, ha, hb, hf0, hf1, hf2]; rfl
  obtain ⟨r, hr⟩ : ∃ r, r = endF t x := ⟨_, rfl⟩
  rw [← hr] at hE ⊢
  have hs1 := hs.sh
  have hs2 := hs.st
  obtain ⟨ns, ts, hz⟩ := t
  obtain ⟨now, times, vals⟩ := x
  refine SEx.go (X := X11) X11_ok (fun n => look [] [(6, [5, 6, 7, 8])] n) (fun _ => none) hO 60 ?_
  intro M R L N hM hAnd hImp hR hL hN
  cases M
  cbv
  repeat' first | (refine hAnd _ _ ?_ ?_) | (refine hImp _ _ (fun h => ?_)) | (refine hR _ ?_) | (refine hL _ _ (Hd.out ?_); generalize hks : (List.cons _ _ : List K) = ks) | (refine hN _ _ ?_; cbv)
  all_goals (clear hAnd hImp hR hL hN)
  all_goals (cases hM; try dsimp only)
  all_goals (try simp only [Bool.not_eq_true', Bool.not_eq_false', decide_eq_true_eq, decide_eq_false_iff_not, Int.not_le, Int.not_lt, beq_iff_eq, beq_eq_false_iff_ne, ne_eq, Int.ofNat_eq_natCast, Int.toNat_natCast, List.length_replicate, ncast, Nat.sub_zero, List.drop_zero, Cue.eta, Tie.eta, Edge.eta, Link.eta, Node.eta] at *)
  all_goals first
    | exact ⟨hs1, hs2⟩
    | exact hs1
    | exact hs2
    | exact hs
    | exact hv (by assumption)
    | omega
    | (rw [hE, show f0 _ _ = false by assumption]; rfl)
    | (rw [hE, show decide (_ < _) = true from decide_eq_true (by omega), Bool.not_true, Bool.and_false]; rfl)
    | skip
  have hst : f0 ⟨ns, ts, hz⟩ ⟨now, times, vals⟩ = true := by assumption
  have ha7 := ha7 hst
  have hb7 := hb7 hst
  have hE : r = endP a b NN := by rw [hE, hst, decide_eq_false (by omega)]; rfl
  have hNb := pow_ft hb7
  have hs := sh_ft hb7
  rw [← hN] at hNb hs
  rw [← ha, ← hb]
  clear hN ha hb hs1 hs2 hv
  obtain ⟨na, hna⟩ : ∃ n, n = a.length := ⟨_, rfl⟩
  obtain ⟨nb, hnb⟩ : ∃ n, n = b.length := ⟨_, rfl⟩
  rw [← hna] at ha7 ⊢
  rw [← hnb] at hb7 hs ⊢
  refine ⟨SEx.same (SEx.idx NN (fun k => ⟨44, [(5, bR 20480 na), (6, bR 24576 nb), (7, bR 28672 k), (8, bI k)], [(20480, .osl (.i a)), (24576, .osl (.i b)), (28672, .osl (.ii true none (endP a b k)))]⟩) (fun _ => rIss r) ?_) rfl rfl⟩
  intro k hk ih
  rw [← hks]
  obtain ⟨o, ho⟩ : ∃ o, o = endP a b k := ⟨_, rfl⟩
  have hol : o.length = k := by rw [ho, endP_len]
  rw [← ho]
  have hu : IntKind.u64.wrap (nb : Int) = nb := wrap_u64 (by omega)
  refine SEx.go (X := X11) X11_ok (fun n => look [] [(6, [5, 6, 7, 8])] n) (fun _ => none) hO 60 ?_
  intro M R L N hM hAnd hImp hR hL hN
  cases M
  cbv
  repeat' first | (refine hAnd _ _ ?_ ?_) | (refine hImp _ _ (fun h => ?_)) | (refine hR _ ?_) | (refine hL _ _ (Hd.out ?_); try first | rw [hks] | rw [hk2] | rw [hk3]) | (refine hN _ _ ?_; cbv)
  all_goals (clear hAnd hImp hR hL hN; try clear hks; try clear hk2; try clear hk3)
  all_goals (cases hM; try dsimp only)
  all_goals (try simp only [Bool.not_eq_true', Bool.not_eq_false', decide_eq_true_eq, decide_eq_false_iff_not, Int.not_le, Int.not_lt, beq_iff_eq, beq_eq_false_iff_ne, ne_eq, Int.ofNat_eq_natCast, Int.toNat_natCast, List.length_replicate, ncast, Nat.sub_zero, List.drop_zero, Cue.eta, Tie.eta, Edge.eta, Link.eta, Node.eta] at *)
  all_goals (try simp only [hu, Int.toNat_natCast, hs] at *)
  all_goals (try simp only [wrap_succ (show k < 9223372036854775807 by omega)])
  all_goals first
    | omega
    | rfl
    | exact ⟨by omega⟩
    | (rw [hu]; omega)
    | (refine ⟨?_⟩; rw [hf3]; exact Nat.le_trans (memP_len _ _ _) (by omega))
    | (have := lim_ge; simp only [List.length_cons, List.length_nil]; omega)
    | (have ih' := ih (by omega)
       rw [endP_succ, ← ho, ← hf3, ← hf4] at ih'
       simp only [List.length_append, List.length_cons, List.length_nil, hol]
       exact ⟨ih'.same rfl rfl⟩)
    | (have e : k = NN := by omega
       subst e
       rw [hE, ho]; rfl)
    | (have e : k = NN := by omega
       rw [e] at ho
       rw [hE, ho])
    | skip
end Go.Proofs.YtececadpjelanaaGreat.Ai
namespace Go.Proofs.YtececadpjelanaaGreat.Ai
open Go
set_option maxRecDepth 100000
set_option linter.unusedVariables false
set_option linter.unusedSimpArgs false
set_option linter.unusedSectionVars false
variable [MemoCtx]
theorem CallOK.frz {P : Program} {g : FuncId} {args : List (V1 C)} {xs : List (List O)} (h : CallOK P g args (.v (false, [.osl xs]))) (hc : O.cleanLL xs = true) : CallOK P g args (.v (false, [.fz (.fn MARK [.sl (O.frzLL xs)])])) := by
  refine ⟨h.1, fun J w vals hfut hold hsz ha => (h.2 J w vals hfut hold hsz ha).mono ?_⟩
  rintro e w' ⟨v, rfl, hr⟩
  letI := J
  obtain ⟨hb, σr, h1, h2, h3, h4⟩ := hr
  refine ⟨v, rfl, ⟨hb, fun _ => none, fun g x hx => by (cases hx), fun g g' x y hx => by (cases hx), ?_, fun g x hx => by (cases hx)⟩⟩
  have h5 : RepO w' σr (resRoot, [(0, 0)]) (.osl xs) v := h3
  exact h5.new (fun g x hx => (h1 g x hx).1) hc
def rFz (x : LL) : TV W := .v (false, [.fz (.fn MARK [.sl x])])
theorem SCall.frz {P : Program} {g : FuncId} {args : List (V1 D)} {x : LL} (h : SCall P g args (.v (false, [.osl x]))) (hc : x.clean = true) : SCall P g args (rFz x.thaw) := by
  have h1 := CallOK.frz h (LL.clean_ro x hc)
  have e : (rFz x.thaw).er W.erL = .v (false, [.fz (.fn MARK [.sl (O.frzLL x.ro)])]) := by
    rw [LL.frz_ro x (clean_here hc)]
    cases x <;> rfl
  unfold SCall
  rw [e]
  exact h1
def wMemZ (f : List Int → Int → List Int) : Wr := w2 dcIs dcI (fun l s => rFz (.i (f l s))) (fun l _ => [LLe l 1048576])
theorem wMemZ_ok : WrOK Tryz.prog 80 (wMemZ memL) := w2_ok fun l s h => (implMembers_ok l s (h _ (.head _)).out).frz (x := .i (memL l s)) rfl
structure CatS (ls : List (List Int)) : Prop where out : ls ≠ [] ∧ ls.length ≤ 1000000 ∧ (flatL ls).length ≤ 1000000
def wCat (f : List (List Int) → List Int) : Wr := w1 dcIss (fun ls => rUs (f ls)) (fun ls => [CatS ls])
theorem wCat_ok : WrOK Tryz.prog 79 (wCat flatL) := w1_ok fun ls h => have h0 := (h _ (.head _)).out; concat_ok ls h0.1 h0.2.1 h0.2.2
structure SoS {α : Type} (p : SP) (n m : Nat) (l : List α) : Prop where out : p = (lrt 0, []) ∧ m = n ∧ l.length = n ∧ n < 4611686018427387904
def wSort (f : List Int → List Int) : WrW
  | [(false, [.rf p true 0 n])], [(.sl m, .osl (.i l))] => some ([SoS p n m l], (.tup [], [(lrt 0, .osl (.i (f l)))], [.rf (lrt 0, []) true 0 n]))
  | _, _ => none
theorem wSort_ok : WrWOK Tryz.prog 81 (wSort sortL) := by
  intro xs ls
  unfold wSort
  split
  · refine R.Sim.mk fun hp => ?_
    obtain ⟨rfl, rfl, rfl, h1⟩ := (hp _ (.head _)).out
    exact sort_ok _ h1
  · exact R.Sim.none'
def endQ (a b : List Int) (k : Nat) : List (List Int) := (List.range k).map fun (j : Nat) => sortL (flatL [a, memL b (j : Int)])
theorem endQ_succ (a b : List Int) (k : Nat) : endQ a b (k + 1) = endQ a b k ++ [sortL (flatL [a, memL b (k : Int)])] := by simp [endQ, List.range_succ]
theorem endQ_len (a b : List Int) (k : Nat) : (endQ a b k).length = k := by simp [endQ]
theorem selL_sorted (q : Nat → Bool) (n : Nat) : (selL q n).Pairwise (· ≤ ·) := by
  unfold selL
  refine List.pairwise_map.2 ((List.pairwise_lt_range (n := n)).filter q |>.imp fun h => ?_)
  omega
theorem acL_sorted (t : Show) (x : State) : (acL t x).Pairwise (· ≤ ·) := selL_sorted _ _
theorem muL_sorted (t : Show) (x : State) : (muL t x).Pairwise (· ≤ ·) := (acL_sorted t x).filter _
theorem myL_sorted (t : Show) (x : State) : (myL t x).Pairwise (· ≤ ·) := (acL_sorted t x).filter _
theorem memL_sorted {l : List Int} (h : l.Pairwise (· ≤ ·)) (s : Int) : (memL l s).Pairwise (· ≤ ·) := by
  unfold memL memP
  refine List.pairwise_map.2 (((List.pairwise_lt_range (n := l.length)).filter (btS s)).imp_of_mem fun {a b} ha hb hab => ?_)
  have ha' := List.mem_range.1 (List.mem_filter.1 ha).1
  have hb' := List.mem_range.1 (List.mem_filter.1 hb).1
  rw [getD_get ha', getD_get hb']
  exact List.pairwise_iff_getElem.1 h a b ha' hb' hab
theorem endQ_eq {a b : List Int} (ha : a.Pairwise (· ≤ ·)) (hb : b.Pairwise (· ≤ ·)) (k : Nat) : endQ a b k = endP a b k := by
  unfold endQ endP
  refine List.map_congr_left fun j _ => ?_
  rw [← sortL_merge ha (memL_sorted hb _)]
  simp [flatL]
def endG (t : Show) (x : State) : List (List Int) := if t.hor < x.now then [] else endP (muL t x) (myL t x) (2 ^ (myL t x).length)
theorem flat2 (a b : List Int) : (flatL [a, b]).length = a.length + b.length := by simp [flatL]
theorem endings_ok (t : Show) (x : State) (hs : StLe t x) (h : StT t x) : SCall Tryz.prog 47 [aShow t, aState x] (rIss (endG t x)) := by
  refine SCall.of X47_ok (fn := Tryz.f47) (c := Tryz.f47.body.getD .skip) (dr := fun n => look 0 [(7, 12)] n) Tryz.func47 rfl (by kernel_rfl) (by kernel_rfl) (by kernel_rfl) ?_
  have htl := showB_ties h.sh
  have hT : ∀ q ∈ t.ties, TieT t q := fun q hq => showB_tie h.sh hq
  have hnw := h.now
  have hh := showB_hor h.sh
  have htm := h.time
  have hk : ∀ k ∈ acL t x, 0 ≤ k ∧ k < t.ties.length := fun k hk => acL_mem hk
  have hll := acL_len t x
  have hmu : t.hor < x.now ∨ endG t x = endQ (muL t x) (myL t x) (2 ^ (myL t x).length) := by
    by_cases hlt : t.hor < x.now
    · exact .inl hlt
    · right
      unfold endG
      rw [if_neg hlt, endQ_eq (muL_sorted t x) (myL_sorted t x)]
  have hE0 : t.hor < x.now → endG t x = [] := fun hlt => if_pos hlt
  obtain ⟨r, hr⟩ : ∃ r, r = endG t x := ⟨_, rfl⟩
  have hpl : (myL t x).length ≤ 14 := myL_len x h.sh
  have hul0 : (muL t x).length ≤ 14 := muL_len x h.sh
  rw [← hr] at hmu hE0 ⊢
  clear hr
  unfold muL myL at hmu
  unfold myL at hpl
  unfold muL at hul0
  obtain ⟨f, hf⟩ : ∃ f, f = acL := ⟨_, rfl⟩
  obtain ⟨f1, hf1⟩ : ∃ f, f = memL := ⟨_, rfl⟩
  obtain ⟨f2, hf2⟩ : ∃ f, f = flatL := ⟨_, rfl⟩
  obtain ⟨f3, hf3⟩ : ∃ f, f = sortL := ⟨_, rfl⟩
  have hO : SOraOK Tryz.prog (oraL [(78, wActive f), (80, wMemZ f1), (79, wCat f2)]) := by
    subst hf hf1 hf2
    exact oraL_cons wActI_ok (oraL_cons wMemZ_ok (oraL_cons wCat_ok oraL_nil))
  have hW : SOraWOK Tryz.prog (X47.withW [(81, [(0, 0)])] (oraWL [(81, wSort f3)])) := by
    subst hf3
    exact SX.withW_ok (oraWL_cons wSort_ok oraWL_nil)
  rw [← hf] at hk hll hmu hpl hul0
  have h0 := h
  clear hf
  obtain ⟨ns, ts, hr⟩ := t
  obtain ⟨now, times, vals⟩ := x
  dsimp only at hnw hh htl htm hk hll hmu hE0 hpl hul0 ⊢
  obtain ⟨p, hp⟩ : ∃ p, p = mustB ts now times := ⟨_, rfl⟩
  obtain ⟨q, hq⟩ : ∃ r, r = mayB ts now times := ⟨_, rfl⟩
  rw [← hp, ← hq] at hmu
  rw [← hp] at hul0
  rw [← hq] at hpl
  refine SEx.go (X := (X47.withW [(81, [(0, 0)])] (oraWL [(81, wSort f3)]))) X47_ok (fun n => look [] [(5, [2, 3, 5, 6, 20, 21, 22]), (15, [5, 6, 10, 11])] n) (fun _ => none) hO 60 ?_ hW
  intro M R L N hM hAnd hImp hR hL hN
  cases M
  cbv
  repeat' first | (refine hAnd _ _ ?_ ?_) | (refine hImp _ _ (fun h => ?_)) | (refine hR _ ?_) | (refine hL _ _ (Hd.out ?_); generalize hks : (List.cons _ _ : List K) = ks) | (refine hN _ _ ?_; cbv)
  all_goals (clear hAnd hImp hR hL hN)
  all_goals (cases hM; try dsimp only)
  all_goals (try simp only [Bool.not_eq_true', Bool.not_eq_false', decide_eq_true_eq, decide_eq_false_iff_not, Int.not_le, Int.not_lt, beq_iff_eq, beq_eq_false_iff_ne, ne_eq, Int.ofNat_eq_natCast, Int.toNat_natCast, List.length_replicate, ncast, Nat.sub_zero, List.drop_zero, Cue.eta, Tie.eta, Edge.eta, Link.eta, Node.eta] at *)
  all_goals first
    | exact hs
    | exact h0
    | (rw [hE0 (by omega)]; rfl)
    | skip
  have hmu := hmu.resolve_left (by omega)
  clear h0 h hs
  obtain ⟨l, hl⟩ : ∃ l, l = f ⟨ns, ts, hr⟩ ⟨now, times, vals⟩ := ⟨_, rfl⟩
  rw [← hl] at hk hll hmu hpl hul0 ⊢
  obtain ⟨m, hm⟩ : ∃ m, m = l.length := ⟨_, rfl⟩
  rw [← hm] at hll ⊢
  refine ⟨SEx.same (SEx.idx m (fun i => ⟨86, [(2, bP 8192), (3, bP 12288), (5, bR 20480 ((l.take i).filter p).length), (6, bR 24576 ((l.take i).filter q).length), (20, bR 81920 m), (21, bI m), (22, bI i)], [(8192, .obx [.fz (.sl (.node false none ns)), .fz (.sl (.tie ts)), .fz (.int .i64 hr)]), (12288, .obx [.fz (.int .i64 now), .fz (.sl (.i times)), .fz (.sl (.i vals))]), (20480, .osl (.i ((l.take i).filter p))), (24576, .osl (.i ((l.take i).filter q))), (81920, .osl (.i l))]⟩) (fun _ => rIss r) ?_) rfl rfl⟩
  intro i hi ih
  rw [← hks]
  obtain ⟨u, hu⟩ : ∃ u, u = (l.take i).filter p := ⟨_, rfl⟩
  obtain ⟨v, hv⟩ : ∃ v, v = (l.take i).filter q := ⟨_, rfl⟩
  have hul : u.length ≤ i := by rw [hu]; exact Nat.le_trans (List.length_filter_le _ _) (by rw [List.length_take]; omega)
  have hvl : v.length ≤ i := by rw [hv]; exact Nat.le_trans (List.length_filter_le _ _) (by rw [List.length_take]; omega)
  rw [← hu, ← hv]
  obtain ⟨n1, hn1⟩ : ∃ n, n = u.length := ⟨_, rfl⟩
  obtain ⟨n2, hn2⟩ : ∃ n, n = v.length := ⟨_, rfl⟩
  rw [← hn1] at hul ⊢
  rw [← hn2] at hvl ⊢
  have hki : i < m → 0 ≤ l.getD i 0 ∧ l.getD i 0 < ts.length := fun hlt => hk _ (mem_getD (z := (0 : Int)) (by omega)).out
  have hTi : i < m → TieT ⟨ns, ts, hr⟩ (ts.getD (l.getD i 0).toNat Tie.z) := fun hlt => hT _ (mem_getD (z := Tie.z) (by have := hki hlt; omega)).out
  have hpi : p (l.getD i 0) = decide ((ts.getD (l.getD i 0).toNat Tie.z).high ≤ ageI ts now times (l.getD i 0)) := by rw [hp]; rfl
  have hri : q (l.getD i 0) = (decide (ageI ts now times (l.getD i 0) < (ts.getD (l.getD i 0).toNat Tie.z).high) && decide ((ts.getD (l.getD i 0).toNat Tie.z).low ≤ ageI ts now times (l.getD i 0))) := by rw [hq]; rfl
  have htk : l.take m = l := by rw [hm, List.take_length]
  have hag : IntKind.i64.wrap (now - times.getD (ts.getD (l.getD i 0).toNat Tie.z).src.toNat 0) = now - times.getD (ts.getD (l.getD i 0).toNat Tie.z).src.toNat 0 := by have := htm (ts.getD (l.getD i 0).toNat Tie.z).src.toNat; exact wrap_i64 (by omega) (by omega)
  unfold ageI at hpi hri
  clear hk hT hp hq htm hl
  refine SEx.go (X := (X47.withW [(81, [(0, 0)])] (oraWL [(81, wSort f3)]))) X47_ok (fun n => look [] [(5, [2, 3, 5, 6, 20, 21, 22]), (15, [5, 6, 10, 11])] n) (fun _ => none) hO 60 ?_ hW
  intro M R L N hM hAnd hImp hR hL hN
  cases M
  cbv
  repeat' first | (refine hAnd _ _ ?_ ?_) | (refine hImp _ _ (fun h => ?_)) | (refine hR _ ?_) | (refine hL _ _ (Hd.out ?_); first | rw [hks] | generalize hk2 : (List.cons _ _ : List K) = k2) | (refine hN _ _ ?_; cbv)
  all_goals (clear hAnd hImp hR hL hN)
  all_goals (cases hM; try dsimp only)
  all_goals (try simp only [Bool.not_eq_true', Bool.not_eq_false', decide_eq_true_eq, decide_eq_false_iff_not, Int.not_le, Int.not_lt, beq_iff_eq, beq_eq_false_iff_ne, ne_eq, Int.ofNat_eq_natCast, Int.toNat_natCast, List.length_replicate, ncast, Nat.sub_zero, List.drop_zero, Cue.eta, Tie.eta, Edge.eta, Link.eta, Node.eta] at *)
  all_goals (try simp only [hag] at *)
  all_goals try simp only [List.length_append, List.length_cons, List.length_nil, List.length_set] at *
  all_goals (try omega)
  all_goals (try (have := lim_ge; omega))
  all_goals (try simp only [wrap_succ (show i < 9223372036854775807 by omega)])
  all_goals (try (have b0 := hki (by omega); have b1 := (hTi (by omega)).src; dsimp only at b1))
  all_goals (generalize ts.getD (l.getD i 0).toNat Tie.z = y at *; obtain ⟨x1, x2, x3, x4, x5⟩ := y; dsimp only at *)
  all_goals (try subst hn1)
  all_goals (try subst hn2)
  all_goals (try omega)
  all_goals first
    | (have ih' := ih (by omega)
       rw [filt_yes (p := p) (l := l) (i := i) (by omega) (by rw [hpi]; exact decide_eq_true (by omega)), filt_no (p := q) (l := l) (i := i) (by omega) (by rw [hri, decide_eq_false (by omega)]; rfl), ← hu, ← hv, List.length_append] at ih'
       exact ⟨ih'.same rfl rfl⟩)
    | (have ih' := ih (by omega)
       rw [filt_no (p := p) (l := l) (i := i) (by omega) (by rw [hpi]; exact decide_eq_false (by omega)), filt_yes (p := q) (l := l) (i := i) (by omega) (by rw [hri, decide_eq_true (by omega), decide_eq_true (by omega)]; rfl), ← hu, ← hv, List.length_append] at ih'
       exact ⟨ih'.same rfl rfl⟩)
    | (have ih' := ih (by omega)
       rw [filt_no (p := p) (l := l) (i := i) (by omega) (by rw [hpi]; exact decide_eq_false (by omega)), filt_no (p := q) (l := l) (i := i) (by omega) (by rw [hri, decide_eq_false (show ¬ x3 ≤ _ by omega), Bool.and_false]), ← hu, ← hv] at ih'
       exact ⟨ih'.same rfl rfl⟩)
    | skip
  have him : i = m := by omega
  rw [him, htk] at hu hv
  rw [← hu, ← hv] at hmu
  rw [← hv] at hpl
  rw [← hu] at hul0
  clear hki hTi hpi hri hag htk ih
  have hpw := pow_ft hpl
  have hsh := sh_ft hpl
  obtain ⟨NN, hN⟩ : ∃ n, n = 2 ^ v.length := ⟨_, rfl⟩
  rw [← hN] at hmu hpw hsh
  refine ⟨SEx.same (F := ⟨86, _, _⟩) (G := ⟨86, [(5, bR 20480 u.length), (6, bR 24576 v.length), (10, bR 40960 0), (11, bI 0)], [(20480, .osl (.i u)), (24576, .osl (.i v)), (40960, .onil)]⟩) (r' := rIss r) (SEx.freeze 20480 (x := .i u) (y := ([u.length], [(5, bL (.i u)), (6, bR 24576 v.length), (10, bR 40960 0), (11, bI 0)])) rfl rfl rfl (fun m hm => List.mem_singleton.1 hm) ?_) rfl rfl⟩
  refine SEx.freeze 24576 (x := .i v) (y := ([v.length], [(5, bL (.i u)), (6, bL (.i v)), (10, bR 40960 0), (11, bI 0)])) rfl rfl rfl (fun m hm => List.mem_singleton.1 hm) ?_
  clear hN hu hv
  refine SEx.same (SEx.idx NN (fun k => ⟨86, [(5, bL (.i u)), (6, bL (.i v)), (10, bR 40960 k), (11, bI k)], [(40960, .osl (.ii true none (endQ u v k)))]⟩) (fun _ => rIss r) ?_) rfl rfl
  intro k hk ih
  rw [← hk2]
  obtain ⟨o, ho⟩ : ∃ o, o = endQ u v k := ⟨_, rfl⟩
  have hol : o.length = k := by rw [ho, endQ_len]
  rw [← ho]
  have hfm : (f1 v k).length ≤ 14 := by rw [hf1]; exact Nat.le_trans (memP_len _ _ _) hpl
  have hfl : (f2 [u, f1 v k]).length ≤ 1000 := by rw [hf2, flat2]; omega
  have hq : endQ u v (k + 1) = o ++ [f3 (f2 [u, f1 v k])] := by rw [ho, hf1, hf2, hf3]; exact endQ_succ _ _ _
  refine SEx.go (X := (X47.withW [(81, [(0, 0)])] (oraWL [(81, wSort f3)]))) X47_ok (fun n => look [] [(5, [2, 3, 5, 6, 20, 21, 22]), (15, [5, 6, 10, 11])] n) (fun _ => none) hO 60 ?_ hW
  intro M R L N hM hAnd hImp hR hL hN
  cases M
  cbv
  repeat' first | (refine hAnd _ _ ?_ ?_) | (refine hImp _ _ (fun h => ?_)) | (refine hR _ ?_) | (refine hL _ _ (Hd.out ?_); try first | rw [hks] | rw [hk2] | rw [hk3]) | (refine hN _ _ ?_; cbv)
  all_goals (clear hAnd hImp hR hL hN; try clear hks; try clear hk2; try clear hk3)
  all_goals (cases hM; try dsimp only)
  all_goals (try simp only [Bool.not_eq_true', Bool.not_eq_false', decide_eq_true_eq, decide_eq_false_iff_not, Int.not_le, Int.not_lt, beq_iff_eq, beq_eq_false_iff_ne, ne_eq, Int.ofNat_eq_natCast, Int.toNat_natCast, List.length_replicate, ncast, Nat.sub_zero, List.drop_zero, Cue.eta, Tie.eta, Edge.eta, Link.eta, Node.eta] at *)
  all_goals (try simp only [Int.toNat_natCast, hsh] at *)
  all_goals (try simp only [wrap_succ (show k < 9223372036854775807 by omega)])
  all_goals first
    | omega
    | rfl
    | (refine ⟨rfl, rfl, rfl, ?_⟩; omega; done)
    | (refine ⟨List.cons_ne_nil _ _, ?_, ?_⟩; (exact (by decide : 2 ≤ 1000000)); rw [← hf2]; omega; done)
    | (refine ⟨?_⟩; omega; done)
    | (rw [hf3]; exact (sortL_len _).symm)
    | (have := lim_ge; simp only [List.length_cons, List.length_nil]; omega)
    | (have ih' := ih (by omega)
       rw [hq] at ih'
       simp only [List.length_append, List.length_cons, List.length_nil, hol]
       exact ⟨ih'.same rfl rfl⟩)
    | (have e : k = NN := by omega
       subst e
       rw [hmu, ho]; rfl)
    | (have e : k = NN := by omega
       rw [e] at ho
       rw [hmu, ho])
    | skip
def wEndG (f : Show → State → List (List Int)) : Wr := w2 dcShow dcState (fun t x => rIss (f t x)) (fun t x => [StLe t x, StT t x])
theorem wEndG_ok : WrOK Tryz.prog 47 (wEndG endG) := w2_ok fun t x h => endings_ok t x (h _ (.head _)) (h _ (.tail _ (.head _)))
theorem endF_eq (t : Show) (x : State) : endF t x = if stOkB t x = true then endG t x else [] := by
  unfold endF endG
  cases stOkB t x with
  | false => rfl
  | true =>
    by_cases h : t.hor < x.now
    · rw [decide_eq_true h, if_pos h]; rfl
    · rw [decide_eq_false h, if_neg h]; rfl
theorem implEndF_ok (t : Show) (x : State) (hs : StLe t x) : SCall Tryz.prog 14 [aShow t, aState x] (rIss (endF t x)) := by
  refine SCall.of X14_ok (fn := Tryz.f14) (c := Tryz.f14.body.getD .skip) (dr := fun n => look 0 [] n) Tryz.func14 rfl (by kernel_rfl) (by kernel_rfl) (by kernel_rfl) ?_
  obtain ⟨f1, hf1⟩ : ∃ f, f = stOkB := ⟨_, rfl⟩
  obtain ⟨f2, hf2⟩ : ∃ f, f = endG := ⟨_, rfl⟩
  have hO : SOraOK Tryz.prog (oraL [(46, wStateOk f1), (47, wEndG f2)]) := by
    subst hf1 hf2
    exact oraL_cons wStateOkI_ok (oraL_cons wEndG_ok oraL_nil)
  have hv : f1 t x = true → StT t x := fun h => by rw [hf1] at h; unfold stOkB at h; rw [Bool.and_eq_true] at h; exact ⟨h.1, h.2⟩
  have hE : endF t x = if f1 t x = true then f2 t x else [] := by rw [hf1, hf2, endF_eq]
  obtain ⟨r, hr⟩ : ∃ r, r = endF t x := ⟨_, rfl⟩
  rw [← hr] at hE ⊢
  have hs1 := hs.sh
  have hs2 := hs.st
  obtain ⟨ns, ts, hr⟩ := t
  obtain ⟨now, times, vals⟩ := x
  refine SEx.go (X := X14) X14_ok (fun n => look [] [] n) (fun _ => none) hO 60 ?_
  intro M R L N hM hAnd hImp hR hL hN
  cases M
  cbv
  repeat' first | (refine hAnd _ _ ?_ ?_) | (refine hImp _ _ (fun h => ?_)) | (refine hR _ ?_) | (refine hL _ _ (Hd.out ?_); try first | rw [hks] | rw [hk2] | rw [hk3]) | (refine hN _ _ ?_; cbv)
  all_goals (clear hAnd hImp hR hL hN; try clear hks; try clear hk2; try clear hk3)
  all_goals (cases hM; try dsimp only)
  all_goals (try simp only [Bool.not_eq_true', Bool.not_eq_false', decide_eq_true_eq, decide_eq_false_iff_not, Int.not_le, Int.not_lt, beq_iff_eq, beq_eq_false_iff_ne, ne_eq, Int.ofNat_eq_natCast, Int.toNat_natCast, List.length_replicate, ncast, Nat.sub_zero, List.drop_zero, Cue.eta, Tie.eta, Edge.eta, Link.eta, Node.eta] at *)
  all_goals first
    | exact hs1
    | exact hs2
    | exact hs
    | exact hv (by assumption)
    | (rw [hE, show f1 _ _ = false by assumption]; rfl)
    | (rw [hE, show f1 _ _ = true by assumption]; rfl)
    | skip
end Go.Proofs.YtececadpjelanaaGreat.Ai
namespace Go.Proofs.YtececadpjelanaaGreat.Ai
open Go
set_option maxRecDepth 100000
set_option linter.unusedVariables false
set_option linter.unusedSimpArgs false
set_option linter.unusedSectionVars false
variable [MemoCtx]
def inLs (ls : List (List Int)) (l : List Int) : Bool := ls.any fun y => sameL l y
theorem inLs_iff {ls : List (List Int)} {l : List Int} : inLs ls l = true ↔ l ∈ ls := by
  unfold inLs
  rw [List.any_eq_true]
  simp only [sameL_eq, decide_eq_true_eq]
  exact ⟨fun ⟨y, h1, h2⟩ => h2 ▸ h1, fun h => ⟨l, h, rfl⟩⟩
structure LLs (ls : List (List Int)) (n : Nat) : Prop where out : ls.length ≤ n ∧ ∀ y ∈ ls, y.length ≤ n
theorem has1_ok (y l : List Int) (h1 : y.length ≤ maxLen) (h2 : l.length ≤ maxLen) : SCall Tryz.prog 88 [aIs y, (false, [.ptr [.sl (.i l)]])] (rB (sameL l y)) := by
  refine SCall.of X88_ok (fn := Tryz.f88) (c := Tryz.f88.body.getD .skip) (dr := fun n => look 0 [] n) Tryz.func88 rfl (by kernel_rfl) (by kernel_rfl) (by kernel_rfl) ?_
  obtain ⟨f, hf⟩ : ∃ f, f = sameL := ⟨_, rfl⟩
  have hO : SOraOK Tryz.prog (oraL [(89, wSameL f)]) := by subst hf; exact oraL_cons wSameI_ok oraL_nil
  rw [← hf]
  refine SEx.go (X := X88) X88_ok (fun n => look [] [] n) (fun _ => none) hO 60 ?_
  intro M R L N hM hAnd hImp hR hL hN
  cases M
  cbv
  repeat' first | (refine hAnd _ _ ?_ ?_) | (refine hImp _ _ (fun h => ?_)) | (refine hR _ ?_) | (refine hL _ _ (Hd.out ?_); try first | rw [hks] | rw [hk2] | rw [hk3]) | (refine hN _ _ ?_; cbv)
  all_goals (clear hAnd hImp hR hL hN; try clear hks; try clear hk2; try clear hk3)
  all_goals (cases hM; try dsimp only)
  all_goals (try simp only [Bool.not_eq_true', Bool.not_eq_false', decide_eq_true_eq, decide_eq_false_iff_not, Int.not_le, Int.not_lt, beq_iff_eq, beq_eq_false_iff_ne, ne_eq, Int.ofNat_eq_natCast, Int.toNat_natCast, List.length_replicate, ncast, Nat.sub_zero, List.drop_zero, Cue.eta, Tie.eta, Edge.eta, Link.eta, Node.eta] at *)
  all_goals first
    | exact ⟨h1⟩
    | exact ⟨h2⟩
    | rfl
def dcLc (k : Nat) : Dc (List Int) := dcC1 k false dcIs fun _ => rfl
theorem has_list_ok (ls : List (List Int)) (l : List Int) (h1 : ls.length ≤ maxLen) (h2 : ∀ y ∈ ls, y.length ≤ maxLen) (h3 : l.length ≤ maxLen) : SCall Tryz.prog 54 [aIss ls, aIs l] (rB (inLs ls l)) := by
  refine SCall.of X54_ok (fn := Tryz.f54) (c := Tryz.f54.body.getD .skip) (dr := fun n => look 0 [] n) Tryz.func54 rfl (by kernel_rfl) (by kernel_rfl) (by kernel_rfl) ?_
  obtain ⟨f, hf⟩ : ∃ f, f = inLs := ⟨_, rfl⟩
  have hO : SOraOK Tryz.prog (oraL [(87, w2 dcIss (dcLc 88) (fun ls l => rB (f ls l)) (fun ls l => [LLs ls maxLen, LLe l maxLen]))]) := by
    subst hf
    exact oraL_cons (w2_ok fun ls l h => contFuncIs_ok ls _ _ _ (fun y hy => has1_ok y l ((h _ (.head _)).out.2 y hy) (h _ (.tail _ (.head _))).out) (h _ (.head _)).out.1) oraL_nil
  rw [← hf]
  refine SEx.go (X := X54) X54_ok (fun n => look [] [] n) (fun _ => none) hO 60 ?_
  intro M R L N hM hAnd hImp hR hL hN
  cases M
  cbv
  repeat' first | (refine hAnd _ _ ?_ ?_) | (refine hImp _ _ (fun h => ?_)) | (refine hR _ ?_) | (refine hL _ _ (Hd.out ?_); try first | rw [hks] | rw [hk2] | rw [hk3]) | (refine hN _ _ ?_; cbv)
  all_goals (clear hAnd hImp hR hL hN; try clear hks; try clear hk2; try clear hk3)
  all_goals (cases hM; try dsimp only)
  all_goals (try simp only [Bool.not_eq_true', Bool.not_eq_false', decide_eq_true_eq, decide_eq_false_iff_not, Int.not_le, Int.not_lt, beq_iff_eq, beq_eq_false_iff_ne, ne_eq, Int.ofNat_eq_natCast, Int.toNat_natCast, List.length_replicate, ncast, Nat.sub_zero, List.drop_zero, Cue.eta, Tie.eta, Edge.eta, Link.eta, Node.eta] at *)
  all_goals first
    | exact ⟨h1, h2⟩
    | exact ⟨h3⟩
    | rfl
def wInLs (f : List (List Int) → List Int → Bool) : Wr := w2 dcIss dcIs (fun ls l => rB (f ls l)) (fun ls l => [LLs ls maxLen, LLe l maxLen])
theorem wInLsI_ok : WrOK Tryz.prog 54 (wInLs inLs) := w2_ok fun ls l h => has_list_ok ls l (h _ (.head _)).out.1 (h _ (.head _)).out.2 (h _ (.tail _ (.head _))).out
theorem specIn_ok (ls : List (List Int)) (l : List Int) (h1 : ls.length ≤ maxLen) (h2 : ∀ y ∈ ls, y.length ≤ maxLen) (h3 : l.length ≤ maxLen) : SCall Tryz.prog 52 [aIss ls, aIs l] (rB (inLs ls l)) := by
  refine SCall.of X52_ok (fn := Tryz.f52) (c := Tryz.f52.body.getD .skip) (dr := fun n => look 0 [] n) Tryz.func52 rfl (by kernel_rfl) (by kernel_rfl) (by kernel_rfl) ?_
  have hE : inLs ls l = (ls.drop 0).any fun y => sameL y l := by
    unfold inLs
    rw [List.drop_zero]
    congr 1
    funext y
    rw [sameL_eq, sameL_eq]
    exact decide_eq_decide.2 ⟨Eq.symm, Eq.symm⟩
  rw [hE]
  obtain ⟨f, hf⟩ : ∃ f, f = sameL := ⟨_, rfl⟩
  have hO : SOraOK Tryz.prog (oraL [(85, wSameL f)]) := by subst hf; exact oraL_cons wSameS_ok oraL_nil
  rw [← hf]
  refine SEx.go (X := X52) X52_ok (fun n => look [] [(2, [1, 7, 8, 9])] n) (fun _ => none) hO 60 ?_
  intro M R L N hM hAnd hImp hR hL hN
  cases M
  cbv
  repeat' first | (refine hAnd _ _ ?_ ?_) | (refine hImp _ _ (fun h => ?_)) | (refine hR _ ?_) | (refine hL _ _ (Hd.out ?_); generalize hks : (List.cons _ _ : List K) = ks) | (refine hN _ _ ?_; cbv)
  all_goals (clear hAnd hImp hR hL hN)
  all_goals (cases hM; try dsimp only)
  all_goals (try simp only [Bool.not_eq_true', Bool.not_eq_false', decide_eq_true_eq, decide_eq_false_iff_not, Int.not_le, Int.not_lt, beq_iff_eq, beq_eq_false_iff_ne, ne_eq, Int.ofNat_eq_natCast, Int.toNat_natCast, List.length_replicate, ncast, Nat.sub_zero, List.drop_zero, Cue.eta, Tie.eta, Edge.eta, Link.eta, Node.eta] at *)
  obtain ⟨m, hm⟩ : ∃ m, m = ls.length := ⟨_, rfl⟩
  have hmx := h1
  unfold maxLen at hmx
  rw [← hm] at hmx
  refine ⟨SEx.same (SEx.idx m (fun i => ⟨17, [(1, bL (.i l)), (7, bL (.ii false none ls)), (8, bI m), (9, bI i)], []⟩) (fun i => rB ((ls.drop i).any fun y => f y l)) ?_) (by rw [hm]; rfl) rfl⟩
  intro i hi ih
  rw [← hks]
  have hyi : i < m → (ls.getD i []).length ≤ maxLen := fun h => h2 _ (mem_getD (z := ([] : List Int)) (by omega)).out
  have hd : i < m → (ls.drop i).any (fun y => f y l) = (f (ls.getD i []) l || (ls.drop (i + 1)).any fun y => f y l) := fun h => by
    rw [List.drop_eq_getElem_cons (by omega), List.any_cons]
    congr 2
    rw [List.getD_eq_getElem?_getD, List.getElem?_eq_getElem (by omega)]; rfl
  refine SEx.go (X := X52) X52_ok (fun n => look [] [(2, [1, 7, 8, 9])] n) (fun _ => none) hO 60 ?_
  intro M R L N hM hAnd hImp hR hL hN
  cases M
  cbv
  repeat' first | (refine hAnd _ _ ?_ ?_) | (refine hImp _ _ (fun h => ?_)) | (refine hR _ ?_) | (refine hL _ _ (Hd.out ?_); try first | rw [hks] | rw [hk2] | rw [hk3]) | (refine hN _ _ ?_; cbv)
  all_goals (clear hAnd hImp hR hL hN; try clear hks; try clear hk2; try clear hk3)
  all_goals (cases hM; try dsimp only)
  all_goals (try simp only [Bool.not_eq_true', Bool.not_eq_false', decide_eq_true_eq, decide_eq_false_iff_not, Int.not_le, Int.not_lt, beq_iff_eq, beq_eq_false_iff_ne, ne_eq, Int.ofNat_eq_natCast, Int.toNat_natCast, List.length_replicate, ncast, Nat.sub_zero, List.drop_zero, Cue.eta, Tie.eta, Edge.eta, Link.eta, Node.eta] at *)
  all_goals first
    | omega
    | exact ⟨hyi (by omega)⟩
    | exact ⟨h3⟩
    | (rw [hd (by omega), show f (ls.getD i []) l = true by assumption, Bool.true_or]; rfl)
    | (simp only [wrap_succ (show i < 9223372036854775807 by omega)]; exact ⟨(ih (by omega)).same rfl (by rw [hd (by omega), show f (ls.getD i []) l = false by assumption, Bool.false_or])⟩)
    | (rw [List.drop_eq_nil_of_le (by omega)]; rfl)
theorem wInLsS_ok : WrOK Tryz.prog 52 (wInLs inLs) := w2_ok fun ls l h => specIn_ok ls l (h _ (.head _)).out.1 (h _ (.head _)).out.2 (h _ (.tail _ (.head _))).out
structure IxT (t : Show) (l : List Int) : Prop where out : l.length ≤ 1048576 ∧ ∀ k ∈ l, 0 ≤ k ∧ k < t.ties.length
def endT (ts : List Tie) (now : Int) (times l : List Int) : Nat → List Int
  | 0 => times
  | i + 1 => (endT ts now times l i).set (ts.getD (l.getD i 0).toNat Tie.z).dst.toNat now
theorem endT_len (ts : List Tie) (now : Int) (times l : List Int) : ∀ i, (endT ts now times l i).length = times.length
  | 0 => rfl
  | i + 1 => by simp only [endT, List.length_set, endT_len ts now times l i]
def endS (t : Show) (x : State) (l : List Int) : State := ⟨x.now, endT t.ties x.now x.times l l.length, x.vals⟩
theorem stT_sz {t : Show} {x : State} (h : StT t x) : StSz x := by
  have h1 := h.now
  have h2 := showB_len h.sh
  have h3 := valuesB_len h.vals
  exact ⟨by omega, by omega⟩
theorem specL14End_ok (t : Show) (x : State) (l : List Int) (hs : StT t x) (hl : IxT t l) : SCall Tryz.prog 53 [aShow t, aState x, aIs l] (rState (endS t x l)) := by
  refine SCall.of X53_ok (fn := Tryz.f53) (c := Tryz.f53.body.getD .skip) (dr := fun n => look 0 [(5, 10)] n) Tryz.func53 rfl (by kernel_rfl) (by kernel_rfl) (by kernel_rfl) ?_
  have hO : SOraOK Tryz.prog (oraL [(86, wSpecCopy)]) := oraL_cons wSpecCopy_ok oraL_nil
  have hz := stT_sz hs
  have htl := showB_ties hs.sh
  have hT : ∀ q ∈ t.ties, TieT t q := fun q hq => showB_tie hs.sh hq
  have hnw := hs.now
  obtain ⟨hl1, hl2⟩ := hl.out
  clear hs hl
  obtain ⟨ns, ts, hr⟩ := t
  obtain ⟨now, times, vals⟩ := x
  dsimp only at htl hnw hl2
  unfold endS
  dsimp only
  refine SEx.go (X := X53) X53_ok (fun n => look [] [(3, [3, 4, 6, 7, 12, 13, 14])] n) (fun _ => none) hO 60 ?_
  intro M R L N hM hAnd hImp hR hL hN
  cases M
  cbv
  repeat' first | (refine hAnd _ _ ?_ ?_) | (refine hImp _ _ (fun h => ?_)) | (refine hR _ ?_) | (refine hL _ _ (Hd.out ?_); generalize hks : (List.cons _ _ : List K) = ks) | (refine hN _ _ ?_; cbv)
  all_goals (clear hAnd hImp hR hL hN)
  all_goals (cases hM; try dsimp only)
  all_goals (try simp only [Bool.not_eq_true', Bool.not_eq_false', decide_eq_true_eq, decide_eq_false_iff_not, Int.not_le, Int.not_lt, beq_iff_eq, beq_eq_false_iff_ne, ne_eq, Int.ofNat_eq_natCast, Int.toNat_natCast, List.length_replicate, ncast, Nat.sub_zero, List.drop_zero, Cue.eta, Tie.eta, Edge.eta, Link.eta, Node.eta] at *)
  all_goals first
    | exact hz
    | skip
  obtain ⟨m, hm⟩ : ∃ m, m = l.length := ⟨_, rfl⟩
  rw [← hm]
  refine ⟨SEx.same (SEx.idx m (fun i => ⟨31, [(3, bP 12288), (4, bP 16384), (6, bP 24576), (7, bP 28672), (12, bL (.i l)), (13, bI m), (14, bI i)], [(12288, .obx [.fz (.sl (.node false none ns)), .fz (.sl (.tie ts)), .fz (.int .i64 hr)]), (16384, .obx [.fz (.int .i64 now), .fz (.sl (.i times)), .fz (.sl (.i vals))]), (24576, .obx [.fz (.int .i64 0), .onil, .onil]), (28672, .obx [.fz (.int .i64 now), .osl (.i (endT ts now times l i)), .osl (.i vals)])]⟩) (fun _ => rState ⟨now, endT ts now times l m, vals⟩) ?_) (by rw [hm]; rfl) rfl⟩
  intro i hi ih
  rw [← hks]
  obtain ⟨c, hc⟩ : ∃ c, c = endT ts now times l i := ⟨_, rfl⟩
  have hcl : c.length = ns.length := by rw [hc, endT_len]; exact hnw.2.2
  have hki : i < m → 0 ≤ l.getD i 0 ∧ l.getD i 0 < ts.length := fun hlt => hl2 _ (mem_getD (z := (0 : Int)) (by omega)).out
  have hTi : i < m → TieT ⟨ns, ts, hr⟩ (ts.getD (l.getD i 0).toNat Tie.z) := fun hlt => hT _ (mem_getD (z := Tie.z) (by have := hki hlt; omega)).out
  have hst : endT ts now times l (i + 1) = c.set (ts.getD (l.getD i 0).toNat Tie.z).dst.toNat now := by rw [hc]; rfl
  rw [← hc]
  clear hT hl2
  refine SEx.go (X := X53) X53_ok (fun n => look [] [(3, [3, 4, 6, 7, 12, 13, 14])] n) (fun _ => none) hO 60 ?_
  intro M R L N hM hAnd hImp hR hL hN
  cases M
  cbv
  repeat' first | (refine hAnd _ _ ?_ ?_) | (refine hImp _ _ (fun h => ?_)) | (refine hR _ ?_) | (refine hL _ _ (Hd.out ?_); try first | rw [hks] | rw [hk2] | rw [hk3]) | (refine hN _ _ ?_; cbv)
  all_goals (clear hAnd hImp hR hL hN; try clear hks; try clear hk2; try clear hk3)
  all_goals (cases hM; try dsimp only)
  all_goals (try simp only [Bool.not_eq_true', Bool.not_eq_false', decide_eq_true_eq, decide_eq_false_iff_not, Int.not_le, Int.not_lt, beq_iff_eq, beq_eq_false_iff_ne, ne_eq, Int.ofNat_eq_natCast, Int.toNat_natCast, List.length_replicate, ncast, Nat.sub_zero, List.drop_zero, Cue.eta, Tie.eta, Edge.eta, Link.eta, Node.eta] at *)
  all_goals (try (have b0 := hki (by omega); have b1 := (hTi (by omega)).dst; dsimp only at b1))
  all_goals (generalize ts.getD (l.getD i 0).toNat Tie.z = y at *; obtain ⟨x1, x2, x3, x4, x5⟩ := y; dsimp only at *)
  all_goals (try simp only [wrap_succ (show i < 9223372036854775807 by omega)])
  all_goals first
    | omega
    | (have ih' := ih (by omega)
       rw [hst] at ih'
       exact ⟨ih'.same rfl rfl⟩)
    | (obtain rfl : i = m := by omega
       rw [hc]; rfl)
    | skip
theorem implEnded_ok (t : Show) (x : State) (l : List Int) (hs : StT t x) (hl : IxT t l) : SCall Tryz.prog 55 [aShow t, aState x, aIs l] (rState (endS t x l)) := by
  refine SCall.of X55_ok (fn := Tryz.f55) (c := Tryz.f55.body.getD .skip) (dr := fun n => look 0 [(5, 10)] n) Tryz.func55 rfl (by kernel_rfl) (by kernel_rfl) (by kernel_rfl) ?_
  have hO : SOraOK Tryz.prog (oraL [(90, wCopySt)]) := oraL_cons wCopySt_ok oraL_nil
  have hz := stT_sz hs
  have htl := showB_ties hs.sh
  have hT : ∀ q ∈ t.ties, TieT t q := fun q hq => showB_tie hs.sh hq
  have hnw := hs.now
  obtain ⟨hl1, hl2⟩ := hl.out
  clear hs hl
  obtain ⟨ns, ts, hr⟩ := t
  obtain ⟨now, times, vals⟩ := x
  dsimp only at htl hnw hl2
  unfold endS
  dsimp only
  refine SEx.go (X := X55) X55_ok (fun n => look [] [(3, [3, 4, 6, 7, 12, 13, 14])] n) (fun _ => none) hO 60 ?_
  intro M R L N hM hAnd hImp hR hL hN
  cases M
  cbv
  repeat' first | (refine hAnd _ _ ?_ ?_) | (refine hImp _ _ (fun h => ?_)) | (refine hR _ ?_) | (refine hL _ _ (Hd.out ?_); generalize hks : (List.cons _ _ : List K) = ks) | (refine hN _ _ ?_; cbv)
  all_goals (clear hAnd hImp hR hL hN)
  all_goals (cases hM; try dsimp only)
  all_goals (try simp only [Bool.not_eq_true', Bool.not_eq_false', decide_eq_true_eq, decide_eq_false_iff_not, Int.not_le, Int.not_lt, beq_iff_eq, beq_eq_false_iff_ne, ne_eq, Int.ofNat_eq_natCast, Int.toNat_natCast, List.length_replicate, ncast, Nat.sub_zero, List.drop_zero, Cue.eta, Tie.eta, Edge.eta, Link.eta, Node.eta] at *)
  all_goals first
    | exact hz
    | skip
  obtain ⟨m, hm⟩ : ∃ m, m = l.length := ⟨_, rfl⟩
  rw [← hm]
  refine ⟨SEx.same (SEx.idx m (fun i => ⟨31, [(3, bP 12288), (4, bP 16384), (6, bP 24576), (7, bP 28672), (12, bL (.i l)), (13, bI m), (14, bI i)], [(12288, .obx [.fz (.sl (.node false none ns)), .fz (.sl (.tie ts)), .fz (.int .i64 hr)]), (16384, .obx [.fz (.int .i64 now), .fz (.sl (.i times)), .fz (.sl (.i vals))]), (24576, .obx [.fz (.int .i64 0), .onil, .onil]), (28672, .obx [.fz (.int .i64 now), .osl (.i (endT ts now times l i)), .osl (.i vals)])]⟩) (fun _ => rState ⟨now, endT ts now times l m, vals⟩) ?_) (by rw [hm]; rfl) rfl⟩
  intro i hi ih
  rw [← hks]
  obtain ⟨c, hc⟩ : ∃ c, c = endT ts now times l i := ⟨_, rfl⟩
  have hcl : c.length = ns.length := by rw [hc, endT_len]; exact hnw.2.2
  have hki : i < m → 0 ≤ l.getD i 0 ∧ l.getD i 0 < ts.length := fun hlt => hl2 _ (mem_getD (z := (0 : Int)) (by omega)).out
  have hTi : i < m → TieT ⟨ns, ts, hr⟩ (ts.getD (l.getD i 0).toNat Tie.z) := fun hlt => hT _ (mem_getD (z := Tie.z) (by have := hki hlt; omega)).out
  have hst : endT ts now times l (i + 1) = c.set (ts.getD (l.getD i 0).toNat Tie.z).dst.toNat now := by rw [hc]; rfl
  rw [← hc]
  clear hT hl2
  refine SEx.go (X := X55) X55_ok (fun n => look [] [(3, [3, 4, 6, 7, 12, 13, 14])] n) (fun _ => none) hO 60 ?_
  intro M R L N hM hAnd hImp hR hL hN
  cases M
  cbv
  repeat' first | (refine hAnd _ _ ?_ ?_) | (refine hImp _ _ (fun h => ?_)) | (refine hR _ ?_) | (refine hL _ _ (Hd.out ?_); try first | rw [hks] | rw [hk2] | rw [hk3]) | (refine hN _ _ ?_; cbv)
  all_goals (clear hAnd hImp hR hL hN; try clear hks; try clear hk2; try clear hk3)
  all_goals (cases hM; try dsimp only)
  all_goals (try simp only [Bool.not_eq_true', Bool.not_eq_false', decide_eq_true_eq, decide_eq_false_iff_not, Int.not_le, Int.not_lt, beq_iff_eq, beq_eq_false_iff_ne, ne_eq, Int.ofNat_eq_natCast, Int.toNat_natCast, List.length_replicate, ncast, Nat.sub_zero, List.drop_zero, Cue.eta, Tie.eta, Edge.eta, Link.eta, Node.eta] at *)
  all_goals (try (have b0 := hki (by omega); have b1 := (hTi (by omega)).dst; dsimp only at b1))
  all_goals (generalize ts.getD (l.getD i 0).toNat Tie.z = y at *; obtain ⟨x1, x2, x3, x4, x5⟩ := y; dsimp only at *)
  all_goals (try simp only [wrap_succ (show i < 9223372036854775807 by omega)])
  all_goals first
    | omega
    | (have ih' := ih (by omega)
       rw [hst] at ih'
       exact ⟨ih'.same rfl rfl⟩)
    | (obtain rfl : i = m := by omega
       rw [hc]; rfl)
    | skip
def wEndS (f : Show → State → List Int → State) : Wr := w3 dcShow dcState dcIs (fun t x l => rState (f t x l)) (fun t x l => [StT t x, IxT t l])
theorem wEndSS_ok : WrOK Tryz.prog 53 (wEndS endS) := w3_ok fun t x l h => specL14End_ok t x l (h _ (.head _)) (h _ (.tail _ (.head _)))
theorem wEndSI_ok : WrOK Tryz.prog 55 (wEndS endS) := w3_ok fun t x l h => implEnded_ok t x l (h _ (.head _)) (h _ (.tail _ (.head _)))
end Go.Proofs.YtececadpjelanaaGreat.Ai
namespace Go.Proofs.YtececadpjelanaaGreat.Ai
open Go
set_option maxRecDepth 100000
set_option linter.unusedVariables false
set_option linter.unusedSimpArgs false
set_option linter.unusedSectionVars false
variable [MemoCtx]
theorem memL_sub {l : List Int} {s : Int} : ∀ k ∈ memL l s, k ∈ l := by
  intro k hk
  unfold memL memP at hk
  obtain ⟨j, hj, rfl⟩ := List.mem_map.1 hk
  have hj' := List.mem_range.1 (List.mem_filter.1 hj).1
  exact (mem_getD (z := (0 : Int)) hj').out
theorem memL_len (l : List Int) (s : Int) : (memL l s).length ≤ l.length := memP_len _ _ _
theorem endG_mem {t : Show} {x : State} (hs : showB t = true) {l : List Int} (h : l ∈ endG t x) : l.length ≤ 28 ∧ ∀ k ∈ l, k ∈ acL t x := by
  unfold endG at h
  split at h
  · cases h
  · obtain ⟨j, _, rfl⟩ := List.mem_map.1 h
    have h1 := (mergeI_perm (muL t x) (memL (myL t x) (j : Int))).length_eq
    have h2 := muL_len x hs
    have h3 := myL_len x hs
    have h4 := memL_len (myL t x) (j : Int)
    refine ⟨by rw [h1, List.length_append]; omega, fun k hk => ?_⟩
    have hk := (mergeI_perm _ _).mem_iff.1 hk
    rcases List.mem_append.1 hk with hk | hk
    · exact (List.mem_filter.1 hk).1
    · exact (List.mem_filter.1 (memL_sub k hk)).1
theorem endG_ix {t : Show} {x : State} (hs : showB t = true) {l : List Int} (h : l ∈ endG t x) : IxT t l := by
  obtain ⟨h1, h2⟩ := endG_mem hs h
  exact ⟨by omega, fun k hk => acL_mem (h2 k hk)⟩
theorem endF_in {t : Show} {x : State} {l : List Int} (h : l ∈ endF t x) : StT t x ∧ IxT t l := by
  rw [endF_eq] at h
  split at h
  · rename_i hs
    unfold stOkB at hs
    rw [Bool.and_eq_true] at hs
    exact ⟨⟨hs.1, hs.2⟩, endG_ix hs.1 h⟩
  · cases h
theorem endF_small (t : Show) (x : State) : (endF t x).length ≤ 16384 ∧ ∀ y ∈ endF t x, y.length ≤ 28 := by
  rw [endF_eq]
  split
  · rename_i hs
    unfold stOkB at hs
    rw [Bool.and_eq_true] at hs
    refine ⟨?_, fun y hy => (endG_mem hs.1 hy).1⟩
    unfold endG
    split
    · exact Nat.zero_le _
    · rw [endP_len]; exact (pow_ft (myL_len x hs.1)).2
  · exact ⟨Nat.zero_le _, fun y hy => by cases hy⟩
def aeOk (t : Show) (x : State) (l : List Int) : Bool := inLs (endF t x) l
def wEndFS (f : Show → State → List (List Int)) : Wr := w2 dcShow dcState (fun t x => rIss (f t x)) (fun t x => [StLe t x])
theorem wEndFS_ok : WrOK Tryz.prog 11 (wEndFS endF) := w2_ok fun t x h => specEndF_ok t x (h _ (.head _))
theorem wEndFI_ok : WrOK Tryz.prog 14 (wEndFS endF) := w2_ok fun t x h => implEndF_ok t x (h _ (.head _))
theorem specAfterE_ok (t : Show) (x : State) (l : List Int) (hs : StLe t x) (hl : l.length ≤ 1048576) : SCall Tryz.prog 22 [aShow t, aState x, aIs l] (aftR (endS t x l) (aeOk t x l)) := by
  refine SCall.of X22_ok (fn := Tryz.f22) (c := Tryz.f22.body.getD .skip) (dr := fun n => look 0 [] n) Tryz.func22 rfl (by kernel_rfl) (by kernel_rfl) (by kernel_rfl) ?_
  obtain ⟨f1, hf1⟩ : ∃ f, f = endF := ⟨_, rfl⟩
  obtain ⟨f2, hf2⟩ : ∃ f, f = inLs := ⟨_, rfl⟩
  obtain ⟨f3, hf3⟩ : ∃ f, f = endS := ⟨_, rfl⟩
  have hO : SOraOK Tryz.prog (oraL [(11, wEndFS f1), (52, wInLs f2), (53, wEndS f3)]) := by
    subst hf1 hf2 hf3
    exact oraL_cons wEndFS_ok (oraL_cons wInLsS_ok (oraL_cons wEndSS_ok oraL_nil))
  have h1 := endF_small t x
  have hb : aeOk t x l = f2 (f1 t x) l := by rw [hf1, hf2]; rfl
  have hin : f2 (f1 t x) l = true → StT t x ∧ IxT t l := fun h => by rw [hf2, inLs_iff, hf1] at h; exact endF_in h
  rw [← hf1] at h1
  rw [← hf3, hb]
  clear hf1 hf2 hf3 hb
  obtain ⟨ns, ts, hr⟩ := t
  obtain ⟨now, times, vals⟩ := x
  refine SEx.go (X := X22) X22_ok (fun n => look [] [] n) (fun _ => none) hO 60 ?_
  intro M R L N hM hAnd hImp hR hL hN
  cases M
  cbv
  repeat' first | (refine hAnd _ _ ?_ ?_) | (refine hImp _ _ (fun h => ?_)) | (refine hR _ ?_) | (refine hL _ _ (Hd.out ?_); try first | rw [hks] | rw [hk2] | rw [hk3]) | (refine hN _ _ ?_; cbv)
  all_goals (clear hAnd hImp hR hL hN; try clear hks; try clear hk2; try clear hk3)
  all_goals (cases hM; try dsimp only)
  all_goals (try simp only [Bool.not_eq_true', Bool.not_eq_false', decide_eq_true_eq, decide_eq_false_iff_not, Int.not_le, Int.not_lt, beq_iff_eq, beq_eq_false_iff_ne, ne_eq, Int.ofNat_eq_natCast, Int.toNat_natCast, List.length_replicate, ncast, Nat.sub_zero, List.drop_zero, Cue.eta, Tie.eta, Edge.eta, Link.eta, Node.eta] at *)
  all_goals first
    | exact hs
    | exact ⟨Nat.le_trans h1.1 (by decide), fun y hy => Nat.le_trans (h1.2 y hy) (by decide)⟩
    | exact ⟨Nat.le_trans hl (by decide)⟩
    | exact (hin (by assumption)).1
    | exact (hin (by assumption)).2
    | (rw [show f2 _ _ = false by assumption]; rfl)
    | (rw [show f2 _ _ = true by assumption]; rfl)
    | skip
theorem implAfterE_ok (t : Show) (x : State) (l : List Int) (hs : StLe t x) (hl : l.length ≤ 1048576) : SCall Tryz.prog 24 [aShow t, aState x, aIs l] (aftR (endS t x l) (aeOk t x l)) := by
  refine SCall.of X24_ok (fn := Tryz.f24) (c := Tryz.f24.body.getD .skip) (dr := fun n => look 0 [] n) Tryz.func24 rfl (by kernel_rfl) (by kernel_rfl) (by kernel_rfl) ?_
  obtain ⟨f1, hf1⟩ : ∃ f, f = endF := ⟨_, rfl⟩
  obtain ⟨f2, hf2⟩ : ∃ f, f = inLs := ⟨_, rfl⟩
  obtain ⟨f3, hf3⟩ : ∃ f, f = endS := ⟨_, rfl⟩
  have hO : SOraOK Tryz.prog (oraL [(14, wEndFS f1), (54, wInLs f2), (55, wEndS f3)]) := by
    subst hf1 hf2 hf3
    exact oraL_cons wEndFI_ok (oraL_cons wInLsI_ok (oraL_cons wEndSI_ok oraL_nil))
  have h1 := endF_small t x
  have hb : aeOk t x l = f2 (f1 t x) l := by rw [hf1, hf2]; rfl
  have hin : f2 (f1 t x) l = true → StT t x ∧ IxT t l := fun h => by rw [hf2, inLs_iff, hf1] at h; exact endF_in h
  rw [← hf1] at h1
  rw [← hf3, hb]
  clear hf1 hf2 hf3 hb
  obtain ⟨ns, ts, hr⟩ := t
  obtain ⟨now, times, vals⟩ := x
  refine SEx.go (X := X24) X24_ok (fun n => look [] [] n) (fun _ => none) hO 60 ?_
  intro M R L N hM hAnd hImp hR hL hN
  cases M
  cbv
  repeat' first | (refine hAnd _ _ ?_ ?_) | (refine hImp _ _ (fun h => ?_)) | (refine hR _ ?_) | (refine hL _ _ (Hd.out ?_); try first | rw [hks] | rw [hk2] | rw [hk3]) | (refine hN _ _ ?_; cbv)
  all_goals (clear hAnd hImp hR hL hN; try clear hks; try clear hk2; try clear hk3)
  all_goals (cases hM; try dsimp only)
  all_goals (try simp only [Bool.not_eq_true', Bool.not_eq_false', decide_eq_true_eq, decide_eq_false_iff_not, Int.not_le, Int.not_lt, beq_iff_eq, beq_eq_false_iff_ne, ne_eq, Int.ofNat_eq_natCast, Int.toNat_natCast, List.length_replicate, ncast, Nat.sub_zero, List.drop_zero, Cue.eta, Tie.eta, Edge.eta, Link.eta, Node.eta] at *)
  all_goals first
    | exact hs
    | exact ⟨Nat.le_trans h1.1 (by decide), fun y hy => Nat.le_trans (h1.2 y hy) (by decide)⟩
    | exact ⟨Nat.le_trans hl (by decide)⟩
    | exact (hin (by assumption)).1
    | exact (hin (by assumption)).2
    | (rw [show f2 _ _ = false by assumption]; rfl)
    | (rw [show f2 _ _ = true by assumption]; rfl)
    | skip
end Go.Proofs.YtececadpjelanaaGreat.Ai
namespace Go.Proofs.YtececadpjelanaaGreat.Ai
open Go
set_option maxRecDepth 100000
set_option linter.unusedVariables false
set_option linter.unusedSimpArgs false
set_option linter.unusedSectionVars false
variable [MemoCtx]
def aeS (t : Show) (x : State) (l : List Int) : State := match aeOk t x l with | true => endS t x l | false => ⟨0, [], []⟩
theorem aeR_eq (t : Show) (x : State) (l : List Int) : aftR (endS t x l) (aeOk t x l) = rAft (aeS t x l) (aeOk t x l) := by
  unfold aeS aftR
  cases aeOk t x l <;> rfl
theorem aeS_times (t : Show) (x : State) (l : List Int) : (aeS t x l).times.length ≤ x.times.length := by
  unfold aeS
  cases aeOk t x l
  · exact Nat.zero_le _
  · exact Nat.le_of_eq (endT_len _ _ _ _ _)
theorem aeS_vals (t : Show) (x : State) (l : List Int) : (aeS t x l).vals.length ≤ x.vals.length := by
  unfold aeS
  cases aeOk t x l
  · exact Nat.zero_le _
  · exact Nat.le_refl _
structure AfeH (t : Show) (x : State) (l : List Int) : Prop where
  le : StLe t x
  sz : StSz x
  len : l.length ≤ 1048576
def wAfE (fs : Show → State → List Int → State) (f : Show → State → List Int → Bool) : Wr := w3 dcShow dcState dcIs (fun t x l => rAft (fs t x l) (f t x l)) (fun t x l => [AfeH t x l])
theorem wAfES_ok : WrOK Tryz.prog 22 (wAfE aeS aeOk) := w3_ok fun t x l h => by
  have h := h _ (.head _)
  rw [← aeR_eq]
  exact specAfterE_ok t x l h.le h.len
theorem wAfEI_ok : WrOK Tryz.prog 24 (wAfE aeS aeOk) := w3_ok fun t x l h => by
  have h := h _ (.head _)
  rw [← aeR_eq]
  exact implAfterE_ok t x l h.le h.len
set_option maxHeartbeats 8000000 in
theorem lawAfterE_ok (t : Show) (x : State) (l : List Int) (ht : ShowIn t) (hx : StateIn x) (hp : IntsIn l) : SCall Tryz.prog 4 [aShow t, aState x, aIs l] (rB true) := by
  refine SCall.of X4_ok (fn := Tryz.f4) (c := Tryz.f4.body.getD .skip) (dr := fun n => look 0 [(10, 655371), (17, 3), (19, 3), (37, 655371)] n) Tryz.func4 rfl (by kernel_rfl) (by kernel_rfl) (by kernel_rfl) ?_
  obtain ⟨fs, hfs⟩ : ∃ f, f = aeS := ⟨_, rfl⟩
  obtain ⟨f, hf⟩ : ∃ f, f = aeOk := ⟨_, rfl⟩
  obtain ⟨g, hg⟩ : ∃ g, g = szShowI := ⟨_, rfl⟩
  obtain ⟨k, hk⟩ : ∃ g, g = szStateI := ⟨_, rfl⟩
  obtain ⟨f1, hf1⟩ : ∃ f, f = fN := ⟨_, rfl⟩
  obtain ⟨f2, hf2⟩ : ∃ f, f = shT := ⟨_, rfl⟩
  obtain ⟨g1, hg1⟩ : ∃ f, f = shG := ⟨_, rfl⟩
  obtain ⟨f3, hf3⟩ : ∃ f, f = markI := ⟨_, rfl⟩
  obtain ⟨f4, hf4⟩ : ∃ f, f = stF := ⟨_, rfl⟩
  obtain ⟨g4, hg4⟩ : ∃ f, f = stG := ⟨_, rfl⟩
  obtain ⟨g5, hg5⟩ : ∃ f, f = addI := ⟨_, rfl⟩
  obtain ⟨ln, hln⟩ : ∃ f, f = @List.length Int := ⟨_, rfl⟩
  have hO : SOraOK Tryz.prog (oraL [(9, wSzShow g), (10, wSzState k), (12, wToShow), (13, wToState), (23, wToIntS), (22, wAfE fs f), (24, wAfE fs f), (16, wEqShow), (17, wEqState), (25, wEqIntS), (27, wHeldSt g4 ln)]) := by
    subst hfs hf hg hk hg4 hln
    exact oraL_cons wSzShow_ok (oraL_cons wSzState_ok (oraL_cons wToShow_ok (oraL_cons wToState_ok (oraL_cons wToIntS_ok (oraL_cons wAfES_ok (oraL_cons wAfEI_ok (oraL_cons wEqShow_ok (oraL_cons wEqState_ok (oraL_cons wEqIntS_ok (oraL_cons wHeldSt_ok oraL_nil))))))))))
  have hW : SOraWOK Tryz.prog (X4.withW [(18, [(0, 0), (0, 1)]), (19, [(0, 1), (0, 2)]), (26, [(0, 0)])] (oraWL [(18, wMarkShow f1 f2 g1), (19, wMarkState f3 f4 g4), (26, wMarkI f3 g5)])) := by
    subst hf1 hf2 hg1 hf3 hf4 hg4 hg5
    exact SX.withW_ok (oraWL_cons wMarkShow_ok (oraWL_cons wMarkState_ok (oraWL_cons wMarkI_ok oraWL_nil)))
  have hA : 0 ≤ g t 1048576 → ShowSz t (g t 1048576) := fun h => by rw [hg] at h ⊢; exact showSz h
  have hB : 0 ≤ g t 1048576 → 0 ≤ k x (g t 1048576) → StateSz x := fun h h2 => by rw [hk] at h2; exact stateSz h (hA h).le h2
  have hG : 0 ≤ g t 1048576 → ShGT (g t 1048576) (g1 1 t.nodes t.ties.length) := fun h => by rw [hg1]; exact (shG_in (hA h)).1
  have hS1 : (fs t x l).times.length ≤ x.times.length := by rw [hfs]; exact aeS_times ..
  have hS2 : (fs t x l).vals.length ≤ x.vals.length := by rw [hfs]; exact aeS_vals ..
  have h1 := ht.le
  have h2 := hx.le
  have h3 := hp.len
  have hn : ∀ q ∈ t.nodes, NodeLe q maxLen := fun q hq => ⟨(ht.nodes q hq).name, (ht.nodes q hq).len⟩
  clear ht hx hfs hf hg hk
  obtain ⟨ns, ts, hr⟩ := t
  obtain ⟨now, times, vals⟩ := x
  dsimp only at hG hS1 hS2
  have hT1 := hS1
  have hT2 := hS2
  delta State.times State.vals at hS1 hS2
  refine SEx.go (X := (X4.withW [(18, [(0, 0), (0, 1)]), (19, [(0, 1), (0, 2)]), (26, [(0, 0)])] (oraWL [(18, wMarkShow f1 f2 g1), (19, wMarkState f3 f4 g4), (26, wMarkI f3 g5)]))) X4_ok (fun n => look [] [] n) (fun _ => none) hO 120 ?_ hW
  intro M R L N hM hAnd hImp hR hL hN
  cases M
  cbv
  repeat' first | (refine hAnd _ _ ?_ ?_) | (refine hImp _ _ (fun h => ?_)) | (refine hR _ ?_) | (refine hL _ _ (Hd.out ?_); try first | rw [hks] | rw [hk2] | rw [hk3]) | (refine hN _ _ ?_; cbv)
  all_goals (clear hAnd hImp hR hL hN; try clear hks; try clear hk2; try clear hk3)
  all_goals (cases hM; try dsimp only)
  all_goals (try simp only [Bool.not_eq_true', Bool.not_eq_false', decide_eq_true_eq, decide_eq_false_iff_not, Int.not_le, Int.not_lt, beq_iff_eq, beq_eq_false_iff_ne, ne_eq, Int.ofNat_eq_natCast, Int.toNat_natCast, List.length_replicate, ncast, Nat.sub_zero, List.drop_zero, Cue.eta, Tie.eta, Edge.eta, Link.eta, Node.eta] at *)
  all_goals (clear hO hW; subst hf1 hf2 hf3 hf4 hg4 hg5 hln)
  all_goals (try simp only [addI, stG, markI_len, stF_len] at *)
  all_goals (try (have G := hG (by assumption); have G1 := G.lo; have G2 := G.hi))
  all_goals (try (have b := hB (by assumption) (by assumption); have b1 := b.tlen; have b2 := b.vlen; dsimp only at b1 b2))
  all_goals first
    | rfl
    | contradiction
    | exact ⟨h1.len⟩
    | exact ⟨h1.tlen⟩
    | exact ⟨hn⟩
    | exact ⟨⟨by decide, by decide⟩⟩
    | exact ⟨h2.tlen⟩
    | exact ⟨h2.vlen⟩
    | exact ⟨⟨by assumption, by have := (hA (by assumption)).le; omega⟩⟩
    | exact ⟨(hA (by assumption)).len⟩
    | exact ⟨(hA (by assumption)).tlen⟩
    | exact ⟨(hA (by assumption)).labs⟩
    | exact ⟨b1⟩
    | exact ⟨b2⟩
    | exact ⟨⟨h1, h2⟩, ⟨b1, b2⟩, by omega⟩
    | exact ⟨rfl⟩
    | exact ⟨by omega⟩
    | exact ⟨Nat.le_trans hT1 h2.tlen⟩
    | exact ⟨Nat.le_trans hT2 h2.vlen⟩
    | exact ⟨Nat.le_trans hT1 b1⟩
    | exact ⟨Nat.le_trans hT2 b2⟩
    | exact ⟨fun q hq => (h1.nodes q hq).len⟩
    | exact absurd trivial (by assumption)
    | exact absurd rfl (by assumption)
    | exact (fN_len _ _).symm
    | exact (markTi_len _ _).symm
    | exact ⟨⟨rfl, rfl, rfl, rfl⟩, rfl, rfl, h1.len, h1.tlen, fun q hq => (h1.nodes q hq).len, by decide, by omega⟩
    | exact ⟨⟨rfl, rfl, rfl, rfl⟩, rfl, rfl, h2.tlen, h2.vlen, by omega, by omega⟩
    | exact ⟨⟨rfl, rfl, rfl, rfl⟩, rfl, rfl, Nat.le_trans hT1 h2.tlen, Nat.le_trans hT2 h2.vlen, by omega, by omega⟩
    | exact ⟨rfl, rfl, rfl, by unfold maxLen; omega, by omega, by omega⟩
    | exact aft_MkSt (fs ⟨ns, ts, hr⟩ ⟨now, times, vals⟩ l) (Nat.le_trans hT1 b1) (Nat.le_trans hT2 b2)
    | exact aft_HSt (fs ⟨ns, ts, hr⟩ ⟨now, times, vals⟩ l) (Nat.le_trans hT1 b1) (Nat.le_trans hT2 b2)
    | (exfalso; omega)
    | skip
end Go.Proofs.YtececadpjelanaaGreat.Ai
