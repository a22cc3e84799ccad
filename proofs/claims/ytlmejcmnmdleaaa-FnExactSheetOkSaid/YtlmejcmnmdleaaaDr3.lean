/- A region all of whose operations add, and whose text may depart from the compiler's order: each order comes to the same. -/
import Derived.Test.YtlmejcmnmdleaaaDr2
namespace Go.Proofs.Ytlmejcmnmdleaaa.Ai
open Go Go.RowKit
set_option linter.unusedSectionVars false
set_option linter.unusedSimpArgs false

def edgesP (o : Oper) : List Nat := (o.after.toList.filter plainE).map (·.on)
def bindsL (md : Region.Mode) (o : Oper) : List Nat := (o.after.toList.filter (Region.binds md)).map (·.on)
structure Stat2 (all : List Oper) (anc : Nat → Nat → Prop) : Prop where
  plain : ∀ (i : Nat) (o : Oper), all[i]? = some o → ∀ e ∈ edgesP o, e < i
  an : ∀ (i j : Nat) (o : Oper), all[i]? = some o → anc i j → ∃ e ∈ edgesP o, e = j ∨ anc e j
  topo : ∀ md : Region.Mode, ∃ rank : Nat → Nat, ∀ (i : Nat) (o : Oper), all[i]? = some o → ∀ e ∈ bindsL md o, e < all.length ∧ rank e < rank i
section
variable {P : Program} {all : List Oper} {anc : Nat → Nat → Prop} {F : Fr} {its : List It} {Fs : Nat → Fr}
theorem ready_mem2 {md : Region.Mode} {listed : Array Bool} {i : Nat} : i ∈ Region.ready md ⟨all⟩ listed ↔ i < all.length ∧ listed.getD i true = false ∧ ∃ o, all[i]? = some o ∧ ∀ e ∈ bindsL md o, listed.getD e false = true := by
  unfold Region.ready
  simp only [List.mem_filter, List.mem_range, Bool.and_eq_true, Bool.not_eq_true']
  constructor
  · rintro ⟨h1, h2, h3⟩
    refine ⟨h1, h2, ?_⟩
    have ho : all[i]? = some all[i] := List.getElem?_eq_getElem h1
    refine ⟨_, ho, ?_⟩
    simp only [List.getElem?_toArray, ho, Option.map_some, Option.getD_some] at h3
    intro e he
    obtain ⟨x, hx, rfl⟩ := List.mem_map.1 he
    obtain ⟨hx, hb⟩ := List.mem_filter.1 hx
    have := Array.all_eq_true'.1 h3 x (by simpa using hx)
    rw [hb] at this
    simpa using this
  · rintro ⟨h1, h2, o, ho, h3⟩
    refine ⟨h1, h2, ?_⟩
    simp only [List.getElem?_toArray, ho, Option.map_some, Option.getD_some]
    refine Array.all_eq_true'.2 fun x hx => ?_
    cases hb : Region.binds md x with
    | false => simp
    | true => simp [h3 x.on (List.mem_map.2 ⟨x, List.mem_filter.2 ⟨by simpa using hx, hb⟩, rfl⟩)]
theorem plain_binds {md : Region.Mode} {o : Oper} {e : Nat} (h : e ∈ edgesP o) : e ∈ bindsL md o := by
  obtain ⟨x, hx, rfl⟩ := List.mem_map.1 h
  obtain ⟨hx, hp⟩ := List.mem_filter.1 hx
  refine List.mem_map.2 ⟨x, List.mem_filter.2 ⟨hx, ?_⟩, rfl⟩
  unfold plainE at hp
  unfold Region.binds
  split <;> simp_all
theorem anc_done2 (hS : Stat2 all anc) {listed : Array Bool} (hd : ∀ (i : Nat) (o : Oper), all[i]? = some o → listed.getD i false = true → ∀ e ∈ edgesP o, listed.getD e false = true) :
    ∀ (i : Nat) (o : Oper), all[i]? = some o → (∀ e ∈ edgesP o, listed.getD e false = true) → ∀ j, anc i j → listed.getD j false = true := by
  intro i
  induction i using Nat.strongRecOn with
  | _ i ih =>
    intro o ho he j hj
    obtain ⟨e, he1, he2⟩ := hS.an i j o ho hj
    rcases he2 with rfl | he2
    · exact he e he1
    · have hlt := hS.plain i o ho e he1
      have hlen : i < all.length := (List.getElem?_eq_some_iff.1 ho).1
      have hxo : all[e]? = some all[e] := List.getElem?_eq_getElem (by omega)
      exact ih e hlt _ hxo (hd e _ hxo (he e he1)) j he2
theorem ready_ne {md : Region.Mode} {listed : Array Bool} (hsz : listed.size = all.length) (hS : Stat2 all anc) (h : ∃ i, i < all.length ∧ listed.getD i false = false) : Region.ready md ⟨all⟩ listed ≠ [] := by
  obtain ⟨rank, hr⟩ := hS.topo md
  -- the unlisted of least rank
  have key : ∀ n i, rank i = n → i < all.length → listed.getD i false = false → ∃ i, i ∈ Region.ready md ⟨all⟩ listed := by
    intro n
    induction n using Nat.strongRecOn with
    | _ n ih =>
      intro i hn hi hl
      have ho : all[i]? = some all[i] := List.getElem?_eq_getElem hi
      by_cases hex : ∃ e ∈ bindsL md all[i], listed.getD e false = false
      · obtain ⟨e, he, hle⟩ := hex
        obtain ⟨h1, h2⟩ := hr i _ ho e he
        exact ih (rank e) (by omega) e rfl h1 hle
      · refine ⟨i, ready_mem2.2 ⟨hi, ?_, _, ho, fun e he => ?_⟩⟩
        · simp only [Array.getD_eq_getD_getElem?, Array.getElem?_eq_getElem (show i < listed.size by omega), Option.getD_some] at hl ⊢
          exact hl
        · cases hc : listed.getD e false with
          | true => rfl
          | false => exact absurd ⟨e, he, hc⟩ hex
  obtain ⟨i, hi, hl⟩ := h
  obtain ⟨j, hj⟩ := key _ i rfl hi hl
  intro hq
  rw [hq] at hj
  cases hj
theorem draw_run2 (md : Region.Mode) (hS : Stat2 all anc) (hD : Dyn all all.length anc F its Fs) (hA : ∀ (i : Nat) (o : Oper) (x : It), all[i]? = some o → its[i]? = some x → AItem P ⟨all⟩ (Fs i) o x) {J : Fence} (b : Frame) (ks : List Item) (cs : List Frame) :
    ∀ (fuel t : Nat) (listed : Array Bool) (G : Fr) (a : Act) (w : World) (σ : Gh), listed.size = all.length → fuel = cntU all.length (fun i => listed.getD i false) →
      (∀ (i : Nat) (o : Oper), all[i]? = some o → listed.getD i false = true → ∀ e ∈ edgesP o, listed.getD e false = true) → Inv all.length F its (fun j => j < all.length ∧ listed.getD j false = true) G → FR G σ w (valT a) → Dom G σ [] → G.n ≤ a.tmps.size →
      ∃ a' w' σ', Steps P (lone (b.at a (.inRegion ⟨all⟩ (Region.linearise.go md ⟨all⟩ fuel t listed []) :: ks)) cs w) (lone (b.at a' (.inRegion ⟨all⟩ [] :: ks)) cs w') ∧
        FR (Fs all.length) σ' w' (valT a') ∧ Dom (Fs all.length) σ' [] ∧ Goes w σ w' σ' ∧ a'.defers = a.defers ∧ a'.tmps.size = a.tmps.size := by
  intro fuel
  induction fuel with
  | zero =>
    intro t listed G a w σ hsz hfu hdn hI hF hd hn
    have hall : ∀ i, i < all.length → listed.getD i false = true := by
      intro i hi
      cases hl : listed.getD i false with
      | true => rfl
      | false =>
        have := cntU_set (f := fun i => listed.getD i false) all.length hi hl
        omega
    refine ⟨a, w, σ, ?_, ?_⟩
    · simp [Region.linearise.go]; exact .refl P _
    · have he : (fun j => j < all.length ∧ listed.getD j false = true) = (fun j => j < all.length) := by funext j; exact propext ⟨fun h => h.1, fun h => ⟨h, hall j h⟩⟩
      rw [he] at hI
      obtain ⟨h1, h2⟩ := inv_fr hI (inv_text hD all.length (Nat.le_refl _)) hF hd
      exact ⟨h1, h2, Goes.refl _ _, rfl, rfl⟩
  | succ fuel ih =>
    intro t listed G a w σ hsz hfu hdn hI hF hd hn
    have hex : ∃ i, i < all.length ∧ listed.getD i false = false := by
      refine Classical.byContradiction fun hno => ?_
      have hall : ∀ i, i < all.length → listed.getD i false = true := by
        intro i hi
        cases hl : listed.getD i false with
        | true => rfl
        | false => exact absurd ⟨i, hi, hl⟩ hno
      rw [cntU_congr (g := fun i => decide (i < all.length)) _ (fun i hi => by rw [hall i hi]; simp [hi]), cntU_lt _ _ (Nat.le_refl _)] at hfu
      omega
    have hgd : ∀ i, i < all.length → listed.getD i true = listed.getD i false := by
      intro i hi
      simp only [Array.getD_eq_getD_getElem?, Array.getElem?_eq_getElem (show i < listed.size by omega), Option.getD_some]
    obtain ⟨i, hpi, hmi⟩ := pick_mem (ready_ne (md := md) hsz hS hex) t
    rw [ready_mem2] at hmi
    obtain ⟨hil, hiu, o, ho, hed⟩ := hmi
    rw [hgd i hil] at hiu
    have hed : ∀ e ∈ edgesP o, listed.getD e false = true := fun e he => hed e (plain_binds he)
    have hanc := anc_done2 hS hdn i o ho hed
    obtain ⟨itx, hix⟩ : ∃ x, its[i]? = some x := ⟨its[i]'(by rw [hD.len]; exact hil), List.getElem?_eq_getElem _⟩
    have hancE : ∀ j, anc i j → j < all.length ∧ listed.getD j false = true := by
      intro j hj
      have h1 := hanc j hj
      refine ⟨?_, h1⟩
      rcases Nat.lt_or_ge j all.length with h | h
      · exact h
      · simp only [Array.getD_eq_getD_getElem?, Array.getElem?_eq_none (show listed.size ≤ j by omega)] at h1; cases h1
    have hag := agree_of hD hI hil ho hancE
    have hnE : ¬ (i < all.length ∧ listed.getD i false = true) := by rw [hiu]; simp
    have hfr := fresh_of hD hI hix hnE
    have hGn : G.n = (Fs i).n := by rw [hI.n, (inv_text hD i (Nat.le_of_lt hil)).n]
    have hst := hA i o _ ho hix G hGn hag hfr
    have hI' := hI.step hD hix hnE
    have hE : (fun j => j = i ∨ j < all.length ∧ listed.getD j false = true) = (fun j => j < all.length ∧ (listed.setIfInBounds i true).getD j false = true) := by
      funext j
      rw [getD_set (by omega)]
      refine propext ⟨?_, ?_⟩
      · rintro (rfl | ⟨h1, h2⟩)
        · exact ⟨hil, by simp⟩
        · refine ⟨h1, ?_⟩
          split
          · rfl
          · exact h2
      · rintro ⟨h1, h2⟩
        split at h2
        · exact .inl (by assumption)
        · exact .inr ⟨h1, h2⟩
    rw [hE] at hI'
    have hfu' : fuel = cntU all.length (fun j => (listed.setIfInBounds i true).getD j false) := by
      have h1 := cntU_set (f := fun j => listed.getD j false) all.length hil hiu
      have h2 : cntU all.length (fun j => (listed.setIfInBounds i true).getD j false) = cntU all.length (fun j => if j = i then true else listed.getD j false) :=
        cntU_congr _ (fun j _ => getD_set (by omega) _)
      omega
    have hrest := fun a1 w1 σ1 => ih (t / (Region.ready md ⟨all⟩ listed).length) (listed.setIfInBounds i true) (G.ap itx) a1 w1 σ1 (by simpa using hsz) hfu'
      (by
        intro j o' ho' hj e he
        rw [getD_set (by omega)] at hj ⊢
        split
        · rfl
        · split at hj
          · rename_i hji
            subst hji
            rw [ho] at ho'
            injection ho' with ho'
            subst ho'
            exact hed e he
          · exact hdn j o' ho' hj e he) hI'
    rw [lin_step, hpi]
    dsimp only
    have hoa : (⟨all⟩ : Array Oper)[i]? = some o := by simpa using ho
    rcases hst with ⟨hw, hop⟩ | ⟨hw, hsk⟩
    · obtain ⟨a1, w1, σ1, k1, k2, k3, k4, k5, k6, k7⟩ := hop J a w σ hF hd hn b ks cs ⟨all⟩ i _ hoa (hw.sound hF)
      obtain ⟨a', w', σ', m1, m2, m3, m4, m5, m6⟩ := hrest a1 w1 σ1 k2 k3 (by omega)
      exact ⟨a', w', σ', k1.trans m1, m2, m3, k4.trans m4, m5.trans k6, m6.trans k7⟩
    · obtain ⟨g1, g2, g3⟩ := skip_sound hF hd o
      have hs := step_op_skip (P := P) (b := b) (a := a) (k := ks) (cs := cs) (w := w) (ops := ⟨all⟩) (i := i) (rest := Region.linearise.go md ⟨all⟩ fuel (t / (Region.ready md ⟨all⟩ listed).length) (listed.setIfInBounds i true) []) (by rw [hoa]; simpa using hw.sound hF)
      rw [hoa] at hs
      simp only [Option.bind_some] at hs
      rw [← hsk] at g1 g2 g3
      obtain ⟨a', w', σ', m1, m2, m3, m4, m5, m6⟩ := hrest _ w σ g1 g2 (by rw [g3, put_size]; exact hn)
      exact ⟨a', w', σ', .head hs m1, m2, m3, m4, m5.trans (put_defers _ _), m6.trans (put_size _ _)⟩
theorem Ex.draw2 {ks : List K} {Post : Fr → Prop} {id : Nat} (hS : Stat2 all anc) (hD : Dyn all all.length anc F its Fs) (hA : ∀ (i : Nat) (o : Oper) (x : It), all[i]? = some o → its[i]? = some x → AItem P ⟨all⟩ (Fs i) o x)
    (h : Ex P (.r ⟨all⟩ [] :: ks) (Fs all.length) Post) : Ex P (.c (.region id ⟨all⟩ true) :: ks) F Post := by
  intro J a w σ hok hF hd hn its' hi b cs
  obtain rfl := items_of (by intro b; simp) hi
  have hstep := step_region_draw (P := P) (b := b) (a := a) (k := ks.map itemK) (cs := cs) (w := w) (ops := ⟨all⟩) (id := id)
  obtain ⟨md, t, hsch⟩ : ∃ md t, Region.schedule (P.follows .mixedOrders) ⟨all⟩ (w.tape w.drawn (.order b.fn id)) = Region.linearise.go md ⟨all⟩ all.length t (Array.replicate all.length false) [] := by
    unfold Region.schedule
    split
    · exact ⟨.any, _, rfl⟩
    · exact ⟨_, _, rfl⟩
  rw [hsch] at hstep
  have hrep : ∀ (i : Nat) (d : Bool), (Array.replicate all.length false).getD i false = false := by
    intro i _
    simp only [Array.getD_eq_getD_getElem?, Array.getElem?_replicate]
    split <;> rfl
  have hF' : FR F σ { w with drawn := w.drawn + 1 } (valT a) := hF.drawn _
  obtain ⟨a1, w1, σ1, k1, k2, k3, k4, k5, k6⟩ := draw_run2 md hS hD hA b (ks.map itemK) cs all.length t (Array.replicate all.length false) F a { w with drawn := w.drawn + 1 } σ (by simp)
    (by
      rw [cntU_congr (g := fun i => decide (i < 0)) _ (fun i _ => by rw [hrep i false]; simp)]
      rw [cntU_lt _ _ (Nat.zero_le _)]
      simp)
    (fun i o _ hi => by rw [hrep i false] at hi; cases hi)
    (by
      have he : (fun j => j < all.length ∧ (Array.replicate all.length false).getD j false = true) = (fun _ => False) := by
        funext j; rw [hrep j false]; simp
      rw [he]
      exact Inv.start) hF' hd hn
  have hgo : Goes w σ w1 σ1 := (Goes.drawn w σ _).trans k4
  have hokr : okK (.r ⟨all⟩ []) := ⟨by simp, by simp⟩
  have hit : (K.r ⟨all⟩ [] :: ks).map itemK = .inRegion ⟨all⟩ [] :: ks.map itemK := by simp [itemK]
  obtain ⟨F', a', w', σ', todo, m0, m1, m2, m3, m4, m5, m6, m7⟩ := h J a1 w1 σ1 (okK_cons hokr (okK_tail hok)) k2 k3 (by rw [(inv_text hD all.length (Nat.le_refl _)).n]; omega) _ (.inl rfl) b cs
  rw [hit] at m1
  exact ⟨F', a', w', σ', todo, m0, .head hstep (k1.trans m1), m2, m3, hgo.trans m4, m5.trans (inv_text hD all.length (Nat.le_refl _)).n, m6.trans k5, m7.trans k6⟩
end
end Go.Proofs.Ytlmejcmnmdleaaa.Ai
