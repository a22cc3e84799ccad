/- The abstract interpreter, part 25: one operation, as the machine takes it. -/
import Derived.Test.YtlmejcmnmdleaaaAi24
namespace Go.Proofs.Ytlmejcmnmdleaaa.Ai
open Go Go.RowKit
set_option linter.unusedSectionVars false
set_option linter.unusedSimpArgs false
section
variable [Fence] {P : Program} {T : Nat → Option Ty} {w w' : World} {σ σ' : Gh} {F : Fr} {vt : Nat → Value} {a : Act}

theorem wop_made (hT : TyOK P T) (hF : FR F σ w (valT a)) (hd : Dom F σ []) {kn : Bool} {d : Nat} {o : Oper} {F' : Fr} (h : wop std T kn F d o.op = some F') : ∃ v w' σ', Made P F σ w a d (execOp a.eval o) F' v w' σ' := by
  generalize hop : o.op = op at h
  unfold wop at h
  split at h
  · rename_i x
    refine asg_made hF hd (v := a.eval x) ?_ (ev_sound hF x) h
    simp [execOp, hop]
  · exact box_made hF hd h hop
  · rename_i e
    split at h
    · rename_i ty ht
      split at h
      · rename_i hn
        simp at h
        subst h
        exact alloc_made hT hF hd ht hn hop
      · cases h
    · cases h
  · rename_i t len parts
    split at h
    · rename_i e g1 g2 g3 g4 ht
      split at h
      · rename_i ty hte
        split at h
        · rename_i hok
          simp only [Bool.and_eq_true] at hok
          obtain ⟨⟨⟨h1, h2⟩, h3⟩, h4⟩ := hok
          rw [cnt_eq] at h1
          split at h
          · rename_i ys F2 hb
            simp at h
            subst h
            exact build_made hT hF hd ht hte (Nat.eq_of_beq_eq_true h1) (le_of_nle h2) (le_of_nle h3) (le_of_nle h4) hb hop
          · cases h
        · cases h
      · cases h
    · cases h
  · rename_i t l c
    split at h
    · rename_i e g1 g2 g3 g4 ht
      split at h
      · rename_i ty k1 n k2 m hte hl hc
        split at h
        · rename_i hok
          simp only [Bool.and_eq_true] at hok
          obtain ⟨⟨⟨⟨h1, h2⟩, h3⟩, h4⟩, h5⟩ := hok
          rw [cnt_eq] at h4
          split at h
          · rename_i ys hr
            simp at h
            subst h
            exact make_made hT hF hd ht hte hl hc (by simpa [std] using h1) (le_of_nle h2) (le_of_nle h3) (Nat.eq_of_beq_eq_true h4) h5 hr hop
          · cases h
        · cases h
      · cases h
    · cases h
  · rename_i x y t t'
    split at h
    · rename_i e g1 g2 g3 g4 htt ht
      obtain rfl := Nat.eq_of_beq_eq_true htt
      split at h
      · rename_i ty hte
        exact append_made hT hF hd ht hte h hop
      · cases h
    · cases h
  · unfold putQO at h
    split at h
    · rename_i q hq
      simp at h
      subst h
      subst hop
      obtain ⟨v, h1, h2⟩ := qop_sound hT hF hq
      exact made_q hF hd h1 h2
    · cases h

/-- One operation: wherever it stands the machine takes it. -/
def OpGoes (P : Program) (F : Fr) (σ : Gh) (w : World) (a : Act) (o : Oper) (F' : Fr) : Prop :=
  ∀ (b : Frame) (k : List Item) (cs : List Frame) (ops : Array Oper) (i : Nat) (rest : List Nat), ops[i]? = some o → Region.wanted o (yielded ops a.tmps) = true →
    ∃ a' w' σ', Steps P (lone (b.at a (.inRegion ops (i :: rest) :: k)) cs w) (lone (b.at a' (.inRegion ops rest :: k)) cs w') ∧ FR F' σ' w' (valT a') ∧ Dom F' σ' [] ∧ Goes w σ w' σ' ∧ F'.n = F.n ∧ a'.defers = a.defers ∧ a'.tmps.size = a.tmps.size
theorem put_size (d : Option Tmp) (v : Value) : (a.put d v).tmps.size = a.tmps.size := by cases d <;> simp [Act.put]
theorem put_defers (d : Option Tmp) (v : Value) : (a.put d v).defers = a.defers := by cases d <;> rfl
theorem valT_undef {d : Nat} : valT (a.put (some d) undef) = upd (valT a) d undef := by
  by_cases h : d < a.tmps.size
  · exact valT_put h
  · funext t
    unfold valT upd Act.put
    simp only [Array.getD_eq_getD_getElem?]
    by_cases e : d = t
    · subst e; simp [Array.getElem?_eq_none (show (a.tmps.setIfInBounds d undef).size ≤ d by simp; omega)]
    · rw [if_neg e, Array.getElem?_setIfInBounds_ne e]
theorem call_goes (hF : FR F σ w (valT a)) (hd : Dom F σ []) {ora : Ora} (hO : ∀ g args r, ora g args = some r → CallOK P g args r) {d : Nat} (hlt : d < a.tmps.size) {f : Operand} {args : List Operand} {F' : Fr} (h : callW std ora F d f args = some F')
    {o : Oper} (hdst : o.dst = some d) {ts : Array TypeId} (ho : o.op = .call ⟨.value f, ⟨args⟩, ts⟩) : OpGoes P F σ w a o F' := by
  intro b k cs ops i rest hoi hw
  unfold callW askO at h
  split at h
  · rename_i g caps as hcal has
    split at h
    · rename_i r hr
      obtain ⟨⟨fn, c, hf, hb, hnm⟩, hok⟩ := hO _ _ _ hr
      obtain ⟨vs, hfv, hvl, hvs⟩ := callee_sound hF hcal
      obtain ⟨hal, hav⟩ := argsC_sound hF args as has
      -- the operation enters the callee
      have hrun : (execOp a.eval o).run P w = .ok (.enter g ((args.map a.eval).toArray ++ vs)) w := by
        have hnm' : ¬ fn.name = "runtime.NumGoroutine" := by simpa using hnm
        simp [execOp, ho, resolve, hfv, Deferred.ofValue, invoke, callFunc, hf, hb]
        exact hnm'
      have hsz : ((args.map a.eval).toArray ++ vs).size = (as ++ capsV caps).length := by simp [hal, hvl, capsV_length]
      have hargs : ∀ (J : Unit → Fence), ((∀ (k : Nat) (y : V1 C) (u : Value), as[k]? = some y → (args.map a.eval)[k]? = some u → RepV (fun _ => RepN w) y u → (lend F args = true → RepV (fun _ => @RepC (fenceOf σ) w (fun _ => none)) y u) → RepV (fun _ => @RepC (J ()) w (fun _ => none)) y u)) →
          (∀ (k : Nat) (c : C) (u : Value), caps[k]? = some c → vs[k]? = some u → RepN w c u → ((ev F f).isFz = true → @RepC (fenceOf σ) w (fun _ => none) c u) → @RepC (J ()) w (fun _ => none) c u) →
          ∀ (k : Nat) (x : V1 C), (as ++ capsV caps)[k]? = some x → ∃ u, ((args.map a.eval).toArray ++ vs)[k]? = some u ∧ RepV (fun _ => @RepC (J ()) w (fun _ => none)) x u := by
        intro J h1 h2 k x hk
        by_cases hk' : k < as.length
        · rw [List.getElem?_append_left hk'] at hk
          obtain ⟨u, h3, h4, h5⟩ := hav k x hk
          refine ⟨u, ?_, h1 k x u hk h3 h4 h5⟩
          rw [Array.getElem?_append_left (by simp; omega)]
          simpa using h3
        · rw [List.getElem?_append_right (by omega), capsV_get] at hk
          cases hc : caps[k - as.length]? with
          | none => rw [hc] at hk; simp at hk
          | some c =>
            rw [hc] at hk
            simp at hk
            subst hk
            obtain ⟨u, h3, h4, h5⟩ := hvs _ c hc
            refine ⟨u, ?_, h2 _ c u hc h3 h4 h5⟩
            rw [Array.getElem?_append_right (by simp; omega)]
            simpa [hal] using h3
      have hgo : ∀ (J : Unit → Fence), (r.cleanM std = true ∨ J () = fenceOf σ) → F.import std d r = some F' → Calls P g ((args.map a.eval).toArray ++ vs) w (fun e w' => ∃ v, e = .returned v ∧ @CallRes (J ()) w r v w') →
          ∃ a' w' σ', Steps P (lone (b.at a (.inRegion ops (i :: rest) :: k)) cs w) (lone (b.at a' (.inRegion ops rest :: k)) cs w') ∧ FR F' σ' w' (valT a') ∧ Dom F' σ' [] ∧ Goes w σ w' σ' ∧ F'.n = F.n ∧ a'.defers = a.defers ∧ a'.tmps.size = a.tmps.size := by
        intro J hJ himp hcalls
        have hg := stepG_op (P := P) (b := b) (k := k) (cs := cs) (w := w) (rest := rest) hoi hw
        obtain ⟨e, w', fr, ⟨v, he, hres⟩, hsteps, _, hleave⟩ := hcalls (b.at a (.inRegion ops (i :: rest) :: k) :: cs)
        subst he
        have henter : step P (lone (b.at a (.inRegion ops (i :: rest) :: k)) cs w) = .next (lone (Frame.enter P g ((args.map a.eval).toArray ++ vs) .normal) (b.at a (.inRegion ops (i :: rest) :: k) :: cs) w) :=
          step_lone_go (by rw [hg]; simp [stepG.apply, hrun, Frame.at])
        have hfin : (b.at a (.inRegion ops (i :: rest) :: k)).finish v = b.at (a.put o.dst v) (.inRegion ops rest :: k) := by rw [Frame.finish_at, hoi]; rfl
        obtain ⟨σ', h1, h2, h3, h4⟩ := import_sound hF hd (J1 := J) hres hJ himp
        refine ⟨a.put o.dst v, w', σ', .head henter (Steps.trans hsteps (.one ?_)), ?_, h2, h3, h4, put_defers _ _, put_size _ _⟩
        · rw [← hfin]; exact step_leave_returned hleave
        · rw [hdst, valT_put hlt]; exact h1
      split at h
      · rename_i hlend
        simp only [lend] at hlend
        split at hlend
        · rename_i hff
          refine hgo (fun _ => fenceOf σ) (.inr rfl) h (hok (fenceOf σ) w _ hsz (hargs (fun _ => fenceOf σ) ?_ ?_))
          · intro k y u _ _ _ h5; exact h5 hlend
          · intro k c u _ _ _ h5; exact h5 hff
        · cases hlend
      · split at h
        · rename_i hcl
          refine hgo (fun _ => noFence) (.inl hcl) h (hok noFence w _ hsz (hargs (fun _ => noFence) ?_ ?_))
          · intro k y u _ _ h4 _; exact h4
          · intro k c u _ _ h4 _; exact h4
        · cases h
    · cases h
  · cases h

theorem opS_sound (hT : TyOK P T) (hF : FR F σ w (valT a)) (hd : Dom F σ []) {ora : Ora} (hO : ∀ g args r, ora g args = some r → CallOK P g args r) (hn : F.n ≤ a.tmps.size) {kn : Bool} {o : Oper} {F' : Fr} (h : opS std T kn ora F o = some F') : OpGoes P F σ w a o F' := by
  unfold opS at h
  split at h
  · rename_i hdst
    split at h
    · rename_i t ad x hop
      split at h
      · rename_i ty ht
        obtain ⟨w', σ', hs⟩ := store_made hT hF hd ht h hop
        intro b k cs ops i rest hoi hw
        have hg := stepG_op (P := P) (b := b) (k := k) (cs := cs) (w := w) (rest := rest) hoi hw
        have hfin : ∀ v, (b.at a (.inRegion ops (i :: rest) :: k)).finish v = b.at (a.put o.dst v) (.inRegion ops rest :: k) := by intro v; rw [Frame.finish_at, hoi]; rfl
        have hput : a.put o.dst undef = a := by rw [hdst]; rfl
        refine ⟨a, w', σ', .one (step_lone_go ?_), hs.fr, hs.dom, hs.goes, hs.n, rfl, rfl⟩
        have hf := hfin undef
        rw [hput] at hf
        rw [hg, ← hf]
        simp [stepG.apply, hs.run]
      · cases h
    · cases h
  · rename_i d hdst
    split at h
    · rename_i hlt
      have hlt' : d < a.tmps.size := Nat.lt_of_lt_of_le (Nat.lt_of_succ_le (le_of_nle hlt)) hn
      split at h
      · rename_i f args ts hop
        exact call_goes hF hd hO hlt' h hdst hop
      · obtain ⟨v, w', σ', hm⟩ := wop_made hT hF hd h
        intro b k cs ops i rest hoi hw
        have hg := stepG_op (P := P) (b := b) (k := k) (cs := cs) (w := w) (rest := rest) hoi hw
        have hfin : ∀ v, (b.at a (.inRegion ops (i :: rest) :: k)).finish v = b.at (a.put o.dst v) (.inRegion ops rest :: k) := by intro v; rw [Frame.finish_at, hoi]; rfl
        refine ⟨a.put o.dst v, w', σ', .one (step_lone_go ?_), ?_, hm.dom, hm.goes, hm.n, put_defers _ _, put_size _ _⟩
        · rw [hg, ← hfin]
          simp [stepG.apply, hm.run]
        · rw [hdst, valT_put hlt']; exact hm.fr
    · cases h
end
end Go.Proofs.Ytlmejcmnmdleaaa.Ai
