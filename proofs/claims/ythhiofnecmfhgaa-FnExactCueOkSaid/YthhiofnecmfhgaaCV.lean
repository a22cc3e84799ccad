/- The two CueOk. -/
import Derived.Test.YthhiofnecmfhgaaCU
namespace Go.Proofs.Ythhiofnecmfhgaa.Ai
open Go
set_option maxRecDepth 100000
set_option linter.unusedVariables false
set_option linter.unusedSimpArgs false
def lv5 : List (Nat × Option (List Nat)) := [(3, some [0, 1]), (5, some [1, 2, 93]), (6, some [1, 2]), (7, some [1, 2, 5]), (8, some [1, 2, 6]), (9, some [1, 2, 7]), (10, some [1, 2, 8]), (11, some [1, 2, 8, 9]), (12, some [1, 2, 8, 10]), (13, some [1, 2, 8, 11]), (14, some [1, 2, 8, 12]), (15, some [1, 2, 13]), (16, some [1, 2, 14]), (17, some [1, 2, 14, 15]), (18, some [1, 2, 14, 16]), (19, some [1, 2, 14, 17]), (20, some [1, 2, 18]), (21, some [1, 2, 19]), (22, some [1, 2, 19, 20]), (23, some [1, 2, 19, 21]), (24, some [2, 19, 21, 22]), (25, some [2, 19, 23]), (26, some [2, 24]), (27, some [2, 25]), (28, some [2, 25, 26]), (29, some [2, 25, 27]), (30, some [2, 25, 28]), (31, some [2, 25, 29]), (32, some [2, 25, 29, 30]), (33, some [2, 25, 29, 31]), (34, some [2, 25, 29, 32]), (35, some [2, 25, 33]), (36, some [2, 34]), (37, some [2, 35]), (38, some [2, 35, 36]), (39, some [2, 35, 37]), (40, some [2, 35, 38]), (41, some [2, 39]), (42, some [2, 40]), (43, some [2, 40, 41]), (44, some [2, 40, 42]), (45, some [2, 40, 42, 43]), (46, some [2, 40, 42, 44]), (47, some [2, 40, 45]), (48, some [2, 46]), (49, some [2, 47]), (50, some [2, 47, 48]), (51, some [2, 47, 49]), (52, some [2, 47, 50]), (53, some [2, 51]), (54, some [2, 52]), (55, some [2, 52, 53]), (56, some [2, 52, 54]), (57, some [2, 52, 55]), (58, some [2, 56]), (59, some [2, 57]), (60, some [2, 57, 58]), (61, some [2, 57, 59]), (62, some [2, 57, 59, 60]), (63, some [2, 57, 59, 61]), (64, some [2, 57, 62]), (65, some [2, 63]), (66, some [2, 64]), (67, some [2, 64, 65]), (68, some [2, 64, 66]), (69, some [2, 64, 67]), (70, some [2, 68]), (71, some [2, 69]), (72, some [2, 69, 70]), (73, some [2, 69, 71]), (74, some [2, 69, 72]), (75, some [2, 69, 73]), (76, some [2, 69, 73, 74]), (77, some [2, 69, 73, 75]), (78, some [2, 69, 73, 76]), (79, some [2, 69, 77]), (80, some [2, 78]), (81, some [2, 79]), (82, some [2, 79, 80]), (83, some [2, 79, 81]), (84, some [2, 79, 82]), (85, some [2, 83]), (86, some [2, 84]), (87, some [2, 84, 85]), (88, some [2, 84, 86]), (89, some [2, 84, 87]), (90, some [2, 88]), (91, some [2, 89]), (92, some [89, 90]), (93, some [89, 91]), (94, some [89, 92])]
set_option maxHeartbeats 4000000 in
theorem specCueOk_ok (q : Cue) (i : Int) (hs : q.name.size ≤ maxLen) : SCall Try.prog 5 [aCue q, aI i] (rB (cueB q i)) := by
  refine SCall.of XX_ok (fn := Try.f5) (c := Try.f5.body.getD .skip) (dr := fun n => look 0 [] n) Try.func5 rfl (by kernel_rfl) (by kernel_rfl) (by kernel_rfl) ?_
  obtain ⟨f, hf⟩ : ∃ f, f = (nameL · 0) := ⟨_, rfl⟩
  obtain ⟨g, hg⟩ : ∃ g, g = inB := ⟨_, rfl⟩
  have hO : SOraOK Try.prog (oraL [(9, wInB g), (8, wNameS f)]) := by subst hf hg; exact oraL_cons wInB_ok (oraL_cons wNameS_ok oraL_nil)
  obtain ⟨x1, x2, x3, x4, x5, x6, x7, x8, x9, x10, x11⟩ := q
  have hs : x1.size ≤ maxLen := hs
  clear hs
  refine SEx.go (X := XX) XX_ok (fun n => look [] [] n) (fun n => look none lv5 n) hO 12 ?_
  intro M R L N hM hAnd hImp hR hL hN
  cases M
  cbv
  repeat' first | (refine hAnd _ _ ?_ ?_) | (refine hImp _ _ (fun h => ?_)) | (refine hR _ ?_) | (refine hL _ _ (Hd.out ?_); try rw [hks]) | (refine hN _ _ ?_; cbv)
  all_goals (clear hAnd hImp hR hL hN; try clear hks)
  all_goals (cases hM; try dsimp only)
  all_goals (try simp only [Bool.not_eq_true', Bool.not_eq_false', decide_eq_true_eq, decide_eq_false_iff_not, Int.not_le, Int.not_lt, beq_iff_eq, beq_eq_false_iff_ne, ne_eq, Int.ofNat_eq_natCast, Int.toNat_natCast] at *)
  all_goals first
    | exact ⟨hs⟩
    | (clear hO hs; simp only [er_B, cueB]; subst hf hg; rw [Bool.eq_iff_iff]; simp_all [inB]; try omega)
def lv7 : List (Nat × Option (List Nat)) := [(3, some [0, 1]), (5, some [1, 2, 93]), (6, some [1, 2]), (7, some [1, 2, 5]), (8, some [1, 2, 6]), (9, some [1, 2, 7]), (10, some [1, 2, 8]), (11, some [1, 2, 9]), (12, some [1, 2, 9, 10]), (13, some [1, 2, 9, 11]), (14, some [1, 2, 9, 12]), (15, some [1, 2, 9, 13]), (16, some [1, 2, 14]), (17, some [1, 2, 15]), (18, some [1, 2, 15, 16]), (19, some [1, 2, 15, 17]), (20, some [1, 2, 15, 18]), (21, some [1, 2, 19]), (22, some [1, 2, 20]), (23, some [1, 2, 20, 21]), (24, some [1, 2, 20, 22]), (25, some [2, 20, 22, 23]), (26, some [2, 20, 24]), (27, some [2, 25]), (28, some [2, 26]), (29, some [2, 26, 27]), (30, some [2, 26, 28]), (31, some [2, 26, 29]), (32, some [2, 26, 30]), (33, some [2, 26, 30, 31]), (34, some [2, 26, 30, 32]), (35, some [2, 26, 33]), (36, some [2]), (37, some [2, 35]), (38, some [2, 36]), (39, some [2, 37]), (40, some [2, 38]), (41, some [2, 38, 39]), (42, some [2, 38, 40]), (43, some [2, 38, 40, 41]), (44, some [2, 38, 40, 42]), (45, some [2, 38, 43]), (46, some [2, 44]), (47, some [2, 45]), (48, some [2, 45, 46]), (49, some [2, 45, 47]), (50, some [2, 45, 48]), (51, some [2, 49]), (52, some [2, 50]), (53, some [2, 50, 51]), (54, some [2, 50, 52]), (55, some [2, 50, 53]), (56, some [2, 54]), (57, some [2, 55]), (58, some [2, 55, 56]), (59, some [2, 55, 57]), (60, some [2, 55, 57, 58]), (61, some [2, 55, 57, 59]), (62, some [2, 55, 60]), (63, some [2, 61]), (64, some [2, 62]), (65, some [2, 62, 63]), (66, some [2, 62, 64]), (67, some [2, 62, 65]), (68, some [2, 66]), (69, some [2, 67]), (70, some [2, 67, 68]), (71, some [2, 67, 69]), (72, some [2, 67, 70]), (73, some [2, 67, 70, 71]), (74, some [2, 67, 70, 72]), (75, some [2, 67, 70, 73]), (76, some [2, 67, 74]), (77, some [2]), (78, some [2, 76]), (79, some [2, 77]), (80, some [2, 78]), (81, some [2, 79]), (82, some [2, 79, 80]), (83, some [2, 79, 81]), (84, some [2, 79, 82]), (85, some [2, 83]), (86, some [2, 84]), (87, some [2, 84, 85]), (88, some [2, 84, 86]), (89, some [2, 84, 87]), (90, some [2, 88]), (91, some [2, 89]), (92, some [89, 90]), (93, some [89, 91]), (94, some [89, 92])]
set_option maxHeartbeats 4000000 in
theorem implCueOk_ok (q : Cue) (i : Int) (hs : q.name.size ≤ maxLen) : SCall Try.prog 7 [aCue q, aI i] (rB (cueB q i)) := by
  refine SCall.of XX_ok (fn := Try.f7) (c := Try.f7.body.getD .skip) (dr := fun n => look 0 [] n) Try.func7 rfl (by kernel_rfl) (by kernel_rfl) (by kernel_rfl) ?_
  obtain ⟨f, hf⟩ : ∃ f, f = (nameL · 0) := ⟨_, rfl⟩
  obtain ⟨g, hg⟩ : ∃ g, g = upTo := ⟨_, rfl⟩
  have hO : SOraOK Try.prog (oraL [(11, wUpTo g), (10, wNameS f)]) := by subst hf hg; exact oraL_cons wUpTo_ok (oraL_cons wNameI_ok oraL_nil)
  obtain ⟨x1, x2, x3, x4, x5, x6, x7, x8, x9, x10, x11⟩ := q
  have hs : x1.size ≤ maxLen := hs
  clear hs
  refine SEx.go (X := XX) XX_ok (fun n => look [] [] n) (fun n => look none lv7 n) hO 12 ?_
  intro M R L N hM hAnd hImp hR hL hN
  cases M
  cbv
  repeat' first | (refine hAnd _ _ ?_ ?_) | (refine hImp _ _ (fun h => ?_)) | (refine hR _ ?_) | (refine hL _ _ (Hd.out ?_); try rw [hks]) | (refine hN _ _ ?_; cbv)
  all_goals (clear hAnd hImp hR hL hN; try clear hks)
  all_goals (cases hM; try dsimp only)
  all_goals (try simp only [Bool.not_eq_true', Bool.not_eq_false', decide_eq_true_eq, decide_eq_false_iff_not, Int.not_le, Int.not_lt, beq_iff_eq, beq_eq_false_iff_ne, ne_eq, Int.ofNat_eq_natCast, Int.toNat_natCast] at *)
  all_goals first
    | exact ⟨hs⟩
    | (clear hO hs; simp only [er_B, cueB]; subst hf hg; rw [Bool.eq_iff_iff]; simp_all [upTo]; try omega)
def wCueS (f : Cue → Int → Bool) : Wr := w2 dcCue dcI (fun q i => rB (f q i)) (fun q _ => [SLen q.name])
theorem wCueS_ok : WrOK Try.prog 5 (wCueS cueB) := w2_ok fun q i h => specCueOk_ok q i (h _ List.mem_cons_self).out
theorem wCueI_ok : WrOK Try.prog 7 (wCueS cueB) := w2_ok fun q i h => implCueOk_ok q i (h _ List.mem_cons_self).out
end Go.Proofs.Ythhiofnecmfhgaa.Ai
