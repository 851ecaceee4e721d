/- Law 14: the example; clauses in order; which formulas are true. Conditions: none. -/
import Derived.Test.YtdmambkajegldaaC11
import Derived.Test.YtdmambkajegldaaP14
set_option linter.unusedSimpArgs false
set_option linter.unusedVariables false
namespace Go.Proofs.Ytdmambkajegldaa
open Go Go.Ab
variable {ext : Sem'}
set_option maxHeartbeats 4000000 in
theorem alive14_e (hx : TX ext) : G ext 8 [] [] = some (.ret (.d (.bool true)), []) := by
  have h1 := resolve_e hx [1, 2] [-1, 3] 1 (by decide) (by decide) (by decide)
  have hr : resolveP [1, 2] [-1, 3] 1 = some [2, 3] := by decide
  rw [hr] at h1
  have h2 := new_e hx
  have h3 := var_e hx 0 0 []
  have h4 := var_e hx 1 0 []
  rw [show IntKind.wrap .i64 (0 + 1) = 1 from by decide] at h3
  rw [show IntKind.wrap .i64 (1 + 1) = 2 from by decide] at h4
  have h5 := imply_e hx 2 0 [] [1] [2] (by decide) (by decide) (by decide)
  have hc : bldC 2 0 [] (negs [1] ++ [2]) = bldO 2 1 [[-1, 2]] := by
    unfold bldC
    rw [if_pos (by decide)]
    rfl
  rw [hc] at h5
  have h6 := G_ext (hx.bformula 2 1 [[-1, 2]] (by decide) (by simp))
  have hs : Short ⟨2, [[-1, 2]]⟩ := ⟨by decide, by simp⟩
  have h7 := eval_e hx ⟨2, [[-1, 2]]⟩ hs [true, true]
  have h8 := eval_e hx ⟨2, [[-1, 2]]⟩ hs [true, false]
  rw [show evalP ⟨2, [[-1, 2]]⟩ [true, true] = true from by decide] at h7
  rw [show evalP ⟨2, [[-1, 2]]⟩ [true, false] = false from by decide] at h8
  simp only [bldO, Fm.av, resA, List.map_cons, List.map_nil, rowI, rowC, rowB] at h1 h2 h3 h4 h5 h6 h7 h8
  rw [G_body hx.clear rfl Try.func8 rfl Try.results8 hv_8 rfl]
  simp (config := { maxSteps := 4000000 }) (disch := first | (intros; contradiction) | omega) only [go_sem, h1, h2, h3, h4, h5, h6, h7, h8]
theorem model_len {m : List Bool} (h : ¬ (100 : Int) < ((m.map rowB).length : Int)) : m.length ≤ 100 := by simp at h; omega
set_option maxHeartbeats 4000000 in
theorem evalsL_e (hx : TX ext) (f : Fm) (m : List Bool) (x : Int) : G ext 5 [f.av, .d (.sl (m.map rowB)), .d (.int .i64 x)] [] = some (.ret (.d (.bool true)), []) := by
  have ha := alive14_e hx
  have hli := light_e hx f
  have hml : (m.map rowB).length = m.length := List.length_map _
  rw [G_body hx.clear rfl Try.func5 rfl Try.results5 hv_5 rfl]
  cases h1 : lightP f with
  | false =>
    rw [h1] at hli
    simp only [Fm.av] at hli ⊢
    simp (config := { maxSteps := 4000000 }) (disch := first | (intros; contradiction) | omega) only [go_sem, hli, ha]
  | true =>
    rw [h1] at hli
    have hs := (light_short h1).1
    have ho := own_e hx f
    have r1 := right_e hx f hs
    have r2 := rright_e hx f hs
    have e1 := eval_e hx f hs m
    have e2 := reval_e hx f hs m
    have g1 := given_e hx f hs x
    have g2 := rgiven_e hx f hs x
    have sm := same_e hx (givenP f x) (givenP f x) (by
      have := hs.l
      unfold givenP
      split
      · have := List.length_filter_le (fun c => !hasP c x) f.l
        simp only [List.length_map]; omega
      · omega) (fun c hc => by
      unfold givenP at hc
      split at hc
      · obtain ⟨d, hd, rfl⟩ := List.mem_map.1 hc
        have h3 := hs.c d (List.mem_filter.1 hd).1
        have h4 : (cutP (IntKind.wrap .i64 (0 - x)) d).length ≤ d.length := List.length_filter_le _ _
        omega
      · have := hs.c c hc; omega)
    rw [decide_eq_true rfl, decide_eq_true rfl] at sm
    simp only [Bool.and_self] at sm
    generalize givenP f x = gf at g1 g2 sm
    simp only [Fm.av] at hli ho r1 r2 e1 e2 g1 g2 sm ⊢
    by_cases h2 : (100 : Int) < ((m.map rowB).length : Int)
    · simp (config := { maxSteps := 4000000 }) (disch := first | (intros; contradiction) | omega) only [go_sem, hli, h2, ha]
    · by_cases h3 : x < -1000000
      · simp (config := { maxSteps := 4000000 }) (disch := first | (intros; contradiction) | omega) only [go_sem, hli, h2, h3, ha]
      · by_cases h4 : 1000000 < x
        · simp (config := { maxSteps := 4000000 }) (disch := first | (intros; contradiction) | omega) only [go_sem, hli, h2, h3, h4, ha]
        · simp (config := { maxSteps := 4000000 }) (disch := first | (intros; contradiction) | omega) only [go_sem, hli, h2, h3, h4, ho, r1, r2, e1, e2, g1, g2, sm, ha]
set_option maxHeartbeats 4000000 in
theorem orderL_e (hx : TX ext) (c : List Int) (m : List Bool) : G ext 3 [.d (.sl (c.map rowI)), .d (.sl (m.map rowB))] [] = some (.ret (.d (.bool true)), []) := by
  have ha := alive14_e hx
  have hc := clause_e hx c
  have hml : (m.map rowB).length = m.length := List.length_map _
  rw [G_body hx.clear rfl Try.func3 rfl Try.results3 hv_3 rfl]
  cases h1 : clauseP c with
  | false =>
    rw [h1] at hc
    simp (config := { maxSteps := 4000000 }) (disch := first | (intros; contradiction) | omega) only [go_sem, hc, ha]
  | true =>
    rw [h1] at hc
    have hl := (clause_inv h1).1
    have hnl := len_norm c
    have n1 := norm_e hx c (by omega)
    have n2 := norm_e hx (normL c) (by omega)
    rw [norm_norm] at n2
    have hnum := numbers_e hx (normL c) (normL c) (by omega)
    rw [decide_eq_true rfl] at hnum
    have e1 := eval_e hx ⟨(m.length : Int), [c]⟩ ⟨by simp, fun d hd => by simp at hd; subst hd; omega⟩ m
    have e2 := eval_e hx ⟨(m.length : Int), [normL c]⟩ ⟨by simp, fun d hd => by simp at hd; subst hd; omega⟩ m
    rw [eval_norm] at e2
    generalize evalP ⟨(m.length : Int), [c]⟩ m = b at e1 e2
    generalize cleanL (normL c) = b2 at n1 n2
    generalize normL c = d at n1 n2 hnum e2
    simp only [Fm.av, List.map_cons, List.map_nil, rowC] at e1 e2
    rw [← hml] at e1 e2
    by_cases h2 : (100 : Int) < ((m.map rowB).length : Int)
    · simp (config := { maxSteps := 4000000 }) (disch := first | (intros; contradiction) | omega) only [go_sem, hc, h2, ha]
    · simp (config := { maxSteps := 4000000 }) (disch := first | (intros; contradiction) | omega) only [go_sem, hc, h2, n1, n2, hnum, e1, e2, ha]
end Go.Proofs.Ytdmambkajegldaa
