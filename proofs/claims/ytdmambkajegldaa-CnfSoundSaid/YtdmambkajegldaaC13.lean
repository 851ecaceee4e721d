/- Law 14: models of what clauses resolve to, and of what is left. Conditions: none. -/
import Derived.Test.YtdmambkajegldaaC12
set_option linter.unusedSimpArgs false
set_option linter.unusedVariables false
namespace Go.Proofs.Ytdmambkajegldaa
open Go Go.Ab
variable {ext : Sem'}
set_option maxHeartbeats 16000000 in
theorem soundL_e (hx : TX ext) (f : Fm) (a b v : Int) (m : List Bool) (x : Int) (hv : v ≤ 9223372036854775807) : G ext 6 [f.av, .d (.int .i64 a), .d (.int .i64 b), .d (.int .i64 v), .d (.sl (m.map rowB)), .d (.int .i64 x)] [] = some (.ret (.d (.bool true)), []) := by
  have ha := alive14_e hx
  have hli := light_e hx f
  have hml : (m.map rowB).length = m.length := List.length_map _
  have hll : (f.l.map rowC).length = f.l.length := List.length_map _
  rw [G_body hx.clear rfl Try.func6 rfl Try.results6 hv_6 rfl]
  cases h1 : lightP f with
  | false =>
    rw [h1] at hli
    simp only [Fm.av] at hli ⊢
    simp (config := { maxSteps := 4000000 }) (disch := first | (intros; contradiction) | omega) only [go_sem, hli, ha]
  | true =>
    rw [h1] at hli
    have hs := (light_short h1).1
    have h60 : ∀ c, c ∈ f.l → c.length ≤ 60 := by
      unfold lightP at h1
      simp only [Bool.and_eq_true, List.all_eq_true] at h1
      exact fun c hc => (clause_inv (h1.2 c hc)).1
    have ho := own_e hx f
    have r2 := rright_e hx f hs
    have e1 := eval_e hx f hs m
    have hgs : ∀ x, Short (givenP f x) := by
      intro x
      refine ⟨?_, fun c hc => ?_⟩
      · have := hs.l
        unfold givenP
        split
        · have := List.length_filter_le (fun c => !hasP c x) f.l
          simp only [List.length_map]; omega
        · omega
      · unfold givenP at hc
        split at hc
        · obtain ⟨d, hd, rfl⟩ := List.mem_map.1 hc
          have h3 := hs.c d (List.mem_filter.1 hd).1
          have h4 : (cutP (IntKind.wrap .i64 (0 - x)) d).length ≤ d.length := List.length_filter_le _ _
          omega
        · exact hs.c c hc
    simp only [Fm.av] at hli ho r2 e1 ⊢
    by_cases h2 : (100 : Int) < ((m.map rowB).length : Int)
    · simp (config := { maxSteps := 4000000 }) (disch := first | (intros; contradiction) | omega) only [go_sem, hli, h2, ha]
    · by_cases h3 : f.n = ((m.map rowB).length : Int)
      · cases h4 : rightP f with
        | false =>
          rw [h4] at r2
          have h3 := eq_true h3
          simp (config := { maxSteps := 4000000 }) (disch := first | (intros; contradiction) | omega) only [go_sem, hli, h2, h3, r2, ha]
        | true =>
          rw [h4] at r2
          have hm : (m.length : Int) = f.n := by omega
          obtain ⟨q0, q1, q2⟩ := right_inv h4
          have h3' := eq_true h3
          by_cases k1 : 0 ≤ a
          · by_cases k2 : a < ((f.l.map rowC).length : Int)
            · by_cases k3 : 0 ≤ b
              · by_cases k4 : b < ((f.l.map rowC).length : Int)
                · have la : a.toNat < f.l.length := by omega
                  have lb : b.toNat < f.l.length := by omega
                  have ma := map_at (f := rowC) la
                  have mb := map_at (f := rowC) lb
                  have ia := List.getElem_mem la
                  have ib := List.getElem_mem lb
                  generalize f.l[a.toNat] = ca at ma ia
                  generalize f.l[b.toNat] = cb at mb ib
                  have sa := h60 ca ia
                  have sb := h60 cb ib
                  have aa : allP f.n ca = true := List.all_eq_true.2 (q2 ca ia)
                  have ab : allP f.n cb = true := List.all_eq_true.2 (q2 cb ib)
                  have hre := resolve_e hx ca cb v (by omega) (by omega) hv
                  have e3 := eval_e hx ⟨f.n, [ca, cb]⟩ ⟨by simp, fun d hd => by simp at hd; rcases hd with rfl | rfl <;> omega⟩ m
                  simp only [rowC] at ma mb
                  simp only [Fm.av, List.map_cons, List.map_nil, rowC] at e3
                  cases hrv : resolveP ca cb v with
                  | none =>
                    rw [hrv] at hre
                    simp only [resA] at hre
                    simp (config := { maxSteps := 4000000 }) (disch := first | (intros; contradiction) | omega) only [go_sem, hli, h2, h3', r2, k1, k2, k3, k4, ma, mb, hre]
                    by_cases z1 : x = 0
                    · have z1 := eq_true z1
                      simp (config := { maxSteps := 4000000 }) (disch := first | (intros; contradiction) | omega) only [go_sem, z1, ha]
                    · by_cases z2 : f.n < x
                      · simp (config := { maxSteps := 4000000 }) (disch := first | (intros; contradiction) | omega) only [go_sem, z1, z2, ha]
                      · by_cases z3 : x < IntKind.wrap .i64 (0 - f.n)
                        · simp (config := { maxSteps := 4000000 }) (disch := first | (intros; contradiction) | omega) only [go_sem, z1, z2, z3, ha]
                        · have hlx : litP f.n x = true := by
                            unfold litP
                            simp only [Bool.and_eq_true, decide_eq_true_eq, ne_eq]
                            exact ⟨z1, by omega, by omega⟩
                          have ht := rtrue_e hx f.n x m q0 q1 hm hlx
                          cases tx : trueP m x with
                          | false =>
                            rw [tx] at ht
                            simp (config := { maxSteps := 4000000 }) (disch := first | (intros; contradiction) | omega) only [go_sem, z1, z2, z3, ht, ha]
                          | true =>
                            rw [tx] at ht
                            have gs := given_sound h4 hm hlx tx
                            have g1 := given_e hx f hs x
                            have e2 := eval_e hx (givenP f x) (hgs x) m
                            rw [gs] at e2
                            generalize givenP f x = gf at g1 e2
                            simp only [Fm.av] at g1 e2
                            simp (config := { maxSteps := 4000000 }) (disch := first | (intros; contradiction) | omega) only [go_sem, z1, z2, z3, ht, ho, e1, g1, e2, ha]
                  | some c =>
                    rw [hrv] at hre
                    simp only [resA] at hre
                    have hcl : c.length ≤ 2000 := by
                      unfold resolveP at hrv
                      split at hrv
                      · cases hrv
                      · split at hrv
                        · cases hrv
                          have l1 : (withoutP v ca).length ≤ ca.length := List.length_filter_le _ _
                          have l2 : (withoutP (0 - v) cb).length ≤ cb.length := List.length_filter_le _ _
                          have l3 := len_norm (withoutP v ca ++ withoutP (0 - v) cb)
                          rw [List.length_append] at l3
                          omega
                        · cases hrv
                    cases t3 : evalP ⟨f.n, [ca, cb]⟩ m with
                    | false =>
                      rw [t3] at e3
                      simp (config := { maxSteps := 4000000 }) (disch := first | (intros; contradiction) | omega) only [go_sem, hli, h2, h3', r2, k1, k2, k3, k4, ma, mb, hre, e3]
                      by_cases z1 : x = 0
                      · have z1 := eq_true z1
                        simp (config := { maxSteps := 4000000 }) (disch := first | (intros; contradiction) | omega) only [go_sem, z1, ha]
                      · by_cases z2 : f.n < x
                        · simp (config := { maxSteps := 4000000 }) (disch := first | (intros; contradiction) | omega) only [go_sem, z1, z2, ha]
                        · by_cases z3 : x < IntKind.wrap .i64 (0 - f.n)
                          · simp (config := { maxSteps := 4000000 }) (disch := first | (intros; contradiction) | omega) only [go_sem, z1, z2, z3, ha]
                          · have hlx : litP f.n x = true := by
                              unfold litP
                              simp only [Bool.and_eq_true, decide_eq_true_eq, ne_eq]
                              exact ⟨z1, by omega, by omega⟩
                            have ht := rtrue_e hx f.n x m q0 q1 hm hlx
                            cases tx : trueP m x with
                            | false =>
                              rw [tx] at ht
                              simp (config := { maxSteps := 4000000 }) (disch := first | (intros; contradiction) | omega) only [go_sem, z1, z2, z3, ht, ha]
                            | true =>
                              rw [tx] at ht
                              have gs := given_sound h4 hm hlx tx
                              have g1 := given_e hx f hs x
                              have e2 := eval_e hx (givenP f x) (hgs x) m
                              rw [gs] at e2
                              generalize givenP f x = gf at g1 e2
                              simp only [Fm.av] at g1 e2
                              simp (config := { maxSteps := 4000000 }) (disch := first | (intros; contradiction) | omega) only [go_sem, z1, z2, z3, ht, ho, e1, g1, e2, ha]
                    | true =>
                      rw [t3] at e3
                      have tt : ca.any (trueP m) = true ∧ cb.any (trueP m) = true := by
                        unfold evalP at t3
                        simp only [List.all_cons, List.all_nil, Bool.and_eq_true] at t3
                        exact ⟨t3.2.2.1, t3.2.2.2.1⟩
                      have e4 := eval_e hx ⟨f.n, [c]⟩ ⟨by simp, fun d hd => by simp at hd; subst hd; omega⟩ m
                      rw [resolve_sound q0 q1 hm aa ab hrv tt.1 tt.2] at e4
                      simp only [Fm.av, List.map_cons, List.map_nil, rowC] at e4
                      simp (config := { maxSteps := 4000000 }) (disch := first | (intros; contradiction) | omega) only [go_sem, hli, h2, h3', r2, k1, k2, k3, k4, ma, mb, hre, e3, e4]
                      by_cases z1 : x = 0
                      · have z1 := eq_true z1
                        simp (config := { maxSteps := 4000000 }) (disch := first | (intros; contradiction) | omega) only [go_sem, z1, ha]
                      · by_cases z2 : f.n < x
                        · simp (config := { maxSteps := 4000000 }) (disch := first | (intros; contradiction) | omega) only [go_sem, z1, z2, ha]
                        · by_cases z3 : x < IntKind.wrap .i64 (0 - f.n)
                          · simp (config := { maxSteps := 4000000 }) (disch := first | (intros; contradiction) | omega) only [go_sem, z1, z2, z3, ha]
                          · have hlx : litP f.n x = true := by
                              unfold litP
                              simp only [Bool.and_eq_true, decide_eq_true_eq, ne_eq]
                              exact ⟨z1, by omega, by omega⟩
                            have ht := rtrue_e hx f.n x m q0 q1 hm hlx
                            cases tx : trueP m x with
                            | false =>
                              rw [tx] at ht
                              simp (config := { maxSteps := 4000000 }) (disch := first | (intros; contradiction) | omega) only [go_sem, z1, z2, z3, ht, ha]
                            | true =>
                              rw [tx] at ht
                              have gs := given_sound h4 hm hlx tx
                              have g1 := given_e hx f hs x
                              have e2 := eval_e hx (givenP f x) (hgs x) m
                              rw [gs] at e2
                              generalize givenP f x = gf at g1 e2
                              simp only [Fm.av] at g1 e2
                              simp (config := { maxSteps := 4000000 }) (disch := first | (intros; contradiction) | omega) only [go_sem, z1, z2, z3, ht, ho, e1, g1, e2, ha]
                · simp (config := { maxSteps := 4000000 }) (disch := first | (intros; contradiction) | omega) only [go_sem, hli, h2, h3', r2, k1, k2, k3, k4]
                  by_cases z1 : x = 0
                  · have z1 := eq_true z1
                    simp (config := { maxSteps := 4000000 }) (disch := first | (intros; contradiction) | omega) only [go_sem, z1, ha]
                  · by_cases z2 : f.n < x
                    · simp (config := { maxSteps := 4000000 }) (disch := first | (intros; contradiction) | omega) only [go_sem, z1, z2, ha]
                    · by_cases z3 : x < IntKind.wrap .i64 (0 - f.n)
                      · simp (config := { maxSteps := 4000000 }) (disch := first | (intros; contradiction) | omega) only [go_sem, z1, z2, z3, ha]
                      · have hlx : litP f.n x = true := by
                          unfold litP
                          simp only [Bool.and_eq_true, decide_eq_true_eq, ne_eq]
                          exact ⟨z1, by omega, by omega⟩
                        have ht := rtrue_e hx f.n x m q0 q1 hm hlx
                        cases tx : trueP m x with
                        | false =>
                          rw [tx] at ht
                          simp (config := { maxSteps := 4000000 }) (disch := first | (intros; contradiction) | omega) only [go_sem, z1, z2, z3, ht, ha]
                        | true =>
                          rw [tx] at ht
                          have gs := given_sound h4 hm hlx tx
                          have g1 := given_e hx f hs x
                          have e2 := eval_e hx (givenP f x) (hgs x) m
                          rw [gs] at e2
                          generalize givenP f x = gf at g1 e2
                          simp only [Fm.av] at g1 e2
                          simp (config := { maxSteps := 4000000 }) (disch := first | (intros; contradiction) | omega) only [go_sem, z1, z2, z3, ht, ho, e1, g1, e2, ha]
              · simp (config := { maxSteps := 4000000 }) (disch := first | (intros; contradiction) | omega) only [go_sem, hli, h2, h3', r2, k1, k2, k3]
                by_cases z1 : x = 0
                · have z1 := eq_true z1
                  simp (config := { maxSteps := 4000000 }) (disch := first | (intros; contradiction) | omega) only [go_sem, z1, ha]
                · by_cases z2 : f.n < x
                  · simp (config := { maxSteps := 4000000 }) (disch := first | (intros; contradiction) | omega) only [go_sem, z1, z2, ha]
                  · by_cases z3 : x < IntKind.wrap .i64 (0 - f.n)
                    · simp (config := { maxSteps := 4000000 }) (disch := first | (intros; contradiction) | omega) only [go_sem, z1, z2, z3, ha]
                    · have hlx : litP f.n x = true := by
                        unfold litP
                        simp only [Bool.and_eq_true, decide_eq_true_eq, ne_eq]
                        exact ⟨z1, by omega, by omega⟩
                      have ht := rtrue_e hx f.n x m q0 q1 hm hlx
                      cases tx : trueP m x with
                      | false =>
                        rw [tx] at ht
                        simp (config := { maxSteps := 4000000 }) (disch := first | (intros; contradiction) | omega) only [go_sem, z1, z2, z3, ht, ha]
                      | true =>
                        rw [tx] at ht
                        have gs := given_sound h4 hm hlx tx
                        have g1 := given_e hx f hs x
                        have e2 := eval_e hx (givenP f x) (hgs x) m
                        rw [gs] at e2
                        generalize givenP f x = gf at g1 e2
                        simp only [Fm.av] at g1 e2
                        simp (config := { maxSteps := 4000000 }) (disch := first | (intros; contradiction) | omega) only [go_sem, z1, z2, z3, ht, ho, e1, g1, e2, ha]
            · simp (config := { maxSteps := 4000000 }) (disch := first | (intros; contradiction) | omega) only [go_sem, hli, h2, h3', r2, k1, k2]
              by_cases z1 : x = 0
              · have z1 := eq_true z1
                simp (config := { maxSteps := 4000000 }) (disch := first | (intros; contradiction) | omega) only [go_sem, z1, ha]
              · by_cases z2 : f.n < x
                · simp (config := { maxSteps := 4000000 }) (disch := first | (intros; contradiction) | omega) only [go_sem, z1, z2, ha]
                · by_cases z3 : x < IntKind.wrap .i64 (0 - f.n)
                  · simp (config := { maxSteps := 4000000 }) (disch := first | (intros; contradiction) | omega) only [go_sem, z1, z2, z3, ha]
                  · have hlx : litP f.n x = true := by
                      unfold litP
                      simp only [Bool.and_eq_true, decide_eq_true_eq, ne_eq]
                      exact ⟨z1, by omega, by omega⟩
                    have ht := rtrue_e hx f.n x m q0 q1 hm hlx
                    cases tx : trueP m x with
                    | false =>
                      rw [tx] at ht
                      simp (config := { maxSteps := 4000000 }) (disch := first | (intros; contradiction) | omega) only [go_sem, z1, z2, z3, ht, ha]
                    | true =>
                      rw [tx] at ht
                      have gs := given_sound h4 hm hlx tx
                      have g1 := given_e hx f hs x
                      have e2 := eval_e hx (givenP f x) (hgs x) m
                      rw [gs] at e2
                      generalize givenP f x = gf at g1 e2
                      simp only [Fm.av] at g1 e2
                      simp (config := { maxSteps := 4000000 }) (disch := first | (intros; contradiction) | omega) only [go_sem, z1, z2, z3, ht, ho, e1, g1, e2, ha]
          · simp (config := { maxSteps := 4000000 }) (disch := first | (intros; contradiction) | omega) only [go_sem, hli, h2, h3', r2, k1]
            by_cases z1 : x = 0
            · have z1 := eq_true z1
              simp (config := { maxSteps := 4000000 }) (disch := first | (intros; contradiction) | omega) only [go_sem, z1, ha]
            · by_cases z2 : f.n < x
              · simp (config := { maxSteps := 4000000 }) (disch := first | (intros; contradiction) | omega) only [go_sem, z1, z2, ha]
              · by_cases z3 : x < IntKind.wrap .i64 (0 - f.n)
                · simp (config := { maxSteps := 4000000 }) (disch := first | (intros; contradiction) | omega) only [go_sem, z1, z2, z3, ha]
                · have hlx : litP f.n x = true := by
                    unfold litP
                    simp only [Bool.and_eq_true, decide_eq_true_eq, ne_eq]
                    exact ⟨z1, by omega, by omega⟩
                  have ht := rtrue_e hx f.n x m q0 q1 hm hlx
                  cases tx : trueP m x with
                  | false =>
                    rw [tx] at ht
                    simp (config := { maxSteps := 4000000 }) (disch := first | (intros; contradiction) | omega) only [go_sem, z1, z2, z3, ht, ha]
                  | true =>
                    rw [tx] at ht
                    have gs := given_sound h4 hm hlx tx
                    have g1 := given_e hx f hs x
                    have e2 := eval_e hx (givenP f x) (hgs x) m
                    rw [gs] at e2
                    generalize givenP f x = gf at g1 e2
                    simp only [Fm.av] at g1 e2
                    simp (config := { maxSteps := 4000000 }) (disch := first | (intros; contradiction) | omega) only [go_sem, z1, z2, z3, ht, ho, e1, g1, e2, ha]
      · simp (config := { maxSteps := 4000000 }) (disch := first | (intros; contradiction) | omega) only [go_sem, hli, h2, h3, ha, ne_eq, not_false_eq_true]
end Go.Proofs.Ytdmambkajegldaa
