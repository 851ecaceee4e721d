/- The document's answer for cnf. Conditions: none. -/
import Derived.Test.YtchedkjlhjfadaaC7
set_option linter.unusedSimpArgs false
set_option linter.unusedVariables false
namespace Go.Proofs.Ytchedkjlhjfadaa
open Go Go.Ab
variable {ext : Sem'}
set_option maxHeartbeats 2000000 in
theorem rright_e (hx : TX ext) (f : Fm) (hs : Short f) : G ext 14 [f.av] [] = some (.ret (.d (.bool (rightP f))), []) := by
  have hll : (f.l.map rowC).length = f.l.length := List.length_map _
  have hsl := hs.l
  have hli := fun x => rlit_e hx f.n x
  rw [G_body hx.clear rfl Try.func14 rfl Try.results14 hv_14 rfl]
  unfold rightP
  simp only [Fm.av]
  have h3 : ¬ (200000 : Int) < (f.l.length : Int) := by omega
  have h3' : ¬ (200000 : Int) < ((f.l.map rowC).length : Int) := by omega
  rw [decide_eq_false h3]
  by_cases h1 : f.n < 0
  · simp (config := { maxSteps := 4000000 }) (disch := first | (intros; contradiction) | omega) only [go_sem, h1] <;> rfl
  · by_cases h2 : 100000 < f.n
    · simp (config := { maxSteps := 4000000 }) (disch := first | (intros; contradiction) | omega) only [go_sem, h1, h2] <;> rfl
    · rw [decide_eq_false h1, decide_eq_false h2]
      simp only [Bool.not_false, Bool.true_and]
      simp (config := { maxSteps := 4000000 }) (disch := first | (intros; contradiction) | omega) only [go_sem, h1, h2, h3']
      generalize hL : loopA _ _ _ = L
      apply range_upd hL (by simp (config := { maxSteps := 4000000 }) (disch := first | (intros; contradiction) | omega) only [go_sem] <;> rfl) f.l rowC (α := Unit) (fun rest k _ => f.l.all (allP f.n) = rest.all (allP f.n)) (fun k _ => [(3, .d (.int .i64 k)), (4, .any)]) (fun _ _ => []) () (by simp (config := { maxSteps := 4000000 }) (disch := first | (intros; contradiction) | omega) only [go_sem] <;> rfl) rfl ?_ ?_
      · rintro c rest k _ i1 hlt hr hget hk _ next ih
        clear hL
        have hcs := hs.c c (List.mem_of_getElem? hget)
        have hcl : (c.map rowI).length = c.length := List.length_map _
        simp only [rowC] at hr
        rw [List.all_cons] at i1
        simp (config := { maxSteps := 4000000 }) (disch := first | (intros; contradiction) | omega) only [go_sem, hlt, hr]
        generalize hL : loopA _ _ _ = L
        apply range_upd hL (by simp (config := { maxSteps := 4000000 }) (disch := first | (intros; contradiction) | omega) only [go_sem] <;> rfl) c rowI (α := Unit) (fun rest2 j _ => allP f.n c = allP f.n rest2) (fun j _ => [(4, .d (.int .i64 j))]) (fun _ _ => []) () (by simp (config := { maxSteps := 4000000 }) (disch := first | (intros; contradiction) | omega) only [go_sem] <;> rfl) rfl ?_ ?_
        · rintro x rest2 j _ j1 hlt2 hr2 hget2 hj _ next2 ih2
          clear hL
          have hl1 := hli x
          simp only [rowI] at hr2
          unfold allP at j1
          rw [List.all_cons] at j1
          cases hb : litP f.n x with
          | false =>
            rw [hb] at hl1 j1
            unfold allP at i1
            rw [j1, Bool.false_and, Bool.false_and] at i1
            unfold allP
            rw [i1]
            simp (config := { maxSteps := 4000000 }) (disch := first | (intros; contradiction) | omega) only [go_sem, hlt2, hr, hr2, hl1]
          | true =>
            rw [hb] at hl1 j1
            simp (config := { maxSteps := 4000000 }) (disch := first | (intros; contradiction) | omega) only [go_sem, hlt2, hr, hr2, hl1, wrap64]
            exact ih2 () _ (by unfold allP; rw [j1]; simp) (by simp (config := { maxSteps := 4000000 }) (disch := first | (intros; contradiction) | omega) only [go_sem] <;> rfl)
        · rintro j _ j1 hlt2 hj next2
          clear hL
          have j1 : allP f.n c = true := j1
          rw [j1, Bool.true_and] at i1
          simp (config := { maxSteps := 4000000 }) (disch := first | (intros; contradiction) | omega) only [go_sem, hlt2, hr, wrap64]
          exact ih () _ i1 (by simp (config := { maxSteps := 4000000 }) (disch := first | (intros; contradiction) | omega) only [go_sem] <;> rfl)
      · rintro k _ i1 hlt hk next
        clear hL
        have i1 : f.l.all (allP f.n) = true := i1
        rw [i1]
        simp (config := { maxSteps := 4000000 }) (disch := first | (intros; contradiction) | omega) only [go_sem, hlt]
set_option maxHeartbeats 4000000 in
theorem reval_e (hx : TX ext) (f : Fm) (hs : Short f) (m : List Bool) : G ext 39 [f.av, .d (.sl (m.map rowB))] [] = some (.ret (.d (.bool (evalP f m))), []) := by
  have hr := rright_e hx f hs
  have hml : (m.map rowB).length = m.length := List.length_map _
  have hll : (f.l.map rowC).length = f.l.length := List.length_map _
  have hsl := hs.l
  rw [G_body hx.clear rfl Try.func39 rfl Try.results39 hv_39 rfl]
  unfold evalP
  cases h1 : rightP f with
  | false =>
    rw [h1] at hr
    simp only [Fm.av] at hr ⊢
    simp (config := { maxSteps := 4000000 }) (disch := first | (intros; contradiction) | omega) only [go_sem, hr, Bool.false_and]
  | true =>
    rw [h1] at hr
    obtain ⟨q0, q1, q2⟩ := right_inv h1
    simp only [Fm.av] at hr ⊢
    by_cases h2 : ((m.map rowB).length : Int) = f.n
    · have hm : (m.length : Int) = f.n := by omega
      rw [decide_eq_true hm]
      have h2 := eq_true h2
      simp (config := { maxSteps := 4000000 }) (disch := first | (intros; contradiction) | omega) only [go_sem, hr, h2, Bool.true_and]
      generalize hL : loopA _ _ _ = L
      apply range_upd hL (by simp (config := { maxSteps := 4000000 }) (disch := first | (intros; contradiction) | omega) only [go_sem] <;> rfl) f.l rowC (α := Unit) (fun rest k _ => (f.l.all fun c => c.any (trueP m)) = (rest.all fun c => c.any (trueP m))) (fun k _ => [(5, .d (.int .i64 k)), (6, .any), (7, .any)]) (fun _ _ => []) () (by simp (config := { maxSteps := 4000000 }) (disch := first | (intros; contradiction) | omega) only [go_sem] <;> rfl) rfl ?_ ?_
      · rintro c rest k _ i1 hlt hr2 hget hk _ next ih
        clear hL
        have hmem := List.mem_of_getElem? hget
        have hcl : (c.map rowI).length = c.length := List.length_map _
        have hcs := hs.c c hmem
        simp only [rowC] at hr2
        rw [List.all_cons] at i1
        simp (config := { maxSteps := 4000000 }) (disch := first | (intros; contradiction) | omega) only [go_sem, hlt, hr2]
        generalize hL : loopA _ _ _ = L
        apply range_upd hL (by simp (config := { maxSteps := 4000000 }) (disch := first | (intros; contradiction) | omega) only [go_sem] <;> rfl) c rowI (α := Bool) (fun rest2 j b => c.any (trueP m) = (b || rest2.any (trueP m))) (fun j b => [(6, .d (.bool b)), (7, .d (.int .i64 j))]) (fun _ _ => []) false (by simp (config := { maxSteps := 4000000 }) (disch := first | (intros; contradiction) | omega) only [go_sem] <;> rfl) rfl ?_ ?_
        · rintro x rest2 j b j1 hlt3 hr3 hget3 hj _ next2 ih2
          clear hL
          have he := rtrue_e hx f.n x m q0 q1 hm (q2 c hmem x (List.mem_of_getElem? hget3))
          simp only [rowI] at hr3
          rw [List.any_cons] at j1
          cases b with
          | true =>
            simp (config := { maxSteps := 4000000 }) (disch := first | (intros; contradiction) | omega) only [go_sem, hlt3, hr2, hr3, wrap64]
            exact ih2 true _ (by rw [j1]; simp) (by simp (config := { maxSteps := 4000000 }) (disch := first | (intros; contradiction) | omega) only [go_sem] <;> rfl)
          | false =>
            simp (config := { maxSteps := 4000000 }) (disch := first | (intros; contradiction) | omega) only [go_sem, hlt3, hr2, hr3, he, wrap64]
            exact ih2 (trueP m x) _ (by rw [j1]; simp) (by simp (config := { maxSteps := 4000000 }) (disch := first | (intros; contradiction) | omega) only [go_sem] <;> rfl)
        · rintro j b j1 hlt3 hj next2
          clear hL
          rw [List.any_nil, Bool.or_false] at j1
          rw [j1] at i1
          cases b with
          | true =>
            simp (config := { maxSteps := 4000000 }) (disch := first | (intros; contradiction) | omega) only [go_sem, hlt3, hr2, wrap64]
            exact ih () _ (by rw [i1]; simp) (by simp (config := { maxSteps := 4000000 }) (disch := first | (intros; contradiction) | omega) only [go_sem] <;> rfl)
          | false =>
            rw [i1]
            simp (config := { maxSteps := 4000000 }) (disch := first | (intros; contradiction) | omega) only [go_sem, hlt3, hr2, Bool.false_and]
      · rintro k _ i1 hlt hk next
        rw [i1]
        simp (config := { maxSteps := 4000000 }) (disch := first | (intros; contradiction) | omega) only [go_sem, hlt, List.all_nil]
    · have hm : ¬ (m.length : Int) = f.n := by omega
      rw [decide_eq_false hm]
      simp (config := { maxSteps := 4000000 }) (disch := first | (intros; contradiction) | omega) only [go_sem, hr, h2, ne_eq, not_false_eq_true, Bool.false_and, Bool.and_false]
set_option maxHeartbeats 4000000 in
theorem rgiven_e (hx : TX ext) (f : Fm) (hs : Short f) (x : Int) : G ext 55 [f.av, .d (.int .i64 x)] [] = some (.ret (givenP f x).av, []) := by
  have hr := rright_e hx f hs
  have hli := rlit_e hx f.n x
  have hll : (f.l.map rowC).length = f.l.length := List.length_map _
  have hsl := hs.l
  rw [G_body hx.clear rfl Try.func55 rfl Try.results55 hv_55 rfl]
  unfold givenP
  cases h1 : rightP f with
  | false =>
    rw [h1] at hr
    rw [if_neg (by simp)]
    simp only [Fm.av] at hr ⊢
    simp (config := { maxSteps := 4000000 }) (disch := first | (intros; contradiction) | omega) only [go_sem, hr]
  | true =>
    rw [h1] at hr
    cases h2 : litP f.n x with
    | false =>
      rw [h2] at hli
      rw [if_neg (by simp)]
      simp only [Fm.av] at hr ⊢
      simp (config := { maxSteps := 4000000 }) (disch := first | (intros; contradiction) | omega) only [go_sem, hr, hli]
    | true =>
      rw [h2] at hli
      rw [if_pos ⟨rfl, rfl⟩]
      simp only [Fm.av] at hr ⊢
      simp (config := { maxSteps := 4000000 }) (disch := first | (intros; contradiction) | omega) only [go_sem, hr, hli]
      generalize hL : loopA _ _ _ = L
      apply range_upd hL (by simp (config := { maxSteps := 4000000 }) (disch := first | (intros; contradiction) | omega) only [go_sem] <;> rfl) f.l rowC (α := List (List Int)) (fun rest k out => out ++ (rest.filter fun c => !hasP c x).map (cutP (IntKind.wrap .i64 (0 - x))) = (f.l.filter fun c => !hasP c x).map (cutP (IntKind.wrap .i64 (0 - x))) ∧ out.length ≤ k) (fun k _ => [(6, .d (.int .i64 k)), (7, .any), (8, .any)])
        (fun k out => [(3, .cells [.d (.int .i64 f.n), .grow 4 out.length (out.map rowC)]), (4, .grow out.length 1)]) [] (by simp (config := { maxSteps := 4000000 }) (disch := first | (intros; contradiction) | omega) only [go_sem] <;> rfl) ⟨rfl, Nat.le_refl _⟩ ?_ ?_
      · rintro c rest k out ⟨i1, i2⟩ hlt hr2 hget hk _ next ih
        clear hL
        have hmem := List.mem_of_getElem? hget
        have hcs := hs.c c hmem
        have hco := rhasv_e hx c x (by omega)
        have hcl : (c.map rowI).length = c.length := List.length_map _
        simp only [rowC] at hr2
        rw [List.filter_cons] at i1
        cases hb : hasP c x with
        | true =>
          rw [hb] at hco i1
          simp (config := { maxSteps := 4000000 }) (disch := first | (intros; contradiction) | omega) only [go_sem, hlt, hr2, hco, wrap64]
          exact ih out _ ⟨by simpa using i1, by omega⟩ (by simp (config := { maxSteps := 4000000 }) (disch := first | (intros; contradiction) | omega) only [go_sem] <;> rfl)
        | false =>
          rw [hb] at hco i1
          simp only [Bool.not_false, if_true, List.map_cons] at i1
          simp (config := { maxSteps := 4000000 }) (disch := first | (intros; contradiction) | omega) only [go_sem, hlt, hr2, hco]
          generalize hL : loopA _ _ _ = L
          apply range_upd hL (by simp (config := { maxSteps := 4000000 }) (disch := first | (intros; contradiction) | omega) only [go_sem] <;> rfl) c rowI (α := List Int) (fun rest2 j d => d ++ cutP (IntKind.wrap .i64 (0 - x)) rest2 = cutP (IntKind.wrap .i64 (0 - x)) c ∧ d.length ≤ j) (fun j d => [(7, .grow 5 d.length (d.map rowI)), (8, .d (.int .i64 j))]) (fun j d => [(5, .grow d.length 1)]) [] (by simp (config := { maxSteps := 4000000 }) (disch := first | (intros; contradiction) | omega) only [go_sem] <;> rfl) ⟨rfl, Nat.le_refl _⟩ ?_ ?_
          · rintro y rest2 j d ⟨j1, j2⟩ hlt3 hr3 hget3 hj _ next2 ih2
            clear hL
            simp only [rowI] at hr3
            unfold cutP at j1
            rw [List.filter_cons] at j1
            by_cases hy : y = IntKind.wrap .i64 (0 - x)
            · rw [decide_eq_true hy] at j1
              have hy := eq_true hy
              simp (config := { maxSteps := 4000000 }) (disch := first | (intros; contradiction) | omega) only [go_sem, hlt3, hr2, hr3, hy, wrap64]
              exact ih2 d _ ⟨by simpa [cutP] using j1, by omega⟩ (by simp (config := { maxSteps := 4000000 }) (disch := first | (intros; contradiction) | omega) only [go_sem] <;> rfl)
            · rw [decide_eq_false hy] at j1
              have hroom : room ((d.map rowI).length + 1) 8 := by unfold room; simp; omega
              simp only [Bool.not_false, if_true] at j1
              simp (config := { maxSteps := 4000000 }) (disch := first | (intros; contradiction) | omega) only [go_sem, hlt3, hr2, hr3, hy, hroom, wrap64, ne_eq, not_false_eq_true]
              exact ih2 (d ++ [y]) _ ⟨by rw [List.append_assoc]; simpa [cutP] using j1, by simp; omega⟩ (by simp (config := { maxSteps := 4000000 }) (disch := first | (intros; contradiction) | omega) only [go_sem, List.map_append, List.length_append, List.length_cons, List.length_nil, List.map_cons, List.map_nil, rowI] <;> rfl)
          · rintro j d ⟨j1, j2⟩ hlt3 hj next2
            clear hL
            have j1 : d ++ [] = cutP (IntKind.wrap .i64 (0 - x)) c := j1
            rw [List.append_nil] at j1
            rw [← j1] at i1
            have hroom : room ((out.map rowC).length + 1) 24 := room_c (by simp; omega)
            simp (config := { maxSteps := 4000000 }) (disch := first | (intros; contradiction) | omega) only [go_sem, hlt3, hr2, hroom, wrap64]
            exact ih (out ++ [d]) _ ⟨by rw [← i1]; simp, by simp; omega⟩ (by simp (config := { maxSteps := 4000000 }) (disch := first | (intros; contradiction) | omega) only [go_sem, List.map_append, List.length_append, List.length_cons, List.length_nil, List.map_cons, List.map_nil, rowC] <;> rfl)
      · rintro k out ⟨i1, i2⟩ hlt hk next
        clear hL
        simp only [List.filter_nil, List.map_nil, List.append_nil] at i1
        rw [← i1]
        simp (config := { maxSteps := 4000000 }) (disch := first | (intros; contradiction) | omega) only [go_sem, hlt]
end Go.Proofs.Ytchedkjlhjfadaa
