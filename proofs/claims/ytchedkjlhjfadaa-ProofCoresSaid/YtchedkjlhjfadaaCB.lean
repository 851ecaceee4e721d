/- cnf: what is left of a formula given a literal; what clauses resolve to; The document's answer for cnf; Law 14: its own functions; what clauses resolve to; Law 14, plain: clauses in order; what they resolve to; what is left of a formula. Conditions: none. -/
import Derived.Test.YtchedkjlhjfadaaCA
set_option linter.unusedSimpArgs false
set_option linter.unusedVariables false
namespace Go.Proofs.Ytchedkjlhjfadaa
open Go Go.Ab
variable {ext : Sem'}
theorem indexv_e (hx : TX ext) (l : List Int) (v : Int) (hl : l.length ≤ 1000000) : G ext 88 [.d (.sl (l.map rowI)), .d (.int .i64 v)] [] = some (.ret (.d (.int .i64 (idxN (fun x => decide (v = x)) l))), []) := by
  have hll : (l.map rowI).length = l.length := List.length_map _
  rw [G_body hx.clear rfl Try.func88 rfl Try.results88 hv_88 rfl]
  simp (config := { maxSteps := 4000000 }) (disch := first | (intros; contradiction) | omega) only [go_sem]
  generalize hL : loopA _ _ _ = L
  apply range_upd hL (by simp (config := { maxSteps := 4000000 }) (disch := first | (intros; contradiction) | omega) only [go_sem] <;> rfl) l rowI (α := Unit) (fun rest k _ => idxP (fun x => decide (v = x)) l = (idxP (fun x => decide (v = x)) rest).map (k + ·)) (fun k _ => [(5, .any), (8, .d (.int .i64 k))]) (fun _ _ => []) () (by simp (config := { maxSteps := 4000000 }) (disch := first | (intros; contradiction) | omega) only [go_sem] <;> rfl) (by simp) ?_ ?_
  · intro x rest k _ hi hlt hr hxx hk _ next ih
    clear hL
    simp only [rowI] at hr
    simp only [idxP] at hi
    by_cases hpx : v = x
    · rw [if_pos (decide_eq_true hpx)] at hi
      have h1 : idxN (fun x => decide (v = x)) l = k := by unfold idxN; rw [hi]; simp
      rw [h1]
      have hpx := eq_true hpx
      simp (config := { maxSteps := 4000000 }) (disch := first | (intros; contradiction) | omega) only [go_sem, hlt, hr, hpx]
    · rw [if_neg (by simpa using hpx)] at hi
      simp (config := { maxSteps := 4000000 }) (disch := first | (intros; contradiction) | omega) only [go_sem, hlt, hr, hpx, wrap64]
      exact ih () _ (by rw [hi]; simp only [Option.map_map]; congr 1; funext n; simp only [Function.comp]; omega) (by simp (config := { maxSteps := 4000000 }) (disch := first | (intros; contradiction) | omega) only [go_sem] <;> rfl)
  · intro k _ hi hlt hk next
    clear hL
    have h1 : idxN (fun x => decide (v = x)) l = -1 := by unfold idxN; rw [hi]; rfl
    rw [h1]
    simp (config := { maxSteps := 4000000 }) (disch := first | (intros; contradiction) | omega) only [go_sem, hlt]
def hasP (l : List Int) (v : Int) : Bool := l.any fun x => decide (v = x)
theorem containsv_e (hx : TX ext) (l : List Int) (v : Int) (hl : l.length ≤ 1000000) : G ext 89 [.d (.sl (l.map rowI)), .d (.int .i64 v)] [] = some (.ret (.d (.bool (hasP l v))), []) := by
  have hi := indexv_e hx l v hl
  unfold hasP
  rw [← idxN_any]
  rw [G_body hx.clear rfl Try.func89 rfl Try.results89 hv_89 rfl]
  simp (config := { maxSteps := 4000000 }) (disch := first | (intros; contradiction) | omega) only [go_sem, hi]
theorem rhasv_e (hx : TX ext) (l : List Int) (v : Int) (hl : l.length ≤ 1000000) : G ext 75 [.d (.sl (l.map rowI)), .d (.int .i64 v)] [] = some (.ret (.d (.bool (hasP l v))), []) := by
  have hll : (l.map rowI).length = l.length := List.length_map _
  rw [G_body hx.clear rfl Try.func75 rfl Try.results75 hv_75 rfl]
  simp (config := { maxSteps := 4000000 }) (disch := first | (intros; contradiction) | omega) only [go_sem]
  generalize hL : loopA _ _ _ = L
  apply range_upd hL (by simp (config := { maxSteps := 4000000 }) (disch := first | (intros; contradiction) | omega) only [go_sem] <;> rfl) l rowI (α := Unit) (fun rest k _ => hasP l v = hasP rest v) (fun k _ => [(5, .d (.int .i64 k))]) (fun _ _ => []) () (by simp (config := { maxSteps := 4000000 }) (disch := first | (intros; contradiction) | omega) only [go_sem] <;> rfl) rfl ?_ ?_
  · intro x rest k _ hi hlt hr hxx hk _ next ih
    clear hL
    simp only [rowI] at hr
    unfold hasP at hi
    rw [List.any_cons] at hi
    by_cases hpx : x = v
    · rw [decide_eq_true hpx.symm, Bool.true_or] at hi
      unfold hasP
      rw [hi]
      have hpx := eq_true hpx
      simp (config := { maxSteps := 4000000 }) (disch := first | (intros; contradiction) | omega) only [go_sem, hlt, hr, hpx]
    · rw [decide_eq_false (fun h => hpx h.symm), Bool.false_or] at hi
      simp (config := { maxSteps := 4000000 }) (disch := first | (intros; contradiction) | omega) only [go_sem, hlt, hr, hpx, wrap64]
      exact ih () _ hi (by simp (config := { maxSteps := 4000000 }) (disch := first | (intros; contradiction) | omega) only [go_sem] <;> rfl)
  · intro k _ hi hlt hk next
    clear hL
    have hi : hasP l v = false := hi
    rw [hi]
    simp (config := { maxSteps := 4000000 }) (disch := first | (intros; contradiction) | omega) only [go_sem, hlt]
def cutP (v : Int) (c : List Int) : List Int := c.filter fun y => !decide (y = v)
/-- What is left given a literal. -/
def givenP (f : Fm) (x : Int) : Fm := if rightP f = true ∧ litP f.n x = true then ⟨f.n, (f.l.filter fun c => !hasP c x).map (cutP (IntKind.wrap .i64 (0 - x)))⟩ else f
theorem room_c {n : Nat} (h : n ≤ 1000000) : room n 24 := by unfold room; simp; omega
end Go.Proofs.Ytchedkjlhjfadaa
namespace Go.Proofs.Ytchedkjlhjfadaa
open Go Go.Ab
variable {ext : Sem'}
set_option maxHeartbeats 2000000 in
theorem rright_e (hx : TX ext) (f : Fm) (hs : Short f) : G ext 14 [f.av] [] = some (.ret (.d (.bool (rightP f))), []) := by
  have hll : (f.l.map rowC).length = f.l.length := List.length_map _
  have hsl := hs.l
  have hli := fun x => rlit_e hx f.n x
  rw [G_body hx.clear rfl Try.func14 rfl Try.results14 hv_14 rfl]
  unfold rightP
  simp only [Fm.av]
  have h3 : ¬ (200000 : Int) < (f.l.length : Int) := by omega
  have h3' : ¬ (200000 : Int) < ((f.l.map rowC).length : Int) := by omega
  rw [decide_eq_false h3]
  by_cases h1 : f.n < 0
  · simp (config := { maxSteps := 4000000 }) (disch := first | (intros; contradiction) | omega) only [go_sem, h1] <;> rfl
  · by_cases h2 : 100000 < f.n
    · simp (config := { maxSteps := 4000000 }) (disch := first | (intros; contradiction) | omega) only [go_sem, h1, h2] <;> rfl
    · rw [decide_eq_false h1, decide_eq_false h2]
      simp only [Bool.not_false, Bool.true_and]
      simp (config := { maxSteps := 4000000 }) (disch := first | (intros; contradiction) | omega) only [go_sem, h1, h2, h3']
      generalize hL : loopA _ _ _ = L
      apply range_upd hL (by simp (config := { maxSteps := 4000000 }) (disch := first | (intros; contradiction) | omega) only [go_sem] <;> rfl) f.l rowC (α := Unit) (fun rest k _ => f.l.all (allP f.n) = rest.all (allP f.n)) (fun k _ => [(3, .d (.int .i64 k)), (4, .any)]) (fun _ _ => []) () (by simp (config := { maxSteps := 4000000 }) (disch := first | (intros; contradiction) | omega) only [go_sem] <;> rfl) rfl ?_ ?_
      · rintro c rest k _ i1 hlt hr hget hk _ next ih
        clear hL
        have hcs := hs.c c (List.mem_of_getElem? hget)
        have hcl : (c.map rowI).length = c.length := List.length_map _
        simp only [rowC] at hr
        rw [List.all_cons] at i1
        simp (config := { maxSteps := 4000000 }) (disch := first | (intros; contradiction) | omega) only [go_sem, hlt, hr]
        generalize hL : loopA _ _ _ = L
        apply range_upd hL (by simp (config := { maxSteps := 4000000 }) (disch := first | (intros; contradiction) | omega) only [go_sem] <;> rfl) c rowI (α := Unit) (fun rest2 j _ => allP f.n c = allP f.n rest2) (fun j _ => [(4, .d (.int .i64 j))]) (fun _ _ => []) () (by simp (config := { maxSteps := 4000000 }) (disch := first | (intros; contradiction) | omega) only [go_sem] <;> rfl) rfl ?_ ?_
        · rintro x rest2 j _ j1 hlt2 hr2 hget2 hj _ next2 ih2
          clear hL
          have hl1 := hli x
          simp only [rowI] at hr2
          unfold allP at j1
          rw [List.all_cons] at j1
          cases hb : litP f.n x with
          | false =>
            rw [hb] at hl1 j1
            unfold allP at i1
            rw [j1, Bool.false_and, Bool.false_and] at i1
            unfold allP
            rw [i1]
            simp (config := { maxSteps := 4000000 }) (disch := first | (intros; contradiction) | omega) only [go_sem, hlt2, hr, hr2, hl1]
          | true =>
            rw [hb] at hl1 j1
            simp (config := { maxSteps := 4000000 }) (disch := first | (intros; contradiction) | omega) only [go_sem, hlt2, hr, hr2, hl1, wrap64]
            exact ih2 () _ (by unfold allP; rw [j1]; simp) (by simp (config := { maxSteps := 4000000 }) (disch := first | (intros; contradiction) | omega) only [go_sem] <;> rfl)
        · rintro j _ j1 hlt2 hj next2
          clear hL
          have j1 : allP f.n c = true := j1
          rw [j1, Bool.true_and] at i1
          simp (config := { maxSteps := 4000000 }) (disch := first | (intros; contradiction) | omega) only [go_sem, hlt2, hr, wrap64]
          exact ih () _ i1 (by simp (config := { maxSteps := 4000000 }) (disch := first | (intros; contradiction) | omega) only [go_sem] <;> rfl)
      · rintro k _ i1 hlt hk next
        clear hL
        have i1 : f.l.all (allP f.n) = true := i1
        rw [i1]
        simp (config := { maxSteps := 4000000 }) (disch := first | (intros; contradiction) | omega) only [go_sem, hlt]
set_option maxHeartbeats 4000000 in
theorem reval_e (hx : TX ext) (f : Fm) (hs : Short f) (m : List Bool) : G ext 39 [f.av, .d (.sl (m.map rowB))] [] = some (.ret (.d (.bool (evalP f m))), []) := by
  have hr := rright_e hx f hs
  have hml : (m.map rowB).length = m.length := List.length_map _
  have hll : (f.l.map rowC).length = f.l.length := List.length_map _
  have hsl := hs.l
  rw [G_body hx.clear rfl Try.func39 rfl Try.results39 hv_39 rfl]
  unfold evalP
  cases h1 : rightP f with
  | false =>
    rw [h1] at hr
    simp only [Fm.av] at hr ⊢
    simp (config := { maxSteps := 4000000 }) (disch := first | (intros; contradiction) | omega) only [go_sem, hr, Bool.false_and]
  | true =>
    rw [h1] at hr
    obtain ⟨q0, q1, q2⟩ := right_inv h1
    simp only [Fm.av] at hr ⊢
    by_cases h2 : ((m.map rowB).length : Int) = f.n
    · have hm : (m.length : Int) = f.n := by omega
      rw [decide_eq_true hm]
      have h2 := eq_true h2
      simp (config := { maxSteps := 4000000 }) (disch := first | (intros; contradiction) | omega) only [go_sem, hr, h2, Bool.true_and]
      generalize hL : loopA _ _ _ = L
      apply range_upd hL (by simp (config := { maxSteps := 4000000 }) (disch := first | (intros; contradiction) | omega) only [go_sem] <;> rfl) f.l rowC (α := Unit) (fun rest k _ => (f.l.all fun c => c.any (trueP m)) = (rest.all fun c => c.any (trueP m))) (fun k _ => [(5, .d (.int .i64 k)), (6, .any), (7, .any)]) (fun _ _ => []) () (by simp (config := { maxSteps := 4000000 }) (disch := first | (intros; contradiction) | omega) only [go_sem] <;> rfl) rfl ?_ ?_
      · rintro c rest k _ i1 hlt hr2 hget hk _ next ih
        clear hL
        have hmem := List.mem_of_getElem? hget
        have hcl : (c.map rowI).length = c.length := List.length_map _
        have hcs := hs.c c hmem
        simp only [rowC] at hr2
        rw [List.all_cons] at i1
        simp (config := { maxSteps := 4000000 }) (disch := first | (intros; contradiction) | omega) only [go_sem, hlt, hr2]
        generalize hL : loopA _ _ _ = L
        apply range_upd hL (by simp (config := { maxSteps := 4000000 }) (disch := first | (intros; contradiction) | omega) only [go_sem] <;> rfl) c rowI (α := Bool) (fun rest2 j b => c.any (trueP m) = (b || rest2.any (trueP m))) (fun j b => [(6, .d (.bool b)), (7, .d (.int .i64 j))]) (fun _ _ => []) false (by simp (config := { maxSteps := 4000000 }) (disch := first | (intros; contradiction) | omega) only [go_sem] <;> rfl) rfl ?_ ?_
        · rintro x rest2 j b j1 hlt3 hr3 hget3 hj _ next2 ih2
          clear hL
          have he := rtrue_e hx f.n x m q0 q1 hm (q2 c hmem x (List.mem_of_getElem? hget3))
          simp only [rowI] at hr3
          rw [List.any_cons] at j1
          cases b with
          | true =>
            simp (config := { maxSteps := 4000000 }) (disch := first | (intros; contradiction) | omega) only [go_sem, hlt3, hr2, hr3, wrap64]
            exact ih2 true _ (by rw [j1]; simp) (by simp (config := { maxSteps := 4000000 }) (disch := first | (intros; contradiction) | omega) only [go_sem] <;> rfl)
          | false =>
            simp (config := { maxSteps := 4000000 }) (disch := first | (intros; contradiction) | omega) only [go_sem, hlt3, hr2, hr3, he, wrap64]
            exact ih2 (trueP m x) _ (by rw [j1]; simp) (by simp (config := { maxSteps := 4000000 }) (disch := first | (intros; contradiction) | omega) only [go_sem] <;> rfl)
        · rintro j b j1 hlt3 hj next2
          clear hL
          rw [List.any_nil, Bool.or_false] at j1
          rw [j1] at i1
          cases b with
          | true =>
            simp (config := { maxSteps := 4000000 }) (disch := first | (intros; contradiction) | omega) only [go_sem, hlt3, hr2, wrap64]
            exact ih () _ (by rw [i1]; simp) (by simp (config := { maxSteps := 4000000 }) (disch := first | (intros; contradiction) | omega) only [go_sem] <;> rfl)
          | false =>
            rw [i1]
            simp (config := { maxSteps := 4000000 }) (disch := first | (intros; contradiction) | omega) only [go_sem, hlt3, hr2, Bool.false_and]
      · rintro k _ i1 hlt hk next
        rw [i1]
        simp (config := { maxSteps := 4000000 }) (disch := first | (intros; contradiction) | omega) only [go_sem, hlt, List.all_nil]
    · have hm : ¬ (m.length : Int) = f.n := by omega
      rw [decide_eq_false hm]
      simp (config := { maxSteps := 4000000 }) (disch := first | (intros; contradiction) | omega) only [go_sem, hr, h2, ne_eq, not_false_eq_true, Bool.false_and, Bool.and_false]
set_option maxHeartbeats 4000000 in
theorem rgiven_e (hx : TX ext) (f : Fm) (hs : Short f) (x : Int) : G ext 55 [f.av, .d (.int .i64 x)] [] = some (.ret (givenP f x).av, []) := by
  have hr := rright_e hx f hs
  have hli := rlit_e hx f.n x
  have hll : (f.l.map rowC).length = f.l.length := List.length_map _
  have hsl := hs.l
  rw [G_body hx.clear rfl Try.func55 rfl Try.results55 hv_55 rfl]
  unfold givenP
  cases h1 : rightP f with
  | false =>
    rw [h1] at hr
    rw [if_neg (by simp)]
    simp only [Fm.av] at hr ⊢
    simp (config := { maxSteps := 4000000 }) (disch := first | (intros; contradiction) | omega) only [go_sem, hr]
  | true =>
    rw [h1] at hr
    cases h2 : litP f.n x with
    | false =>
      rw [h2] at hli
      rw [if_neg (by simp)]
      simp only [Fm.av] at hr ⊢
      simp (config := { maxSteps := 4000000 }) (disch := first | (intros; contradiction) | omega) only [go_sem, hr, hli]
    | true =>
      rw [h2] at hli
      rw [if_pos ⟨rfl, rfl⟩]
      simp only [Fm.av] at hr ⊢
      simp (config := { maxSteps := 4000000 }) (disch := first | (intros; contradiction) | omega) only [go_sem, hr, hli]
      generalize hL : loopA _ _ _ = L
      apply range_upd hL (by simp (config := { maxSteps := 4000000 }) (disch := first | (intros; contradiction) | omega) only [go_sem] <;> rfl) f.l rowC (α := List (List Int)) (fun rest k out => out ++ (rest.filter fun c => !hasP c x).map (cutP (IntKind.wrap .i64 (0 - x))) = (f.l.filter fun c => !hasP c x).map (cutP (IntKind.wrap .i64 (0 - x))) ∧ out.length ≤ k) (fun k _ => [(6, .d (.int .i64 k)), (7, .any), (8, .any)])
        (fun k out => [(3, .cells [.d (.int .i64 f.n), .grow 4 out.length (out.map rowC)]), (4, .grow out.length 1)]) [] (by simp (config := { maxSteps := 4000000 }) (disch := first | (intros; contradiction) | omega) only [go_sem] <;> rfl) ⟨rfl, Nat.le_refl _⟩ ?_ ?_
      · rintro c rest k out ⟨i1, i2⟩ hlt hr2 hget hk _ next ih
        clear hL
        have hmem := List.mem_of_getElem? hget
        have hcs := hs.c c hmem
        have hco := rhasv_e hx c x (by omega)
        have hcl : (c.map rowI).length = c.length := List.length_map _
        simp only [rowC] at hr2
        rw [List.filter_cons] at i1
        cases hb : hasP c x with
        | true =>
          rw [hb] at hco i1
          simp (config := { maxSteps := 4000000 }) (disch := first | (intros; contradiction) | omega) only [go_sem, hlt, hr2, hco, wrap64]
          exact ih out _ ⟨by simpa using i1, by omega⟩ (by simp (config := { maxSteps := 4000000 }) (disch := first | (intros; contradiction) | omega) only [go_sem] <;> rfl)
        | false =>
          rw [hb] at hco i1
          simp only [Bool.not_false, if_true, List.map_cons] at i1
          simp (config := { maxSteps := 4000000 }) (disch := first | (intros; contradiction) | omega) only [go_sem, hlt, hr2, hco]
          generalize hL : loopA _ _ _ = L
          apply range_upd hL (by simp (config := { maxSteps := 4000000 }) (disch := first | (intros; contradiction) | omega) only [go_sem] <;> rfl) c rowI (α := List Int) (fun rest2 j d => d ++ cutP (IntKind.wrap .i64 (0 - x)) rest2 = cutP (IntKind.wrap .i64 (0 - x)) c ∧ d.length ≤ j) (fun j d => [(7, .grow 5 d.length (d.map rowI)), (8, .d (.int .i64 j))]) (fun j d => [(5, .grow d.length 1)]) [] (by simp (config := { maxSteps := 4000000 }) (disch := first | (intros; contradiction) | omega) only [go_sem] <;> rfl) ⟨rfl, Nat.le_refl _⟩ ?_ ?_
          · rintro y rest2 j d ⟨j1, j2⟩ hlt3 hr3 hget3 hj _ next2 ih2
            clear hL
            simp only [rowI] at hr3
            unfold cutP at j1
            rw [List.filter_cons] at j1
            by_cases hy : y = IntKind.wrap .i64 (0 - x)
            · rw [decide_eq_true hy] at j1
              have hy := eq_true hy
              simp (config := { maxSteps := 4000000 }) (disch := first | (intros; contradiction) | omega) only [go_sem, hlt3, hr2, hr3, hy, wrap64]
              exact ih2 d _ ⟨by simpa [cutP] using j1, by omega⟩ (by simp (config := { maxSteps := 4000000 }) (disch := first | (intros; contradiction) | omega) only [go_sem] <;> rfl)
            · rw [decide_eq_false hy] at j1
              have hroom : room ((d.map rowI).length + 1) 8 := by unfold room; simp; omega
              simp only [Bool.not_false, if_true] at j1
              simp (config := { maxSteps := 4000000 }) (disch := first | (intros; contradiction) | omega) only [go_sem, hlt3, hr2, hr3, hy, hroom, wrap64, ne_eq, not_false_eq_true]
              exact ih2 (d ++ [y]) _ ⟨by rw [List.append_assoc]; simpa [cutP] using j1, by simp; omega⟩ (by simp (config := { maxSteps := 4000000 }) (disch := first | (intros; contradiction) | omega) only [go_sem, List.map_append, List.length_append, List.length_cons, List.length_nil, List.map_cons, List.map_nil, rowI] <;> rfl)
          · rintro j d ⟨j1, j2⟩ hlt3 hj next2
            clear hL
            have j1 : d ++ [] = cutP (IntKind.wrap .i64 (0 - x)) c := j1
            rw [List.append_nil] at j1
            rw [← j1] at i1
            have hroom : room ((out.map rowC).length + 1) 24 := room_c (by simp; omega)
            simp (config := { maxSteps := 4000000 }) (disch := first | (intros; contradiction) | omega) only [go_sem, hlt3, hr2, hroom, wrap64]
            exact ih (out ++ [d]) _ ⟨by rw [← i1]; simp, by simp; omega⟩ (by simp (config := { maxSteps := 4000000 }) (disch := first | (intros; contradiction) | omega) only [go_sem, List.map_append, List.length_append, List.length_cons, List.length_nil, List.map_cons, List.map_nil, rowC] <;> rfl)
      · rintro k out ⟨i1, i2⟩ hlt hk next
        clear hL
        simp only [List.filter_nil, List.map_nil, List.append_nil] at i1
        rw [← i1]
        simp (config := { maxSteps := 4000000 }) (disch := first | (intros; contradiction) | omega) only [go_sem, hlt]
end Go.Proofs.Ytchedkjlhjfadaa
namespace Go.Proofs.Ytchedkjlhjfadaa
open Go Go.Ab
variable {ext : Sem'}
theorem numbers_e (hx : TX ext) (a b : List Int) (hl : a.length ≤ 1000000) : G ext 23 [.d (.sl (a.map rowI)), .d (.sl (b.map rowI))] [] = some (.ret (.d (.bool (decide (a = b)))), []) := by
  have hal : (a.map rowI).length = a.length := List.length_map _
  have hbl : (b.map rowI).length = b.length := List.length_map _
  rw [G_body hx.clear rfl Try.func23 rfl Try.results23 hv_23 rfl]
  by_cases h : ((a.map rowI).length : Int) = ((b.map rowI).length : Int)
  · have h' := eq_true h
    simp (config := { maxSteps := 4000000 }) (disch := first | (intros; contradiction) | omega) only [go_sem, h']
    generalize hL : loopA _ _ _ = L
    apply range_upd hL (by simp (config := { maxSteps := 4000000 }) (disch := first | (intros; contradiction) | omega) only [go_sem] <;> rfl) a rowI (α := Unit) (fun rest k _ => a.take k = b.take k) (fun k _ => [(5, .d (.int .i64 k))]) (fun _ _ => []) () (by simp (config := { maxSteps := 4000000 }) (disch := first | (intros; contradiction) | omega) only [go_sem] <;> rfl) rfl ?_ ?_
    · intro x rest k _ hi hlt hr hxx hk _ next ih
      clear hL
      have hkb : k < b.length := by omega
      have hrb := map_at (f := rowI) hkb
      have htb := List.take_succ_eq_append_getElem hkb
      have hta := List.take_succ_eq_append_getElem hk
      have hgb := List.getElem?_eq_getElem hkb
      generalize b[k] = y at hrb htb hgb
      have hxa : a[k] = x := by rw [List.getElem?_eq_getElem hk] at hxx; simpa using hxx
      rw [hxa] at hta
      simp only [rowI] at hr hrb
      by_cases hxy : x = y
      · have e := eq_true hxy
        simp (config := { maxSteps := 4000000 }) (disch := first | (intros; contradiction) | omega) only [go_sem, hlt, hr, hrb, e, wrap64]
        exact ih () _ (by rw [hta, htb, hi, hxy]) (by simp (config := { maxSteps := 4000000 }) (disch := first | (intros; contradiction) | omega) only [go_sem] <;> rfl)
      · have hne : ¬ a = b := by
          intro e
          rw [e, hgb] at hxx
          exact hxy (by simpa using hxx.symm)
        rw [decide_eq_false hne]
        simp (config := { maxSteps := 4000000 }) (disch := first | (intros; contradiction) | omega) only [go_sem, hlt, hr, hrb, hxy, wrap64]
    · intro k _ hi hlt hk next
      clear hL
      have e : a = b := by
        have h1 := List.take_of_length_le (show a.length ≤ k by omega)
        have h2 := List.take_of_length_le (show b.length ≤ k by omega)
        rw [← h1, hi, h2]
      rw [decide_eq_true e]
      simp (config := { maxSteps := 4000000 }) (disch := first | (intros; contradiction) | omega) only [go_sem, hlt]
  · have hne : ¬ a = b := by intro e; rw [e] at h; exact h rfl
    rw [decide_eq_false hne]
    simp (config := { maxSteps := 4000000 }) (disch := first | (intros; contradiction) | omega) only [go_sem, h]
theorem own_e (hx : TX ext) (f : Fm) : G ext 13 [f.av] [] = some (.ret f.av, []) := by
  rw [G_body hx.clear rfl Try.func13 rfl Try.results13 hv_13 rfl]
  simp only [Fm.av]
  simp (config := { maxSteps := 4000000 }) (disch := first | (intros; contradiction) | omega) only [go_sem]
def clauseP (c : List Int) : Bool := decide (c.length ≤ 60) && c.all fun x => decide (-1000000 ≤ x) && decide (x ≤ 1000000)
theorem clause_e (hx : TX ext) (c : List Int) : G ext 25 [.d (.sl (c.map rowI))] [] = some (.ret (.d (.bool (clauseP c))), []) := by
  have hcl : (c.map rowI).length = c.length := List.length_map _
  rw [G_body hx.clear rfl Try.func25 rfl Try.results25 hv_25 rfl]
  unfold clauseP
  by_cases h : (60 : Int) < ((c.map rowI).length : Int)
  · rw [decide_eq_false (show ¬ c.length ≤ 60 by omega), Bool.false_and]
    simp (config := { maxSteps := 4000000 }) (disch := first | (intros; contradiction) | omega) only [go_sem, h]
  · rw [decide_eq_true (show c.length ≤ 60 by omega), Bool.true_and]
    simp (config := { maxSteps := 4000000 }) (disch := first | (intros; contradiction) | omega) only [go_sem, h]
    generalize hL : loopA _ _ _ = L
    apply range_upd hL (by simp (config := { maxSteps := 4000000 }) (disch := first | (intros; contradiction) | omega) only [go_sem] <;> rfl) c rowI (α := Unit) (fun rest k _ => (c.all fun x => decide (-1000000 ≤ x) && decide (x ≤ 1000000)) = (rest.all fun x => decide (-1000000 ≤ x) && decide (x ≤ 1000000))) (fun k _ => [(3, .d (.int .i64 k))]) (fun _ _ => []) () (by simp (config := { maxSteps := 4000000 }) (disch := first | (intros; contradiction) | omega) only [go_sem] <;> rfl) rfl ?_ ?_
    · intro x rest k _ hi hlt hr hxx hk _ next ih
      clear hL
      simp only [rowI] at hr
      rw [List.all_cons] at hi
      by_cases h1 : x < -1000000
      · rw [hi, decide_eq_false (show ¬ -1000000 ≤ x by omega), Bool.false_and, Bool.false_and]
        simp (config := { maxSteps := 4000000 }) (disch := first | (intros; contradiction) | omega) only [go_sem, hlt, hr, h1]
      · by_cases h2 : 1000000 < x
        · rw [hi, decide_eq_false (show ¬ x ≤ 1000000 by omega), Bool.and_false, Bool.false_and]
          simp (config := { maxSteps := 4000000 }) (disch := first | (intros; contradiction) | omega) only [go_sem, hlt, hr, h1, h2]
        · rw [decide_eq_true (show -1000000 ≤ x by omega), decide_eq_true (show x ≤ 1000000 by omega), Bool.true_and, Bool.true_and] at hi
          simp (config := { maxSteps := 4000000 }) (disch := first | (intros; contradiction) | omega) only [go_sem, hlt, hr, h1, h2, wrap64]
          exact ih () _ hi (by simp (config := { maxSteps := 4000000 }) (disch := first | (intros; contradiction) | omega) only [go_sem] <;> rfl)
    · intro k _ hi hlt hk next
      clear hL
      rw [hi]
      simp (config := { maxSteps := 4000000 }) (disch := first | (intros; contradiction) | omega) only [go_sem, hlt, List.all_nil]
theorem clause_inv {c : List Int} (h : clauseP c = true) : c.length ≤ 60 ∧ ∀ x, x ∈ c → -1000000 ≤ x ∧ x ≤ 1000000 := by
  unfold clauseP at h
  simp only [Bool.and_eq_true, decide_eq_true_eq, List.all_eq_true] at h
  exact h
def lightP (f : Fm) : Bool := decide (f.l.length ≤ 80) && f.l.all clauseP
theorem light_e (hx : TX ext) (f : Fm) : G ext 40 [f.av] [] = some (.ret (.d (.bool (lightP f))), []) := by
  have hll : (f.l.map rowC).length = f.l.length := List.length_map _
  have hc := fun c => clause_e hx c
  rw [G_body hx.clear rfl Try.func40 rfl Try.results40 hv_40 rfl]
  unfold lightP
  simp only [Fm.av]
  by_cases h : (80 : Int) < ((f.l.map rowC).length : Int)
  · rw [decide_eq_false (show ¬ f.l.length ≤ 80 by omega), Bool.false_and]
    simp (config := { maxSteps := 4000000 }) (disch := first | (intros; contradiction) | omega) only [go_sem, h]
  · rw [decide_eq_true (show f.l.length ≤ 80 by omega), Bool.true_and]
    simp (config := { maxSteps := 4000000 }) (disch := first | (intros; contradiction) | omega) only [go_sem, h]
    generalize hL : loopA _ _ _ = L
    apply range_upd hL (by simp (config := { maxSteps := 4000000 }) (disch := first | (intros; contradiction) | omega) only [go_sem] <;> rfl) f.l rowC (α := Unit) (fun rest k _ => f.l.all clauseP = rest.all clauseP) (fun k _ => [(3, .d (.int .i64 k))]) (fun _ _ => []) () (by simp (config := { maxSteps := 4000000 }) (disch := first | (intros; contradiction) | omega) only [go_sem] <;> rfl) rfl ?_ ?_
    · intro x rest k _ hi hlt hr hxx hk _ next ih
      clear hL
      have hcx := hc x
      simp only [rowC] at hr
      rw [List.all_cons] at hi
      cases hb : clauseP x with
      | false =>
        rw [hb] at hcx hi
        rw [hi, Bool.false_and]
        simp (config := { maxSteps := 4000000 }) (disch := first | (intros; contradiction) | omega) only [go_sem, hlt, hr, hcx]
      | true =>
        rw [hb] at hcx hi
        simp (config := { maxSteps := 4000000 }) (disch := first | (intros; contradiction) | omega) only [go_sem, hlt, hr, hcx, wrap64]
        exact ih () _ (by rw [hi, Bool.true_and]) (by simp (config := { maxSteps := 4000000 }) (disch := first | (intros; contradiction) | omega) only [go_sem] <;> rfl)
    · intro k _ hi hlt hk next
      clear hL
      rw [hi]
      simp (config := { maxSteps := 4000000 }) (disch := first | (intros; contradiction) | omega) only [go_sem, hlt, List.all_nil]
theorem light_short {f : Fm} (h : lightP f = true) : Short f ∧ ∀ c, c ∈ f.l → ∀ x, x ∈ c → -1000000 ≤ x ∧ x ≤ 1000000 := by
  unfold lightP at h
  simp only [Bool.and_eq_true, decide_eq_true_eq, List.all_eq_true] at h
  exact ⟨⟨by omega, fun c hc => by have := (clause_inv (h.2 c hc)).1; omega⟩, fun c hc => (clause_inv (h.2 c hc)).2⟩
theorem room_n8 {n : Nat} (h : n ≤ 1000000) : room n 8 := by unfold room; simp; omega
def withoutP (v : Int) (c : List Int) : List Int := c.filter fun y => decide (y ≠ v)
/-- What clauses resolve to. -/
def resolveP (a b : List Int) (v : Int) : Option (List Int) :=
  if v < 1 ∨ hasP a v = false ∨ hasP b (0 - v) = false then none else
  if cleanL (normL (withoutP v a ++ withoutP (0 - v) b)) then some (normL (withoutP v a ++ withoutP (0 - v) b)) else none
def resA : Option (List Int) → AV
  | some c => .tuple [.d (.sl (c.map rowI)), .d (.bool true)]
  | none => .tuple [.d (.sl []), .d (.bool false)]
set_option maxHeartbeats 1000000 in
theorem resolve_e (hx : TX ext) (a b : List Int) (v : Int) (ha : a.length ≤ 1000) (hb : b.length ≤ 1000) (hv : v ≤ 9223372036854775807) : G ext 93 [.d (.sl (a.map rowI)), .d (.sl (b.map rowI)), .d (.int .i64 v)] [] = some (.ret (resA (resolveP a b v)), []) := by
  have h1 := containsv_e hx a v (by omega)
  have h2 := containsv_e hx b (0 - v) (by omega)
  have hla : (withoutP v a).length ≤ a.length := List.length_filter_le _ _
  have hlb : (withoutP (0 - v) b).length ≤ b.length := List.length_filter_le _ _
  have hn := norm_e hx (withoutP v a ++ withoutP (0 - v) b) (by rw [List.length_append]; omega)
  have hroom : room (((withoutP v a).map rowI).length + ((withoutP (0 - v) b).map rowI).length) 8 := by
    have := room_n8 (n := (withoutP v a).length + (withoutP (0 - v) b).length) (by omega)
    simpa only [List.length_map] using this
  have hfit : fits 1 ((withoutP (0 - v) b).map rowI) := by intro row h; obtain ⟨x, _, rfl⟩ := List.mem_map.1 h; rfl
  rw [G_body hx.clear rfl Try.func93 rfl Try.results93 hv_93 rfl]
  unfold resolveP
  rw [List.map_append] at hn
  by_cases g1 : v < 1
  · rw [if_pos (.inl g1)]
    simp only [resA]
    simp (config := { maxSteps := 4000000 }) (disch := first | (intros; contradiction) | omega) only [go_sem, g1]
  · cases g2 : hasP a v with
    | false =>
      rw [g2] at h1
      rw [if_pos (.inr (.inl rfl))]
      simp only [resA]
      simp (config := { maxSteps := 4000000 }) (disch := first | (intros; contradiction) | omega) only [go_sem, g1, h1]
    | true =>
      rw [g2] at h1
      cases g3 : hasP b (0 - v) with
      | false =>
        rw [g3] at h2
        rw [if_pos (.inr (.inr rfl))]
        simp only [resA]
        simp (config := { maxSteps := 4000000 }) (disch := first | (intros; contradiction) | omega) only [go_sem, g1, h1, h2, wrap64]
      | true =>
        rw [g3] at h2
        rw [if_neg (by simp; omega)]
        have w1 := G_ext (hx.without a v (by rintro rfl; cases g2) (by omega))
        have w2 := G_ext (hx.without b (0 - v) (by rintro rfl; cases g3) (by omega))
        rw [show (a.filter fun y => decide (y ≠ v)) = withoutP v a from rfl] at w1
        rw [show (b.filter fun y => decide (y ≠ 0 - v)) = withoutP (0 - v) b from rfl] at w2
        cases g4 : cleanL (normL (withoutP v a ++ withoutP (0 - v) b)) with
        | true =>
          rw [g4] at hn
          simp only [if_true, resA]
          simp (config := { maxSteps := 4000000 }) (disch := first | (intros; contradiction) | omega) only [go_sem, g1, h1, h2, wrap64, w1, w2, hroom, hfit, hn]
        | false =>
          rw [g4] at hn
          simp only [Bool.false_eq_true, if_false, resA]
          simp (config := { maxSteps := 4000000 }) (disch := first | (intros; contradiction) | omega) only [go_sem, g1, h1, h2, wrap64, w1, w2, hroom, hfit, hn]
end Go.Proofs.Ytchedkjlhjfadaa
namespace Go.Proofs.Ytchedkjlhjfadaa
open Go Go.Ab
theorem ltI_irrefl (x : Int) : ltI x x = false := by unfold ltI; simp
theorem ltI_total {x y : Int} (h : ¬ x = y) (h2 : ltI y x = false) : ltI x y = true := by
  unfold ltI at h2 ⊢
  simp only [Bool.or_eq_false_iff, Bool.and_eq_false_iff, decide_eq_false_iff_not] at h2
  simp only [Bool.or_eq_true, Bool.and_eq_true, decide_eq_true_eq]
  omega
theorem ltI_asym {x y : Int} (h : ltI x y = true) : ltI y x = false := by
  unfold ltI at h ⊢
  simp only [Bool.or_eq_true, Bool.and_eq_true, decide_eq_true_eq] at h
  simp only [Bool.or_eq_false_iff, Bool.and_eq_false_iff, decide_eq_false_iff_not]
  omega
theorem leI_trans {x y z : Int} (h : ltI y x = false) (h2 : ltI z y = false) : ltI z x = false := by
  unfold ltI at h h2 ⊢
  simp only [Bool.or_eq_false_iff, Bool.and_eq_false_iff, decide_eq_false_iff_not] at h h2 ⊢
  omega
theorem mem_ins {x z : Int} : ∀ {l : List Int}, z ∈ insI x l ↔ z = x ∨ z ∈ l
  | [] => by simp [insI]
  | y :: l => by
    unfold insI
    split
    · simp only [List.mem_cons, mem_ins (l := l)]
      constructor
      · rintro (h | h | h) <;> simp [h]
      · rintro (h | h | h) <;> simp [h]
    · simp only [List.mem_cons]
theorem mem_sort {z : Int} : ∀ {l : List Int}, z ∈ sortL l ↔ z ∈ l
  | [] => by simp [sortL]
  | x :: l => by simp only [sortL, mem_ins, mem_sort (l := l), List.mem_cons]
theorem mem_dd {z : Int} : ∀ {l : List Int}, z ∈ dd l ↔ z ∈ l
  | [] => by simp [dd]
  | [x] => by simp [dd]
  | x :: y :: l => by
    unfold dd
    split
    · rename_i h
      subst h
      rw [mem_dd (l := x :: l)]
      simp
    · simp only [List.mem_cons, mem_dd (l := y :: l)]
theorem mem_norm {z : Int} {c : List Int} : z ∈ normL c ↔ z ∈ c := by unfold normL; rw [mem_dd, mem_sort]
theorem ins_sorted {x : Int} : ∀ {l : List Int}, l.Pairwise (fun a b => ltI b a = false) → (insI x l).Pairwise (fun a b => ltI b a = false)
  | [], _ => by simp [insI]
  | y :: l, h => by
    rw [List.pairwise_cons] at h
    unfold insI
    split
    · rename_i hy
      rw [List.pairwise_cons]
      refine ⟨fun z hz => ?_, ins_sorted h.2⟩
      rcases mem_ins.1 hz with rfl | hz
      · exact ltI_asym hy
      · exact h.1 z hz
    · rename_i hy
      have hy : ltI y x = false := by simpa using hy
      rw [List.pairwise_cons]
      refine ⟨fun z hz => ?_, List.pairwise_cons.2 h⟩
      rcases List.mem_cons.1 hz with rfl | hz
      · exact hy
      · exact leI_trans hy (h.1 z hz)
theorem sort_sorted : ∀ (l : List Int), (sortL l).Pairwise (fun a b => ltI b a = false)
  | [] => by simp [sortL]
  | x :: l => ins_sorted (sort_sorted l)
theorem dd_strict : ∀ {l : List Int}, l.Pairwise (fun a b => ltI b a = false) → (dd l).Pairwise (fun a b => ltI a b = true)
  | [], _ => by simp [dd]
  | [x], _ => by simp [dd]
  | x :: y :: l, h => by
    have h0 := h
    rw [List.pairwise_cons] at h
    unfold dd
    split
    · exact dd_strict h.2
    · rename_i hxy
      rw [List.pairwise_cons]
      refine ⟨fun z hz => ?_, dd_strict h.2⟩
      rw [mem_dd] at hz
      refine ltI_total (fun e => ?_) (h.1 z hz)
      subst e
      rcases List.mem_cons.1 hz with e | hz
      · exact hxy e
      · have h1 := h.1 y (by simp)
        have h2 := (List.pairwise_cons.1 h.2).1 x hz
        have := ltI_total (fun e => hxy e.symm) h2
        rw [h1] at this
        cases this
theorem strict_sort : ∀ {l : List Int}, l.Pairwise (fun a b => ltI a b = true) → sortL l = l
  | [], _ => rfl
  | x :: l, h => by
    rw [List.pairwise_cons] at h
    rw [sortL, strict_sort h.2]
    cases l with
    | nil => rfl
    | cons y l => rw [insI, if_neg (by rw [ltI_asym (h.1 y (by simp))]; decide)]
theorem strict_dd : ∀ {l : List Int}, l.Pairwise (fun a b => ltI a b = true) → dd l = l
  | [], _ => rfl
  | [x], _ => rfl
  | x :: y :: l, h => by
    rw [List.pairwise_cons] at h
    rw [dd, if_neg, strict_dd h.2]
    rintro rfl
    have := h.1 x (by simp)
    rw [ltI_irrefl] at this
    cases this
/-- A clause in order is so again. -/
theorem norm_norm (c : List Int) : normL (normL c) = normL c := by
  have h : (normL c).Pairwise (fun a b => ltI a b = true) := dd_strict (sort_sorted c)
  show dd (sortL (normL c)) = normL c
  rw [strict_sort h, strict_dd h]
theorem all_mem {p : Int → Bool} {a b : List Int} (h : ∀ z, z ∈ a ↔ z ∈ b) : a.all p = b.all p := by
  rw [Bool.eq_iff_iff]
  simp only [List.all_eq_true]
  exact ⟨fun k z hz => k z ((h z).2 hz), fun k z hz => k z ((h z).1 hz)⟩
theorem any_mem {p : Int → Bool} {a b : List Int} (h : ∀ z, z ∈ a ↔ z ∈ b) : a.any p = b.any p := by
  rw [Bool.eq_iff_iff]
  simp only [List.any_eq_true]
  exact ⟨fun ⟨z, hz, k⟩ => ⟨z, (h z).1 hz, k⟩, fun ⟨z, hz, k⟩ => ⟨z, (h z).2 hz, k⟩⟩
theorem eval_norm (n : Int) (c : List Int) (m : List Bool) : evalP ⟨n, [normL c]⟩ m = evalP ⟨n, [c]⟩ m := by
  have h := @mem_norm (c := c)
  unfold evalP rightP allP
  simp only [List.all_cons, List.all_nil, List.length_cons, List.length_nil]
  rw [all_mem (fun z => h (z := z)), any_mem (fun z => h (z := z))]
theorem len_norm (c : List Int) : (normL c).length ≤ c.length := by have h1 := len_dd (sortL c); have h2 := len_sort c; unfold normL; omega
/-- A literal and its opposite. -/
theorem true_neg {m : List Bool} {x : Int} (h : x ≠ 0) : trueP m (0 - x) = !trueP m x := by
  have e : absI (0 - x) = absI x := by unfold absI; split <;> split <;> omega
  unfold trueP
  rw [e]
  generalize (m[(absI x - 1).toNat]?).getD false = b
  by_cases h1 : 0 < x
  · rw [decide_eq_false (show ¬ 0 < 0 - x by omega), decide_eq_true h1]; cases b <;> rfl
  · rw [decide_eq_true (show 0 < 0 - x by omega), decide_eq_false h1]; cases b <;> rfl
theorem evalP_one {n : Int} {c : List Int} {m : List Bool} (h0 : 0 ≤ n) (h1 : n ≤ 100000) (hm : (m.length : Int) = n) (hc : allP n c = true) : evalP ⟨n, [c]⟩ m = c.any (trueP m) := by
  unfold evalP rightP
  simp only [List.all_cons, List.all_nil, List.length_cons, List.length_nil, hc, Bool.and_true]
  rw [decide_eq_false (show ¬ n < 0 by omega), decide_eq_false (show ¬ 100000 < n by omega), decide_eq_true hm]
  simp
theorem has_iff {l : List Int} {v : Int} : hasP l v = true ↔ v ∈ l := by
  unfold hasP
  simp only [List.any_eq_true, decide_eq_true_eq]
  exact ⟨fun ⟨x, hx, e⟩ => e ▸ hx, fun h => ⟨v, h, rfl⟩⟩
/-- What clauses resolve to is true where they are. -/
theorem resolve_sound {n : Int} {a b c : List Int} {v : Int} {m : List Bool} (h0 : 0 ≤ n) (h1 : n ≤ 100000) (hm : (m.length : Int) = n) (ha : allP n a = true) (hb : allP n b = true) (hr : resolveP a b v = some c)
    (ta : a.any (trueP m) = true) (tb : b.any (trueP m) = true) : evalP ⟨n, [c]⟩ m = true := by
  unfold resolveP at hr
  split at hr
  · cases hr
  rename_i hv
  split at hr
  · cases hr
    have hmem : ∀ z, z ∈ normL (withoutP v a ++ withoutP (0 - v) b) ↔ (z ∈ a ∧ z ≠ v) ∨ (z ∈ b ∧ z ≠ 0 - v) := by
      intro z
      rw [mem_norm]
      simp only [withoutP, List.mem_append, List.mem_filter, decide_eq_true_eq]
    have hall : allP n (normL (withoutP v a ++ withoutP (0 - v) b)) = true := by
      unfold allP
      rw [List.all_eq_true]
      intro z hz
      rcases (hmem z).1 hz with h | h
      · exact List.all_eq_true.1 ha z h.1
      · exact List.all_eq_true.1 hb z h.1
    rw [evalP_one h0 h1 hm hall, List.any_eq_true]
    obtain ⟨x, hx, tx⟩ := List.any_eq_true.1 ta
    obtain ⟨y, hy, ty⟩ := List.any_eq_true.1 tb
    by_cases e : x = v
    · refine ⟨y, (hmem y).2 (.inr ⟨hy, fun e2 => ?_⟩), ty⟩
      rw [e2, true_neg (by intro e3; apply hv; left; omega), ← e, tx] at ty
      cases ty
    · exact ⟨x, (hmem x).2 (.inl ⟨hx, e⟩), tx⟩
  · cases hr
/-- A formula is true just if what is left of it, given a literal that is true, is so. -/
theorem given_sound {f : Fm} {x : Int} {m : List Bool} (hr : rightP f = true) (hm : (m.length : Int) = f.n) (hx : litP f.n x = true) (tx : trueP m x = true) : evalP (givenP f x) m = evalP f m := by
  obtain ⟨q0, q1, q2⟩ := right_inv hr
  obtain ⟨x0, x1, x2⟩ := lit_range q0 q1 hx
  have hw : IntKind.wrap .i64 (0 - x) = 0 - x := wrap64 (by omega) (by omega)
  have tn : trueP m (0 - x) = false := by rw [true_neg x0, tx]; rfl
  unfold givenP
  rw [if_pos ⟨hr, hx⟩, hw]
  have hcut : ∀ c, c ∈ f.l → (cutP (0 - x) c).any (trueP m) = c.any (trueP m) := by
    intro c _
    rw [Bool.eq_iff_iff]
    simp only [List.any_eq_true, cutP, List.mem_filter, Bool.not_eq_true', decide_eq_false_iff_not]
    refine ⟨fun ⟨z, hz, k⟩ => ⟨z, hz.1, k⟩, fun ⟨z, hz, k⟩ => ⟨z, ⟨hz, fun e => ?_⟩, k⟩⟩
    rw [e, tn] at k
    cases k
  have hall : ((f.l.filter fun c => !hasP c x).map (cutP (0 - x))).all (fun c => c.any (trueP m)) = f.l.all (fun c => c.any (trueP m)) := by
    rw [Bool.eq_iff_iff]
    simp only [List.all_eq_true, List.mem_map, List.mem_filter, Bool.not_eq_true']
    constructor
    · intro k c hc
      cases hh : hasP c x with
      | true => exact List.any_eq_true.2 ⟨x, has_iff.1 hh, tx⟩
      | false => rw [← hcut c hc]; exact k _ ⟨c, ⟨hc, hh⟩, rfl⟩
    · rintro k d ⟨c, ⟨hc, _⟩, rfl⟩
      rw [hcut c hc]
      exact k c hc
  have hri : rightP ⟨f.n, (f.l.filter fun c => !hasP c x).map (cutP (0 - x))⟩ = true := by
    unfold rightP at hr ⊢
    simp only [Bool.and_eq_true, Bool.not_eq_true', decide_eq_false_iff_not] at hr ⊢
    refine ⟨hr.1, hr.2.1, ?_, ?_⟩
    · have := List.length_filter_le (fun c => !hasP c x) f.l
      simp only [List.length_map]
      omega
    · rw [List.all_eq_true]
      intro d hd
      obtain ⟨c, hc, rfl⟩ := List.mem_map.1 hd
      unfold allP
      rw [List.all_eq_true]
      intro z hz
      exact q2 c (List.mem_filter.1 hc).1 z (List.mem_filter.1 hz).1
  unfold evalP
  rw [hri, hr]
  simp only [Bool.true_and]
  rw [hall]
end Go.Proofs.Ytchedkjlhjfadaa
