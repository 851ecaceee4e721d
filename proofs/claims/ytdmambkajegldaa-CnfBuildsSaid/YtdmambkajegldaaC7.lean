/- cnf: what is left of a formula given a literal; what clauses resolve to. Conditions: none. -/
import Derived.Test.YtdmambkajegldaaC6
set_option linter.unusedSimpArgs false
set_option linter.unusedVariables false
namespace Go.Proofs.Ytdmambkajegldaa
open Go Go.Ab
variable {ext : Sem'}
theorem indexv_e (hx : TX ext) (l : List Int) (v : Int) (hl : l.length ≤ 1000000) : G ext 53 [.d (.sl (l.map rowI)), .d (.int .i64 v)] [] = some (.ret (.d (.int .i64 (idxN (fun x => decide (v = x)) l))), []) := by
  have hll : (l.map rowI).length = l.length := List.length_map _
  rw [G_body hx.clear rfl Try.func53 rfl Try.results53 hv_53 rfl]
  simp (config := { maxSteps := 4000000 }) (disch := first | (intros; contradiction) | omega) only [go_sem]
  generalize hL : loopA _ _ _ = L
  apply range_upd hL (by simp (config := { maxSteps := 4000000 }) (disch := first | (intros; contradiction) | omega) only [go_sem] <;> rfl) l rowI (α := Unit) (fun rest k _ => idxP (fun x => decide (v = x)) l = (idxP (fun x => decide (v = x)) rest).map (k + ·)) (fun k _ => [(5, .any), (8, .d (.int .i64 k))]) (fun _ _ => []) () (by simp (config := { maxSteps := 4000000 }) (disch := first | (intros; contradiction) | omega) only [go_sem] <;> rfl) (by simp) ?_ ?_
  · intro x rest k _ hi hlt hr hxx hk _ next ih
    clear hL
    simp only [rowI] at hr
    simp only [idxP] at hi
    by_cases hpx : v = x
    · rw [if_pos (decide_eq_true hpx)] at hi
      have h1 : idxN (fun x => decide (v = x)) l = k := by unfold idxN; rw [hi]; simp
      rw [h1]
      have hpx := eq_true hpx
      simp (config := { maxSteps := 4000000 }) (disch := first | (intros; contradiction) | omega) only [go_sem, hlt, hr, hpx]
    · rw [if_neg (by simpa using hpx)] at hi
      simp (config := { maxSteps := 4000000 }) (disch := first | (intros; contradiction) | omega) only [go_sem, hlt, hr, hpx, wrap64]
      exact ih () _ (by rw [hi]; simp only [Option.map_map]; congr 1; funext n; simp only [Function.comp]; omega) (by simp (config := { maxSteps := 4000000 }) (disch := first | (intros; contradiction) | omega) only [go_sem] <;> rfl)
  · intro k _ hi hlt hk next
    clear hL
    have h1 : idxN (fun x => decide (v = x)) l = -1 := by unfold idxN; rw [hi]; rfl
    rw [h1]
    simp (config := { maxSteps := 4000000 }) (disch := first | (intros; contradiction) | omega) only [go_sem, hlt]
def hasP (l : List Int) (v : Int) : Bool := l.any fun x => decide (v = x)
theorem containsv_e (hx : TX ext) (l : List Int) (v : Int) (hl : l.length ≤ 1000000) : G ext 40 [.d (.sl (l.map rowI)), .d (.int .i64 v)] [] = some (.ret (.d (.bool (hasP l v))), []) := by
  have hi := indexv_e hx l v hl
  unfold hasP
  rw [← idxN_any]
  rw [G_body hx.clear rfl Try.func40 rfl Try.results40 hv_40 rfl]
  simp (config := { maxSteps := 4000000 }) (disch := first | (intros; contradiction) | omega) only [go_sem, hi]
theorem rhasv_e (hx : TX ext) (l : List Int) (v : Int) (hl : l.length ≤ 1000000) : G ext 43 [.d (.sl (l.map rowI)), .d (.int .i64 v)] [] = some (.ret (.d (.bool (hasP l v))), []) := by
  have hll : (l.map rowI).length = l.length := List.length_map _
  rw [G_body hx.clear rfl Try.func43 rfl Try.results43 hv_43 rfl]
  simp (config := { maxSteps := 4000000 }) (disch := first | (intros; contradiction) | omega) only [go_sem]
  generalize hL : loopA _ _ _ = L
  apply range_upd hL (by simp (config := { maxSteps := 4000000 }) (disch := first | (intros; contradiction) | omega) only [go_sem] <;> rfl) l rowI (α := Unit) (fun rest k _ => hasP l v = hasP rest v) (fun k _ => [(5, .d (.int .i64 k))]) (fun _ _ => []) () (by simp (config := { maxSteps := 4000000 }) (disch := first | (intros; contradiction) | omega) only [go_sem] <;> rfl) rfl ?_ ?_
  · intro x rest k _ hi hlt hr hxx hk _ next ih
    clear hL
    simp only [rowI] at hr
    unfold hasP at hi
    rw [List.any_cons] at hi
    by_cases hpx : x = v
    · rw [decide_eq_true hpx.symm, Bool.true_or] at hi
      unfold hasP
      rw [hi]
      have hpx := eq_true hpx
      simp (config := { maxSteps := 4000000 }) (disch := first | (intros; contradiction) | omega) only [go_sem, hlt, hr, hpx]
    · rw [decide_eq_false (fun h => hpx h.symm), Bool.false_or] at hi
      simp (config := { maxSteps := 4000000 }) (disch := first | (intros; contradiction) | omega) only [go_sem, hlt, hr, hpx, wrap64]
      exact ih () _ hi (by simp (config := { maxSteps := 4000000 }) (disch := first | (intros; contradiction) | omega) only [go_sem] <;> rfl)
  · intro k _ hi hlt hk next
    clear hL
    have hi : hasP l v = false := hi
    rw [hi]
    simp (config := { maxSteps := 4000000 }) (disch := first | (intros; contradiction) | omega) only [go_sem, hlt]
def cutP (v : Int) (c : List Int) : List Int := c.filter fun y => !decide (y = v)
theorem given1_e (hx : TX ext) (x y : Int) : G ext 42 [.d (.int .i64 y), .ptr 0 0] [.cells [.d (.int .i64 x)]] = some (.ret (.d (.bool (decide (y = IntKind.wrap .i64 (0 - x))))), [.cells [.d (.int .i64 x)]]) := by
  rw [G_body hx.clear rfl Try.func42 rfl Try.results42 hv_42 rfl]
  simp (config := { maxSteps := 4000000 }) (disch := first | (intros; contradiction) | omega) only [go_sem]
/-- What is left given a literal. -/
def givenP (f : Fm) (x : Int) : Fm := if rightP f = true ∧ litP f.n x = true then ⟨f.n, (f.l.filter fun c => !hasP c x).map (cutP (IntKind.wrap .i64 (0 - x)))⟩ else f
theorem room_c {n : Nat} (h : n ≤ 1000000) : room n 24 := by unfold room; simp; omega
set_option maxHeartbeats 4000000 in
theorem given_e (hx : TX ext) (f : Fm) (hs : Short f) (x : Int) : G ext 25 [f.av, .d (.int .i64 x)] [] = some (.ret (givenP f x).av, []) := by
  have hr := right_e hx f hs
  have hli := literal_e hx.toT0 f.n x
  have hll : (f.l.map rowC).length = f.l.length := List.length_map _
  have hsl := hs.l
  have a1 := fun l => av_refs l
  have a2 := fun l f => av_ren f l
  rw [G_body hx.clear rfl Try.func25 rfl Try.results25 hv_25 rfl]
  unfold givenP
  cases h1 : rightP f with
  | false =>
    rw [h1] at hr
    rw [if_neg (by simp)]
    simp only [Fm.av] at hr ⊢
    simp (config := { maxSteps := 4000000 }) (disch := first | (intros; contradiction) | omega) only [go_sem, hr]
  | true =>
    rw [h1] at hr
    cases h2 : litP f.n x with
    | false =>
      rw [h2] at hli
      rw [if_neg (by simp)]
      simp only [Fm.av] at hr ⊢
      simp (config := { maxSteps := 4000000 }) (disch := first | (intros; contradiction) | omega) only [go_sem, hr, hli]
    | true =>
      rw [h2] at hli
      rw [if_pos ⟨rfl, rfl⟩]
      simp only [Fm.av] at hr ⊢
      simp (config := { maxSteps := 4000000 }) (disch := first | (intros; contradiction) | omega) only [go_sem, hr, hli]
      generalize hL : loopA _ _ _ = L
      apply range_upd hL (by simp (config := { maxSteps := 4000000 }) (disch := first | (intros; contradiction) | omega) only [go_sem] <;> rfl) f.l rowC (α := List (List Int)) (fun rest k out => out ++ (rest.filter fun c => !hasP c x).map (cutP (IntKind.wrap .i64 (0 - x))) = (f.l.filter fun c => !hasP c x).map (cutP (IntKind.wrap .i64 (0 - x))) ∧ out.length ≤ k) (fun k _ => [(7, .any), (25, .d (.int .i64 k))])
        (fun k out => [(4, .cells [.d (.int .i64 f.n), .grow 5 out.length (out.map rowC)]), (5, .grow out.length 1)]) [] (by simp (config := { maxSteps := 4000000 }) (disch := first | (intros; contradiction) | omega) only [go_sem] <;> rfl) ⟨rfl, Nat.le_refl _⟩ ?_ ?_
      · rintro c rest k out ⟨i1, i2⟩ hlt hr2 hget hk _ next ih
        clear hL
        have hmem := List.mem_of_getElem? hget
        have hcs := hs.c c hmem
        have hco := containsv_e hx c x (by omega)
        simp only [rowC] at hr2
        rw [List.filter_cons] at i1
        cases hb : hasP c x with
        | true =>
          rw [hb] at hco i1
          simp (config := { maxSteps := 4000000 }) (disch := first | (intros; contradiction) | omega) only [go_sem, hlt, hr2, hco, wrap64]
          exact ih out _ ⟨by simpa using i1, by omega⟩ (by simp (config := { maxSteps := 4000000 }) (disch := first | (intros; contradiction) | omega) only [go_sem] <;> rfl)
        | false =>
          rw [hb] at hco i1
          simp only [Bool.not_false, if_true, List.map_cons] at i1
          have hroom : room ((out.map rowC).length + 1) 24 := room_c (by simp; omega)
          have hg1 := fun y => given1_e hx x y
          by_cases h0 : c = []
          · subst h0
            rw [show cutP (IntKind.wrap .i64 (0 - x)) [] = [] from rfl] at i1
            have e0 := G_ext hx.clone0
            have e1 := delete0_e hx 42 [.d (.int .i64 x)] rfl (fun _ => rfl)
            simp only [List.map_nil] at hr2 hco
            simp (config := { maxSteps := 4000000 }) (disch := first | (intros; contradiction) | omega) only [go_sem, hlt, hr2, hco, e0, e1, hroom, wrap64]
            exact ih (out ++ [[]]) _ ⟨by rw [← i1]; simp, by simp; omega⟩ (by simp (config := { maxSteps := 4000000 }) (disch := first | (intros; contradiction) | omega) only [go_sem, List.map_append, List.length_append, List.length_cons, List.length_nil, List.map_cons, List.map_nil, rowC] <;> rfl)
          · have e0 := G_ext (hx.clone1 c h0 (by omega))
            have e1 := delete1_e hx 42 (fun y => decide (y = IntKind.wrap .i64 (0 - x))) [.d (.int .i64 x)] rfl (fun _ => rfl) c (by omega) (fun y _ => hg1 y)
            rw [show (c.filter fun y => !decide (y = IntKind.wrap .i64 (0 - x))) = cutP (IntKind.wrap .i64 (0 - x)) c from rfl] at e1
            generalize cutP (IntKind.wrap .i64 (0 - x)) c = d at e1 i1
            simp (config := { maxSteps := 4000000 }) (disch := first | (intros; contradiction) | omega) only [go_sem, hlt, hr2, hco, a1, a2, e0, e1, hroom, wrap64]
            exact ih (out ++ [d]) _ ⟨by rw [← i1]; simp, by simp; omega⟩ (by simp (config := { maxSteps := 4000000 }) (disch := first | (intros; contradiction) | omega) only [go_sem, List.map_append, List.length_append, List.length_cons, List.length_nil, List.map_cons, List.map_nil, rowC] <;> rfl)
      · rintro k out ⟨i1, i2⟩ hlt hk next
        clear hL
        simp only [List.filter_nil, List.map_nil, List.append_nil] at i1
        rw [← i1]
        simp (config := { maxSteps := 4000000 }) (disch := first | (intros; contradiction) | omega) only [go_sem, hlt]
end Go.Proofs.Ytdmambkajegldaa
