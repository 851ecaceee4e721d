/- cnf: what is left of a formula given a literal; what clauses resolve to. Conditions: none. -/
import Derived.Test.YtchedkjlhjfadaaC6
set_option linter.unusedSimpArgs false
set_option linter.unusedVariables false
namespace Go.Proofs.Ytchedkjlhjfadaa
open Go Go.Ab
variable {ext : Sem'}
theorem indexv_e (hx : TX ext) (l : List Int) (v : Int) (hl : l.length ≤ 1000000) : G ext 88 [.d (.sl (l.map rowI)), .d (.int .i64 v)] [] = some (.ret (.d (.int .i64 (idxN (fun x => decide (v = x)) l))), []) := by
  have hll : (l.map rowI).length = l.length := List.length_map _
  rw [G_body hx.clear rfl Try.func88 rfl Try.results88 hv_88 rfl]
  simp (config := { maxSteps := 4000000 }) (disch := first | (intros; contradiction) | omega) only [go_sem]
  generalize hL : loopA _ _ _ = L
  apply range_upd hL (by simp (config := { maxSteps := 4000000 }) (disch := first | (intros; contradiction) | omega) only [go_sem] <;> rfl) l rowI (α := Unit) (fun rest k _ => idxP (fun x => decide (v = x)) l = (idxP (fun x => decide (v = x)) rest).map (k + ·)) (fun k _ => [(5, .any), (8, .d (.int .i64 k))]) (fun _ _ => []) () (by simp (config := { maxSteps := 4000000 }) (disch := first | (intros; contradiction) | omega) only [go_sem] <;> rfl) (by simp) ?_ ?_
  · intro x rest k _ hi hlt hr hxx hk _ next ih
    clear hL
    simp only [rowI] at hr
    simp only [idxP] at hi
    by_cases hpx : v = x
    · rw [if_pos (decide_eq_true hpx)] at hi
      have h1 : idxN (fun x => decide (v = x)) l = k := by unfold idxN; rw [hi]; simp
      rw [h1]
      have hpx := eq_true hpx
      simp (config := { maxSteps := 4000000 }) (disch := first | (intros; contradiction) | omega) only [go_sem, hlt, hr, hpx]
    · rw [if_neg (by simpa using hpx)] at hi
      simp (config := { maxSteps := 4000000 }) (disch := first | (intros; contradiction) | omega) only [go_sem, hlt, hr, hpx, wrap64]
      exact ih () _ (by rw [hi]; simp only [Option.map_map]; congr 1; funext n; simp only [Function.comp]; omega) (by simp (config := { maxSteps := 4000000 }) (disch := first | (intros; contradiction) | omega) only [go_sem] <;> rfl)
  · intro k _ hi hlt hk next
    clear hL
    have h1 : idxN (fun x => decide (v = x)) l = -1 := by unfold idxN; rw [hi]; rfl
    rw [h1]
    simp (config := { maxSteps := 4000000 }) (disch := first | (intros; contradiction) | omega) only [go_sem, hlt]
def hasP (l : List Int) (v : Int) : Bool := l.any fun x => decide (v = x)
theorem containsv_e (hx : TX ext) (l : List Int) (v : Int) (hl : l.length ≤ 1000000) : G ext 89 [.d (.sl (l.map rowI)), .d (.int .i64 v)] [] = some (.ret (.d (.bool (hasP l v))), []) := by
  have hi := indexv_e hx l v hl
  unfold hasP
  rw [← idxN_any]
  rw [G_body hx.clear rfl Try.func89 rfl Try.results89 hv_89 rfl]
  simp (config := { maxSteps := 4000000 }) (disch := first | (intros; contradiction) | omega) only [go_sem, hi]
theorem rhasv_e (hx : TX ext) (l : List Int) (v : Int) (hl : l.length ≤ 1000000) : G ext 75 [.d (.sl (l.map rowI)), .d (.int .i64 v)] [] = some (.ret (.d (.bool (hasP l v))), []) := by
  have hll : (l.map rowI).length = l.length := List.length_map _
  rw [G_body hx.clear rfl Try.func75 rfl Try.results75 hv_75 rfl]
  simp (config := { maxSteps := 4000000 }) (disch := first | (intros; contradiction) | omega) only [go_sem]
  generalize hL : loopA _ _ _ = L
  apply range_upd hL (by simp (config := { maxSteps := 4000000 }) (disch := first | (intros; contradiction) | omega) only [go_sem] <;> rfl) l rowI (α := Unit) (fun rest k _ => hasP l v = hasP rest v) (fun k _ => [(5, .d (.int .i64 k))]) (fun _ _ => []) () (by simp (config := { maxSteps := 4000000 }) (disch := first | (intros; contradiction) | omega) only [go_sem] <;> rfl) rfl ?_ ?_
  · intro x rest k _ hi hlt hr hxx hk _ next ih
    clear hL
    simp only [rowI] at hr
    unfold hasP at hi
    rw [List.any_cons] at hi
    by_cases hpx : x = v
    · rw [decide_eq_true hpx.symm, Bool.true_or] at hi
      unfold hasP
      rw [hi]
      have hpx := eq_true hpx
      simp (config := { maxSteps := 4000000 }) (disch := first | (intros; contradiction) | omega) only [go_sem, hlt, hr, hpx]
    · rw [decide_eq_false (fun h => hpx h.symm), Bool.false_or] at hi
      simp (config := { maxSteps := 4000000 }) (disch := first | (intros; contradiction) | omega) only [go_sem, hlt, hr, hpx, wrap64]
      exact ih () _ hi (by simp (config := { maxSteps := 4000000 }) (disch := first | (intros; contradiction) | omega) only [go_sem] <;> rfl)
  · intro k _ hi hlt hk next
    clear hL
    have hi : hasP l v = false := hi
    rw [hi]
    simp (config := { maxSteps := 4000000 }) (disch := first | (intros; contradiction) | omega) only [go_sem, hlt]
def cutP (v : Int) (c : List Int) : List Int := c.filter fun y => !decide (y = v)
/-- What is left given a literal. -/
def givenP (f : Fm) (x : Int) : Fm := if rightP f = true ∧ litP f.n x = true then ⟨f.n, (f.l.filter fun c => !hasP c x).map (cutP (IntKind.wrap .i64 (0 - x)))⟩ else f
theorem room_c {n : Nat} (h : n ≤ 1000000) : room n 24 := by unfold room; simp; omega
end Go.Proofs.Ytchedkjlhjfadaa
