/- cnf: which formulas are true in a model. Conditions: none. -/
import Derived.Test.YtchedkjlhjfadaaC5
set_option linter.unusedSimpArgs false
set_option linter.unusedVariables false
namespace Go.Proofs.Ytchedkjlhjfadaa
open Go Go.Ab
variable {ext : Sem'}
def rowB (b : Bool) : List Dt := [.bool b]
def absI (x : Int) : Int := if 0 < x then x else 0 - x
def trueP (m : List Bool) (x : Int) : Bool := decide ((m[(absI x - 1).toNat]?).getD false = decide (0 < x))
theorem lit_range {n x : Int} (h0 : 0 ≤ n) (h1 : n ≤ 100000) (h : litP n x = true) : x ≠ 0 ∧ x ≤ n ∧ 0 - n ≤ x := by
  unfold litP at h
  simp only [Bool.and_eq_true, decide_eq_true_eq, ne_eq] at h
  rw [wrap64 (by omega) (by omega)] at h
  exact ⟨h.1, h.2.1, h.2.2⟩
theorem true_at {n x : Int} {m : List Bool} (h0 : 0 ≤ n) (h1 : n ≤ 100000) (hm : (m.length : Int) = n) (h : litP n x = true) : 0 ≤ absI x - 1 ∧ (m.map rowB)[(absI x - 1).toNat]? = some [.bool ((m[(absI x - 1).toNat]?).getD false)] := by
  obtain ⟨k1, k2, k3⟩ := lit_range h0 h1 h
  have k4 : 1 ≤ absI x ∧ absI x ≤ n := by unfold absI; split <;> omega
  have hlt : (absI x - 1).toNat < m.length := by omega
  refine ⟨by omega, ?_⟩
  rw [map_at hlt, List.getElem?_eq_getElem hlt]
  rfl
theorem max_abs {x : Int} (h : x ≠ 0) (h1 : -1000000 ≤ x) (h2 : x ≤ 1000000) : (if x < 0 - x then 0 - x else x) = absI x := by
  unfold absI
  split <;> split <;> omega
theorem eqB_decide (a b : Bool) : decide (a = b) = (a == b) := by cases a <;> cases b <;> rfl
set_option maxHeartbeats 1000000 in
theorem eval1_e (hx : TX ext) (n x : Int) (m : List Bool) (h0 : 0 ≤ n) (h1 : n ≤ 100000) (hm : (m.length : Int) = n) (h : litP n x = true) : G ext 48 [.d (.int .i64 x), .ptr 0 0] [.cells [.d (.sl (m.map rowB))]] = some (.ret (.d (.bool (trueP m x))), [.cells [.d (.sl (m.map rowB))]]) := by
  obtain ⟨k1, k2, k3⟩ := lit_range h0 h1 h
  obtain ⟨k4, k5⟩ := true_at h0 h1 hm h
  have k6 := max_abs k1 (by omega) (by omega)
  have k7 : absI x ≤ 100000 := by unfold absI; split <;> omega
  rw [G_body hx.clear rfl Try.func48 rfl Try.results48 hv_48 rfl]
  unfold trueP
  generalize (m[(absI x - 1).toNat]?).getD false = b at k5 ⊢
  generalize absI x = y at *
  by_cases h2 : 0 < x
  · rw [decide_eq_true h2]
    cases b <;> simp (config := { maxSteps := 4000000 }) (disch := first | (intros; contradiction) | omega) only [go_sem, k6, k4, k5, h2, wrap64] <;> rfl
  · rw [decide_eq_false h2]
    cases b <;> simp (config := { maxSteps := 4000000 }) (disch := first | (intros; contradiction) | omega) only [go_sem, k6, k4, k5, h2, wrap64] <;> rfl
theorem rtrue_e (hx : TX ext) (n x : Int) (m : List Bool) (h0 : 0 ≤ n) (h1 : n ≤ 100000) (hm : (m.length : Int) = n) (h : litP n x = true) : G ext 38 [.d (.int .i64 x), .d (.sl (m.map rowB))] [] = some (.ret (.d (.bool (trueP m x))), []) := by
  obtain ⟨k1, k2, k3⟩ := lit_range h0 h1 h
  obtain ⟨k4, k5⟩ := true_at h0 h1 hm h
  rw [G_body hx.clear rfl Try.func38 rfl Try.results38 hv_38 rfl]
  unfold trueP
  generalize (m[(absI x - 1).toNat]?).getD false = b at k5 ⊢
  unfold absI at k4 k5
  by_cases h2 : 0 < x
  · rw [if_pos h2] at k4 k5
    rw [decide_eq_true h2]
    cases b <;> simp (config := { maxSteps := 4000000 }) (disch := first | (intros; contradiction) | omega) only [go_sem, k4, k5, h2, wrap64] <;> rfl
  · rw [if_neg h2] at k4 k5
    rw [decide_eq_false h2]
    cases b <;> simp (config := { maxSteps := 4000000 }) (disch := first | (intros; contradiction) | omega) only [go_sem, k4, k5, h2, wrap64] <;> rfl
def evalP (f : Fm) (m : List Bool) : Bool := rightP f && (decide ((m.length : Int) = f.n) && f.l.all fun c => c.any (trueP m))
theorem right_inv {f : Fm} (h : rightP f = true) : 0 ≤ f.n ∧ f.n ≤ 100000 ∧ ∀ c, c ∈ f.l → ∀ x, x ∈ c → litP f.n x = true := by
  unfold rightP at h
  simp only [Bool.and_eq_true, Bool.not_eq_true', decide_eq_false_iff_not] at h
  refine ⟨by omega, by omega, fun c hc x hx => ?_⟩
  exact List.all_eq_true.1 (List.all_eq_true.1 h.2.2.2 c hc) x hx
set_option maxHeartbeats 4000000 in
theorem eval_e (hx : TX ext) (f : Fm) (hs : Short f) (m : List Bool) : G ext 20 [f.av, .d (.sl (m.map rowB))] [] = some (.ret (.d (.bool (evalP f m))), []) := by
  have hr := right_e hx f hs
  have hml : (m.map rowB).length = m.length := List.length_map _
  have hll : (f.l.map rowC).length = f.l.length := List.length_map _
  have hsl := hs.l
  rw [G_body hx.clear rfl Try.func20 rfl Try.results20 hv_20 rfl]
  unfold evalP
  cases h1 : rightP f with
  | false =>
    rw [h1] at hr
    simp only [Fm.av] at hr ⊢
    simp (config := { maxSteps := 4000000 }) (disch := first | (intros; contradiction) | omega) only [go_sem, hr, Bool.false_and]
  | true =>
    rw [h1] at hr
    obtain ⟨q0, q1, q2⟩ := right_inv h1
    simp only [Fm.av] at hr ⊢
    by_cases h2 : ((m.map rowB).length : Int) = f.n
    · have hm : (m.length : Int) = f.n := by omega
      rw [decide_eq_true hm]
      have h2 := eq_true h2
      simp (config := { maxSteps := 4000000 }) (disch := first | (intros; contradiction) | omega) only [go_sem, hr, h2, Bool.true_and]
      generalize hL : loopA _ _ _ = L
      apply range_upd hL (by simp (config := { maxSteps := 4000000 }) (disch := first | (intros; contradiction) | omega) only [go_sem] <;> rfl) f.l rowC (α := Unit) (fun rest k _ => (f.l.all fun c => c.any (trueP m)) = (rest.all fun c => c.any (trueP m))) (fun k _ => [(7, .any), (9, .any), (24, .d (.int .i64 k)), (28, .any), (29, .any), (30, .any)]) (fun _ _ => []) () (by simp (config := { maxSteps := 4000000 }) (disch := first | (intros; contradiction) | omega) only [go_sem] <;> rfl) rfl ?_ ?_
      · rintro c rest k _ i1 hlt hr2 hget hk _ next ih
        clear hL
        have hmem := List.mem_of_getElem? hget
        have hcl : (c.map rowI).length = c.length := List.length_map _
        have hcs := hs.c c hmem
        simp only [rowC] at hr2
        rw [List.all_cons] at i1
        simp (config := { maxSteps := 4000000 }) (disch := first | (intros; contradiction) | omega) only [go_sem, hlt, hr2]
        generalize hL : loopA _ _ _ = L
        apply range_upd hL (by simp (config := { maxSteps := 4000000 }) (disch := first | (intros; contradiction) | omega) only [go_sem] <;> rfl) c rowI (α := Unit) (fun rest2 j _ => c.any (trueP m) = rest2.any (trueP m)) (fun j _ => [(9, .any), (30, .d (.int .i64 j))]) (fun _ _ => []) () (by simp (config := { maxSteps := 4000000 }) (disch := first | (intros; contradiction) | omega) only [go_sem] <;> rfl) rfl ?_ ?_
        · rintro x rest2 j _ j1 hlt3 hr3 hget3 hj _ next2 ih2
          clear hL
          have he := eval1_e hx f.n x m q0 q1 hm (q2 c hmem x (List.mem_of_getElem? hget3))
          simp only [rowI] at hr3
          rw [List.any_cons] at j1
          cases hb : trueP m x with
          | true =>
            rw [hb] at he j1
            rw [j1] at i1
            simp (config := { maxSteps := 4000000 }) (disch := first | (intros; contradiction) | omega) only [go_sem, hlt3, hr3, he, wrap64]
            exact ih () _ (by rw [i1]; simp) (by simp (config := { maxSteps := 4000000 }) (disch := first | (intros; contradiction) | omega) only [go_sem] <;> rfl)
          | false =>
            rw [hb] at he j1
            simp (config := { maxSteps := 4000000 }) (disch := first | (intros; contradiction) | omega) only [go_sem, hlt3, hr3, he, wrap64]
            exact ih2 () _ (by rw [j1]; simp) (by simp (config := { maxSteps := 4000000 }) (disch := first | (intros; contradiction) | omega) only [go_sem] <;> rfl)
        · rintro j _ j1 hlt3 hj next2
          clear hL
          rw [j1] at i1
          rw [i1]
          simp (config := { maxSteps := 4000000 }) (disch := first | (intros; contradiction) | omega) only [go_sem, hlt3]
      · rintro k _ i1 hlt hk next
        rw [i1]
        simp (config := { maxSteps := 4000000 }) (disch := first | (intros; contradiction) | omega) only [go_sem, hlt]
    · have hm : ¬ (m.length : Int) = f.n := by omega
      rw [decide_eq_false hm]
      simp (config := { maxSteps := 4000000 }) (disch := first | (intros; contradiction) | omega) only [go_sem, hr, h2, ne_eq, not_false_eq_true, Bool.false_and, Bool.and_false]
end Go.Proofs.Ytchedkjlhjfadaa
