/- Law 16: steps as the document's, and back; which are few and small. Conditions: none. -/
import Derived.Test.YtchedkjlhjfadaaQ3
set_option linter.unusedSimpArgs false
set_option linter.unusedVariables false
namespace Go.Proofs.Ytchedkjlhjfadaa
open Go Go.Ab
variable {ext : Sem'}
theorem own16_e (hx : TX ext) (l : List Ps) (hl : l.length ≤ 10000) : G ext 19 [.d (.sl (l.map rowS))] [] = some (.ret (.d (.sl (l.map rowS))), []) := by
  have hll : (l.map rowS).length = l.length := List.length_map _
  rw [G_body hx.clear rfl Try.func19 rfl Try.results19 hv_19 rfl]
  simp (config := { maxSteps := 4000000 }) (disch := first | (intros; contradiction) | omega) only [go_sem]
  generalize hL : loopA _ _ _ = L
  apply range_upd hL (by simp (config := { maxSteps := 4000000 }) (disch := first | (intros; contradiction) | omega) only [go_sem] <;> rfl) l rowS (α := List Ps) (fun rest k d => d ++ rest = l ∧ d.length = k) (fun k d => [(3, .grow 1 k (d.map rowS)), (4, .d (.int .i64 k))]) (fun k d => [(1, .grow k 3)]) [] (by simp (config := { maxSteps := 4000000 }) (disch := first | (intros; contradiction) | omega) only [go_sem] <;> rfl) ⟨rfl, rfl⟩ ?_ ?_
  · rintro s rest k d ⟨i1, i2⟩ hlt hrow hget hk _ next ih
    clear hL
    simp only [rowS] at hrow
    have hroom : room ((d.map rowS).length + 1) 24 := by rw [List.length_map]; unfold room; simp; omega
    simp (config := { maxSteps := 4000000 }) (disch := first | (intros; contradiction) | omega) only [go_sem, hlt, hrow, hroom, wrap64]
    exact ih (d ++ [s]) _ ⟨by rw [← i1]; simp, by simp [i2]⟩ (by simp (config := { maxSteps := 4000000 }) (disch := first | (intros; contradiction) | omega) only [go_sem, List.map_append, List.map_cons, List.map_nil, rowS] <;> rfl)
  · rintro k d ⟨i1, i2⟩ hlt hk next
    clear hL
    rw [List.append_nil] at i1
    subst i1
    simp (config := { maxSteps := 4000000 }) (disch := first | (intros; contradiction) | omega) only [go_sem, hlt]
theorem back16_e (hx : TX ext) (l : List Ps) (hl : l.length ≤ 10000) : G ext 17 [.d (.sl (l.map rowS))] [] = some (.ret (.d (.sl (l.map rowS))), []) := by
  have hll : (l.map rowS).length = l.length := List.length_map _
  rw [G_body hx.clear rfl Try.func17 rfl Try.results17 hv_17 rfl]
  simp (config := { maxSteps := 4000000 }) (disch := first | (intros; contradiction) | omega) only [go_sem]
  generalize hL : loopA _ _ _ = L
  apply range_upd hL (by simp (config := { maxSteps := 4000000 }) (disch := first | (intros; contradiction) | omega) only [go_sem] <;> rfl) l rowS (α := List Ps) (fun rest k d => d ++ rest = l ∧ d.length = k) (fun k d => [(3, .grow 1 k (d.map rowS)), (4, .d (.int .i64 k))]) (fun k d => [(1, .grow k 3)]) [] (by simp (config := { maxSteps := 4000000 }) (disch := first | (intros; contradiction) | omega) only [go_sem] <;> rfl) ⟨rfl, rfl⟩ ?_ ?_
  · rintro s rest k d ⟨i1, i2⟩ hlt hrow hget hk _ next ih
    clear hL
    simp only [rowS] at hrow
    have hroom : room ((d.map rowS).length + 1) 24 := by rw [List.length_map]; unfold room; simp; omega
    simp (config := { maxSteps := 4000000 }) (disch := first | (intros; contradiction) | omega) only [go_sem, hlt, hrow, hroom, wrap64]
    exact ih (d ++ [s]) _ ⟨by rw [← i1]; simp, by simp [i2]⟩ (by simp (config := { maxSteps := 4000000 }) (disch := first | (intros; contradiction) | omega) only [go_sem, List.map_append, List.map_cons, List.map_nil, rowS] <;> rfl)
  · rintro k d ⟨i1, i2⟩ hlt hk next
    clear hL
    rw [List.append_nil] at i1
    subst i1
    simp (config := { maxSteps := 4000000 }) (disch := first | (intros; contradiction) | omega) only [go_sem, hlt]
def smallS (s : Ps) : Bool := decide (-1000000 ≤ s.a ∧ s.a ≤ 1000000 ∧ -1000000 ≤ s.b ∧ s.b ≤ 1000000 ∧ -1000000 ≤ s.on ∧ s.on ≤ 1000000)
def light16 (f : Fm) (l : List Ps) : Bool := decide (l.length ≤ 40) && (l.all smallS && (lightP f && decide (f.l.length ≤ 40)))
set_option maxHeartbeats 8000000 in
theorem light16_e (hx : TX ext) (f : Fm) (l : List Ps) : G ext 10 [f.av, .d (.sl (l.map rowS))] [] = some (.ret (.d (.bool (light16 f l))), []) := by
  have hll : (l.map rowS).length = l.length := List.length_map _
  have hfl : (f.l.map rowC).length = f.l.length := List.length_map _
  have hli := light_e hx f
  simp only [Fm.av] at hli
  rw [G_body hx.clear rfl Try.func10 rfl Try.results10 hv_10 rfl]
  simp only [Fm.av]
  unfold light16
  by_cases h1 : (40 : Int) < ((l.map rowS).length : Int)
  · rw [decide_eq_false (show ¬ l.length ≤ 40 by omega)]
    simp (config := { maxSteps := 4000000 }) (disch := first | (intros; contradiction) | omega) only [go_sem, h1] <;> rfl
  · rw [decide_eq_true (show l.length ≤ 40 by omega)]
    simp only [Bool.true_and]
    simp (config := { maxSteps := 4000000 }) (disch := first | (intros; contradiction) | omega) only [go_sem, h1]
    generalize hL : loopA _ _ _ = L
    apply range_upd hL (by simp (config := { maxSteps := 4000000 }) (disch := first | (intros; contradiction) | omega) only [go_sem] <;> rfl) l rowS (α := Unit) (fun rest k _ => l.all smallS = rest.all smallS) (fun k _ => [(5, .d (.int .i64 k))]) (fun _ _ => []) () (by simp (config := { maxSteps := 4000000 }) (disch := first | (intros; contradiction) | omega) only [go_sem] <;> rfl) rfl ?_ ?_
    · rintro s rest k _ i1 hlt hrow hget hk _ next ih
      clear hL
      simp only [rowS] at hrow
      rw [List.all_cons] at i1
      have hwk : IntKind.wrap .i64 ((k : Int) + 1) = ((k + 1 : Nat) : Int) := by rw [wrap64 (by omega) (by omega)]; omega
      by_cases g : smallS s = true
      · rw [g, Bool.true_and] at i1
        have g := of_decide_eq_true g
        have g1 : ¬ s.a < -1000000 := by omega
        have g2 : ¬ (1000000 : Int) < s.a := by omega
        have g3 : ¬ s.b < -1000000 := by omega
        have g4 : ¬ (1000000 : Int) < s.b := by omega
        have g5 : ¬ s.on < -1000000 := by omega
        have g6 : ¬ (1000000 : Int) < s.on := by omega
        simp (config := { maxSteps := 4000000 }) (disch := first | (intros; contradiction) | omega) only [go_sem, hlt, hrow, g1, g2, g3, g4, g5, g6, hwk]
        exact ih () _ i1 (by simp (config := { maxSteps := 4000000 }) (disch := first | (intros; contradiction) | omega) only [go_sem] <;> rfl)
      · have g' : smallS s = false := by simpa using g
        rw [g', Bool.false_and] at i1
        rw [i1]
        have g := of_decide_eq_false g'
        simp only [Bool.false_and]
        by_cases g1 : s.a < -1000000
        · simp (config := { maxSteps := 4000000 }) (disch := first | (intros; contradiction) | omega) only [go_sem, hlt, hrow, g1]
        by_cases g2 : (1000000 : Int) < s.a
        · simp (config := { maxSteps := 4000000 }) (disch := first | (intros; contradiction) | omega) only [go_sem, hlt, hrow, g1, g2]
        by_cases g3 : s.b < -1000000
        · simp (config := { maxSteps := 4000000 }) (disch := first | (intros; contradiction) | omega) only [go_sem, hlt, hrow, g1, g2, g3]
        by_cases g4 : (1000000 : Int) < s.b
        · simp (config := { maxSteps := 4000000 }) (disch := first | (intros; contradiction) | omega) only [go_sem, hlt, hrow, g1, g2, g3, g4]
        by_cases g5 : s.on < -1000000
        · simp (config := { maxSteps := 4000000 }) (disch := first | (intros; contradiction) | omega) only [go_sem, hlt, hrow, g1, g2, g3, g4, g5]
        by_cases g6 : (1000000 : Int) < s.on
        · simp (config := { maxSteps := 4000000 }) (disch := first | (intros; contradiction) | omega) only [go_sem, hlt, hrow, g1, g2, g3, g4, g5, g6]
        omega
    · rintro k _ i1 hlt hk next
      clear hL
      have i1 : l.all smallS = true := i1
      rw [i1]
      simp only [Bool.true_and]
      cases hlp : lightP f with
      | false =>
        rw [hlp] at hli
        simp (config := { maxSteps := 4000000 }) (disch := first | (intros; contradiction) | omega) only [go_sem, hlt, hli, Bool.false_and]
        done
      | true =>
        rw [hlp] at hli
        have hde : decide ((40 : Int) < ((f.l.map rowC).length : Int)) = !decide (f.l.length ≤ 40) := by
          by_cases h : f.l.length ≤ 40
          · rw [decide_eq_true h, decide_eq_false (by omega)]; rfl
          · rw [decide_eq_false h, decide_eq_true (by omega)]; rfl
        have hde2 : decide (((f.l.map rowC).length : Int) ≤ 40) = decide (f.l.length ≤ 40) := by
          congr 1
          apply propext
          omega
        simp (config := { maxSteps := 4000000 }) (disch := first | (intros; contradiction) | omega) only [go_sem, hlt, hli, hde, hde2, Bool.not_not, Bool.true_and]
        done
end Go.Proofs.Ytchedkjlhjfadaa
