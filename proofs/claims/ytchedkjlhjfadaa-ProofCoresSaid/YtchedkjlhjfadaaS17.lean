/- slices.Concat of two lists of numbers. Conditions: none. -/
import Derived.Test.YtchedkjlhjfadaaS6
import Derived.Test.YtchedkjlhjfadaaGrowX
set_option linter.unusedSimpArgs false
set_option linter.unusedVariables false
namespace Go.Proofs.Ytchedkjlhjfadaa
open Go Go.Ab
variable {ext : Sem'}
noncomputable def concF (ext : Sem') : Sem' := cutEv Try.prog (G ext) growsF hd hv hf
theorem conc_e (hx : TX ext) (a b : List Int) (ha : a.length ≤ 10000) (hb : b.length ≤ 10000) : concF ext 58 [.d (.sl ([a, b].map rowC))] [] = some (.ret (.d (.sl ((a ++ b).map rowI))), []) := by
  have hal : (a.map rowI).length = a.length := List.length_map _
  have hbl : (b.map rowI).length = b.length := List.length_map _
  unfold concF
  rw [cutEv_body Try.func58 rfl (congrArg Array.toList Try.results58) hv_58 (Nat.le_of_ble_eq_true rfl)]
  simp only [List.map_cons, List.map_nil, rowC]
  rw [cutC_go rfl]
  simp (config := { maxSteps := 4000000 }) (disch := first | (intros; contradiction) | omega) only [go_sem, cutGo]
  rw [cutC_go rfl]
  simp (config := { maxSteps := 4000000 }) (disch := first | (intros; contradiction) | omega) only [go_sem, cutGo]
  rw [cutC_go rfl]
  have hw1 := wrap64 (x := 0 + ((a.map rowI).length : Int)) (by omega) (by omega)
  have hw2 := wrap64 (x := 0 + ((a.map rowI).length : Int) + ((b.map rowI).length : Int)) (by omega) (by omega)
  have hn1 : ¬ 0 + ((a.map rowI).length : Int) < 0 := by omega
  have hn2 : ¬ 0 + ((a.map rowI).length : Int) + ((b.map rowI).length : Int) < 0 := by omega
  have hc1 : IntKind.wrap .i64 1 = 1 := by decide
  have hc2 : IntKind.wrap .i64 2 = 2 := by decide
  have hfit : ∀ l : List Int, fits 1 (l.map rowI) := fun l => by intro row h; obtain ⟨x, _, rfl⟩ := List.mem_map.1 h; rfl
  have hr1 : room (a.map rowI).length 8 := room8 (by omega)
  have hr2 : room ((a.map rowI).length + (b.map rowI).length) 8 := room8 (by omega)
  simp (config := { maxSteps := 4000000 }) (disch := first | (intros; contradiction) | omega) only [go_sem, List.length_cons, List.length_nil]
  rw [loopA_eq]
  simp (config := { maxSteps := 4000000 }) (disch := first | (intros; contradiction) | omega) only [go_sem, List.length_cons, List.length_nil, hw1, hn1, hc1, hc2]
  rw [loopA_eq]
  simp (config := { maxSteps := 4000000 }) (disch := first | (intros; contradiction) | omega) only [go_sem, List.length_cons, List.length_nil, hw1, hn1, hw2, hn2, hc1, hc2]
  rw [loopA_eq]
  simp (config := { maxSteps := 4000000 }) (disch := first | (intros; contradiction) | omega) only [go_sem, List.length_cons, List.length_nil, hw1, hn1, hw2, hn2, hc1, hc2, cutGo]
  rw [cutC_cut rfl]
  have hm : 0 ≤ 0 + ((a.map rowI).length : Int) + ((b.map rowI).length : Int) ∧ 0 + ((a.map rowI).length : Int) + ((b.map rowI).length : Int) ≤ 1000000 := by omega
  have hg : growsF 80 = true := by decide
  simp (config := { maxSteps := 4000000 }) (disch := first | (intros; contradiction) | omega) only [go_sem, cutR, cutK, cutN, cutE, noPan, cutRun, hg, hm]
  rw [cutC_go rfl]
  simp (config := { maxSteps := 4000000 }) (disch := first | (intros; contradiction) | omega) only [go_sem, List.length_cons, List.length_nil]
  rw [loopA_eq]
  simp (config := { maxSteps := 4000000 }) (disch := first | (intros; contradiction) | omega) only [go_sem, List.length_cons, List.length_nil, hfit, hr1, hc1, hc2, Nat.zero_add, List.nil_append]
  rw [loopA_eq]
  simp (config := { maxSteps := 4000000 }) (disch := first | (intros; contradiction) | omega) only [go_sem, List.length_cons, List.length_nil, hfit, hr1, hr2, hc1, hc2, Nat.zero_add, List.nil_append]
  rw [loopA_eq]
  simp (config := { maxSteps := 4000000 }) (disch := first | (intros; contradiction) | omega) only [go_sem, List.length_cons, List.length_nil, hfit, hr1, hr2, hc1, hc2, Nat.zero_add, List.nil_append, cutGo]
  rw [cutC_go rfl]
  simp (config := { maxSteps := 4000000 }) (disch := first | (intros; contradiction) | omega) only [go_sem, cutGo, List.map_append]
  rw [cutC_other (by intro a b h; cases h)]
  simp (config := { maxSteps := 4000000 }) (disch := first | (intros; contradiction) | omega) only [go_sem, cutFin, List.map_append]
  done
end Go.Proofs.Ytchedkjlhjfadaa
