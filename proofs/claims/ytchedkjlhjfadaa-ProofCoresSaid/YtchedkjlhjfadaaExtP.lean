/- What is known of clones and rows of clauses: right. Conditions: none. -/
import Derived.Test.YtchedkjlhjfadaaExtC3
import Derived.Test.YtchedkjlhjfadaaS17
import Derived.Test.YtchedkjlhjfadaaCloneL
set_option linter.unusedSimpArgs false
set_option linter.unusedVariables false
namespace Go.Proofs.Ytchedkjlhjfadaa
open Go Go.Ab
variable {ext : Sem'}
theorem conc2_e (hx : TX ext) (a b : List (List Int)) (ha : a.length ≤ 10000) (hb : b.length ≤ 10000) : concF ext 69 [.d (.sl ([a, b].map rowL))] [] = some (.ret (.d (.sl ((a ++ b).map rowC))), []) := by
  have hal : (a.map rowC).length = a.length := List.length_map _
  have hbl : (b.map rowC).length = b.length := List.length_map _
  unfold concF
  rw [cutEv_body Try.func69 rfl (congrArg Array.toList Try.results69) hv_69 (Nat.le_of_ble_eq_true rfl)]
  simp only [List.map_cons, List.map_nil, rowL]
  rw [cutC_go rfl]
  simp (config := { maxSteps := 4000000 }) (disch := first | (intros; contradiction) | omega) only [go_sem, cutGo]
  rw [cutC_go rfl]
  simp (config := { maxSteps := 4000000 }) (disch := first | (intros; contradiction) | omega) only [go_sem, cutGo]
  rw [cutC_go rfl]
  have hw1 := wrap64 (x := 0 + ((a.map rowC).length : Int)) (by omega) (by omega)
  have hw2 := wrap64 (x := 0 + ((a.map rowC).length : Int) + ((b.map rowC).length : Int)) (by omega) (by omega)
  have hn1 : ¬ 0 + ((a.map rowC).length : Int) < 0 := by omega
  have hn2 : ¬ 0 + ((a.map rowC).length : Int) + ((b.map rowC).length : Int) < 0 := by omega
  have hc1 : IntKind.wrap .i64 1 = 1 := by decide
  have hc2 : IntKind.wrap .i64 2 = 2 := by decide
  have hfit : ∀ l : List (List Int), fits 1 (l.map rowC) := fun l => by intro row h; obtain ⟨x, _, rfl⟩ := List.mem_map.1 h; rfl
  have hr1 : room (a.map rowC).length 24 := by rw [hal]; unfold room; simp; omega
  have hr2 : room ((a.map rowC).length + (b.map rowC).length) 24 := by rw [hal, hbl]; unfold room; simp; omega
  simp (config := { maxSteps := 4000000 }) (disch := first | (intros; contradiction) | omega) only [go_sem, List.length_cons, List.length_nil]
  rw [loopA_eq]
  simp (config := { maxSteps := 4000000 }) (disch := first | (intros; contradiction) | omega) only [go_sem, List.length_cons, List.length_nil, hw1, hn1, hc1, hc2]
  rw [loopA_eq]
  simp (config := { maxSteps := 4000000 }) (disch := first | (intros; contradiction) | omega) only [go_sem, List.length_cons, List.length_nil, hw1, hn1, hw2, hn2, hc1, hc2]
  rw [loopA_eq]
  simp (config := { maxSteps := 4000000 }) (disch := first | (intros; contradiction) | omega) only [go_sem, List.length_cons, List.length_nil, hw1, hn1, hw2, hn2, hc1, hc2, cutGo]
  rw [cutC_cut rfl]
  have hm : 0 ≤ 0 + ((a.map rowC).length : Int) + ((b.map rowC).length : Int) ∧ 0 + ((a.map rowC).length : Int) + ((b.map rowC).length : Int) ≤ 1000000 := by omega
  have hg : growsF 94 = true := by decide
  simp (config := { maxSteps := 4000000 }) (disch := first | (intros; contradiction) | omega) only [go_sem, cutR, cutK, cutN, cutE, noPan, cutRun, hg, hm]
  rw [cutC_go rfl]
  simp (config := { maxSteps := 4000000 }) (disch := first | (intros; contradiction) | omega) only [go_sem, List.length_cons, List.length_nil]
  rw [loopA_eq]
  simp (config := { maxSteps := 4000000 }) (disch := first | (intros; contradiction) | omega) only [go_sem, List.length_cons, List.length_nil, hfit, hr1, hc1, hc2, Nat.zero_add, List.nil_append]
  rw [loopA_eq]
  simp (config := { maxSteps := 4000000 }) (disch := first | (intros; contradiction) | omega) only [go_sem, List.length_cons, List.length_nil, hfit, hr1, hr2, hc1, hc2, Nat.zero_add, List.nil_append]
  rw [loopA_eq]
  simp (config := { maxSteps := 4000000 }) (disch := first | (intros; contradiction) | omega) only [go_sem, List.length_cons, List.length_nil, hfit, hr1, hr2, hc1, hc2, Nat.zero_add, List.nil_append, cutGo]
  rw [cutC_go rfl]
  simp (config := { maxSteps := 4000000 }) (disch := first | (intros; contradiction) | omega) only [go_sem, cutGo, List.map_append]
  rw [cutC_other (by intro a b h; cases h)]
  simp (config := { maxSteps := 4000000 }) (disch := first | (intros; contradiction) | omega) only [go_sem, cutFin, List.map_append]
  done
theorem rowsO_of (l : List (List Int)) : rowsO (l.map rowC) = true := by
  induction l with
  | nil => rfl
  | cons c l ih => simp only [List.map_cons, rowsO, ih]; rfl
noncomputable def extP : Sem' := fun f as0 H =>
  if f = 42 then cloneLX as0 H else if f = 69 then concF extC f as0 H else extC f as0 H
theorem extP_ok : Sound Try.prog extP := by
  intro f as0 H out H' h
  unfold extP at h
  split at h
  · subst f; exact cloneL_sound as0 H out H' h
  · split at h
    · exact cutEv_ok (G_ok extC_ok) grows_ok prog_ok hv hf f as0 H out H' h
    · exact extC_ok f as0 H out H' h
theorem extP_tx : TX extP := by
  have h := extC_tx
  have n : ∀ f xs H, f ≠ 42 → f ≠ 69 → extP f xs H = extC f xs H := fun f xs H h1 h2 => by unfold extP; rw [if_neg h1, if_neg h2]
  refine ⟨⟨fun f xs H hf => ?_⟩, ?_, fun l h1 h2 => ?_, ?_, fun l h1 h2 => ?_, fun l v h1 h2 => ?_⟩
  · rw [n f xs H (by rintro rfl; cases hf) (by rintro rfl; cases hf)]
    exact h.clear f xs H hf
  · rw [n _ _ _ (by decide) (by decide)]; exact h.clone0
  · rw [n _ _ _ (by decide) (by decide)]; exact h.clone1 l h1 h2
  · rw [n _ _ _ (by decide) (by decide)]; exact h.sort0
  · rw [n _ _ _ (by decide) (by decide)]; exact h.sort1 l h1 h2
  · rw [n _ _ _ (by decide) (by decide)]; exact h.without l v h1 h2
theorem extP_txp : TXP extP := by
  refine ⟨extP_tx, fun l h1 => ?_, fun a b h1 h2 => ?_⟩
  · unfold extP
    rw [if_pos rfl]
    simp only [cloneLX]
    rw [if_pos ⟨by rw [List.length_map]; exact h1, rowsO_of l⟩]
  · unfold extP; rw [if_neg (by decide), if_pos rfl]; exact conc2_e extC_tx a b h1 h2
end Go.Proofs.Ytchedkjlhjfadaa
