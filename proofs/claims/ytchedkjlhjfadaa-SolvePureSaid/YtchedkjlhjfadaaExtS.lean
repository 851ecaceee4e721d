/- What is known of the library, of find and of Concat: right. Conditions: none. -/
import Derived.Test.YtchedkjlhjfadaaExtC3
import Derived.Test.YtchedkjlhjfadaaS18
set_option linter.unusedSimpArgs false
set_option linter.unusedVariables false
namespace Go.Proofs.Ytchedkjlhjfadaa
open Go Go.Ab
noncomputable def extS : Sem' := fun f as0 H =>
  if f = 57 then findF extC f as0 H else if f = 58 then concF extC f as0 H else extC f as0 H
theorem extS_ok : Sound Try.prog extS := by
  intro f as0 H out H' h
  unfold extS at h
  split at h
  · exact defEv_ok (G_ok extC_ok) prog_ok hv hf f as0 H out H' h
  · split at h
    · exact cutEv_ok (G_ok extC_ok) grows_ok prog_ok hv hf f as0 H out H' h
    · exact extC_ok f as0 H out H' h
theorem extS_tx : TX extS := by
  have h := extC_tx
  have n : ∀ f xs H, f ≠ 57 → f ≠ 58 → extS f xs H = extC f xs H := fun f xs H h1 h2 => by unfold extS; rw [if_neg h1, if_neg h2]
  refine ⟨⟨fun f xs H hf => ?_⟩, ?_, fun l h1 h2 => ?_, ?_, fun l h1 h2 => ?_, fun l v h1 h2 => ?_⟩
  · rw [n f xs H (by rintro rfl; cases hf) (by rintro rfl; cases hf)]
    exact h.clear f xs H hf
  · rw [n _ _ _ (by decide) (by decide)]; exact h.clone0
  · rw [n _ _ _ (by decide) (by decide)]; exact h.clone1 l h1 h2
  · rw [n _ _ _ (by decide) (by decide)]; exact h.sort0
  · rw [n _ _ _ (by decide) (by decide)]; exact h.sort1 l h1 h2
  · rw [n _ _ _ (by decide) (by decide)]; exact h.without l v h1 h2
theorem extS_txs : TXS extS := by
  refine ⟨extS_tx, fun f held s lits => ?_, fun n fl held s lits h1 h2 h3 h4 h5 => ?_, fun a b h1 h2 => ?_⟩
  · unfold extS; rw [if_pos rfl]; exact find_no extC_tx f held s lits
  · unfold extS; simp only [if_true]; exact find_yes extC_tx n h1 fl h2 h3 held s h4 lits h5
  · unfold extS; rw [if_neg (by decide), if_pos rfl]; exact conc_e extC_tx a b h1 h2
end Go.Proofs.Ytchedkjlhjfadaa
