/- What is known of the parser's recovering, and of the library: right. Conditions: none. -/
import Derived.Test.YtlcbnlfbbjmpbaaY14
import Derived.Test.YtlcbnlfbbjmpbaaTExt2
set_option linter.unusedSimpArgs false
set_option linter.unusedVariables false
namespace Go.Proofs.Ytlcbnlfbbjmpbaa
open Go Go.Ab
noncomputable def extY : Sem' := fun f as0 H => if f = 29 then parF ext2 f as0 H else ext2 f as0 H
theorem extY_ok : Sound Try.prog extY := by
  intro f as0 H out H' h
  unfold extY at h
  split at h
  · exact recEv_ok (G_ok ext2_ok) prog_ok hv hf f as0 H out H' h
  · exact ext2_ok f as0 H out H' h
theorem extY_tx : TX extY := by
  refine ⟨fun f xs H h => ?_, fun s c hs => ?_⟩
  · unfold extY
    rw [if_neg]
    · exact ext2_tx.clear f xs H h
    · rintro rfl
      cases h
  · unfold extY
    rw [if_neg (by decide)]
    exact ext2_tx.index s c hs
theorem extY_t6 : T6 extY := by
  have hif : ∀ as0 H, extY 29 as0 H = parF ext2 29 as0 H := fun as0 H => by unfold extY; rw [if_pos rfl]
  refine ⟨⟨⟨extY_tx⟩, fun l hl => ?_⟩, ?_⟩
  · simp only [hif]
    have hp := parse_e (ext := ext2) ⟨ext2_tx⟩ hl
    cases h : partsL l.length ⟨[], []⟩ l with
    | ok r =>
      rw [h] at hp
      exact hp
    | error d =>
      rw [h] at hp
      exact hp
  · rw [hif]
    exact parseX_e ⟨ext2_tx⟩ okX exX_e rfl
theorem extY_txj : TXJ extY := by
  refine ⟨extY_tx, fun xs sep H h1 h2 => ?_⟩
  unfold extY
  rw [if_neg (by decide)]
  exact ext2_txj.join xs sep H h1 h2
end Go.Proofs.Ytlcbnlfbbjmpbaa
