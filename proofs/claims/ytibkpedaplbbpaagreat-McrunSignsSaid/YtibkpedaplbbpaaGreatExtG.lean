/- ir.Word and bytes.Clone are right. Conditions: none. -/
import Derived.Test.YtibkpedaplbbpaaGreatSgA
namespace Go.Proofs.YtibkpedaplbbpaaGreat
open Go Go.Ab Go.RowKit
noncomputable def extG : Sem' := fun f as0 H => if f = 97 then wordX as0 H else if f = 25 then bcloneX as0 H else none
theorem extG_ok : Sound Tryz.prog extG := by
  intro f as0 H out H' h
  unfold extG at h
  split at h
  · subst f
    exact word_sound as0 H out H' h
  · split at h
    · subst f
      exact bclone_sound as0 H out H' h
    · cases h
theorem extG_tg : TG extG := by
  refine ⟨fun f xs H h => ?_, fun op H => ?_, fun l hl => ?_, ?_⟩
  · unfold extG
    rw [if_neg, if_neg]
    · rintro rfl
      cases h
    · rintro rfl
      cases h
  · unfold extG wordX
    rfl
  · unfold extG
    rw [if_neg (by decide), if_pos rfl]
    exact bcloneX_d l hl
  · unfold extG
    rw [if_neg (by decide), if_pos rfl]
    rfl
theorem int_arg {xs : List Dt} (h : WfD (.int .i64) xs) : ∃ n, argOf (.int .i64) xs = .d (.int .i64 n) := by
  simp only [WfD] at h
  obtain ⟨n, rfl, _⟩ := h
  exact ⟨n, rfl⟩
theorem str_arg {xs : List Dt} (h : WfD .str xs) : ∃ s, argOf .str xs = .d (.str s) := by
  simp only [WfD] at h
  obtain ⟨s, rfl, _⟩ := h
  exact ⟨s, rfl⟩
end Go.Proofs.YtibkpedaplbbpaaGreat
