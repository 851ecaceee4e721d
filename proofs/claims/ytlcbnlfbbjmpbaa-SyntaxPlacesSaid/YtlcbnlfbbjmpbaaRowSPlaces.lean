/- SyntaxPlaces answers true for all arguments, and leaves them as they read. Conditions: none. -/
import Derived.Test.YtlcbnlfbbjmpbaaRows
import Derived.Test.YtlcbnlfbbjmpbaaExtY
import Derived.Test.YtlcbnlfbbjmpbaaY16
import Derived.Test.YtlcbnlfbbjmpbaaAbX4
namespace Go.Proofs.Ytlcbnlfbbjmpbaa
open Go Go.Ab Go.ChangeShapes Go.WideShapes Go.ChangeAt Go.RowKit
theorem syntaxPlaces_own : ownKnob Try.prog.godebug = none := by kernel_rfl
theorem syntaxPlaces_laidOut : laidOutB Try.prog = true := by kernel_rfl
theorem syntaxPlaces_reads {l : List AV} (h : Reads [.str] l) : G extY 3 l [] = some (.ret (.d (.bool true)), []) := by
  obtain ⟨xs, l1, h1, rfl, rfl⟩ := h
  simp only [WfD] at h1
  obtain ⟨s, rfl, hs⟩ := h1
  exact places_e extY_t6 s hs
set_option maxRecDepth 100000 in
theorem syntaxPlaces_lifted (os : Os) (started : os.Started) (H : Type) (enc : TypeId × Value → H) :
    ReturnsInHanded {} Try.checked os 3 .any (Rows.syntaxPlacesSpec.pre6 enc Try.prog Try.f3 Rows.syntaxPlacesRow.domain false) (Rows.syntaxPlacesSpec.post enc Try.prog Try.f3 false true false false) := by
  refine returnsInHanded_of_change (C := Try.checked) syntaxPlaces_own started (by kernel_rfl) Try.func3
    (ChangeSpec.witness6 (enc := enc) (C := Try.checked) false ⟨#[], #[.string ⟨#[]⟩], []⟩ 8 (by kernel_rfl) (by kernel_rfl) (by kernel_rfl) (by kernel_rfl)) ?_
  intro W base args ds gs before hval hW _ _
  refine law_contract syntaxPlaces_laidOut (G_ok extY_ok) (Ts := [.str]) (by rw [Try.params3]; kernel_rfl) rfl ?_ (by kernel_rfl) Try.underlying4 (by rw [Try.params3]; decide +kernel) (fun l hl => syntaxPlaces_reads hl) W base args ds gs before hval hW
  intro ds hl
  match ds, hl with
  | [d0], _ => exact ⟨rfl, rfl, rfl⟩
theorem syntaxPlaces_holds : Rows.SyntaxPlacesSaid :=
  OpenClaim.holds_of_wide 3 Try.f3 rfl rfl rfl rfl rfl rfl rfl ⟨rfl, rfl, rfl, rfl, rfl⟩ rfl rfl rfl rfl rfl (by kernel_rfl) Try.func3 (by kernel_rfl)
    (of_decide_eq_true (by kernel_rfl)) (by unfold Func.isWrapper; first | (rw [if_pos (by decide +kernel)]; kernel_rfl) | (rw [if_neg (by decide +kernel)]; exact ⟨rfl, rfl⟩))
    (fun os started H enc _ => syntaxPlaces_lifted os started H enc)
end Go.Proofs.Ytlcbnlfbbjmpbaa
