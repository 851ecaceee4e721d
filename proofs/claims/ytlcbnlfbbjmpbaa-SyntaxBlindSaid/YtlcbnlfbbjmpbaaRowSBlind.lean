/- SyntaxBlind answers true for all arguments, and leaves them as they read. Conditions: none. -/
import Derived.Test.YtlcbnlfbbjmpbaaRows
import Derived.Test.YtlcbnlfbbjmpbaaExtY
import Derived.Test.YtlcbnlfbbjmpbaaY18
import Derived.Test.YtlcbnlfbbjmpbaaAbX4
namespace Go.Proofs.Ytlcbnlfbbjmpbaa
open Go Go.Ab Go.ChangeShapes Go.WideShapes Go.ChangeAt Go.RowKit
theorem syntaxBlind_own : ownKnob Try.prog.godebug = none := by kernel_rfl
theorem syntaxBlind_laidOut : laidOutB Try.prog = true := by kernel_rfl
theorem syntaxBlind_reads {l : List AV} (h : Reads [.str] l) : G extY 4 l [] = some (.ret (.d (.bool true)), []) := by
  obtain ⟨xs, l1, h1, rfl, rfl⟩ := h
  simp only [WfD] at h1
  obtain ⟨s, rfl, hs⟩ := h1
  exact blind_e extY_t6 extY_txj s hs
set_option maxRecDepth 100000 in
theorem syntaxBlind_lifted (os : Os) (started : os.Started) (H : Type) (enc : TypeId × Value → H) :
    ReturnsInHanded {} Try.checked os 4 .any (Rows.syntaxBlindSpec.pre6 enc Try.prog Try.f4 Rows.syntaxBlindRow.domain false) (Rows.syntaxBlindSpec.post enc Try.prog Try.f4 false true false false) := by
  refine returnsInHanded_of_change (C := Try.checked) syntaxBlind_own started (by kernel_rfl) Try.func4
    (ChangeSpec.witness6 (enc := enc) (C := Try.checked) false ⟨#[], #[.string ⟨#[]⟩], []⟩ 8 (by kernel_rfl) (by kernel_rfl) (by kernel_rfl) (by kernel_rfl)) ?_
  intro W base args ds gs before hval hW _ _
  refine law_contract syntaxBlind_laidOut (G_ok extY_ok) (Ts := [.str]) (by rw [Try.params4]; kernel_rfl) rfl ?_ (by kernel_rfl) Try.underlying4 (by rw [Try.params4]; decide +kernel) (fun l hl => syntaxBlind_reads hl) W base args ds gs before hval hW
  intro ds hl
  match ds, hl with
  | [d0], _ => exact ⟨rfl, rfl, rfl⟩
theorem syntaxBlind_holds : Rows.SyntaxBlindSaid :=
  OpenClaim.holds_of_wide 4 Try.f4 rfl rfl rfl rfl rfl rfl rfl ⟨rfl, rfl, rfl, rfl, rfl⟩ rfl rfl rfl rfl rfl (by kernel_rfl) Try.func4 (by kernel_rfl)
    (of_decide_eq_true (by kernel_rfl)) (by unfold Func.isWrapper; first | (rw [if_pos (by decide +kernel)]; kernel_rfl) | (rw [if_neg (by decide +kernel)]; exact ⟨rfl, rfl⟩))
    (fun os started H enc _ => syntaxBlind_lifted os started H enc)
end Go.Proofs.Ytlcbnlfbbjmpbaa
